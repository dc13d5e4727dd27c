/- Package editor: Kills, whatever the ring holds. -/
import Derived.Test.YtbhklkolkclflaaGreatDoorG7
namespace Go.Proofs.YtbhklkolkclflaaGreatDoor
open Go.RowKit

theorem rotP_one {m p : Nat} (hp : p < m) : rotP m p 1 = (p + 1) % m := by
  have hm : 0 < m := by omega
  unfold rotP rotI
  by_cases h1 : m = 1
  · subst h1
    obtain rfl : p = 0 := by omega
    rfl
  · have e1 : Int.tmod 1 (m : Int) = 1 := by rw [Int.tmod_eq_emod_of_nonneg (by omega)]; exact Int.emod_eq_of_lt (by omega) (by omega)
    rw [e1]
    have e2 : Int.tmod ((p : Int) + 1) (m : Int) = (((p + 1) % m : Nat) : Int) := by
      rw [Int.tmod_eq_emod_of_nonneg (by omega)]
      rfl
    rw [e2]
    have hlt : (p + 1) % m < m := Nat.mod_lt _ hm
    generalize (p + 1) % m = z at *
    rw [Int.tmod_eq_emod_of_nonneg (by omega)]
    have : ((z : Int) + (m : Int)) % (m : Int) = (((z + m) % m : Nat) : Int) := rfl
    rw [this, Nat.add_mod_right, Nat.mod_eq_of_lt hlt]
    simp

/-- Rows of runes, owned. -/
def RowsR (W : World) (v : Value) (E : List (List Int)) : Prop :=
  ∃ a c vs, v = .slice a E.length c ∧ Own W 23 1 (.slice a E.length c) E.length vs ∧ ∀ i (h : i < E.length), ∃ ai ci, vs[i]? = some (.slice ai E[i].length ci) ∧ Own W 21 1 (.slice ai E[i].length ci) E[i].length (runes E[i])
theorem RowsR.empty (W : World) : RowsR W (.slice none 0 0) [] := ⟨none, 0, [], rfl, Own.nil _ _ _, fun i h => absurd h (by simp)⟩
theorem RowsR.stay {W W' : World} {M : Nat → Prop} {v : Value} {E : List (List Int)} (h : RowsR W v E) (hf : Fr M W W') (hr : NR W M) (hm : ∀ b c fr, W.heap[b]? = some (.cells c 23 fr) → ¬ M b) : RowsR W' v E := by
  obtain ⟨a, c, vs, h1, h2, h3⟩ := h
  refine ⟨a, c, vs, h1, h2.stay hf hm, fun i hi => ?_⟩
  obtain ⟨ai, ci, g1, g2⟩ := h3 i hi
  exact ⟨ai, ci, g1, g2.stay hf hr⟩
theorem RowsR.stayN {W W' : World} {v : Value} {E : List (List Int)} (h : RowsR W v E) (hf : Fr nob W W') : RowsR W' v E := h.stay hf (NR.nob _) (fun _ _ _ _ h => h)
theorem RowsR.push {W W' : World} {a a2 : Option Addr} {c n c2 : Nat} {E : List (List Int)} {vs : List Value} {x : List Int} {y : Option Addr} {yc m : Nat} (hm : x.length = m) (hn : E.length = n) (ho : Own W 23 1 (.slice a n c) n vs) (hr : ∀ i (h : i < E.length), ∃ ai ci, vs[i]? = some (.slice ai E[i].length ci) ∧ Own W 21 1 (.slice ai E[i].length ci) E[i].length (runes E[i]))
    (hx : Own W 21 1 (.slice y m yc) m (runes x)) (ho2 : Own W' 23 1 (.slice a2 (n + 1) c2) (n + 1) (vs ++ [.slice y m yc])) (hf : Fr (rowOf (.slice a n c)) W W') : RowsR W' (.slice a2 (n + 1) c2) (E ++ [x]) := by
  subst hm
  subst hn
  have hN : NR W (rowOf (.slice a E.length c)) := ho.nrRow (by decide)
  have hl : vs.length = E.length := by simpa using ho.1
  refine ⟨a2, c2, _, by rw [List.length_append]; rfl, by rw [List.length_append]; exact ho2, fun i hi => ?_⟩
  rcases Nat.lt_or_ge i E.length with h1 | h1
  · obtain ⟨ai, ci, g1, g2⟩ := hr i h1
    refine ⟨ai, ci, by rw [List.getElem?_append_left (by omega), List.getElem_append_left h1]; exact g1, ?_⟩
    rw [List.getElem_append_left h1]
    exact g2.stay hf hN
  · obtain rfl : i = E.length := by simp at hi; omega
    refine ⟨y, yc, ?_, ?_⟩
    · rw [List.getElem?_append_right (by omega), hl]
      simp
    · simp only [List.getElem_append_right (Nat.le_refl _), Nat.sub_self, List.getElem_cons_zero]
      exact hx.stay hf hN

theorem Tryz.info_row1 : (Tryz.prog.info? 23).map (fun i => (i.zero, i.size, i.bytes)) = some (some (.slice none 0 0), 1, 24) := by kernel_rfl
/-- The entries from a place on. -/
def killsOf (E : List (List Int)) (q : Nat) : List (List Int) := (List.range E.length).map fun i => E.getD ((q + i) % E.length) []
theorem killsOf_len (E : List (List Int)) (q : Nat) : (killsOf E q).length = E.length := by simp [killsOf]
theorem killsOf_take {E : List (List Int)} {q k : Nat} (hk : k < E.length) : (killsOf E q).take (k + 1) = (killsOf E q).take k ++ [E.getD ((q + k) % E.length) []] := by
  rw [List.take_succ_eq_append_getElem (by rw [killsOf_len]; exact hk)]
  simp [killsOf]

theorem ring_types {W : World} {z : Nat} {E : List (List Int)} {q : Nat} (hg : RingRep W z E q) : ∀ b c fr, W.heap[b]? = some (.cells c 23 fr) → ¬ one z b := fun b c fr hb hM => by
  obtain ⟨cells, hc, _⟩ := hg
  cases hM
  rw [hc] at hb
  injection hb with hb
  injection hb with _ hb _
  exact absurd hb (by decide)
/-- A round of Kills. -/
theorem kills_step {w wr w3 V5 : World} {z k c c2 m : Nat} {a av : Option Addr} {E D : List (List Int)} {vs : List Value} {q q2 : Nat} {x : List Int} {y : Option Addr} {yc : Nat} (hz : w.heap.size = z) (hD : D.length = k) (hm : x.length = m)
    (hr : ∀ i (h : i < D.length), ∃ ai ci, vs[i]? = some (.slice ai D[i].length ci) ∧ Own wr 21 1 (.slice ai D[i].length ci) D[i].length (runes D[i])) (ho : Own wr 23 1 (.slice a k c) k vs) (hfre : ∀ b, rowOf (.slice a k c) b → z ≤ b) (hg : RingRep wr z E q) (hf : Fr nob w wr)
    (hg3 : RingRep w3 z E q2) (hf3 : Fr (one z) wr w3) (hx : Own w3 21 1 (.slice y m yc) m (runes x)) (ho5 : Own V5 23 1 (.slice av (k + 1) c2) (k + 1) (vs ++ [.slice y m yc])) (hf5 : Fr (rowOf (.slice a k c)) (w3.alloc (.cells #[.slice y m yc] 23)) V5)
    (hr5 : rowOf (.slice a k c) = rowOf (.slice av (k + 1) c2) ∨ ∀ b, rowOf (.slice av (k + 1) c2) b → (w3.alloc (.cells #[.slice y m yc] 23)).heap.size ≤ b) :
    (∀ i (h : i < (D ++ [x]).length), ∃ ai ci, (vs ++ [.slice y m yc])[i]? = some (.slice ai (D ++ [x])[i].length ci) ∧ Own V5 21 1 (.slice ai (D ++ [x])[i].length ci) (D ++ [x])[i].length (runes (D ++ [x])[i])) ∧ RingRep V5 z E q2 ∧ (∀ b, rowOf (.slice av (k + 1) c2) b → z ≤ b) ∧ Fr nob w V5 := by
  have hnr := hg.nr
  obtain ⟨cells, hc, _⟩ := hg
  have hty : ∀ b c fr, wr.heap[b]? = some (.cells c 23 fr) → ¬ one z b := fun b c fr hb hM => by
    cases hM
    rw [hc] at hb
    injection hb with hb
    injection hb with _ hb _
    exact absurd hb (by decide)
  have hR : RowsR (w3.alloc (.cells #[.slice y m yc] 23)) (.slice a D.length c) D := by
    refine RowsR.stayN (RowsR.stay (W := wr) ⟨a, c, vs, rfl, by rw [hD]; exact ho, hr⟩ hf3 hnr hty) ((Fr.refl nob _).alloc _)
  have hoA : Own (w3.alloc (.cells #[.slice y m yc] 23)) 23 1 (.slice a k c) k vs := (ho.stay hf3 hty).stay ((Fr.refl nob _).alloc _) (fun _ _ _ _ h => h)
  obtain ⟨cells3, hc3, hcl3⟩ := hg3
  have hzr : ¬ rowOf (.slice a k c) z := fun h => hoA.rowNe h (((Fr.refl nob w3).alloc (.cells #[.slice y m yc] 23)).keep hc3 (fun h => h)) (by decide) rfl
  have hrA : ∀ i (h : i < D.length), ∃ ai ci, vs[i]? = some (.slice ai D[i].length ci) ∧ Own (w3.alloc (.cells #[.slice y m yc] 23)) 21 1 (.slice ai D[i].length ci) D[i].length (runes D[i]) := fun i h => by
    obtain ⟨ai, ci, g1, g2⟩ := hr i h
    exact ⟨ai, ci, g1, (g2.stay hf3 hnr).stay ((Fr.refl nob _).alloc _) (NR.nob _)⟩
  have hp := RowsR.push hm hD hoA hrA (hx.stay ((Fr.refl nob _).alloc _) (NR.nob _)) ho5 hf5
  have hs3 := hf3.size
  have hs := hf.size
  refine ⟨?_, ?_, fun b hb => ?_, ?_⟩
  · obtain ⟨a', c', vs', h1, h2, h3⟩ := hp
    have hv : vs' = vs ++ [.slice y m yc] := by
      have e := h2.2.2
      have e5 := ho5.2.2
      injection h1 with h1 h1' h1''
      subst h1 h1''
      rw [← h1'] at e
      rcases e with ⟨g, e1, e2, _⟩ | ⟨g, cap, cur, e1, e2, e3, e4, e5', e6⟩
      · omega
      · rcases e5 with ⟨g', f1, f2, _⟩ | ⟨g', cap', cur', f1, f2, f3, f4, f5, f6⟩
        · omega
        · rw [f1] at e1
          injection e1 with e1 _ e1'
          injection e1 with e1
          injection e1 with e1
          subst e1 e1'
          rw [f2] at e2
          injection e2 with e2
          injection e2 with e2
          subst e2
          rw [← e6, ← f6]
    rw [hv] at h3
    exact h3
  · exact RingRep.stay (w := w3.alloc (.cells #[.slice y m yc] 23)) ((show RingRep w3 z E q2 from ⟨cells3, hc3, hcl3⟩).stayN ((Fr.refl nob _).alloc _)) hf5 (hoA.nrRow (by decide)) hzr
  · rcases hr5 with h | h
    · rw [← h] at hb
      exact hfre b hb
    · have := h b hb
      rw [World.size_alloc] at this
      omega
  · exact ((hf.trans hf3 (fun b hb hM => by cases hM; omega)).alloc _).trans hf5 (fun b hb hM => by have := hfre b hM; omega)

set_option maxRecDepth 10000 in
set_option maxHeartbeats 2000000 in
theorem ed_kills (w : World) (κ : Col) (e : Nat) (S : EdState) (x : EdRep w κ e S) (hsm : ∀ y ∈ S.core.ents, y.length ≤ 1024) :
    Calls Tryz.prog 51 #[.pointer (some ⟨e, 0, none⟩)] w fun y w' => ∃ v, y = .returned v ∧ RowsR w' v (killsOf S.core.ents S.core.rpl) ∧ Fr nob w w' := by
  obtain ⟨i, b, r, k, tm, um, hh, bl, was, putv, x⟩ := x
  have HN := Lib.hid (ed_none w e b r k um S.core hh bl S.f was putv x.blk)
  have hc1 : w.cell? ⟨e, 1, none⟩ = some (.pointer (some ⟨r, 0, none⟩)) := by rw [blk_cells x.blk]; rfl
  have HRC := Lib.hid (ring_clone w r _ _ x.core.ring)
  have hpl : S.core.rpl < S.core.ents.length ∨ S.core.rpl = 0 := by
    obtain ⟨cells, _, hc⟩ := x.core.ring
    exact hc.pl
  have hle : S.core.ents.length ≤ 60 := by
    obtain ⟨cells, _, hc⟩ := x.core.ring
    exact hc.le
  generalize S.core.ents = E at *
  generalize S.core.rpl = p at *
  generalize hz : w.heap.size = z at *
  have HZ := Lib.hid hz
  generalize hn : E.length = n at *
  have HNN := Lib.hid hn
  clear x hz hn
  go_enter Tryz.func51, Tryz.ntmps51
  go_wp2_with (first
    | (go_at_call 81; refine (HN.out).mono ?_; rintro y w' ⟨rfl, rfl⟩)
    | (go_at_call 111; refine (HRC.out).mono ?_; rintro y w1 ⟨rfl, hr1, hf1⟩; have HR1 := Lib.hid hr1; have HF1 := Lib.hid hf1; clear hr1 hf1)
    | (go_at_call 118; refine (ring_len _ _ _ _ HR1.out).mono ?_; rintro y w2 ⟨rfl, rfl⟩; rw [HNN.out]))
  obtain ⟨i0, hi0, hz0, hz1', hz2'⟩ := info_parts Tryz.info_row1
  clear HN HRC hc1
  have hkn : (killsOf E p).length = n := by rw [killsOf_len, HNN.out]
  have HKN := Lib.hid hkn
  clear hkn
  go_loopw [3, 5, 6, 7, 18] (fun li _ _ _ ki V => ∃ k : Nat, ∃ a c vs q, k ≤ n ∧ ki = .int .i64 k ∧ li = .slice a k c ∧ Hid (Own V 23 1 (.slice a k c) k vs) ∧ Hid (∀ i (h : i < ((killsOf E p).take k).length), ∃ ai ci, vs[i]? = some (.slice ai ((killsOf E p).take k)[i].length ci) ∧ Own V 21 1 (.slice ai ((killsOf E p).take k)[i].length ci) ((killsOf E p).take k)[i].length (runes ((killsOf E p).take k)[i])) ∧ Hid (RingRep V z E q) ∧ Hid (k = 0 ∧ q = p ∨ 0 < k ∧ q = (p + (k - 1)) % n) ∧ Hid (∀ b, rowOf (.slice a k c) b → z ≤ b) ∧ Hid (Fr nob w' V)) (fun _ _ _ _ ki _ => n - (intOf ki).toNat)
  case atStart => exact ⟨0, none, 0, [], p, Nat.zero_le _, rfl, rfl, Own.nil _ _ _, (fun i h => absurd h (by simp)), HR1.out, .inl ⟨rfl, rfl⟩, (fun b ⟨_, _, _, h, _⟩ => by cases h), HF1.out⟩
  case round =>
    clear HR1 HF1
    obtain ⟨k, a, c, vs, q, hk, rfl, rfl, HOV, HRV, HRG, HQ, HFRE, HFV⟩ := hrel
    by_cases hkt : k < n
    · have hk60 : (k : Int) < 60 := by omega
      have hp' : p < n := by rcases hpl with h | h <;> omega
      have hq' : (p + k) % n < E.length := by rw [HNN.out]; exact Nat.mod_lt _ (by omega)
      have hrot : rotP E.length q (if k = 0 then 0 else 1) = (p + k) % n := by
        rw [HNN.out]
        rcases HQ.out with ⟨rfl, rfl⟩ | ⟨h0, rfl⟩
        · rw [if_pos rfl, rotP_zero hp', Nat.add_zero, Nat.mod_eq_of_lt hp']
        · rw [if_neg (by omega), rotP_one (Nat.mod_lt _ (by omega)), Nat.mod_add_mod]
          congr 1
          omega
      have hro := fun (V : World) (h : RingRep V z E q) (xi : Int) (hxi : xi = if k = 0 then 0 else 1) => ring_rotate V z E q h xi (by omega) hsm _ hq' (by rw [hxi]; exact hrot)
      have hdk : ((killsOf E p).take k).length = k := by rw [List.length_take, HKN.out]; omega
      have HDK := Lib.hid hdk
      have hgd : E.getD ((p + k) % n) [] = E[(p + k) % n] := by simp [List.getD, List.getElem?_eq_getElem hq']
      have hnx : (killsOf E p).take (k + 1) = (killsOf E p).take k ++ [E[(p + k) % n]] := by
        have := killsOf_take (E := E) (q := p) (k := k) (by rw [HNN.out]; exact hkt)
        rw [HNN.out, hgd] at this
        exact this
      have hxl : (E[(p + k) % n]).length ≤ 1024 := hsm _ (List.getElem_mem hq')
      generalize hx : E[(p + k) % n] = xx at *
      generalize hxm : xx.length = mm at *
      have HXM := Lib.hid hxm
      have HNX := Lib.hid hnx
      have HRO := Lib.hid hro
      have hq2 : 0 < k + 1 ∧ (p + k) % n = (p + (k + 1 - 1)) % n := ⟨by omega, by congr 1⟩
      have HQ2 := Lib.hid hq2
      clear hrot hro hgd hnx hx hxm hq2 hdk
      go_wp2_with (first
          | (go_at_call 112; refine (HRO.out _ HRG.out _ (by split <;> omega)).mono ?_; rintro y w3 ⟨ya, yc, rfl, ho3, hr3, hf3⟩; have HO3 := Lib.hid ho3; have HR3 := Lib.hid hr3; have HF3 := Lib.hid hf3; clear ho3 hr3 hf3)
          | (at_builtin; refine wpList_app _ rfl (.tmp 28) (.tmp 30) 22 22 rfl 23 i0 (.slice none 0 0) 1 24 Tryz.underlying22 hi0 hz0 hz1' hz2' rfl (by decide) _ k vs rfl (by exact (HOV.out.stay HF3.out (ring_types HRG.out)).stay ((Fr.refl nob _).alloc _) (fun _ _ _ _ h => h)) _ 1 _ rfl (by exact (Sl.ofNew _ _ _ rfl).src (by decide) Tryz.underlying22) (by unfold maxLen; omega) (by omega) ?_; intro av c' V5 hown' hfr' hrow'; have HST := Lib.hid (kills_step HZ.out HDK.out HXM.out HRV.out HOV.out HFRE.out HRG.out HFV.out HR3.out HF3.out HO3.out hown' hfr' hrow'); have HO5 := Lib.hid hown'; clear hown' hfr' hrow'))
      all_goals go_roundw
      case rel => exact ⟨k + 1, av, c', _, (p + k) % n, by omega, by go_num, rfl, HO5.out, by rw [HNX.out]; exact HST.out.1, HST.out.2.1, .inr HQ2.out, HST.out.2.2.1, HST.out.2.2.2⟩
      case measure => simp [intOf]; omega
    · obtain rfl : k = n := by omega
      go_wp2
      go_ret
      have hr := HRV.out
      rw [List.take_of_length_le (by rw [HKN.out]; exact Nat.le_refl _)] at hr
      exact ⟨.slice a k c, rfl, ⟨a, c, vs, by rw [HKN.out], by rw [HKN.out]; exact HOV.out, hr⟩, HFV.out⟩
end Go.Proofs.YtbhklkolkclflaaGreatDoor
