/- Package editor: Copy, Kill: whatever comes. -/
import Derived.Test.YtbhklkolkclflaaGreatDoorE29
namespace Go.Proofs.YtbhklkolkclflaaGreatDoor
open Go.RowKit

theorem ring_kill_long (w : World) (r : Nat) (x : List Int) (rest : List (List Int)) (p : Nat) (h : RingRep w r (x :: rest) p) (a : Option Addr) (n c : Nat) (way : Int) (hw : way = 1 ∨ way = 2) (hb : 1024 < n + x.length ∧ n ≤ 1024 ∧ x.length ≤ 1024) :
    Calls Tryz.prog 173 #[.pointer (some ⟨r, 0, none⟩), .int .i64 way, .slice a n c] w fun e w' => e = .returned (.int .i64 3) ∧ Fr nob w w' := by
  have hat : ∀ V, Fr nob w V → Calls Tryz.prog 192 #[.pointer (some ⟨r, 0, none⟩), .int .i64 0] V fun e w' => ∃ a c, e = .returned (.slice a x.length c) ∧ Own w' 21 1 (.slice a x.length c) x.length (runes x) ∧ Fr nob V w' := fun V hV => ring_at V r (x :: rest) p (h.stayN hV) 0 (by simp)
  obtain ⟨cells, h1, h2⟩ := h
  have HN := Lib.hid (ring_none w r cells h1 h2.made)
  have HAT := Lib.hid hat
  have c62 := (blk_cells h1 62).trans h2.many
  generalize hm : (x :: rest).length = m at c62
  have hm0 : 0 < m := by rw [← hm]; simp
  obtain ⟨hb1, hb2, hb3⟩ := hb
  have i1 : decide (1024 < (n : Int)) = false := decide_eq_false (by omega)
  have i3 : decide ((0 : Int) < (m : Int)) = true := decide_eq_true (by omega)
  generalize hxl : x.length = y at *
  have i2 : decide ((1024 : Int) - (y : Int) < (n : Int)) = true := decide_eq_true (by omega)
  clear hat h1 h2 hxl hm
  rcases hw with rfl | rfl
  all_goals go_enter Tryz.func173, Tryz.ntmps173
  all_goals go_wp2_with (first
      | (go_at_call 191; refine (HN.out).mono ?_; rintro e w' ⟨rfl, rfl⟩)
      | (go_at_call 192; refine (HAT.out _ (Fr.refl _ _)).mono ?_; rintro e w1 ⟨xa, xc, rfl, ho, hf1⟩; have HF1 := Lib.hid hf1; clear ho hf1))
  all_goals go_ret
  all_goals exact ⟨rfl, HF1.out⟩

set_option maxRecDepth 10000 in
set_option maxHeartbeats 4000000 in
theorem ed_copy_long (w : World) (κ : Col) (i e b r k tm um h bl : Nat) (was : Nat → Value) (putv : Value) (S : EdState) (x : EdAt w κ i e b r k tm um h bl was putv S) (hin : S.f.inn = true) (f t : Nat) (hft : f ≤ t) (ht : t ≤ S.core.text.length) (htl : S.core.text.length ≤ 1024) (back : Bool)
    (y : List Int) (rest : List (List Int)) (hE : S.core.ents = y :: rest) (hw0 : S.killWay back ≠ 0) (hj : 1024 < (t - f) + y.length) (hy : y.length ≤ 1024) :
    Calls Tryz.prog 85 #[.pointer (some ⟨e, 0, none⟩), .int .i64 f, .int .i64 t, .bool back] w (EdStep w κ i e b r k tm um h bl was S 3) := by
  have hpt := ed_part w e b r k um S.core h bl S.f was putv x.blk
  rw [if_pos hin] at hpt
  have HPT := Lib.hid hpt
  have hlen := fun V (hV : Fr nob w V) => buf_len V b _ _ _ (x.core.buf.stayN hV)
  have htx := fun V (hV : Fr nob w V) => buf_text V b _ _ _ (x.core.buf.stayN hV)
  have hrg := x.core.ring
  rw [hE] at hrg
  have hkl := fun V (hV : Fr nob w V) a n c way hway hn1 => ring_kill_long V r y rest S.core.rpl (hrg.stayN hV) a n c way hway hn1
  have HLN := Lib.hid hlen
  have HTX := Lib.hid htx
  have HKL := Lib.hid hkl
  have HRR := Lib.hid (fun V (hV : Fr nob w V) => x.core.ring.stayN hV)
  have hcell : ∀ V, Fr nob w V → V.cell? ⟨e, 0, none⟩ = some (.pointer (some ⟨b, 0, none⟩)) ∧ V.cell? ⟨e, 1, none⟩ = some (.pointer (some ⟨r, 0, none⟩)) ∧ V.cell? ⟨e, 6, none⟩ = some (.int .i64 S.core.last) ∧ V.cell? ⟨e, 29, none⟩ = some (.bool S.f.killed) := fun V hV => by
    have g := blk_cells (hV.keep x.blk (fun h => h))
    exact ⟨by rw [g]; rfl, by rw [g]; rfl, by rw [g]; rfl, by rw [g]; rfl⟩
  have hner : e ≠ r := fun h0 => by
    have h1 := x.ce
    have h2 := x.core.cr
    rw [← h0, h1] at h2
    injection h2 with h2 _
    have := x.ci
    omega
  have hcr : ∀ V, Fr (one r) w V → V.cell? ⟨e, 0, none⟩ = some (.pointer (some ⟨b, 0, none⟩)) ∧ V.cell? ⟨e, 1, none⟩ = some (.pointer (some ⟨r, 0, none⟩)) := fun V hV => by
    have g := blk_cells (hV.keep x.blk (fun h => hner h))
    exact ⟨by rw [g]; rfl, by rw [g]; rfl⟩
  have HCR := Lib.hid hcr
  have HCE := Lib.hid hcell
  obtain ⟨c0, c1, c6, c29⟩ := hcell w (Fr.refl _ _)
  have HX := Lib.hid x
  have HW0 := Lib.hid hw0
  generalize hn : S.core.text.length = n at *
  have HN := Lib.hid hn
  have i1 : decide ((f : Int) < 0) = false := decide_eq_false (by omega)
  have i2 : decide ((n : Int) < (f : Int)) = false := decide_eq_false (by omega)
  have i3 : decide ((t : Int) < (f : Int)) = false := decide_eq_false (by omega)
  have i4 : decide ((n : Int) < (t : Int)) = false := decide_eq_false (by omega)
  have j1 : (0 : Int) ≤ (f : Int) := by omega
  have j2 : (f : Int) ≤ (t : Int) := by omega
  have j3 : (t : Int) ≤ (n : Int) := by omega
  clear x hpt hlen htx hkl hcell hcr hn hin hrg hw0
  have hway : ∃ d1 d2 : Bool, (S.core.last == 1) = d1 ∧ S.f.killed = d2 ∧ S.killWay back = (if (d1 || d2) = true then (if back = true then 2 else 1) else 0) := by
    refine ⟨_, _, rfl, rfl, ?_⟩
    unfold EdState.killWay
    by_cases h1 : S.core.last = 1
    · simp [h1]
    · cases h2 : S.f.killed <;> simp [h1]
  obtain ⟨d1, d2, i5, hkd, hway⟩ := hway
  rw [hkd] at c29
  generalize S.core.last = last at i5 c6
  cases d1 <;> cases d2 <;> cases back
  all_goals first | have HW := Lib.hid (show S.killWay _ = 0 from hway) | have HW := Lib.hid (show S.killWay _ = 1 from hway) | have HW := Lib.hid (show S.killWay _ = 2 from hway)
  all_goals clear hway hkd
  all_goals try (exact absurd HW.out HW0.out)
  all_goals go_enter Tryz.func85, Tryz.ntmps85
  all_goals go_wp2_with (first
    | (go_at_call 88; refine (HPT.out).mono ?_; rintro y w' ⟨rfl, rfl⟩)
    | (go_at_call 108; refine (HLN.out _ (by first | exact Fr.refl _ _ | exact (Fr.refl _ _).drewN _)).mono ?_; rintro y w2 ⟨rfl, q, rfl⟩))
  all_goals clear c0 c1 c6 c29 i1 i2 i3 i4 i5
  all_goals (
    go_region_held3 (fun V => V.cell? ⟨e, 0, none⟩ = some (.pointer (some ⟨b, 0, none⟩)) ∧ V.cell? ⟨e, 1, none⟩ = some (.pointer (some ⟨r, 0, none⟩)))
      ((go_split_ands; first
        | exact HCR.out _ (nobOne ((Fr.refl nob _).drewN _).drew)
        | exact HCR.out _ (nobOne (((Fr.refl nob _).drewN _).drew.then hf2))
        | exact HCR.out _ (nobOne ((((Fr.refl nob _).drewN _).drew.then hf2).then hf3))))
      (first
        | (go_at_call 174; refine (HTX.out _ (((Fr.refl nob _).drewN _).drew)).mono ?_; rintro y w2 ⟨a2, c2, rfl, ho2, hf2, hr2⟩; have hc2 := ho2.sl.le; have hc2' : (t : Int) ≤ (c2 : Int) := by omega)
        | (go_at_call 173
           refine (HKL.out _ (((Fr.refl nob _).drewN _).drew.then hf2) _ _ _ _ (by first | exact .inl rfl | exact .inr rfl) (by omega)).mono ?_
           rintro y w3 ⟨rfl, hf3⟩))
    have HF3 := Lib.hid ((((Fr.refl nob _).drewN _).drew.then hf2).then hf3)
    go_wp2
    go_ret
    exact ⟨rfl, κ, putv, HX.out.stayN HF3.out (fun _ _ => rfl), fun _ _ => rfl, edM.nob HF3.out⟩)

set_option maxRecDepth 10000 in
theorem ed_copy_place (w : World) (κ : Col) (i e b r k tm um h bl : Nat) (was : Nat → Value) (putv : Value) (S : EdState) (x : EdAt w κ i e b r k tm um h bl was putv S) (hin : S.f.inn = true) (f t : Int) (back : Bool) (hbad : ¬ (0 ≤ f ∧ f ≤ S.core.text.length ∧ f ≤ t ∧ t ≤ S.core.text.length)) :
    Calls Tryz.prog 85 #[.pointer (some ⟨e, 0, none⟩), .int .i64 f, .int .i64 t, .bool back] w (EdStep w κ i e b r k tm um h bl was S 70) := by
  have hpt := ed_part w e b r k um S.core h bl S.f was putv x.blk
  rw [if_pos hin] at hpt
  have HPT := Lib.hid hpt
  have hlen := fun V (hV : Fr nob w V) => buf_len V b _ _ _ (x.core.buf.stayN hV)
  have HLN := Lib.hid hlen
  have HX := Lib.hid x
  have hcell : ∀ V, Fr nob w V → V.cell? ⟨e, 0, none⟩ = some (.pointer (some ⟨b, 0, none⟩)) := fun V hV => by
    rw [blk_cells (hV.keep x.blk (fun h => h))]; rfl
  have c0 := hcell w (Fr.refl _ _)
  generalize S.core.text.length = n at *
  have hcs : decide (f < 0) = true ∨ decide (f < 0) = false ∧ decide ((n : Int) < f) = true ∨ decide (f < 0) = false ∧ decide ((n : Int) < f) = false ∧ decide (t < f) = true ∨ decide (f < 0) = false ∧ decide ((n : Int) < f) = false ∧ decide (t < f) = false ∧ decide ((n : Int) < t) = true := by
    simp only [decide_eq_true_eq, decide_eq_false_iff_not]
    omega
  clear x hpt hlen hcell hbad
  rcases hcs with i1 | ⟨i1, i2⟩ | ⟨i1, i2, i3⟩ | ⟨i1, i2, i3, i4⟩
  all_goals go_enter Tryz.func85, Tryz.ntmps85
  all_goals go_wp2_with (first
    | (go_at_call 88; refine (HPT.out).mono ?_; rintro y w' ⟨rfl, rfl⟩)
    | (go_at_call 108; refine (HLN.out _ (by first | exact Fr.refl _ _ | exact (Fr.refl _ _).drewN _)).mono ?_; rintro y w2 ⟨rfl, q, rfl⟩))
  all_goals go_ret
  all_goals first
    | exact ⟨rfl, κ, putv, HX.out, fun _ _ => rfl, Fr.refl _ _⟩
    | exact ⟨rfl, κ, putv, HX.out.stayN ((Fr.refl _ _).drewN _) (fun _ _ => rfl), fun _ _ => rfl, (Fr.refl _ _).drewN _⟩
    | exact ⟨rfl, κ, putv, HX.out.stayN (((Fr.refl _ _).drewN _).drewN _) (fun _ _ => rfl), fun _ _ => rfl, ((Fr.refl _ _).drewN _).drewN _⟩

/-- Runes are put to the ring: the editor behind it, and the answer. -/
def EdState.copyR (S : EdState) (f t : Int) (back : Bool) : EdState × Int :=
  if 0 ≤ f ∧ f ≤ S.core.text.length ∧ f ≤ t ∧ t ≤ S.core.text.length then (if S.killWay back ≠ 0 ∧ 1024 < (t.toNat - f.toNat) + (S.core.ents.headD []).length then (S, 3) else (S.copied f.toNat t.toNat back, 0)) else (S, 70)
/-- Runes are killed. -/
def EdState.killR (S : EdState) (f t : Int) (back : Bool) : EdState × Int :=
  if (S.copyR f t back).2 = 0 then (S.copyR f t back).1.replR f t [] else S.copyR f t back

theorem ed_copyG (w : World) (κ : Col) (i e b r k tm um h bl : Nat) (was : Nat → Value) (putv : Value) (S : EdState) (x : EdAt w κ i e b r k tm um h bl was putv S) (hin : S.f.inn = true) (hsm : ∀ y ∈ S.core.ents, y.length ≤ 1024) (f t : Int) (back : Bool) :
    Calls Tryz.prog 85 #[.pointer (some ⟨e, 0, none⟩), .int .i64 f, .int .i64 t, .bool back] w (EdStep w κ i e b r k tm um h bl was (S.copyR f t back).1 (S.copyR f t back).2) := by
  have htl : S.core.text.length ≤ 1024 := by
    obtain ⟨_, _, _, _, _, _, _, _, _, _, _, _, h1, _⟩ := x.core.buf
    exact h1
  unfold EdState.copyR
  by_cases hp : 0 ≤ f ∧ f ≤ S.core.text.length ∧ f ≤ t ∧ t ≤ S.core.text.length
  · rw [if_pos hp]
    obtain ⟨h1, h2, h3, h4⟩ := hp
    obtain ⟨fn, rfl⟩ := Int.eq_ofNat_of_zero_le h1
    obtain ⟨tn, rfl⟩ := Int.eq_ofNat_of_zero_le (Int.le_trans h1 h3)
    simp only [Int.toNat_natCast]
    by_cases hb : S.killWay back ≠ 0 ∧ 1024 < (tn - fn) + (S.core.ents.headD []).length
    · rw [if_pos hb]
      cases hE : S.core.ents with
      | nil =>
        have := hb.2
        rw [hE] at this
        simp at this
        omega
      | cons y rest =>
        have h5 := hb.2
        rw [hE, List.headD_cons] at h5
        exact ed_copy_long w κ i e b r k tm um h bl was putv S x hin fn tn (by omega) (by omega) htl back y rest hE hb.1 h5 (hsm y (by rw [hE]; simp))
    · rw [if_neg hb]
      exact ed_copy w κ i e b r k tm um h bl was putv S x hin fn tn (by omega) (by omega) htl back (fun h0 => Nat.le_of_not_lt (fun h6 => hb ⟨h0, h6⟩))
  · rw [if_neg hp]
    exact ed_copy_place w κ i e b r k tm um h bl was putv S x hin f t back hp

theorem EdState.copyR_ok {S : EdState} (h : EdsOk S) (f t : Int) (back : Bool) : EdsOk (S.copyR f t back).1 := by
  unfold EdState.copyR
  split
  · split
    · exact h
    · exact EdState.copied_ok h _ _ _
  · exact h
theorem EdState.copyR_inn (S : EdState) (f t : Int) (back : Bool) : (S.copyR f t back).1.f.inn = S.f.inn := by
  unfold EdState.copyR
  split
  · split <;> rfl
  · rfl

set_option maxRecDepth 10000 in
theorem ed_killG (w : World) (κ : Col) (i e b r k tm um h bl : Nat) (was : Nat → Value) (putv : Value) (S : EdState) (x : EdAt w κ i e b r k tm um h bl was putv S) (hok : EdsOk S) (hin : S.f.inn = true) (hsm : ∀ y ∈ S.core.ents, y.length ≤ 1024) (f t : Int) (back : Bool) :
    Calls Tryz.prog 41 #[.pointer (some ⟨e, 0, none⟩), .int .i64 f, .int .i64 t, .bool back] w (EdStep w κ i e b r k tm um h bl was (S.killR f t back).1 (S.killR f t back).2) := by
  have hc := ed_copyG w κ i e b r k tm um h bl was putv S x hin hsm f t back
  have hko := EdState.copyR_ok hok f t back
  have hki := (EdState.copyR_inn S f t back).trans hin
  unfold EdState.killR
  generalize hR : S.copyR f t back = R at *
  obtain ⟨R, c⟩ := R
  simp only at hc hko hki ⊢
  have HC := Lib.hid hc
  have her := fun V κ1 putv1 (x1 : EdAt V κ1 i e b r k tm um h bl was putv1 R) => ed_erase V κ1 i e b r k tm um h bl was putv1 R x1 hko hki f t
  have HE := Lib.hid her
  clear x hok hin hsm hc hko hki her hR
  by_cases h0 : c = 0
  · subst h0
    rw [if_pos rfl]
    generalize R.replR f t [] = RR at *
    go_enter Tryz.func41, Tryz.ntmps41
    go_wp2_with (first
      | (go_at_call 85; refine (HC.out).mono ?_; rintro y w1 ⟨rfl, κ1, putv1, hx1, hk1, hf1⟩; have HX1 := Lib.hid hx1; have HK1 := Lib.hid hk1; have HF1 := Lib.hid hf1; clear hx1 hk1 hf1)
      | (go_at_call 83; refine (HE.out _ _ _ HX1.out).mono ?_; rintro y w2 ⟨rfl, κ2, putv2, hx2, hk2, hf2⟩; have HX2 := Lib.hid hx2; have HK2 := Lib.hid hk2; have HF2 := Lib.hid hf2; clear hx2 hk2 hf2))
    go_ret
    exact ⟨rfl, κ2, putv2, HX2.out, fun y hy => (HK2.out y (Nat.lt_of_lt_of_le hy HF1.out.size)).trans (HK1.out y hy), edM.trans HF1.out HK1.out HF2.out⟩
  · rw [if_neg h0]
    have i1 : (c != 0) = true := by simp [h0]
    go_enter Tryz.func41, Tryz.ntmps41
    go_wp2_with (go_at_call 85; refine (HC.out).mono ?_; rintro y w1 ⟨rfl, κ1, putv1, hx1, hk1, hf1⟩; have HX1 := Lib.hid hx1; have HK1 := Lib.hid hk1; have HF1 := Lib.hid hf1; clear hx1 hk1 hf1)
    go_ret
    exact ⟨rfl, κ1, putv1, HX1.out, HK1.out, HF1.out⟩
end Go.Proofs.YtbhklkolkclflaaGreatDoor
