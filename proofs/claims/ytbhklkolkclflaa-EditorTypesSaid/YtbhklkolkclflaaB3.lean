/- slices.Grow and slices.Concat at runes. -/
import Derived.Test.YtbhklkolkclflaaB2
namespace Go.Proofs.Ytbhklkolkclflaa
open Go.RowKit

theorem Rd.old {w w' : World} {M : Nat → Prop} {a : Option Addr} {cs : List Value} (h : Rd w a cs) (hf : Fr M w w') (hm : ∀ ad, a = some ad → ¬ M ad.block) : Rd w' a cs := by
  rcases h with h | ⟨g, off, e, h⟩
  · exact .inl h
  · refine .inr ⟨g, off, e, fun j u hu => ?_⟩
    have hl := World.block_lt_of_cell? w _ (h j u hu)
    rw [World.cell?_of_block (w := w) (a := ⟨g, off + j, none⟩) (hf.blk g hl (hm ⟨g, off, none⟩ e))]
    exact h j u hu
theorem Sl.old {w w' : World} {M : Nat → Prop} {size n c : Nat} {a : Option Addr} {cs : List Value} (h : Sl w size a n c cs) (hf : Fr M w w') (hm : ∀ ad, a = some ad → ¬ M ad.block) : Sl w' size a n c cs :=
  ⟨h.len, h.le, h.rd.old hf hm, h.one⟩
theorem Sl.oldN {w w' : World} {size n c : Nat} {a : Option Addr} {cs : List Value} (h : Sl w size a n c cs) (hf : Fr nob w w') : Sl w' size a n c cs := h.old hf (fun _ _ hx => hx.elim)

theorem own_new (w : World) (T : TypeId) (cur : Array Value) (cap : Nat) (hc : cur.size = cap) (hm : cap ≤ maxLen) :
    Own (w.alloc (.cells cur T)).drew T 1 (.slice (some ⟨w.heap.size, 0, none⟩) 0 cap) 0 [] :=
  ⟨by simp, by simp, .inr ⟨w.heap.size, cap, cur, rfl, heap_alloc_new w _, Nat.zero_le _, hm, by omega, by simp⟩⟩

/-- A slice among the arguments of Concat. -/
structure Piece where
  a : Option Addr
  c : Nat
  l : List Int

def Piece.val (p : Piece) : Value := .slice p.a p.l.length p.c
def Piece.all (ps : List Piece) : List Int := ps.flatMap Piece.l
theorem Piece.all_take {ps : List Piece} {j : Nat} (h : j < ps.length) : Piece.all (ps.take (j + 1)) = Piece.all (ps.take j) ++ ps[j].l := by
  unfold Piece.all
  rw [List.take_succ_eq_append_getElem h, List.flatMap_append]
  simp
theorem Piece.all_take_le {ps : List Piece} (j : Nat) : (Piece.all (ps.take j)).length ≤ (Piece.all ps).length := by
  have : Piece.all ps = Piece.all (ps.take j) ++ Piece.all (ps.drop j) := by
    unfold Piece.all
    rw [← List.flatMap_append, List.take_append_drop]
  rw [this, List.length_append]
  omega

set_option maxRecDepth 10000 in
theorem grow_runes (w : World) (n : Nat) (hb : n * 4 ≤ 140737488355328) :
    Calls Try.prog 88 #[.slice none 0 0, .int .i64 n] w (MadeS w 21 1 0 []) := by
  by_cases h0 : n = 0
  · subst h0
    go_enter Try.func88, Try.ntmps88
    go_wp2
    go_ret
    exact ⟨none, 0, rfl, Own.nil _ _ _, Fr.refl _ _, fun b ⟨_, _, _, e, _⟩ => by cases e⟩
  · have hpos : 0 < n := by omega
    have hA : ¬ (281474976710656 < (n : Int) * ↑Try.t21.bytes) := by show ¬ (281474976710656 < (n : Int) * ((4 : Nat) : Int)); omega
    have hB : ¬ (281474976710656 < Builtin.nextslicecap n 0 * Try.t21.bytes) := by show ¬ (281474976710656 < Builtin.nextslicecap n 0 * 4); rw [nextslicecap_zero hpos]; omega
    go_enter Try.func88, Try.ntmps88
    go_wp2
    go_ret
    have hge := grownCap_ge w n 0 21
    have hcm := grownCap_le_maxLen w n 0 21 (by unfold maxLen; omega)
    exact ⟨_, _, rfl, own_new _ _ _ _ (by simp only [Array.size_append, size_zeroCells]; unfold grownCap at hge; simp; omega) hcm, ((Fr.refl _ _).alloc _).drew, fun b ⟨ad, _, _, e1, _, e2⟩ => by injection e1 with e1; injection e1 with e1; subst e1; subst e2; exact Nat.le_refl _⟩

/-- What is read of a slice of slices. -/
theorem pieces_get {ps : List Piece} {j : Nat} (h : j < ps.length) : (ps.map Piece.val)[j]? = some (.slice ps[j].a ps[j].l.length ps[j].c) := by
  simp [h, Piece.val]

set_option maxRecDepth 10000 in
theorem concat_runes (w : World) (ao : Option Addr) (c : Nat) (ps : List Piece) (h : Sl w 1 ao ps.length c (ps.map Piece.val)) (hp : ∀ p ∈ ps, Sl w 1 p.a p.l.length p.c (runes p.l))
    (hb : (Piece.all ps).length * 4 ≤ 140737488355328) (hn : ps.length ≤ 1000) :
    Calls Try.prog 81 #[.slice ao ps.length c] w (MadeS w 21 1 (Piece.all ps).length (runes (Piece.all ps))) := by
  have H := Lib.hid h
  have HP := Lib.hid hp
  obtain ⟨n, hlen⟩ : ∃ n, n = ps.length := ⟨_, rfl⟩
  obtain ⟨t, htot⟩ : ∃ t, t = (Piece.all ps).length := ⟨_, rfl⟩
  have HL := Lib.hid hlen
  have HT := Lib.hid htot
  rw [← htot] at hb
  rw [← hlen] at hn
  have hpost : ∀ e w', MadeS w 21 1 t (runes (Piece.all ps)) e w' → MadeS w 21 1 (Piece.all ps).length (runes (Piece.all ps)) e w' := by rw [htot]; exact fun _ _ h => h
  rw [← hlen]
  have HPost := Lib.hid hpost
  clear h hp hlen htot hpost
  refine Calls.mono (R := MadeS w 21 1 t (runes (Piece.all ps))) ?_ HPost.out
  go_enter Try.func81, Try.ntmps81
  go_wp2
  go_loop [3, 5, 11] (fun s _ i => ∃ j sz : Nat, j ≤ n ∧ i = .int .i64 j ∧ s = .int .i64 sz ∧ sz ≤ t ∧ sz = (Piece.all (ps.take j)).length) (fun _ _ i => n - (intOf i).toNat)
  case atStart => exact ⟨0, 0, Nat.zero_le _, rfl, rfl, Nat.zero_le _, rfl⟩
  case round =>
    obtain ⟨j, sz, hj, rfl, rfl, hst, hsz⟩ := hrel
    have HS := Lib.hid hsz
    clear hsz
    by_cases hlt : j < n
    · have hj' : j < ps.length := by have := HL.out; omega
      obtain ⟨g, o, rfl, hc⟩ := H.out.at (by omega) (by decide)
      have c1 := hc j _ (pieces_get hj')
      clear hc
      have hle : sz + ps[j].l.length ≤ t := by
        have h1 := @Piece.all_take_le ps (j + 1)
        rw [Piece.all_take hj', List.length_append, ← HS.out, ← HT.out] at h1
        exact h1
      generalize hx : ps[j].a = x at c1
      generalize hy : ps[j].l.length = y at c1 hle
      generalize hz : ps[j].c = z at c1
      have HY := Lib.hid hy
      clear hx hy hz
      go_wp2
      go_round
      case rel => exact ⟨j + 1, sz + y, by omega, by go_num, by go_num, hle, by rw [Piece.all_take hj', List.length_append, ← HS.out, ← HY.out]⟩
      case measure => simp [intOf]; omega
    · have hsz : sz = t := by
        have h1 := HS.out
        rw [List.take_of_length_le (by have := HL.out; omega)] at h1
        exact h1.trans HT.out.symm
      subst hsz
      go_wp2_with (go_at_call 88; refine (grow_runes _ _ hb).mono ?_; rintro e w1 ⟨a1, c1, rfl, hown, hfr, hfresh⟩)
      have HOwn := Lib.hid hown
      clear hown
      go_loopw [6, 8, 27] (fun v _ i wr => ∃ (k q : Nat) (a : Option Addr) (cc : Nat), k ≤ n ∧ i = .int .i64 k ∧ v = .slice a q cc ∧ q ≤ sz ∧ Hid (q = (Piece.all (ps.take k)).length) ∧ Own wr 21 1 (.slice a q cc) q (runes (Piece.all (ps.take k))) ∧ Fr nob w wr ∧ ∀ b, rowOf (.slice a q cc) b → w.heap.size ≤ b) (fun _ _ i _ => n - (intOf i).toNat)
      case atStart => exact ⟨0, 0, a1, c1, Nat.zero_le _, rfl, rfl, Nat.zero_le _, rfl, HOwn.out, hfr, hfresh⟩
      case round =>
        obtain ⟨k, q, a, cc, hk, rfl, rfl, hqs, HQ, hown, hfr, hfresh⟩ := hrel
        by_cases hkt : k < n
        · have hk' : k < ps.length := by have := HL.out; omega
          obtain ⟨g, o, rfl, hc⟩ := (H.out.oldN hfr).at (by omega) (by decide)
          have c1 := hc k _ (pieces_get hk')
          clear hc
          have hle : q + ps[k].l.length ≤ sz := by
            have h1 := @Piece.all_take_le ps (k + 1)
            rw [Piece.all_take hk', List.length_append, ← HQ.out, ← HT.out] at h1
            exact h1
          have hp := (HP.out _ (List.getElem_mem hk')).oldN hfr
          have hall := Piece.all_take hk'
          generalize hx : ps[k].a = x at c1 hp
          generalize hl : ps[k].l = l at c1 hle hp hall
          generalize hz : ps[k].c = z at c1 hp
          generalize hy : l.length = y at c1 hle hp
          have HY := Lib.hid hy
          have HA := Lib.hid hall
          obtain ⟨i0, hi, hz0, hz1, hz2⟩ := info_parts Try.info_runes
          have hsrc := hp.src (P := Try.prog) (tx := 22) (by decide) Try.underlying22
          have HSrc := Lib.hid hsrc
          have HOwn := Lib.hid hown
          clear hx hy hz hl hall hp hsrc hown
          go_wp2_with (at_builtin; refine wpList_app _ rfl (.tmp 31) (.tmp 32) 22 22 rfl 21 i0 (.int .i32 0) 1 4 Try.underlying22 hi hz0 hz1 hz2 rfl (by decide) _ q _ rfl HOwn.out _ y _ rfl HSrc.out (by unfold maxLen; omega) (by omega) ?_; intro av c' w' hown' hfr' hrow'; have HO := Lib.hid hown'; clear hown')
          go_roundw
          case rel =>
            refine ⟨k + 1, q + y, av, c', by omega, by go_num, rfl, hle, ?_, ?_, ?_, ?_⟩
            · show _ = _
              rw [HA.out, List.length_append, ← HQ.out, HY.out]
            · rw [HA.out, runes_append]
              exact HO.out
            · exact hfr.trans hfr' (fun b hb hx => absurd (hfresh b hx) (by omega))
            · exact fresh_of (w2 := w) hfr.size hrow' hfresh
          case measure => simp [intOf]; omega
        · have hq : q = sz := by
            have h1 := HQ.out
            rw [List.take_of_length_le (by have := HL.out; omega)] at h1
            exact h1.trans HT.out.symm
          subst hq
          have hown2 : Own wr 21 1 (.slice a q cc) q (runes (Piece.all ps)) := by
            have h1 := hown
            rw [List.take_of_length_le (by have := HL.out; omega)] at h1
            exact h1
          have HO := Lib.hid hown2
          clear hown hown2
          go_wp2
          go_ret
          exact ⟨a, cc, rfl, HO.out, hfr, hfresh⟩

theorem Sl.n1 {w : World} {a : Option Addr} {n c : Nat} {l : List Int} (h : Sl w 1 a n c (runes l)) : n = l.length := by
  have := h.len
  simp at this
  exact this.symm

/-- Two slices, one behind the other. -/
theorem concat2 (w : World) (g : Nat) (a1 a2 : Option Addr) (n1 c1 n2 c2 : Nat) (l1 l2 : List Int) (hg : w.heap[g]? = some (.cells #[.slice a1 n1 c1, .slice a2 n2 c2] 22 (0, 0)))
    (h1 : Sl w 1 a1 n1 c1 (runes l1)) (h2 : Sl w 1 a2 n2 c2 (runes l2)) (hb : (n1 + n2) * 4 ≤ 140737488355328) :
    Calls Try.prog 81 #[.slice (some ⟨g, 0, none⟩) 2 2] w (MadeS w 21 1 (n1 + n2) (runes (l1 ++ l2))) := by
  obtain rfl := h1.n1
  obtain rfl := h2.n1
  have hall : Piece.all [⟨a1, c1, l1⟩, ⟨a2, c2, l2⟩] = l1 ++ l2 := by simp [Piece.all]
  have hsl : Sl w 1 (some ⟨g, 0, none⟩) 2 2 ([⟨a1, c1, l1⟩, ⟨a2, c2, l2⟩].map Piece.val) :=
    ⟨rfl, Nat.le_refl _, .inr ⟨g, 0, rfl, fun j u hu => by rw [Nat.zero_add, blk_cells hg, ← hu]; simp [Piece.val]⟩, fun u hu => by
      simp [Piece.val] at hu
      rcases hu with rfl | rfl <;> rfl⟩
  have := concat_runes w (some ⟨g, 0, none⟩) 2 [⟨a1, c1, l1⟩, ⟨a2, c2, l2⟩] hsl (fun p hp => by
    simp at hp
    rcases hp with rfl | rfl
    · exact h1
    · exact h2) (by rw [hall, List.length_append]; exact hb) (by simp)
  rw [hall, List.length_append] at this
  exact this

/-- 'x[:k]' -/
theorem Sl.pre {w : World} {size n c : Nat} {a : Option Addr} {cs : List Value} (h : Sl w size a n c cs) (k : Nat) (hk : k ≤ n) : Sl w size a k c (cs.take (k * size)) := by
  refine ⟨?_, Nat.le_trans hk h.le, ?_, fun u hu => h.one u (List.mem_of_mem_take hu)⟩
  · rw [List.length_take, h.len]
    exact Nat.min_eq_left (Nat.mul_le_mul_right _ hk)
  · rcases h.rd with h0 | ⟨g, off, e, h0⟩
    · exact .inl (by rw [h0]; simp)
    · exact .inr ⟨g, off, e, fun j u hu => h0 j u (by
        rw [List.getElem?_take] at hu
        split at hu
        · exact hu
        · cases hu)⟩

/-- 'x[k:]' -/
theorem Sl.suf {w : World} {size n c : Nat} {a : Option Addr} {cs : List Value} (h : Sl w size a n c cs) (k : Nat) (hk : k ≤ n) : Sl w size (a.map (fun x => x.add (k * size))) (n - k) (c - k) (cs.drop (k * size)) := by
  refine ⟨?_, by have := h.le; omega, ?_, fun u hu => h.one u (List.mem_of_mem_drop hu)⟩
  · rw [List.length_drop, h.len, ← Nat.sub_mul]
  · rcases h.rd with h0 | ⟨g, off, e, h0⟩
    · exact .inl (by rw [h0]; simp)
    · refine .inr ⟨g, off + k * size, by rw [e, Option.map_some, Addr.add_lit], fun j u hu => ?_⟩
      rw [List.getElem?_drop] at hu
      rw [Nat.add_assoc]
      exact h0 _ u hu
/-- 'x[k:]' at the array's end -/
theorem Sl.sufEnd {w : World} {size n c : Nat} {a : Option Addr} {cs : List Value} (h : Sl w size a n c cs) (k : Nat) (hk : k ≤ n) (hc : c = k) : Sl w size a (n - k) (c - k) (cs.drop (k * size)) := by
  have hn : n = k := by have := h.le; omega
  have h0 : cs.drop (k * size) = [] := by rw [List.drop_eq_nil_iff, h.len, hn]; exact Nat.le_refl _
  rw [h0]
  exact ⟨by simp [hn], by omega, .inl rfl, by simp⟩

theorem Sl.pre1 {w : World} {n c : Nat} {a : Option Addr} {cs : List Int} (h : Sl w 1 a n c (runes cs)) (k : Nat) (hk : k ≤ n) : Sl w 1 a k c (runes (cs.take k)) := by
  have := h.pre k hk
  rw [Nat.mul_one] at this
  rw [runes_take]
  exact this
theorem Sl.suf1 {w : World} {n c : Nat} {a : Option Addr} {cs : List Int} (h : Sl w 1 a n c (runes cs)) (k : Nat) (hk : k ≤ n) : Sl w 1 (a.map (fun x => x.add k)) (n - k) (c - k) (runes (cs.drop k)) := by
  have := h.suf k hk
  rw [Nat.mul_one] at this
  rw [runes_drop]
  exact this
theorem Sl.sufEnd1 {w : World} {n c : Nat} {a : Option Addr} {cs : List Int} (h : Sl w 1 a n c (runes cs)) (k : Nat) (hk : k ≤ n) (hc : c = k) : Sl w 1 a (n - k) 0 (runes (cs.drop k)) := by
  have := h.sufEnd k hk hc
  rw [Nat.mul_one, hc, Nat.sub_self] at this
  rw [runes_drop]
  exact this

/-- 'x[k:]', as the walk spells it -/
theorem Sl.cut1 {w : World} {n c : Nat} {a : Option Addr} {cs : List Int} (h : Sl w 1 a n c (runes cs)) (k : Nat) (hk : k ≤ n) : Sl w 1 (if c = k then a else a.map (fun x => x.add k)) (n - k) (c - k) (runes (cs.drop k)) := by
  split
  · have := h.sufEnd k hk (by assumption)
    rw [Nat.mul_one] at this
    rw [runes_drop]
    exact this
  · exact h.suf1 k hk

/-- 'x[k:j]' -/
theorem Sl.mid1 {w : World} {n c : Nat} {a : Option Addr} {cs : List Int} (h : Sl w 1 a n c (runes cs)) (k j : Nat) (hk : k ≤ j) (hj : j ≤ n) : Sl w 1 (a.map (fun x => x.add k)) (j - k) (c - k) (runes ((cs.drop k).take (j - k))) := by
  have h1 := (h.suf1 k (by omega)).pre1 (j - k) (by omega)
  exact h1
theorem Sl.midEnd1 {w : World} {n c : Nat} {a : Option Addr} {cs : List Int} (h : Sl w 1 a n c (runes cs)) (k j : Nat) (hk : k ≤ j) (hj : j ≤ n) (hc : c = k) : Sl w 1 a (j - k) 0 (runes ((cs.drop k).take (j - k))) := by
  have h1 := (h.sufEnd1 k (by omega) hc).pre1 (j - k) (by omega)
  exact h1

theorem sliced_mid {w : World} {n c : Nat} {a : Option Addr} {cs : List Int} (h : Sl w 1 a n c (runes cs)) (k j : Nat) (hk : k ≤ j) (hj : j ≤ n) :
    Sl w 1 (if c = k then a else a.map (fun x => x.add k)) (j - k) (c - k) (runes ((cs.drop k).take (j - k))) := (h.cut1 k (by omega)).pre1 (j - k) (by omega)

/-- 'x[k:j]' for the walk: hidden behind two names. -/
theorem slice_lh {w : World} {n c : Nat} {a : Option Addr} {cs : List Int} (h : Sl w 1 a n c (runes cs)) (k j : Nat) (X : Int) (hX : X = j) (hk : k ≤ j) (hj : j ≤ n) :
    ∃ a2 c2, (∀ W, (Instr.slice 22 (.slice a n c) (some (.int .i64 k)) (some (.int .i64 X)) none).run Try.prog W = .ok (.slice a2 (j - k) c2) W) ∧ Sl w 1 a2 (j - k) c2 (runes ((cs.drop k).take (j - k))) := by
  subst hX
  refine ⟨_, _, fun W => ?_, sliced_mid h k j hk hj⟩
  have hs : (sizeOf (Try.prog.elem 22)).run Try.prog W = .ok 1 W := by kernel_rfl
  have hle := h.le
  rw [run_slice_lh W 22 a n c (by kernel_rfl) .i64 .i64 k j (by omega) (by omega) (by omega), hs]
  simp [Result.andThen, sliced]
end Go.Proofs.Ytbhklkolkclflaa
