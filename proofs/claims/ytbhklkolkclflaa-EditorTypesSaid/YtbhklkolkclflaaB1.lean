/- Contracts of package slices at runes. -/
import Derived.Test.YtbhklkolkclflaaB0
import Derived.WalkSpells
import Derived.Lib.SliceRun
namespace Go.Proofs.Ytbhklkolkclflaa
open Go.RowKit

theorem ret_bool {a b : Bool} (h : a = b) : Ending.returned (.bool a) = .returned (.bool b) := by rw [h]
theorem ret_int {k : IntKind} {a b : Int} (h : a = b) : Ending.returned (.int k a) = .returned (.int k b) := by rw [h]

theorem own_empty (w : World) (T size : Nat) : Own (w.alloc (.cells #[] T)) T size (.slice (some ⟨w.heap.size, 0, none⟩) 0 0) 0 [] :=
  ⟨by simp, by simp, .inl ⟨_, rfl, rfl, fun ad e => by injection e with e; subst e; exact .inr ⟨#[], (0, 0), heap_alloc_new w _⟩⟩⟩

theorem Rd.isNil {w : World} {cs : List Value} (h : Rd w none cs) : cs = [] := by
  rcases h with h | ⟨_, _, e, _⟩
  · exact h
  · cases e

/-- What a call leaves that makes a new slice. -/
def MadeS (w : World) (T size n : Nat) (xs : List Value) (e : Ending) (w' : World) : Prop :=
  ∃ a c, e = .returned (.slice a n c) ∧ Own w' T size (.slice a n c) n xs ∧ Fr nob w w' ∧ ∀ b, rowOf (.slice a n c) b → w.heap.size ≤ b

theorem fresh_of {w w1 w2 : World} {v v' : Value} (hs : w.heap.size ≤ w1.heap.size) (h : rowOf v = rowOf v' ∨ ∀ b, rowOf v' b → w1.heap.size ≤ b) (hv : ∀ b, rowOf v b → w.heap.size ≤ b) : ∀ b, rowOf v' b → w.heap.size ≤ b := by
  have := w2
  intro b hb
  rcases h with h | h
  · rw [← h] at hb; exact hv b hb
  · exact Nat.le_trans hs (h b hb)

theorem Rd.alloc {w : World} {a : Option Addr} {cs : List Value} (h : Rd w a cs) (o : Obj) : Rd (w.alloc o) a cs := by
  rcases h with h | ⟨g, off, e, h⟩
  · exact .inl h
  · refine .inr ⟨g, off, e, fun j u hu => ?_⟩
    rw [World.cell?_alloc_lt _ _ _ (World.block_lt_of_cell? w _ (h j u hu))]
    exact h j u hu
theorem Sl.alloc {w : World} {size n c : Nat} {a : Option Addr} {cs : List Value} (h : Sl w size a n c cs) (o : Obj) : Sl (w.alloc o) size a n c cs := ⟨h.len, h.le, h.rd.alloc o, h.one⟩

theorem Try.info_runes : (Try.prog.info? 21).map (fun i => (i.zero, i.size, i.bytes)) = some (some (.int .i32 0), 1, 4) := by kernel_rfl
set_option maxRecDepth 10000 in
theorem clone_runes (w : World) (a : Option Addr) (n c : Nat) (cs : List Value) (h : Sl w 1 a n c cs) (hb : n * 4 ≤ 140737488355328) :
    Calls Try.prog 12 #[.slice a n c] w (MadeS w 21 1 n cs) := by
  have hnil := fun (w : World) (a : Option Addr) (n c : Nat) => Lib.run_eql_slice_nil (P := Try.prog) w 22 21 a n c 0 0 Try.underlying22
  cases a with
  | none =>
    obtain rfl := h.rd.isNil
    obtain rfl : n = 0 := by have h0 := h.len; simp only [List.length_nil] at h0; omega
    go_enter Try.func12, Try.ntmps12
    go_wp2
    go_ret
    exact ⟨none, 0, rfl, Own.nil _ _ _, Fr.refl _ _, fun b ⟨_, _, _, e, _⟩ => by cases e⟩
  | some ad =>
    obtain ⟨i0, hi, hz0, hz1, hz2⟩ := info_parts Try.info_runes
    have hs : Sl (w.alloc (.cells #[] 21)) 1 (some ad) n c cs := h.alloc _
    go_enter Try.func12, Try.ntmps12
    go_wp2_with (at_builtin; refine wpList_app _ rfl (.tmp 5) (.tmp 6) 22 22 rfl 21 i0 (.int .i32 0) 1 4 Try.underlying22 hi hz0 hz1 hz2 rfl (by decide) _ 0 [] rfl (own_empty w 21 1) _ n cs rfl (hs.src (by decide) Try.underlying22) (by unfold maxLen; omega) (by omega) ?_; intro av c' w' hown hfr hrow)
    go_ret
    simp only [Nat.zero_add, List.nil_append] at hown hrow ⊢
    exact ⟨av, c', rfl, hown, ((Fr.refl nob w).alloc _).trans hfr (fun b hb hx => by obtain ⟨_, _, _, e, h0, _⟩ := hx; injection e with _ _ e3; omega), fresh_of (w2 := w') (by simp) hrow (fun b hx => by obtain ⟨_, _, _, e, h0, _⟩ := hx; injection e with _ _ e3; omega)⟩

theorem Try.info_lines : (Try.prog.info? 95).map (fun i => (i.zero, i.size, i.bytes)) = some (some (.agg #[.string ⟨#[]⟩, .int .i64 0]), 2, 24) := by kernel_rfl
set_option maxRecDepth 10000 in
theorem clone_lines (w : World) (a : Option Addr) (n c : Nat) (cs : List Value) (h : Sl w 2 a n c cs) (hb : n * 24 ≤ 140737488355328) :
    Calls Try.prog 46 #[.slice a n c] w (MadeS w 95 2 n cs) := by
  have hnil := fun (w : World) (a : Option Addr) (n c : Nat) => Lib.run_eql_slice_nil (P := Try.prog) w 49 95 a n c 0 0 Try.underlying49
  cases a with
  | none =>
    obtain rfl := h.rd.isNil
    obtain rfl : n = 0 := by have h0 := h.len; simp only [List.length_nil] at h0; omega
    go_enter Try.func46, Try.ntmps46
    go_wp2
    go_ret
    exact ⟨none, 0, rfl, Own.nil _ _ _, Fr.refl _ _, fun b ⟨_, _, _, e, _⟩ => by cases e⟩
  | some ad =>
    obtain ⟨i0, hi, hz0, hz1, hz2⟩ := info_parts Try.info_lines
    have hs : Sl (w.alloc (.cells #[] 95)) 2 (some ad) n c cs := h.alloc _
    go_enter Try.func46, Try.ntmps46
    go_wp2_with (at_builtin; refine wpList_app _ rfl (.tmp 5) (.tmp 6) 49 49 rfl 95 i0 (.agg #[.string ⟨#[]⟩, .int .i64 0]) 2 24 Try.underlying49 hi hz0 hz1 hz2 rfl (by decide) _ 0 [] rfl (own_empty w 95 2) _ n cs rfl (hs.src (by decide) Try.underlying49) (by unfold maxLen; omega) (by omega) ?_; intro av c' w' hown hfr hrow)
    go_ret
    simp only [Nat.zero_add, List.nil_append] at hown hrow ⊢
    exact ⟨av, c', rfl, hown, ((Fr.refl nob w).alloc _).trans hfr (fun b hb hx => by obtain ⟨_, _, _, e, h0, _⟩ := hx; injection e with _ _ e3; omega), fresh_of (w2 := w') (by simp) hrow (fun b hx => by obtain ⟨_, _, _, e, h0, _⟩ := hx; injection e with _ _ e3; omega)⟩

theorem Try.info_edits : (Try.prog.info? 82).map (fun i => (i.zero, i.size, i.bytes)) = some (some (.agg #[.int .i64 0, .slice none 0 0, .slice none 0 0]), 3, 56) := by kernel_rfl
set_option maxRecDepth 10000 in
theorem clone_edits (w : World) (a : Option Addr) (n c : Nat) (cs : List Value) (h : Sl w 3 a n c cs) (hb : n * 56 ≤ 140737488355328) :
    Calls Try.prog 54 #[.slice a n c] w (MadeS w 82 3 n cs) := by
  have hnil := fun (w : World) (a : Option Addr) (n c : Nat) => Lib.run_eql_slice_nil (P := Try.prog) w 67 82 a n c 0 0 Try.underlying67
  cases a with
  | none =>
    obtain rfl := h.rd.isNil
    obtain rfl : n = 0 := by have h0 := h.len; simp only [List.length_nil] at h0; omega
    go_enter Try.func54, Try.ntmps54
    go_wp2
    go_ret
    exact ⟨none, 0, rfl, Own.nil _ _ _, Fr.refl _ _, fun b ⟨_, _, _, e, _⟩ => by cases e⟩
  | some ad =>
    obtain ⟨i0, hi, hz0, hz1, hz2⟩ := info_parts Try.info_edits
    have hs : Sl (w.alloc (.cells #[] 82)) 3 (some ad) n c cs := h.alloc _
    go_enter Try.func54, Try.ntmps54
    go_wp2_with (at_builtin; refine wpList_app _ rfl (.tmp 5) (.tmp 6) 67 67 rfl 82 i0 (.agg #[.int .i64 0, .slice none 0 0, .slice none 0 0]) 3 56 Try.underlying67 hi hz0 hz1 hz2 rfl (by decide) _ 0 [] rfl (own_empty w 82 3) _ n cs rfl (hs.src (by decide) Try.underlying67) (by unfold maxLen; omega) (by omega) ?_; intro av c' w' hown hfr hrow)
    go_ret
    simp only [Nat.zero_add, List.nil_append] at hown hrow ⊢
    exact ⟨av, c', rfl, hown, ((Fr.refl nob w).alloc _).trans hfr (fun b hb hx => by obtain ⟨_, _, _, e, h0, _⟩ := hx; injection e with _ _ e3; omega), fresh_of (w2 := w') (by simp) hrow (fun b hx => by obtain ⟨_, _, _, e, h0, _⟩ := hx; injection e with _ _ e3; omega)⟩

end Go.Proofs.Ytbhklkolkclflaa
