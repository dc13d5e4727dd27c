/- What laws read of an editor. -/
import Derived.Test.YtbhklkolkclflaaGreatDoorL1
namespace Go.Proofs.YtbhklkolkclflaaGreatDoor
open Go.RowKit

/-- A rune more is typed. -/
theorem Rest1.more {S : EdState} {l L0 : List Int} {k : Nat} {gs : List (List EditP)} (h : Rest1 S (l.take k ++ L0) k (grpK gs (l.take k)) (decide (l.take k ≠ []))) (hk : k < l.length) (hl : l.length + L0.length ≤ 1000) (ht : total gs ≤ 1000) :
    (l.take k ++ L0).length < 1024 ∧ total (grpK gs (l.take k)) < 16384 ∧ Rest1 (S.typ1 l[k]).endOk (l.take (k + 1) ++ L0) (k + 1) (grpK gs (l.take (k + 1))) (decide (l.take (k + 1) ≠ [])) := by
  have hkl : (l.take k).length = k := by rw [List.length_take]; omega
  have h1 : (l.take k ++ L0).length < 1024 := by rw [List.length_append, hkl]; omega
  have h2 : total (grpK gs (l.take k)) < 16384 := by rw [grpK_total, hkl]; omega
  have h3 := (h.typed l[k] h1 h2).2.2.2.1
  have htk : l.take (k + 1) = l.take k ++ [l[k]] := by rw [List.take_succ_eq_append_getElem hk]
  have e1 : (l.take k ++ L0).take k ++ [l[k]] ++ (l.take k ++ L0).drop k = l.take (k + 1) ++ L0 := by
    have t1 : (l.take k ++ L0).take k = l.take k := by rw [List.take_append_of_le_length (by omega), List.take_of_length_le (by omega)]
    have t2 : (l.take k ++ L0).drop k = L0 := by rw [List.drop_append_of_le_length (by omega), List.drop_of_length_le (by omega), List.nil_append]
    rw [t1, t2, htk]
  have e2 := grpK_snoc gs (l.take k) l[k]
  rw [hkl, ← htk] at e2
  have e3 : decide (l.take (k + 1) ≠ []) = true := decide_eq_true (fun h0 => by have := congrArg List.length h0; rw [List.length_take] at this; simp only [List.length_nil] at this; omega)
  rw [e1, e2] at h3
  rw [e3]
  exact ⟨h1, h2, h3⟩

section
variable {Z : Nat → Prop} {w : World} {e : Nat} {S : EdState}
/-- The line as a law reads it. -/
theorem L_lineV (x : EdL Z w e S) {L : List Int} {n : Nat} (h : S.core.text = L) (hn : L.length = n) : Calls Tryz.prog 31 #[.pointer (some ⟨e, 0, none⟩)] w fun y w' =>
    ∃ a c p m, y = .returned (.agg #[.slice a n c, p, m]) ∧ Sl w' 1 a n c (runes L) ∧ Fr nob w w' := by
  subst h
  subst hn
  refine (L_line x).mono ?_
  rintro y w' ⟨a, c, rfl, ho, hf⟩
  exact ⟨a, c, _, _, rfl, ho.sl, hf⟩
/-- How many groups a law reads. -/
theorem L_stateV (x : EdL Z w e S) {L : List Int} {p : Nat} {gs : List (List EditP)} {R : Bool} (h : Rest1 S L p gs R) : Calls Tryz.prog 27 #[.pointer (some ⟨e, 0, none⟩)] w fun y w' =>
    ∃ x0 x1 x2 x3 x4 x5 x6 x7 x8 x9 x10 x11 x12 x13 x15 x16, y = .returned (.agg #[x0, x1, x2, x3, x4, x5, x6, x7, x8, x9, x10, x11, x12, x13, .int .i64 gs.length, x15, x16]) ∧ Fr nob w w' := by
  refine (L_state x h).mono ?_
  rintro y w' ⟨lv, kv, sv, rfl, _, _, _, hf⟩
  exact ⟨_, _, _, _, _, _, _, _, _, _, _, _, _, _, _, _, rfl, hf⟩
end

theorem Tryz.field_text (x y z : Value) (w : World) : (Instr.field 57 (.agg #[x, y, z]) 0).run Tryz.prog w = .ok x w := by kernel_rfl
theorem Tryz.field_undos (x0 x1 x2 x3 x4 x5 x6 x7 x8 x9 x10 x11 x12 x13 x14 x15 x16 : Value) (w : World) : (Instr.field 60 (.agg #[x0, x1, x2, x3, x4, x5, x6, x7, x8, x9, x10, x11, x12, x13, x14, x15, x16]) 12).run Tryz.prog w = .ok x14 w := by kernel_rfl
/-- The same line. -/
theorem eqV (w : World) (a b : Option Addr) (n m c d : Nat) (l : List Int) (h : Sl w 1 a n c (runes l)) (h2 : Sl w 1 b m d (runes l)) (hb : n * 4 ≤ 140737488355328) :
    Calls Tryz.prog 30 #[.slice a n c, .slice b m d] w fun e w' => e = .returned (.bool true) ∧ Fr nob w w' := by
  have hn : l.length = n := by have := h.len; simpa [runes] using this
  have hm : l.length = m := by have := h2.len; simpa [runes] using this
  subst hn
  subst hm
  refine (equal_runes w a b c d l l h h2 hb).mono ?_
  rintro e w' ⟨rfl, q, rfl⟩
  exact ⟨by simp, (Fr.refl _ _).drewN q⟩

theorem goZ {Z : Nat → Prop} {w0 w w' : World} (hf : Fr nob w0 w) (hZ : ∀ y, y < w0.heap.size → Z y) (h : Fr (wr w (fun y => ¬ Z y)) w w') : Fr nob w0 w' :=
  hf.trans h (fun b hb hm => (hm.1 (hZ b hb)).elim)

end Go.Proofs.YtbhklkolkclflaaGreatDoor
