/- Plain laws: edits of a line, done and taken back. -/
import Derived.Test.YtbhklkolkclflaaE7
namespace Go.Proofs.Ytbhklkolkclflaa
open Go.RowKit

/-- A line, its point, its mark. -/
structure LineS where
  text : List Int
  point : Int
  mark : Int

/-- An edit is done. -/
def LineS.edit (s : LineS) (e : EditP) : LineS :=
  ⟨s.text.take e.1.toNat ++ e.2.2 ++ s.text.drop (e.1.toNat + e.2.1.length), newPoint s.point e.1.toNat (e.1.toNat + e.2.1.length) e.2.2.length, newMark s.mark e.1.toNat (e.1.toNat + e.2.1.length) e.2.2.length⟩
/-- An edit fits a line. -/
def FitsE (L : List Int) (e : EditP) : Prop :=
  0 ≤ e.1 ∧ e.1.toNat + e.2.1.length ≤ L.length ∧ (L.drop e.1.toNat).take e.2.1.length = e.2.1 ∧ e.2.2.length + (L.length - e.2.1.length) ≤ 1024
def doE (L : List Int) (e : EditP) : List Int := L.take e.1.toNat ++ e.2.2 ++ L.drop (e.1.toNat + e.2.1.length)
/-- Edits, one behind the other. -/
def doAll (L : List Int) (es : List EditP) : List Int := es.foldl doE L
def FitAll : List Int → List EditP → Prop
  | _, [] => True
  | L, e :: es => FitsE L e ∧ FitAll (doE L e) es

theorem doE_length {L : List Int} {e : EditP} (h : FitsE L e) : (doE L e).length = e.2.2.length + (L.length - e.2.1.length) := by
  obtain ⟨h0, h1, h2, h3⟩ := h
  unfold doE
  simp only [List.length_append, List.length_take, List.length_drop]
  omega

theorem doE_inv {L : List Int} {e : EditP} (h : FitsE L e) (hl : L.length ≤ 1024) : FitsE (doE L e) (inv e) ∧ doE (doE L e) (inv e) = L := by
  have hlen := doE_length h
  obtain ⟨h0, h1, h2, h3⟩ := h
  obtain ⟨f, d, i⟩ := e
  replace h0 : 0 ≤ f := h0
  replace h1 : f.toNat + d.length ≤ L.length := h1
  replace h2 : (L.drop f.toNat).take d.length = d := h2
  replace h3 : i.length + (L.length - d.length) ≤ 1024 := h3
  replace hlen : (doE L (f, d, i)).length = i.length + (L.length - d.length) := hlen
  have e1 : (doE L (f, d, i)).take f.toNat = L.take f.toNat := by
    unfold doE
    simp only
    rw [List.append_assoc, List.take_append_of_le_length (by rw [List.length_take]; omega), List.take_take, Nat.min_self]
  have e2 : (doE L (f, d, i)).drop f.toNat = i ++ L.drop (f.toNat + d.length) := by
    unfold doE
    simp only
    rw [List.append_assoc]
    have hl2 : (L.take f.toNat).length = f.toNat := by rw [List.length_take]; omega
    have := List.drop_left (l₁ := L.take f.toNat) (l₂ := i ++ L.drop (f.toNat + d.length))
    rwa [hl2] at this
  refine ⟨⟨h0, show f.toNat + i.length ≤ (doE L (f, d, i)).length by omega, ?_, show d.length + ((doE L (f, d, i)).length - i.length) ≤ 1024 by omega⟩, ?_⟩
  · show ((doE L (f, d, i)).drop f.toNat).take i.length = i
    rw [e2]
    exact List.take_left
  · show (doE L (f, d, i)).take f.toNat ++ d ++ (doE L (f, d, i)).drop (f.toNat + i.length) = L
    rw [← List.drop_drop, e2, List.drop_left, e1]
    rw [List.append_assoc]
    conv => rhs; rw [← List.take_append_drop f.toNat L]
    congr 1
    conv => rhs; rw [← List.take_append_drop d.length (L.drop f.toNat)]
    rw [h2, List.drop_drop]

theorem FitAll.append {es fs : List EditP} : ∀ {L : List Int}, FitAll L (es ++ fs) ↔ FitAll L es ∧ FitAll (doAll L es) fs := by
  induction es with
  | nil => intro L; simp [FitAll, doAll]
  | cons e es ih => intro L; simp only [List.cons_append, FitAll, ih, doAll, List.foldl_cons]; exact and_assoc.symm
theorem doAll_append (L : List Int) (es fs : List EditP) : doAll L (es ++ fs) = doAll (doAll L es) fs := by unfold doAll; rw [List.foldl_append]
theorem FitAll.le {es : List EditP} : ∀ {L : List Int}, FitAll L es → L.length ≤ 1024 → (doAll L es).length ≤ 1024 := by
  induction es with
  | nil => intro L _ h; exact h
  | cons e es ih => intro L h hl; exact ih h.2 (by rw [doE_length h.1]; exact h.1.2.2.2)

/-- What was done is taken back. -/
theorem undo_all {es : List EditP} : ∀ {L : List Int}, FitAll L es → L.length ≤ 1024 → FitAll (doAll L es) (es.reverse.map inv) ∧ doAll (doAll L es) (es.reverse.map inv) = L := by
  induction es with
  | nil => intro L _ _; exact ⟨trivial, rfl⟩
  | cons e es ih =>
    intro L h hl
    obtain ⟨h1, h2⟩ := h
    have hle : (doE L e).length ≤ 1024 := by rw [doE_length h1]; exact h1.2.2.2
    obtain ⟨h3, h4⟩ := ih h2 hle
    obtain ⟨h5, h6⟩ := doE_inv h1 hl
    have h7 : doAll L (e :: es) = doAll (doE L e) es := rfl
    rw [List.reverse_cons, List.map_append, h7]
    refine ⟨FitAll.append.2 ⟨h3, ?_⟩, ?_⟩
    · rw [h4]
      exact ⟨h5, trivial⟩
    · rw [doAll_append, h4]
      exact h6
/-- A line after edits. -/
def LineS.edits (s : LineS) (es : List EditP) : LineS := es.foldl LineS.edit s
theorem LineS.edits_text (es : List EditP) : ∀ s : LineS, (s.edits es).text = doAll s.text es := by
  induction es with
  | nil => intro s; rfl
  | cons e es ih => intro s; exact ih (s.edit e)
end Go.Proofs.Ytbhklkolkclflaa
