/- Plain: what a part of a command keeps; a command's end. -/
import Derived.Test.YtbhklkolkclflaaGreatDoorP4
namespace Go.Proofs.YtbhklkolkclflaaGreatDoor
open Go.RowKit

/-- What a part leaves alone. -/
structure Keeps (S S' : EdState) : Prop where
  was : S'.was = S.was
  hist : S'.hist = S.hist
  inn : S'.f.inn = S.f.inn
  bells : S'.bells = S.bells
  base : S'.base = S.base
  most : S'.most = S.most

theorem Keeps.refl (S : EdState) : Keeps S S := ⟨rfl, rfl, rfl, rfl, rfl, rfl⟩
theorem Keeps.trans {S T U : EdState} (h : Keeps S T) (g : Keeps T U) : Keeps S U := ⟨g.was.trans h.was, g.hist.trans h.hist, g.inn.trans h.inn, g.bells.trans h.bells, g.base.trans h.base, g.most.trans h.most⟩
theorem EdState.replaced_keeps (S : EdState) (f t : Nat) (l : List Int) : Keeps S (S.replaced f t l) := by
  unfold EdState.replaced EdState.roomed
  split
  · exact ⟨rfl, rfl, rfl, rfl, rfl, rfl⟩
  · split <;> exact ⟨rfl, rfl, rfl, rfl, rfl, rfl⟩
theorem EdState.replR_keeps (S : EdState) (f t : Int) (l : List Int) : Keeps S (S.replR f t l).1 := by
  unfold EdState.replR
  split
  · split
    · exact Keeps.refl S
    · exact S.replaced_keeps _ _ _
  · exact Keeps.refl S
theorem EdState.classed_keeps (S : EdState) : Keeps S S.classed := by
  unfold EdState.classed
  split <;> exact ⟨rfl, rfl, rfl, rfl, rfl, rfl⟩
theorem EdState.copyR_keeps (S : EdState) (f t : Int) (back : Bool) : Keeps S (S.copyR f t back).1 := by
  unfold EdState.copyR
  split
  · split <;> exact ⟨rfl, rfl, rfl, rfl, rfl, rfl⟩
  · exact Keeps.refl S
theorem EdState.flushed_keeps (S : EdState) (on : Bool) : Keeps S (S.flushed on) := by
  unfold EdState.flushed
  split <;> exact ⟨rfl, rfl, rfl, rfl, rfl, rfl⟩

section
variable {S S' : EdState} {T0 : List Int} {m : Nat}
theorem Inv.classed (h : Inv S T0 m) : Inv S.classed T0 m := by
  unfold EdState.classed
  split
  · exact h.of rfl rfl rfl rfl (fun h => h) h.sm rfl rfl
  · exact h
/-- A part keeps it. -/
theorem Inv.edit (h : Inv S T0 m) (hpt : S.core.point ≤ S.core.text.length) {ki A B : Int} {back : Bool} {l : List Int} (he : EditTo S ki A B back l S') : Inv S' T0 (m + 1) ∧ Keeps S S' := by
  unfold EditTo at he
  by_cases h0 : ki = 0
  · rw [if_pos h0] at he
    subst he
    unfold EdState.typeR
    split
    · exact ⟨(h.replR _ _ _).classed, (S.replR_keeps _ _ _).trans (EdState.classed_keeps _)⟩
    · exact ⟨h.replR _ _ _, S.replR_keeps _ _ _⟩
  rw [if_neg h0] at he
  by_cases h1 : ki = 1
  · rw [if_pos h1] at he
    subst he
    exact ⟨h.replR _ _ _, S.replR_keeps _ _ _⟩
  rw [if_neg h1] at he
  by_cases h2 : ki = 2
  · rw [if_pos h2] at he
    subst he
    exact ⟨h.replR _ _ _, S.replR_keeps _ _ _⟩
  rw [if_neg h2] at he
  by_cases h3 : ki = 3
  · rw [if_pos h3] at he
    subst he
    exact ⟨h.replR _ _ _, S.replR_keeps _ _ _⟩
  rw [if_neg h3] at he
  by_cases h4 : ki = 4
  · rw [if_pos h4] at he
    subst he
    unfold EdState.killR
    split
    · exact ⟨(h.copyR _ _ _).replR _ _ _, (S.copyR_keeps _ _ _).trans (EdState.replR_keeps _ _ _ _)⟩
    · exact ⟨(h.copyR _ _ _).more (Nat.le_succ m), S.copyR_keeps _ _ _⟩
  rw [if_neg h4] at he
  by_cases h5 : ki = 5
  · rw [if_pos h5] at he
    subst he
    exact ⟨(h.copyR _ _ _).more (Nat.le_succ m), S.copyR_keeps _ _ _⟩
  rw [if_neg h5] at he
  by_cases h6 : ki = 6
  · rw [if_pos h6] at he
    subst he
    unfold EdState.yankR
    split
    · exact ⟨h.more (Nat.le_succ m), Keeps.refl S⟩
    · split
      · exact ⟨h.more (Nat.le_succ m), Keeps.refl S⟩
      · rename_i g
        have hp : S.core.point.toNat ≤ S.core.text.length := by omega
        · have h1 := h.replaced S.core.point.toNat S.core.point.toNat (S.core.ents.getD S.core.rpl []) (Nat.le_refl _) hp (by omega)
          have h2 := S.replaced_keeps S.core.point.toNat S.core.point.toNat (S.core.ents.getD S.core.rpl [])
          exact ⟨h1.of (S' := S.yankedTo S.core.point.toNat (S.core.ents.getD S.core.rpl [])) rfl rfl rfl rfl (fun h => h) h1.sm rfl rfl, ⟨h2.was, h2.hist, h2.inn, h2.bells, h2.base, h2.most⟩⟩
  rw [if_neg h6] at he
  by_cases h7 : ki = 7
  · rw [if_pos h7] at he
    subst he
    unfold EdState.popR
    split
    · split
      · have h1 := h.replR S.core.yf S.core.yt (S.core.ents.getD (rotP S.core.ents.length S.core.rpl A) [])
        have h2 := S.replR_keeps S.core.yf S.core.yt (S.core.ents.getD (rotP S.core.ents.length S.core.rpl A) [])
        exact ⟨h1.of (S' := S.popS _ _) rfl rfl rfl rfl (fun h => h) h1.sm rfl rfl, ⟨h2.was, h2.hist, h2.inn, h2.bells, h2.base, h2.most⟩⟩
      · exact ⟨h.replR _ _ _, S.replR_keeps _ _ _⟩
    · exact ⟨h.more (Nat.le_succ m), Keeps.refl S⟩
  rw [if_neg h7] at he
  by_cases h8 : ki = 8
  · rw [if_pos h8] at he
    subst he
    unfold EdState.moveR
    split
    · exact ⟨(h.of (S' := { S with core := { S.core with point := A } }) rfl rfl rfl rfl (fun h => h) h.sm rfl rfl).more (Nat.le_succ m), ⟨rfl, rfl, rfl, rfl, rfl, rfl⟩⟩
    · exact ⟨h.more (Nat.le_succ m), Keeps.refl S⟩
  rw [if_neg h8] at he
  by_cases h9 : ki = 9
  · rw [if_pos h9] at he
    subst he
    unfold EdState.markR
    split
    · exact ⟨(h.of (S' := { S with core := { S.core with mark := A } }) rfl rfl rfl rfl (fun h => h) h.sm rfl rfl).more (Nat.le_succ m), ⟨rfl, rfl, rfl, rfl, rfl, rfl⟩⟩
    · exact ⟨h.more (Nat.le_succ m), Keeps.refl S⟩
  rw [if_neg h9] at he
  by_cases h10 : ki = 10
  · rw [if_pos h10] at he
    subst he
    unfold EdState.swapR
    split
    · exact ⟨(h.of (S' := { S with core := { S.core with point := S.core.mark, mark := S.core.point } }) rfl rfl rfl rfl (fun h => h) h.sm rfl rfl).more (Nat.le_succ m), ⟨rfl, rfl, rfl, rfl, rfl, rfl⟩⟩
    · exact ⟨h.more (Nat.le_succ m), Keeps.refl S⟩
  rw [if_neg h10] at he
  by_cases h11 : ki = 11
  · rw [if_pos h11] at he
    refine ⟨(h.undone he).more (Nat.le_succ m), ?_⟩
    have h2 := S.flushed_keeps false
    rcases he with ⟨_, rfl⟩ | ⟨pre, g, s, _, rfl, _⟩
    · exact ⟨h2.was, h2.hist, h2.inn, h2.bells, h2.base, h2.most⟩
    · exact ⟨h2.was, h2.hist, h2.inn, h2.bells, h2.base, h2.most⟩
  rw [if_neg h11] at he
  by_cases h17 : ki = 17
  · rw [if_pos h17] at he
    subst he
    unfold EdState.modeR
    split
    · exact ⟨(h.of (S' := { S with core := { S.core with mode := A } }) rfl rfl rfl rfl (fun h => h) h.sm rfl rfl).more (Nat.le_succ m), ⟨rfl, rfl, rfl, rfl, rfl, rfl⟩⟩
    · exact ⟨h.more (Nat.le_succ m), Keeps.refl S⟩
  rw [if_neg h17] at he
  rw [he]
  exact ⟨h.more (Nat.le_succ m), Keeps.refl S⟩

/-- A command begins, ends. -/
def EdState.wasS (S : EdState) : EdState := { S with core := S.was, put := [] }
theorem Inv.begun (h : Inv S T0 m) (hp : S.put = []) : Inv S.begun T0 m ∧ Inv S.begun.wasS T0 m :=
  ⟨h.of rfl rfl rfl rfl (fun h => h) h.sm hp.symm rfl, h.of rfl rfl rfl rfl (fun h => h) h.sm hp.symm rfl⟩
theorem Keeps.wasS (hk : Keeps S S') (h : Inv S.wasS T0 m) : Inv S'.wasS T0 m :=
  h.of (by show S'.was.undos = S.was.undos; rw [hk.was]) (by show S'.was.place = S.was.place; rw [hk.was]) (by show S'.was.text = S.was.text; rw [hk.was]) (by show S'.was.over = S.was.over; rw [hk.was]) (fun hq => by have hq' : S'.was.run = true := hq; rw [hk.was] at hq'; exact hq') (by show ∀ y ∈ S'.was.ents, _; rw [hk.was]; exact h.sm) rfl hk.hist
theorem Inv.endErr (h : Inv S.wasS T0 m) : Inv S.endErr T0 m ∧ S.endErr.put = [] ∧ S.endErr.f.inn = false :=
  ⟨h.of rfl rfl rfl rfl (fun h => h) h.sm rfl rfl, rfl, rfl⟩
theorem Inv.endOk (h : Inv S T0 m) : Inv S.endOk T0 m ∧ S.endOk.put = [] ∧ S.endOk.f.inn = false := by
  have hok := EdState.endOk_ok h.ok
  have htot := S.endOk_total
  obtain ⟨e1, e2, e3, e4, e5, e6, e7, e8, e9, e10, e11, e12⟩ := S.endOk_core
  have hput : S.endOk.put = [] := by
    show (S.endA.flushed (S.types && S.core.run)).put = []
    unfold EdState.flushed
    split
    · assumption
    · rfl
  have hfl : S.endOk.lst.1.flatten = S.lst.1.flatten ++ S.put ∧ (S.endOk.core.run = true → S.endOk.lst.1 ≠ []) := by
    have hL : S.endOk.lst = (S.endA.flushed (S.types && S.core.run)).lst := rfl
    rw [hL, e12]
    unfold EdState.flushed
    by_cases h0 : S.put = []
    · rw [if_pos (by rw [EdState.endA_put]; exact h0), EdState.endA_lst, h0, List.append_nil]
      refine ⟨rfl, fun hq => h.run ?_⟩
      simp only [ne_eq, not_true_eq_false, decide_false, Bool.false_or, Bool.and_eq_true] at hq
      exact hq.2
    · rw [if_neg (by rw [EdState.endA_put]; exact h0), EdState.endA_lst, EdState.endA_put]
      have hl : EdState.lst { S.endA.setLst (flushG (S.types && S.core.run) S.lst S.put) with put := [] } = flushG (S.types && S.core.run) S.lst S.put := EdState.lst_of (if_pos rfl)
      rw [hl, flushG_eq]
      refine ⟨?_, fun _ => by simp⟩
      unfold preG oldG
      split
      · rcases List.eq_nil_or_concat S.lst.1 with h1 | ⟨pre, g, h1⟩
        · simp [h1]
        · rw [List.concat_eq_append] at h1
          simp [h1]
      · simp
  obtain ⟨L0, g1, g2, g3, g4⟩ := h.fit
  refine ⟨⟨hok, by rw [e7]; exact h.over, by rw [e6]; exact h.place, by rw [e10]; exact h.hist, hfl.2, by rw [e4]; exact h.sm, by rw [e1]; exact h.len, ⟨L0, g1, ?_, ?_, g4⟩, ?_⟩, hput, e9⟩
  · rw [hfl.1, hput, List.append_nil]; exact g2
  · rw [hfl.1, hput, List.append_nil, e1]; exact g3
  · rw [htot, hput]
    have := h.cnt
    simpa using this
end
end Go.Proofs.YtbhklkolkclflaaGreatDoor
