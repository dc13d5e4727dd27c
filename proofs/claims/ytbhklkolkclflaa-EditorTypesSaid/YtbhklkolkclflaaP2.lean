/- Plain: what an editor's state keeps. -/
import Derived.Test.YtbhklkolkclflaaP1
import Derived.Test.YtbhklkolkclflaaE9
namespace Go.Proofs.Ytbhklkolkclflaa
open Go.RowKit

/-- An edit that a list takes. -/
def EdOk (e : EditP) : Prop := 0 ≤ e.1 ∧ e.2.1.length ≤ 1024 ∧ e.2.2.length ≤ 1024 ∧ 0 < e.2.1.length + e.2.2.length
/-- How many edits groups have. -/
def total (gs : List (List EditP)) : Nat := (gs.map List.length).sum
structure LstOk (g : List (List EditP) × Int) : Prop where
  cnt : g.2 = total g.1
  ok : ∀ h ∈ g.1, ∀ e ∈ h, EdOk e
  ne : ∀ h ∈ g.1, h ≠ []
  le : total g.1 ≤ 16384

theorem total_append (a b : List (List EditP)) : total (a ++ b) = total a + total b := by simp [total]
theorem total_one (g : List EditP) : total [g] = g.length := by simp [total]
theorem total_len : ∀ {gs : List (List EditP)}, (∀ h ∈ gs, h ≠ []) → gs.length ≤ total gs
  | [], _ => Nat.zero_le _
  | g :: gs, h => by
    have h1 := total_len (gs := gs) (fun x hx => h x (List.mem_cons_of_mem _ hx))
    have h2 : 0 < g.length := List.length_pos_iff.2 (h g List.mem_cons_self)
    have h3 : total (g :: gs) = g.length + total gs := by simp [total]
    rw [List.length_cons, h3]
    omega
theorem total_mem : ∀ {gs : List (List EditP)} {g : List EditP}, g ∈ gs → g.length ≤ total gs
  | x :: gs, g, h => by
    have h3 : total (x :: gs) = x.length + total gs := by simp [total]
    rcases List.mem_cons.1 h with rfl | h
    · omega
    · have := total_mem h
      omega
theorem LstOk.empty : LstOk ([], 0) := ⟨rfl, (fun _ h => absurd h (by simp)), (fun _ h => absurd h (by simp)), Nat.zero_le _⟩
theorem LstOk.small {g : List (List EditP) × Int} (h : LstOk g) : ∀ x ∈ g.1, Small x := fun x hx => by
  have h1 := total_mem hx
  have h2 := h.le
  refine ⟨by omega, fun e he => ?_⟩
  have h3 := h.ok x hx e he
  exact ⟨Nat.le_trans h3.2.1 (by omega), Nat.le_trans h3.2.2.1 (by omega)⟩
theorem LstOk.smalls {g : List (List EditP) × Int} (h : LstOk g) : Smalls g.1 := by
  have h1 := total_len h.ne
  have h2 := h.le
  exact ⟨by omega, h.small⟩
/-- What an editor's state keeps. -/
structure EdsOk (S : EdState) : Prop where
  lists : ∀ p g, S.core.undos p = some g → LstOk g
  put : ∀ e ∈ S.put, EdOk e
  room : total S.lst.1 + S.put.length ≤ 16384
  place : 0 ≤ S.core.place
theorem EdsOk.lst {S : EdState} (h : EdsOk S) : LstOk S.lst := by
  cases hg : S.core.undos S.core.place with
  | none => rw [EdState.lst_none hg]; exact LstOk.empty
  | some g => rw [EdState.lst_of hg]; exact h.lists _ _ hg
theorem EdsOk.core {S : EdState} (h : EdsOk S) : CoreOk S.core := fun p g hp => (h.lists p g hp).smalls
/-- What flush takes off the list's end. -/
def oldG (on : Bool) (gs : List (List EditP)) : List EditP := if on = true then gs.getLast?.getD [] else []
def preG (on : Bool) (gs : List (List EditP)) : List (List EditP) := if on = true then gs.dropLast else gs
theorem flushG_eq (on : Bool) (g : List (List EditP) × Int) (put : List EditP) : flushG on g put = (preG on g.1 ++ [oldG on g.1 ++ put], g.2 + put.length) := by
  unfold flushG preG oldG
  cases on with
  | false => simp
  | true =>
    by_cases h : g.1 = []
    · simp [h]
    · simp [h]
theorem preG_total (on : Bool) (gs : List (List EditP)) : total (preG on gs) + (oldG on gs).length = total gs := by
  unfold preG oldG
  cases on with
  | false => simp
  | true =>
    rcases List.eq_nil_or_concat gs with h | ⟨l, x, h⟩
    · subst h; simp [total]
    · subst h
      rw [List.concat_eq_append]
      simp [total]
theorem LstOk.flush {on : Bool} {g : List (List EditP) × Int} {put : List EditP} (h : LstOk g) (hp : ∀ e ∈ put, EdOk e) (hr : total g.1 + put.length ≤ 16384) (hne : put ≠ []) : LstOk (flushG on g put) := by
  rw [flushG_eq]
  have ht := preG_total on g.1
  have hsub : ∀ x ∈ preG on g.1, x ∈ g.1 := fun x hx => by
    unfold preG at hx
    split at hx
    · exact List.dropLast_subset _ hx
    · exact hx
  have hold : ∀ e ∈ oldG on g.1, EdOk e := fun e he => by
    unfold oldG at he
    split at he
    · rcases List.eq_nil_or_concat g.1 with h1 | ⟨l, x, h1⟩
      · rw [h1] at he; cases he
      · rw [List.concat_eq_append] at h1
        rw [h1] at he
        simp at he
        exact h.ok x (by rw [h1]; simp) e he
    · cases he
  refine ⟨?_, fun x hx e he => ?_, fun x hx => ?_, ?_⟩
  · show g.2 + (put.length : Int) = _
    rw [h.cnt, total_append, total_one, List.length_append, ← ht]
    omega
  · rcases List.mem_append.1 hx with hx | hx
    · exact h.ok x (hsub x hx) e he
    · rw [List.mem_singleton.1 hx] at he
      exact (List.mem_append.1 he).elim (hold e) (hp e)
  · rcases List.mem_append.1 hx with hx | hx
    · exact h.ne x (hsub x hx)
    · rw [List.mem_singleton.1 hx]
      intro h0
      exact hne (List.append_eq_nil_iff.1 h0).2
  · show total (preG on g.1 ++ [oldG on g.1 ++ put]) ≤ 16384
    rw [total_append, total_one, List.length_append]
    omega
end Go.Proofs.Ytbhklkolkclflaa
