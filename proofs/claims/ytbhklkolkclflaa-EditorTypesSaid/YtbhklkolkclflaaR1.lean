/- The iterators of package slices over edits: a contract in which the caller's invariant carries all. -/
import Derived.Test.YtbhklkolkclflaaB4
import Derived.RangeFuncNested
import Derived.RangeFuncBound
import Derived.RangeFuncCalls
import Derived.RangeFuncLeaves
import Derived.Shelf.Abstract
import Derived.Shelf.RegionOpen
import Derived.OwnWalkIn
import Derived.TacticsInMore
import Derived.LoopNIn
import Derived.LoopIn
namespace Go.Proofs.Ytbhklkolkclflaa
open Go.RowKit
attribute [local go_sem] Oper.semAt_some

set_option maxRecDepth 100000 in
set_option maxHeartbeats 2000000 in
/-- slices.Backward's closure over edits. -/
theorem back1_edits (m l box g off n cap : Nat) (a : Option Addr) (ha : 0 < n → a = some ⟨g, off, none⟩) (el : Nat → Int × Value × Value) (hm : 1 ≤ m) (hn : n * 56 ≤ 140737488355328) (J : Nat → World → Prop)
    (hJ : ∀ k W, J k W → W.cell? ⟨box, 0, none⟩ = some (.slice a n cap) ∧ ∀ j, j < n → W.cell? ⟨g, off + j * 3, none⟩ = some (.int .i64 (el j).1) ∧ W.cell? ⟨g, off + j * 3 + 1, none⟩ = some (el j).2.1 ∧ W.cell? ⟨g, off + j * 3 + 2, none⟩ = some (el j).2.2)
    (hY : ∀ k i W, J k W → i + k + 1 = n → YieldAt Fence.wide (m - 1) Try.prog l #[.int .i64 i, .agg #[.int .i64 (el i).1, (el i).2.1, (el i).2.2]] W fun e W' => e = .returned (.bool true) ∧ J (k + 1) W')
    (W : World) (h0 : J 0 W) :
    CallsIn Fence.wide m Try.prog 89 #[.func (.yield l) #[] #[], .pointer (some ⟨box, 0, none⟩)] W fun e W' => (∃ v, e = .returned v) ∧ J n W' := by
  have HJ := Lib.hid hJ
  have HY := Lib.hid hY
  have hb0 := (hJ 0 W h0).1
  clear hJ hY
  refine callsIn_of_wp Try.func89 rfl trivial ?_ rfl
  simp only [Try.ntmps89, List.size_toArray, List.length_cons, List.length_nil, Nat.reduceAdd, Nat.reduceSub, Array.replicate_succ, Array.replicate_zero, List.push_toArray, List.append_toArray, List.nil_append, List.cons_append]
  gi_wp2
  gi_loopw [3] (fun i wr => ∃ k : Nat, ∃ i' : Int, i = .int .i64 i' ∧ i' + k + 1 = n ∧ k ≤ n ∧ J k wr) (fun i _ => (intOf i + 1).toNat)
  case atStart => exact ⟨0, _, rfl, by omega, Nat.zero_le _, h0⟩
  case round =>
    obtain ⟨k, i', rfl, hik, hkn, hJk⟩ := hrel
    have HIK := Lib.hid hik
    by_cases hlt : k < n
    · obtain ⟨i, rfl⟩ : ∃ i : Nat, i' = i := ⟨i'.toNat, by omega⟩
      have hin : i < n := by omega
      have hk1 : i + k + 1 = n := by omega
      obtain ⟨hb, hcs⟩ := HJ.out k wr hJk
      obtain rfl := ha (by omega)
      obtain ⟨c0, c1, c2⟩ := hcs i hin
      obtain ⟨fn, tmps, assign, body, hy, hR⟩ := HY.out k i wr hJk hk1
      clear hcs hik hk1
      generalize (el i).1 = x0 at *
      generalize (el i).2.1 = x1 at *
      generalize (el i).2.2 = x2 at *
      gi_wp2
      refine hR.mono ?_
      rintro e W3 ⟨rfl, hJ3⟩
      gi_wp2
      go_roundw
      case rel => exact ⟨k + 1, _, rfl, by have := HIK.out; omega, by omega, hJ3⟩
      case measure =>
        have := HIK.out
        simp only [intOf]
        omega
    · have hi : i' = -1 := by omega
      subst hi
      obtain rfl : k = n := by omega
      gi_wp2
      go_end0
      exact ⟨⟨_, rfl⟩, hJk⟩

/-- slices.Backward over edits. -/
theorem back_edits (m : Nat) (a : Option Addr) (n c : Nat) (w : World) :
    CallsIn Fence.wide m Try.prog 82 #[.slice a n c] w fun e w' => e = .returned (.func (.func 89) #[] #[.pointer (some ⟨w.heap.size, 0, none⟩)]) ∧ w' = w.alloc (.cells #[.slice a n c] 67) := by
  refine callsIn_of_wp Try.func82 rfl trivial ?_ rfl
  simp only [Try.ntmps82, List.size_toArray, List.length_cons, List.length_nil, Nat.reduceAdd, Nat.reduceSub, Array.replicate_succ, Array.replicate_zero, List.push_toArray, List.append_toArray, List.nil_append, List.cons_append]
  gi_wp2
  go_ret
  exact ⟨rfl, rfl⟩
end Go.Proofs.Ytbhklkolkclflaa
