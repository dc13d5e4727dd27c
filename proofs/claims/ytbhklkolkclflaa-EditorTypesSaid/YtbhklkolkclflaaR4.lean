/- The iterators of package slices over groups: a contract in which the caller's invariant carries all. -/
import Derived.Test.YtbhklkolkclflaaB4
import Derived.RangeFuncNested
import Derived.RangeFuncBound
import Derived.RangeFuncCalls
import Derived.RangeFuncLeaves
import Derived.Shelf.Abstract
import Derived.Shelf.RegionOpen
import Derived.OwnWalkIn
import Derived.TacticsInMore
import Derived.LoopNIn
import Derived.LoopIn
namespace Go.Proofs.Ytbhklkolkclflaa
open Go.RowKit
attribute [local go_sem] Oper.semAt_some

set_option maxRecDepth 100000 in
set_option maxHeartbeats 2000000 in
/-- slices.Backward's closure over groups. -/
theorem back1_groups (m l box g off n cap : Nat) (a : Option Addr) (ha : 0 < n → a = some ⟨g, off, none⟩) (el : Nat → Value) (hm : 1 ≤ m) (hn : n * 24 ≤ 140737488355328) (J : Nat → World → Prop)
    (hJ : ∀ k W, J k W → W.cell? ⟨box, 0, none⟩ = some (.slice a n cap) ∧ ∀ j, j < n → W.cell? ⟨g, off + j, none⟩ = some (el j))
    (hY : ∀ k i W, J k W → i + k + 1 = n → YieldAt Fence.wide (m - 1) Try.prog l #[.int .i64 i, el i] W fun e W' => e = .returned (.bool true) ∧ J (k + 1) W')
    (W : World) (h0 : J 0 W) :
    CallsIn Fence.wide m Try.prog 87 #[.func (.yield l) #[] #[], .pointer (some ⟨box, 0, none⟩)] W fun e W' => (∃ v, e = .returned v) ∧ J n W' := by
  have HJ := Lib.hid hJ
  have HY := Lib.hid hY
  have hb0 := (hJ 0 W h0).1
  clear hJ hY
  refine callsIn_of_wp Try.func87 rfl trivial ?_ rfl
  simp only [Try.ntmps87, List.size_toArray, List.length_cons, List.length_nil, Nat.reduceAdd, Nat.reduceSub, Array.replicate_succ, Array.replicate_zero, List.push_toArray, List.append_toArray, List.nil_append, List.cons_append]
  gi_wp2
  gi_loopw [3] (fun i wr => ∃ k : Nat, ∃ i' : Int, i = .int .i64 i' ∧ i' + k + 1 = n ∧ k ≤ n ∧ J k wr) (fun i _ => (intOf i + 1).toNat)
  case atStart => exact ⟨0, _, rfl, by omega, Nat.zero_le _, h0⟩
  case round =>
    obtain ⟨k, i', rfl, hik, hkn, hJk⟩ := hrel
    have HIK := Lib.hid hik
    by_cases hlt : k < n
    · obtain ⟨i, rfl⟩ : ∃ i : Nat, i' = i := ⟨i'.toNat, by omega⟩
      have hin : i < n := by omega
      have hk1 : i + k + 1 = n := by omega
      obtain ⟨hb, hcs⟩ := HJ.out k wr hJk
      obtain rfl := ha (by omega)
      have c0 := hcs i hin
      obtain ⟨fn, tmps, assign, body, hy, hR⟩ := HY.out k i wr hJk hk1
      clear hcs hik hk1
      generalize el i = x0 at *
      gi_wp2
      refine hR.mono ?_
      rintro e W3 ⟨rfl, hJ3⟩
      gi_wp2
      go_roundw
      case rel => exact ⟨k + 1, _, rfl, by have := HIK.out; omega, by omega, hJ3⟩
      case measure =>
        have := HIK.out
        simp only [intOf]
        omega
    · have hi : i' = -1 := by omega
      subst hi
      obtain rfl : k = n := by omega
      gi_wp2
      go_end0
      exact ⟨⟨_, rfl⟩, hJk⟩

/-- slices.Backward over groups. -/
theorem back_groups (m : Nat) (a : Option Addr) (n c : Nat) (w : World) :
    CallsIn Fence.wide m Try.prog 77 #[.slice a n c] w fun e w' => e = .returned (.func (.func 87) #[] #[.pointer (some ⟨w.heap.size, 0, none⟩)]) ∧ w' = w.alloc (.cells #[.slice a n c] 113) := by
  refine callsIn_of_wp Try.func77 rfl trivial ?_ rfl
  simp only [Try.ntmps77, List.size_toArray, List.length_cons, List.length_nil, Nat.reduceAdd, Nat.reduceSub, Array.replicate_succ, Array.replicate_zero, List.push_toArray, List.append_toArray, List.nil_append, List.cons_append]
  gi_wp2
  go_ret
  exact ⟨rfl, rfl⟩
end Go.Proofs.Ytbhklkolkclflaa
