/- sync/atomic: Add and Load of an Int64. -/
import Derived.Test.YtbhklkolkclflaaB0
import Derived.Laws.LoneSync
namespace Go.Proofs.Ytbhklkolkclflaa
open Go.RowKit

theorem atomic_load (w : World) (b : Nat) (x : Int) (h : w.heap[b]? = some (.cells #[.int .i64 x] 60 (0, 0))) :
    Calls Try.prog 39 #[.pointer (some ⟨b, 0, none⟩)] w fun e w' => e = .returned (.int .i64 x) ∧ w' = w := by
  have hc : w.cell? ⟨b, 0, none⟩ = some (.int .i64 x) := by rw [blk_cells h]; rfl
  have hl := run_call_load (P := Try.prog) Try.func73 (by kernel_rfl) (by kernel_rfl) (by kernel_rfl) .i64 (by kernel_rfl) hc
  clear h
  go_enter Try.func39, Try.ntmps39
  go_wp2
  go_ret
  exact ⟨rfl, rfl⟩

theorem atomic_add (w : World) (b : Nat) (x y : Int) (h : w.heap[b]? = some (.cells #[.int .i64 x] 60 (0, 0))) (h1 : -9223372036854775808 ≤ x + y) (h2 : x + y ≤ 9223372036854775807) :
    Calls Try.prog 26 #[.pointer (some ⟨b, 0, none⟩), .int .i64 y] w fun e w' => e = .returned (.int .i64 (x + y)) ∧ w'.heap[b]? = some (.cells #[.int .i64 (x + y)] 60 (0, 0)) ∧ Fr (one b) w w' := by
  have hc : w.cell? ⟨b, 0, none⟩ = some (.int .i64 x) := by rw [blk_cells h]; rfl
  have hz := blk_free h 0
  have hw : IntKind.i64.wrap (x + y) = x + y := IntWalk.i64_in _ ⟨h1, h2⟩
  have hb := heap_setCell_same (o := 0) h (.int .i64 (x + y))
  have HB := Lib.hid hb
  have hadd := run_call_add (P := Try.prog) Try.func52 (by kernel_rfl) (by kernel_rfl) (by kernel_rfl) .i64 (by kernel_rfl) (y := y) (s := x + y) hc hz (by simp [go_sem, hw])
  clear h hb hw h1 h2
  go_enter Try.func26, Try.ntmps26
  go_wp2
  go_ret
  exact ⟨rfl, HB.out, (Fr.refl _ _).setOne _ _⟩
end Go.Proofs.Ytbhklkolkclflaa
