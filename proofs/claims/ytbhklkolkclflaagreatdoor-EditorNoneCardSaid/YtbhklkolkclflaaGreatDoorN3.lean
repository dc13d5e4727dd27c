/- The reference's Same at states of nothing. -/
import Derived.Test.YtbhklkolkclflaaGreatDoorN2
namespace Go.Proofs.YtbhklkolkclflaaGreatDoor
open Go.RowKit

set_option maxRecDepth 20000 in
set_option maxHeartbeats 4000000 in
theorem same17_zero (w : World) : Calls Tryz.prog 38 #[zeroState, zeroState] w (Says w (.bool true)) := by
  unfold zeroState
  have hs := fun (V : World) => sameLine_eq V none none 0 0 0 [] 0 0 ⟨rfl, Nat.le_refl _, .inl rfl, by simp [runes]⟩ ⟨rfl, Nat.le_refl _, .inl rfl, by simp [runes]⟩ (by decide)
  have HS := Lib.hid hs
  clear hs
  go_enter Tryz.func38, Tryz.ntmps38
  go_wp2_with (go_at_call 105; refine (HS.out _).mono ?_; rintro y w' ⟨rfl, hf⟩; have g0 := hf.keep (heap_alloc_new (w.alloc (.cells #[.slice none 0 0, .int .i64 0, .int .i64 0, .int .i64 0, .bool false, .bool false, .bool false, .int .i64 0, .int .i64 0, .int .i64 0, .int .i64 0, .slice none 0 0, .int .i64 0, .slice none 0 0, .int .i64 0, .int .i64 0, .int .i64 0] 60)) (.cells #[.slice none 0 0, .int .i64 0, .int .i64 0, .int .i64 0, .bool false, .bool false, .bool false, .int .i64 0, .int .i64 0, .int .i64 0, .int .i64 0, .slice none 0 0, .int .i64 0, .slice none 0 0, .int .i64 0, .int .i64 0, .int .i64 0] 60)) (fun h => h); have g1 := hf.keep ((heap_alloc_lt _ (by simp)).trans (heap_alloc_new w (.cells #[.slice none 0 0, .int .i64 0, .int .i64 0, .int .i64 0, .bool false, .bool false, .bool false, .int .i64 0, .int .i64 0, .int .i64 0, .int .i64 0, .slice none 0 0, .int .i64 0, .slice none 0 0, .int .i64 0, .int .i64 0, .int .i64 0] 60))) (fun h => h); have b0 := blk_cells g0; have b1 := blk_cells g1; rw [World.size_alloc] at b0; have HF := Lib.hid hf; clear hf g0 g1)
  go_loopw [5] (fun i V => i = .int .i64 0 ∧ V = w') (fun _ _ => 0)
  case atStart => exact ⟨rfl, rfl⟩
  case round =>
    obtain ⟨rfl, rfl⟩ := hrel
    go_wp2
    go_loopw [6] (fun i V => i = .int .i64 0 ∧ V = wr) (fun _ _ => 0)
    case atStart => exact ⟨rfl, rfl⟩
    case round =>
      obtain ⟨rfl, rfl⟩ := hrel
      go_wp2
      go_ret
      exact ⟨rfl, (((Fr.refl nob w).alloc _).alloc _).then HF.out⟩
end Go.Proofs.YtbhklkolkclflaaGreatDoor
