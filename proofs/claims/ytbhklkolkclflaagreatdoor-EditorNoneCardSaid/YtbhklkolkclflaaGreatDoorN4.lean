/- The law EditorNone: the walk. -/
import Derived.Test.YtbhklkolkclflaaGreatDoorN3
import Derived.Test.YtbhklkolkclflaaGreatDoorL1
namespace Go.Proofs.YtbhklkolkclflaaGreatDoor
open Go.RowKit

theorem hist_clone_nil (w : World) : Calls Tryz.prog 78 #[.pointer none] w (Says w (.pointer none)) := by
  have HN : ∀ V : World, Calls Tryz.prog 160 #[.pointer none] V fun x w' => x = .returned (.bool true) ∧ w' = V := fun V => by
    go_enter Tryz.func160, Tryz.ntmps160
    go_wp2
    go_ret
    exact ⟨rfl, rfl⟩
  have HN := Lib.hid HN
  go_enter Tryz.func78, Tryz.ntmps78
  go_wp2_with (go_at_call 160; refine (HN.out _).mono ?_; rintro y w' ⟨rfl, rfl⟩)
  go_ret
  exact ⟨rfl, Fr.refl _ _⟩
theorem new_nil (w : World) : Calls Tryz.prog 21 #[.pointer none] w (Says w (.tuple #[.pointer none, .int .i64 2])) := by
  have HN := Lib.hid (hist_clone_nil w)
  go_enter Tryz.func21, Tryz.ntmps21
  go_wp2_with (go_at_call 78; refine (HN.out).mono ?_; rintro y w' ⟨rfl, hf⟩; have HF := Lib.hid hf; clear hf)
  go_ret2
  exact ⟨rfl, HF.out⟩

set_option maxRecDepth 20000 in
set_option maxHeartbeats 8000000 in
theorem none_ok (w : World) (ki A B : Int) (back : Bool) (a : Option Addr) (n c : Nat) :
    Calls Tryz.prog 8 #[.agg #[.int .i64 ki, .int .i64 A, .int .i64 B, .bool back, .slice a n c]] w (Says w (.bool true)) := by
  go_enter Tryz.func8, Tryz.ntmps8
  go_wp2_with (go_at_call 22; refine (live_ok _).mono ?_; rintro y w1 ⟨rfl, hf⟩; have HF1 := Lib.hid hf; clear hf)
  refine forget (fun W => Hid (W.heap[w.heap.size]? = some (.cells #[.int .i64 ki, .int .i64 A, .int .i64 B, .bool back, .slice a n c] 53 (0, 0))) ∧ Hid (W.cell? ⟨w1.heap.size, 11, none⟩ = some (.pointer none)) ∧ Hid (W.heap[w1.heap.size + 1]? = some (.cells #[.pointer none, .pointer (some ⟨w1.heap.size, 0, none⟩)] 30 (0, 0))) ∧ Fr nob w W)
    ⟨(((Fr.refl nob w1).alloc _).alloc _).keep (HF1.out.keep (heap_alloc_new w _) (fun h => h)) (fun h => h), by rw [Hid, blk_cells ((heap_alloc_lt _ (by simp)).trans (heap_alloc_new _ _))]; rfl, by have := heap_alloc_new (w1.alloc (.cells #[.pointer none, .pointer none, .pointer none, .map none, .int .i64 0, .bool false, .int .i64 0, .int .i64 0, .int .i64 0, .int .i64 0, .bool false, .pointer none, .pointer none, .bool false, .bool false, .int .i64 0, .bool false, .pointer none, .pointer none, .pointer none, .map none, .int .i64 0, .bool false, .int .i64 0, .int .i64 0, .int .i64 0, .int .i64 0, .bool false, .int .i64 0, .bool false, .bool false, .bool false, .bool false, .slice none 0 0] 86)) (.cells #[.pointer none, .pointer (some ⟨w1.heap.size, 0, none⟩)] 30); rw [World.size_alloc] at this; exact this, (((((Fr.refl nob w).alloc _).then HF1.out).alloc _).alloc _)⟩ ?_
  rintro W0 ⟨HP, HZ, HO, hf0⟩
  have HF0 := Lib.hid hf0
  generalize w.heap.size = pb at *
  generalize w1.heap.size = z at *
  clear hf0 HF1
  have hcell : ∀ V, Fr nob W0 V → V.cell? ⟨pb, 1, none⟩ = some (.int .i64 A) ∧ V.cell? ⟨pb, 2, none⟩ = some (.int .i64 B) ∧ V.cell? ⟨pb, 3, none⟩ = some (.bool back) ∧ V.cell? ⟨pb, 4, none⟩ = some (.slice a n c) := fun V hV => by
    have g := blk_cells (hV.keep HP.out (fun h => h))
    exact ⟨by rw [g]; rfl, by rw [g]; rfl, by rw [g]; rfl, by rw [g]; rfl⟩
  have HC := Lib.hid hcell
  clear hcell HP
  go_loopw [4, 13] (fun _ ki V => ∃ k : Nat, k ≤ 2 ∧ ki = .int .i64 k ∧ Hid (Fr nob W0 V)) (fun _ ki _ => 2 - (intOf ki).toNat)
  case atStart => exact ⟨0, by omega, rfl, Fr.refl _ _⟩
  case round =>
    obtain ⟨k, hk, rfl, HF⟩ := hrel
    by_cases hkt : k < 2
    · obtain ⟨v, hv, hnv⟩ : ∃ v, (#[.pointer none, .pointer (some ⟨z, 0, none⟩)] : Array Value)[k]? = some v ∧ ∀ V, Fr nob W0 V → NoneAt V v := by
        rcases (by omega : k = 0 ∨ k = 1) with rfl | rfl
        · exact ⟨_, rfl, fun V _ => .inl rfl⟩
        · exact ⟨_, rfl, fun V hV => (show NoneAt W0 _ from .inr ⟨z, rfl, HZ.out⟩).stay hV⟩
      have hcv := (blk_cells (HF.out.keep HO.out (fun h => h)) k).trans hv
      have HNV := Lib.hid hnv
      obtain ⟨e1, e2, e3, e4⟩ := HC.out _ HF.out
      clear hv hnv
      go_wp2_with (first
          | (go_at_call 24; refine (no_begin _ _ (HNV.out _ HF.out)).mono ?_; rintro y w9 ⟨rfl, hf⟩; replace HF := Lib.hid (HF.out.then hf); clear hf; clear e1 e2 e3 e4; obtain ⟨e1, e2, e3, e4⟩ := HC.out _ HF.out)
          | (go_at_call 26; refine (no_end _ _ (HNV.out _ HF.out) _).mono ?_; rintro y w9 ⟨rfl, hf⟩; replace HF := Lib.hid (HF.out.then hf); clear hf; clear e1 e2 e3 e4; obtain ⟨e1, e2, e3, e4⟩ := HC.out _ HF.out)
          | (go_at_call 40; refine (no_type _ _ (HNV.out _ HF.out) _ _ _).mono ?_; rintro y w9 ⟨rfl, hf⟩; replace HF := Lib.hid (HF.out.then hf); clear hf; clear e1 e2 e3 e4; obtain ⟨e1, e2, e3, e4⟩ := HC.out _ HF.out)
          | (go_at_call 41; refine (no_kill _ _ (HNV.out _ HF.out) _ _ _).mono ?_; rintro y w9 ⟨rfl, hf⟩; replace HF := Lib.hid (HF.out.then hf); clear hf; clear e1 e2 e3 e4; obtain ⟨e1, e2, e3, e4⟩ := HC.out _ HF.out)
          | (go_at_call 42; refine (no_yank _ _ (HNV.out _ HF.out)).mono ?_; rintro y w9 ⟨rfl, hf⟩; replace HF := Lib.hid (HF.out.then hf); clear hf; clear e1 e2 e3 e4; obtain ⟨e1, e2, e3, e4⟩ := HC.out _ HF.out)
          | (go_at_call 43; refine (no_pop _ _ (HNV.out _ HF.out) _).mono ?_; rintro y w9 ⟨rfl, hf⟩; replace HF := Lib.hid (HF.out.then hf); clear hf; clear e1 e2 e3 e4; obtain ⟨e1, e2, e3, e4⟩ := HC.out _ HF.out)
          | (go_at_call 44; refine (no_move _ _ (HNV.out _ HF.out) _).mono ?_; rintro y w9 ⟨rfl, hf⟩; replace HF := Lib.hid (HF.out.then hf); clear hf; clear e1 e2 e3 e4; obtain ⟨e1, e2, e3, e4⟩ := HC.out _ HF.out)
          | (go_at_call 28; refine (no_undo _ _ (HNV.out _ HF.out)).mono ?_; rintro y w9 ⟨rfl, hf⟩; replace HF := Lib.hid (HF.out.then hf); clear hf; clear e1 e2 e3 e4; obtain ⟨e1, e2, e3, e4⟩ := HC.out _ HF.out)
          | (go_at_call 45; refine (no_goto _ _ (HNV.out _ HF.out) _).mono ?_; rintro y w9 ⟨rfl, hf⟩; replace HF := Lib.hid (HF.out.then hf); clear hf; clear e1 e2 e3 e4; obtain ⟨e1, e2, e3, e4⟩ := HC.out _ HF.out)
          | (go_at_call 46; refine (no_digit _ _ (HNV.out _ HF.out) _).mono ?_; rintro y w9 ⟨rfl, hf⟩; replace HF := Lib.hid (HF.out.then hf); clear hf; clear e1 e2 e3 e4; obtain ⟨e1, e2, e3, e4⟩ := HC.out _ HF.out)
          | (go_at_call 47; refine (no_setMode _ _ (HNV.out _ HF.out) _).mono ?_; rintro y w9 ⟨rfl, hf⟩; replace HF := Lib.hid (HF.out.then hf); clear hf; clear e1 e2 e3 e4; obtain ⟨e1, e2, e3, e4⟩ := HC.out _ HF.out)
          | (go_at_call 48; refine (no_finish _ _ (HNV.out _ HF.out) _).mono ?_; rintro y w9 ⟨rfl, hf⟩; replace HF := Lib.hid (HF.out.then hf); clear hf; clear e1 e2 e3 e4; obtain ⟨e1, e2, e3, e4⟩ := HC.out _ HF.out)
          | (go_at_call 49; refine (no_count _ _ (HNV.out _ HF.out)).mono ?_; rintro y w9 ⟨rfl, hf⟩; replace HF := Lib.hid (HF.out.then hf); clear hf; clear e1 e2 e3 e4; obtain ⟨e1, e2, e3, e4⟩ := HC.out _ HF.out)
          | (go_at_call 50; refine (no_given _ _ (HNV.out _ HF.out)).mono ?_; rintro y w9 ⟨rfl, hf⟩; replace HF := Lib.hid (HF.out.then hf); clear hf; clear e1 e2 e3 e4; obtain ⟨e1, e2, e3, e4⟩ := HC.out _ HF.out)
          | (go_at_call 51; refine (no_kills _ _ (HNV.out _ HF.out)).mono ?_; rintro y w9 ⟨rfl, hf⟩; replace HF := Lib.hid (HF.out.then hf); clear hf; clear e1 e2 e3 e4; obtain ⟨e1, e2, e3, e4⟩ := HC.out _ HF.out)
          | (go_at_call 27; refine (no_state _ _ (HNV.out _ HF.out)).mono ?_; rintro y w9 ⟨rfl, hf⟩; replace HF := Lib.hid (HF.out.then hf); clear hf; unfold zeroState)
          | (go_at_call 52; refine (no_history _ _ (HNV.out _ HF.out)).mono ?_; rintro y w9 ⟨rfl, hf⟩; replace HF := Lib.hid (HF.out.then hf); clear hf; clear e1 e2 e3 e4; obtain ⟨e1, e2, e3, e4⟩ := HC.out _ HF.out)
          | (go_at_call 53; refine (no_clone _ _ (HNV.out _ HF.out)).mono ?_; rintro y w9 ⟨rfl, hf⟩; replace HF := Lib.hid (HF.out.then hf); clear hf; clear e1 e2 e3 e4; obtain ⟨e1, e2, e3, e4⟩ := HC.out _ HF.out)
          | (go_at_call 23; refine (no_start _ _ (HNV.out _ HF.out) _ _ _ _).mono ?_; rintro y w9 ⟨rfl, hf⟩; replace HF := Lib.hid (HF.out.then hf); clear hf; clear e1 e2 e3 e4; obtain ⟨e1, e2, e3, e4⟩ := HC.out _ HF.out)
          | (go_at_call 38; refine (show Calls _ _ #[.agg _, .agg _] _ _ from same17_zero _).mono ?_; rintro y w9 ⟨rfl, hf⟩; replace HF := Lib.hid (HF.out.then hf); clear hf; clear e1 e2 e3 e4; obtain ⟨e1, e2, e3, e4⟩ := HC.out _ HF.out))
      go_roundw
      case rel => exact ⟨k + 1, by omega, by go_num, HF.out⟩
      case measure => simp [intOf]; omega
    · obtain rfl : k = 2 := by omega
      go_wp2_with (go_at_call 21; refine (new_nil _).mono ?_; rintro y w9 ⟨rfl, hf⟩; replace HF := Lib.hid (HF.out.then hf); clear hf)
      go_ret
      exact ⟨rfl, HF0.out.then HF.out⟩
end Go.Proofs.YtbhklkolkclflaaGreatDoor
