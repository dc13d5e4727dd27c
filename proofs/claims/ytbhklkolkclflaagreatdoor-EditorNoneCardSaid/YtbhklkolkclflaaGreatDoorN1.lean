/- Package editor: an editor that no call made. -/
import Derived.Test.YtbhklkolkclflaaGreatDoorG3
namespace Go.Proofs.YtbhklkolkclflaaGreatDoor
open Go.RowKit

/-- No call made it. -/
def NoneAt (w : World) (v : Value) : Prop := v = .pointer none ∨ ∃ z, v = .pointer (some ⟨z, 0, none⟩) ∧ w.cell? ⟨z, 11, none⟩ = some (.pointer none)
/-- What a call on it answers. -/
def Says (w : World) (r : Value) (x : Ending) (w' : World) : Prop := x = .returned r ∧ Fr nob w w'

theorem NoneAt.stay {w w' : World} {v : Value} (h : NoneAt w v) (hf : Fr nob w w') : NoneAt w' v := by
  rcases h with h | ⟨z, h1, h2⟩
  · exact .inl h
  · refine .inr ⟨z, h1, ?_⟩
    have hb : z < w.heap.size := by
      rcases Nat.lt_or_ge z w.heap.size with h3 | h3
      · exact h3
      · simp [World.cell?, Array.getElem?_eq_none h3] at h2
    rw [World.cell?_of_block (w := w) (a := ⟨z, 11, none⟩) (hf.blk z hb (fun h => h))]
    exact h2
theorem no_none (w : World) (v : Value) (hv : NoneAt w v) : Calls Tryz.prog 81 #[v] w fun x w' => x = .returned (.bool true) ∧ w' = w := by
  rcases hv with rfl | ⟨z, rfl, hc⟩
  all_goals go_enter Tryz.func81, Tryz.ntmps81
  all_goals go_wp2
  all_goals go_ret
  all_goals exact ⟨rfl, rfl⟩
theorem no_part (w : World) (v : Value) (hv : NoneAt w v) : Calls Tryz.prog 88 #[v] w fun x w' => x = .returned (.int .i64 2) ∧ w' = w := by
  have HN := Lib.hid (no_none w v hv)
  clear hv
  go_enter Tryz.func88, Tryz.ntmps88
  go_wp2_with (go_at_call 81; refine (HN.out).mono ?_; rintro y w' ⟨rfl, rfl⟩)
  go_ret
  exact ⟨rfl, rfl⟩
set_option maxRecDepth 10000 in
theorem no_begin (w : World) (v : Value) (hv : NoneAt w v) : Calls Tryz.prog 24 #[v] w (Says w (.int .i64 2)) := by
  have HN := Lib.hid (no_none w v hv)
  clear hv
  go_enter Tryz.func24, Tryz.ntmps24
  go_wp2_with (go_at_call 81; refine (HN.out).mono ?_; rintro y w' ⟨rfl, rfl⟩)
  go_ret
  exact ⟨rfl, Fr.refl _ _⟩
set_option maxRecDepth 10000 in
theorem no_end (w : World) (v : Value) (hv : NoneAt w v) (x : Int) : Calls Tryz.prog 26 #[v, .int .i64 x] w (Says w (.int .i64 2)) := by
  have HN := Lib.hid (no_part w v hv)
  clear hv
  go_enter Tryz.func26, Tryz.ntmps26
  go_wp2_with (go_at_call 88; refine (HN.out).mono ?_; rintro y w' ⟨rfl, rfl⟩)
  go_ret
  exact ⟨rfl, Fr.refl _ _⟩
set_option maxRecDepth 10000 in
theorem no_type (w : World) (v : Value) (hv : NoneAt w v) (a : Option Addr) (n c : Nat) : Calls Tryz.prog 40 #[v, .slice a n c] w (Says w (.int .i64 2)) := by
  have HN := Lib.hid (no_part w v hv)
  clear hv
  go_enter Tryz.func40, Tryz.ntmps40
  go_wp2_with (go_at_call 88; refine (HN.out).mono ?_; rintro y w' ⟨rfl, rfl⟩)
  go_ret
  exact ⟨rfl, Fr.refl _ _⟩
set_option maxRecDepth 10000 in
theorem no_copy (w : World) (v : Value) (hv : NoneAt w v) (f t : Int) (b : Bool) : Calls Tryz.prog 85 #[v, .int .i64 f, .int .i64 t, .bool b] w (Says w (.int .i64 2)) := by
  have HN := Lib.hid (no_part w v hv)
  clear hv
  go_enter Tryz.func85, Tryz.ntmps85
  go_wp2_with (go_at_call 88; refine (HN.out).mono ?_; rintro y w' ⟨rfl, rfl⟩)
  go_ret
  exact ⟨rfl, Fr.refl _ _⟩
set_option maxRecDepth 10000 in
theorem no_kill (w : World) (v : Value) (hv : NoneAt w v) (f t : Int) (b : Bool) : Calls Tryz.prog 41 #[v, .int .i64 f, .int .i64 t, .bool b] w (Says w (.int .i64 2)) := by
  have HN := Lib.hid (no_copy w v hv f t b)
  clear hv
  go_enter Tryz.func41, Tryz.ntmps41
  go_wp2_with (go_at_call 85; refine (HN.out).mono ?_; rintro y w' ⟨rfl, hf⟩; have HF := Lib.hid hf; clear hf)
  go_ret
  exact ⟨rfl, HF.out⟩
set_option maxRecDepth 10000 in
theorem no_yank (w : World) (v : Value) (hv : NoneAt w v) : Calls Tryz.prog 42 #[v] w (Says w (.int .i64 2)) := by
  have HN := Lib.hid (no_part w v hv)
  clear hv
  go_enter Tryz.func42, Tryz.ntmps42
  go_wp2_with (go_at_call 88; refine (HN.out).mono ?_; rintro y w' ⟨rfl, rfl⟩)
  go_ret
  exact ⟨rfl, Fr.refl _ _⟩
set_option maxRecDepth 10000 in
theorem no_undo (w : World) (v : Value) (hv : NoneAt w v) : Calls Tryz.prog 28 #[v] w (Says w (.int .i64 2)) := by
  have HN := Lib.hid (no_part w v hv)
  clear hv
  go_enter Tryz.func28, Tryz.ntmps28
  go_wp2_with (go_at_call 88; refine (HN.out).mono ?_; rintro y w' ⟨rfl, rfl⟩)
  go_ret
  exact ⟨rfl, Fr.refl _ _⟩
set_option maxRecDepth 10000 in
theorem no_pop (w : World) (v : Value) (hv : NoneAt w v) (x : Int) : Calls Tryz.prog 43 #[v, .int .i64 x] w (Says w (.int .i64 2)) := by
  have HN := Lib.hid (no_part w v hv)
  clear hv
  go_enter Tryz.func43, Tryz.ntmps43
  go_wp2_with (go_at_call 88; refine (HN.out).mono ?_; rintro y w' ⟨rfl, rfl⟩)
  go_ret
  exact ⟨rfl, Fr.refl _ _⟩
set_option maxRecDepth 10000 in
theorem no_move (w : World) (v : Value) (hv : NoneAt w v) (x : Int) : Calls Tryz.prog 44 #[v, .int .i64 x] w (Says w (.int .i64 2)) := by
  have HN := Lib.hid (no_part w v hv)
  clear hv
  go_enter Tryz.func44, Tryz.ntmps44
  go_wp2_with (go_at_call 88; refine (HN.out).mono ?_; rintro y w' ⟨rfl, rfl⟩)
  go_ret
  exact ⟨rfl, Fr.refl _ _⟩
set_option maxRecDepth 10000 in
theorem no_goto (w : World) (v : Value) (hv : NoneAt w v) (x : Int) : Calls Tryz.prog 45 #[v, .int .i64 x] w (Says w (.int .i64 2)) := by
  have HN := Lib.hid (no_part w v hv)
  clear hv
  go_enter Tryz.func45, Tryz.ntmps45
  go_wp2_with (go_at_call 88; refine (HN.out).mono ?_; rintro y w' ⟨rfl, rfl⟩)
  go_ret
  exact ⟨rfl, Fr.refl _ _⟩
set_option maxRecDepth 10000 in
theorem no_digit (w : World) (v : Value) (hv : NoneAt w v) (x : Int) : Calls Tryz.prog 46 #[v, .int .i64 x] w (Says w (.int .i64 2)) := by
  have HN := Lib.hid (no_part w v hv)
  clear hv
  go_enter Tryz.func46, Tryz.ntmps46
  go_wp2_with (go_at_call 88; refine (HN.out).mono ?_; rintro y w' ⟨rfl, rfl⟩)
  go_ret
  exact ⟨rfl, Fr.refl _ _⟩
set_option maxRecDepth 10000 in
theorem no_setMode (w : World) (v : Value) (hv : NoneAt w v) (x : Int) : Calls Tryz.prog 47 #[v, .int .i64 x] w (Says w (.int .i64 2)) := by
  have HN := Lib.hid (no_part w v hv)
  clear hv
  go_enter Tryz.func47, Tryz.ntmps47
  go_wp2_with (go_at_call 88; refine (HN.out).mono ?_; rintro y w' ⟨rfl, rfl⟩)
  go_ret
  exact ⟨rfl, Fr.refl _ _⟩
set_option maxRecDepth 10000 in
theorem no_finish (w : World) (v : Value) (hv : NoneAt w v) (x : Int) : Calls Tryz.prog 48 #[v, .int .i64 x] w (Says w (.int .i64 2)) := by
  have HN := Lib.hid (no_part w v hv)
  clear hv
  go_enter Tryz.func48, Tryz.ntmps48
  go_wp2_with (go_at_call 88; refine (HN.out).mono ?_; rintro y w' ⟨rfl, rfl⟩)
  go_ret
  exact ⟨rfl, Fr.refl _ _⟩
set_option maxRecDepth 10000 in
theorem no_count (w : World) (v : Value) (hv : NoneAt w v) : Calls Tryz.prog 49 #[v] w (Says w (.int .i64 0)) := by
  have HN := Lib.hid (no_none w v hv)
  clear hv
  go_enter Tryz.func49, Tryz.ntmps49
  go_wp2_with (go_at_call 81; refine (HN.out).mono ?_; rintro y w' ⟨rfl, rfl⟩)
  go_ret
  exact ⟨rfl, Fr.refl _ _⟩
set_option maxRecDepth 10000 in
theorem no_given (w : World) (v : Value) (hv : NoneAt w v) : Calls Tryz.prog 50 #[v] w (Says w (.bool false)) := by
  have HN := Lib.hid (no_none w v hv)
  clear hv
  go_enter Tryz.func50, Tryz.ntmps50
  go_wp2_with (go_at_call 81; refine (HN.out).mono ?_; rintro y w' ⟨rfl, rfl⟩)
  go_ret
  exact ⟨rfl, Fr.refl _ _⟩
set_option maxRecDepth 10000 in
theorem no_kills (w : World) (v : Value) (hv : NoneAt w v) : Calls Tryz.prog 51 #[v] w (Says w (.slice none 0 0)) := by
  have HN := Lib.hid (no_none w v hv)
  clear hv
  go_enter Tryz.func51, Tryz.ntmps51
  go_wp2_with (go_at_call 81; refine (HN.out).mono ?_; rintro y w' ⟨rfl, rfl⟩)
  go_ret
  exact ⟨rfl, Fr.refl _ _⟩
set_option maxRecDepth 10000 in
theorem no_history (w : World) (v : Value) (hv : NoneAt w v) : Calls Tryz.prog 52 #[v] w (Says w (.pointer none)) := by
  have HN := Lib.hid (no_none w v hv)
  clear hv
  go_enter Tryz.func52, Tryz.ntmps52
  go_wp2_with (go_at_call 81; refine (HN.out).mono ?_; rintro y w' ⟨rfl, rfl⟩)
  go_ret
  exact ⟨rfl, Fr.refl _ _⟩
set_option maxRecDepth 10000 in
theorem no_clone (w : World) (v : Value) (hv : NoneAt w v) : Calls Tryz.prog 53 #[v] w (Says w (.pointer none)) := by
  have HN := Lib.hid (no_none w v hv)
  clear hv
  go_enter Tryz.func53, Tryz.ntmps53
  go_wp2_with (go_at_call 81; refine (HN.out).mono ?_; rintro y w' ⟨rfl, rfl⟩)
  go_ret
  exact ⟨rfl, Fr.refl _ _⟩
set_option maxRecDepth 10000 in
theorem no_start (w : World) (v : Value) (hv : NoneAt w v) (h : Value) (a : Option Addr) (n c : Nat) : Calls Tryz.prog 23 #[v, h, .slice a n c] w (Says w (.int .i64 2)) := by
  have HN := Lib.hid (no_none w v hv)
  clear hv
  go_enter Tryz.func23, Tryz.ntmps23
  go_wp2_with (go_at_call 81; refine (HN.out).mono ?_; rintro y w' ⟨rfl, rfl⟩)
  go_ret
  exact ⟨rfl, Fr.refl _ _⟩
/-- A state of nothing. -/
def zeroState : Value := .agg #[.slice none 0 0, .int .i64 0, .int .i64 0, .int .i64 0, .bool false, .bool false, .bool false, .int .i64 0, .int .i64 0, .int .i64 0, .int .i64 0, .slice none 0 0, .int .i64 0, .slice none 0 0, .int .i64 0, .int .i64 0, .int .i64 0]
set_option maxRecDepth 10000 in
theorem no_line (w : World) (v : Value) (hv : NoneAt w v) : Calls Tryz.prog 31 #[v] w (Says w (.agg #[.slice none 0 0, .int .i64 0, .int .i64 0])) := by
  have HN := Lib.hid (fun V (hV : Fr nob w V) => no_none V v (hv.stay hV))
  clear hv
  go_enter Tryz.func31, Tryz.ntmps31
  go_wp2_with (go_at_call 81; refine (HN.out _ ((Fr.refl _ _).alloc _)).mono ?_; rintro y w' ⟨rfl, rfl⟩)
  exact bodyPost_ret (v := .agg #[.slice none 0 0, .int .i64 0, .int .i64 0]) (by simp [results, Tryz.results31, go_sem]) rfl ⟨rfl, (Fr.refl nob w).alloc _⟩
theorem Tryz.struct_stateN : isStruct Tryz.prog 60 = true ∧ (Tryz.prog.info? 60).map (·.size) = some 17 := ⟨by kernel_rfl, by kernel_rfl⟩
set_option maxRecDepth 10000 in
theorem no_state (w : World) (v : Value) (hv : NoneAt w v) : Calls Tryz.prog 27 #[v] w (Says w zeroState) := by
  have HN := Lib.hid (fun V (hV : Fr nob w V) => no_none V v (hv.stay hV))
  obtain ⟨fs, hfs⟩ := isStruct_desc Tryz.struct_stateN.1
  have HFS := Lib.hid hfs
  have HSZ := Lib.hid Tryz.struct_stateN.2
  clear hv hfs
  go_enter Tryz.func27, Tryz.ntmps27
  go_wp2_with (first
    | (go_at_call 81; refine (HN.out _ ((Fr.refl _ _).alloc _)).mono ?_; rintro y w' ⟨rfl, rfl⟩)
    | (refine wpList_store_row rfl 60 (.tmp 2) (.tmp 6) rfl w.heap.size #[.slice none 0 0, .int .i64 0, .int .i64 0, .int .i64 0, .bool false, .bool false, .bool false, .int .i64 0, .int .i64 0, .int .i64 0, .int .i64 0, .slice none 0 0, .int .i64 0, .slice none 0 0, .int .i64 0, .int .i64 0, .int .i64 0] rfl rfl 60 #[.slice none 0 0, .int .i64 0, .int .i64 0, .int .i64 0, .bool false, .bool false, .bool false, .int .i64 0, .int .i64 0, .int .i64 0, .int .i64 0, .slice none 0 0, .int .i64 0, .slice none 0 0, .int .i64 0, .int .i64 0, .int .i64 0] (heap_alloc_new _ _) HSZ.out rfl rfl ?_; skip))
  exact bodyPost_ret (results_cell_row rfl _ _ w.heap.size 60 #[.slice none 0 0, .int .i64 0, .int .i64 0, .int .i64 0, .bool false, .bool false, .bool false, .int .i64 0, .int .i64 0, .int .i64 0, .int .i64 0, .slice none 0 0, .int .i64 0, .slice none 0 0, .int .i64 0, .int .i64 0, .int .i64 0] (0, 0) (.struct fs) rfl (heap_alloc_new _ _) HFS.out rfl HSZ.out) rfl ⟨rfl, (Fr.refl nob w).alloc _⟩
end Go.Proofs.YtbhklkolkclflaaGreatDoor
