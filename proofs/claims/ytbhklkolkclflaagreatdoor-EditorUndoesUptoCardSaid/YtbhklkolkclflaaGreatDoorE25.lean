/- Package editor: End, where the command failed. -/
import Derived.Test.YtbhklkolkclflaaGreatDoorG7
namespace Go.Proofs.YtbhklkolkclflaaGreatDoor
open Go.RowKit

/-- A command that failed has changed nothing, but that the bell rang. -/
def EdState.endErr (S : EdState) : EdState :=
  { S with core := { S.was with last := 0, yf := 0, yt := 0 }, f := { S.f with inn := false, given := false, minus := false, arg := -1 }, bells := S.bells + 1, put := [] }

/-- What is written till the core is what it was. -/
def errSets (b2 r2 k2 um2 : Nat) (C : CoreS) : List (Nat × Value) :=
  [(16, .bool false), (13, .bool false), (14, .bool false), (15, .int .i64 (-1)), (0, .pointer (some ⟨b2, 0, none⟩)), (1, .pointer (some ⟨r2, 0, none⟩)), (2, .pointer (some ⟨k2, 0, none⟩)), (3, .map (some um2)), (4, .int .i64 C.mode), (5, .bool C.over), (6, .int .i64 C.last), (7, .int .i64 C.yf), (8, .int .i64 C.yt), (9, .int .i64 C.res), (10, .bool C.run)]
def EdF.shut (f : EdF) : EdF := { f with inn := false, given := false, minus := false, arg := -1 }
set_option maxRecDepth 10000 in
theorem err_arr (b r k um h bl b2 r2 k2 um2 : Nat) (C C2 : CoreS) (f : EdF) (was : Nat → Value) (put : Value) :
    (errSets b2 r2 k2 um2 C2).foldl (fun c x => c.setIfInBounds x.1 x.2) (edArr b r k um C h bl f was put) = edArr b2 r2 k2 um2 C2 h bl f.shut was put := by
  simp [errSets, edArr, EdF.shut]

theorem err_end {w W W1 X : World} {κ : Col} {i e b r k tm um h bl b2 r2 k2 tm2 um2 : Nat} {was : Nat → Value} {putv : Value} {S : EdState} {err : Int} (x : EdAt w κ i e b r k tm um h bl was putv S) (hc : CoreAt w κ (3 - i) b2 r2 k2 tm2 um2 S.was)
    (hB : W.heap[e]? = some (.cells (edArr b2 r2 k2 um2 S.was h bl S.f.shut was putv) 86 (0, 0))) (hfW : Fr (one e) w W) (hb1 : W1.heap[bl]? = some (.cells #[.int .i64 (S.bells + 1)] 150 (0, 0))) (hf1 : Fr (one bl) W W1) (hbe : bl ≠ e)
    (hX : X = (((W1.setCell ⟨e, 6, none⟩ (.int .i64 0)).setCell ⟨e, 7, none⟩ (.int .i64 0)).setCell ⟨e, 8, none⟩ (.int .i64 0)).setCell ⟨e, 33, none⟩ (.slice none 0 0)) :
    EdDone w κ e (.int .i64 err) S.endErr (.returned (.int .i64 err)) X := by
  subst hX
  have hb := hf1.keep hB (fun h => hbe h.symm)
  have hbX := heap_setCell_same (o := 33) (heap_setCell_same (o := 8) (heap_setCell_same (o := 7) (heap_setCell_same (o := 6) hb (.int .i64 0)) (.int .i64 0)) (.int .i64 0)) (.slice none 0 0)
  have hfe : Fr (one e) W1 ((((W1.setCell ⟨e, 6, none⟩ (.int .i64 0)).setCell ⟨e, 7, none⟩ (.int .i64 0)).setCell ⟨e, 8, none⟩ (.int .i64 0)).setCell ⟨e, 33, none⟩ (.slice none 0 0)) := ((((Fr.refl _ _).setOne _ _).setOne _ _).setOne _ _).setOne _ _
  have hblX := hfe.keep hb1 (fun h => hbe h)
  have hf : Fr (fun y => y = e ∨ y = bl) w ((((W1.setCell ⟨e, 6, none⟩ (.int .i64 0)).setCell ⟨e, 7, none⟩ (.int .i64 0)).setCell ⟨e, 8, none⟩ (.int .i64 0)).setCell ⟨e, 33, none⟩ (.slice none 0 0)) :=
    ((hfW.mono (fun y _ hy => .inl hy)).trans hf1 (fun y _ hy => .inr hy)).trans hfe (fun y _ hy => .inl hy)
  generalize ((((W1.setCell ⟨e, 6, none⟩ (.int .i64 0)).setCell ⟨e, 7, none⟩ (.int .i64 0)).setCell ⟨e, 8, none⟩ (.int .i64 0)).setCell ⟨e, 33, none⟩ (.slice none 0 0)) = X at *
  have hci := x.ci
  have hcol : ∀ y, (y = e ∨ y = bl) → κ y = (3, 0) ∨ κ y = (3, 2) := fun y hy => hy.elim (fun h => .inl (h ▸ x.ce)) (fun h => .inr (h ▸ x.rest.cb))
  have hnr : NR w (fun y => y = e ∨ y = bl) := fun y c fr hq hy => by
    rcases hy with rfl | rfl
    · rw [show w.heap[y]? = _ from x.blk] at hq
      injection hq with hq
      injection hq with _ hq _
      exact absurd hq (by decide)
    · rw [show w.heap[y]? = _ from x.rest.bells] at hq
      injection hq with hq
      injection hq with _ hq _
      exact absurd hq (by decide)
  have hn3 : ∀ j, j ≠ 3 → ∀ y, (y = e ∨ y = bl) → y < w.heap.size → (κ y).1 ≠ j := fun j hj y hy _ h0 => by
    rcases hcol y hy with h1 | h1 <;> (rw [h1] at h0; exact hj h0.symm)
  refine ⟨rfl, κ, ⟨3 - i, b2, r2, k2, tm2, um2, h, bl, was, .slice none 0 0, by omega, x.ce, hbX, ?_, ⟨?_, x.rest.cb, hblX, EdS.none _, fun z ⟨_, _, _, h, _⟩ => by cases h⟩, x.wone, fun h => by cases h⟩, fun _ _ => rfl, edM.of hf hnr (fun y _ hy h0 => by rcases hcol y hy with h1 | h1 <;> (rw [h1] at h0; cases h0))⟩
  · have h7 := hc.stay hf hnr (hn3 (3 - i) (by omega)) (fun _ _ => rfl)
    exact ⟨h7.cb, h7.buf, h7.cr, h7.ring, h7.ck, h7.walk, h7.ct, h7.texts, h7.cu, h7.undos⟩
  · exact x.rest.hist.stay hf (fun y hy hM => by rcases hcol y hM with h1 | h1 <;> (rw [h1] at hy; cases hy))

set_option maxRecDepth 10000 in
set_option maxHeartbeats 2000000 in
theorem ed_end_err (w : World) (κ : Col) (i e b r k tm um h bl : Nat) (was : Nat → Value) (putv : Value) (S : EdState) (x : EdAt w κ i e b r k tm um h bl was putv S) (hin : S.f.inn = true) (err : Int) (herr : err ≠ 0) (hb0 : 0 ≤ S.bells) (hb1 : S.bells < 9223372036854775807) :
    Calls Tryz.prog 26 #[.pointer (some ⟨e, 0, none⟩), .int .i64 err] w (EdDone w κ e (.int .i64 err) S.endErr) := by
  have hpt := ed_part w e b r k um S.core h bl S.f was putv x.blk
  rw [if_pos hin] at hpt
  have HPT := Lib.hid hpt
  have HX := Lib.hid x
  have hce := blk_cells x.blk
  have hze := blk_free x.blk
  have hle := blk_lt x.blk
  have hbe : bl ≠ e := fun h0 => by
    have h1 := x.ce
    rw [← h0, x.rest.cb] at h1
    injection h1 with _ h1
    exact absurd h1 (by decide)
  have HBL := Lib.hid x.rest.bells
  have HIN := Lib.hid hin
  obtain ⟨b2, r2, k2, tm2, um2, h6, h7⟩ := x.inn hin
  have HC2 := Lib.hid h7
  have H6 := Lib.hid h6
  have q0 : was 0 = .pointer (some ⟨b2, 0, none⟩) := by have := h6 0 (by decide); simpa [coreCells] using this.symm
  have q1 : was 1 = .pointer (some ⟨r2, 0, none⟩) := by have := h6 1 (by decide); simpa [coreCells] using this.symm
  have q2 : was 2 = .pointer (some ⟨k2, 0, none⟩) := by have := h6 2 (by decide); simpa [coreCells] using this.symm
  have q3 : was 3 = .map (some um2) := by have := h6 3 (by decide); simpa [coreCells] using this.symm
  have q4 : was 4 = .int .i64 S.was.mode := by have := h6 4 (by decide); simpa [coreCells] using this.symm
  have q5 : was 5 = .bool S.was.over := by have := h6 5 (by decide); simpa [coreCells] using this.symm
  have q6 : was 6 = .int .i64 S.was.last := by have := h6 6 (by decide); simpa [coreCells] using this.symm
  have q7 : was 7 = .int .i64 S.was.yf := by have := h6 7 (by decide); simpa [coreCells] using this.symm
  have q8 : was 8 = .int .i64 S.was.yt := by have := h6 8 (by decide); simpa [coreCells] using this.symm
  have q9 : was 9 = .int .i64 S.was.res := by have := h6 9 (by decide); simpa [coreCells] using this.symm
  have q10 : was 10 = .bool S.was.run := by have := h6 10 (by decide); simpa [coreCells] using this.symm
  have i1 : (err != 0) = true := by simp [herr]
  unfold edArr at hce
  rw [q0, q1, q2, q3, q4, q5, q6, q7, q8, q9, q10] at hce
  clear x hin hpt h6 h7 q0 q1 q2 q3 q4 q5 q6 q7 q8 q9 q10
  cases ha : S.f.argues
  all_goals rw [ha] at hce
  all_goals have HA := Lib.hid ha
  all_goals clear ha
  all_goals go_enter Tryz.func26, Tryz.ntmps26
  all_goals go_wp2_with (go_at_call 88; refine (HPT.out).mono ?_; rintro y w' ⟨rfl, rfl⟩)
  all_goals refine forgetC (fun W => Hid (W.heap[e]? = some (.cells (edArr b2 r2 k2 um2 S.was h bl S.f.shut was putv) 86 (0, 0))) ∧ Fr (one e) w' W) ⟨by
      have hs := sets_blk (errSets b2 r2 k2 um2 S.was) w' _ HX.out.blk
      rw [err_arr] at hs
      exact hs, sets_fr (e := e) (errSets b2 r2 k2 um2 S.was) w' w' (Fr.refl _ _)⟩ ?_
  all_goals rintro W ⟨HW, hfW⟩
  all_goals refine (atomic_add W bl S.bells 1 (hfW.keep HBL.out hbe) (by omega) (by omega)).mono ?_
  all_goals rintro y W1 ⟨rfl, hb1, hf1⟩
  all_goals have hcW := blk_cells (hf1.keep HW.out (fun h => hbe h.symm))
  all_goals have hzW := blk_free (hf1.keep HW.out (fun h => hbe h.symm))
  all_goals have hlW := blk_lt (hf1.keep HW.out (fun h => hbe h.symm))
  all_goals have HB1 := Lib.hid hb1
  all_goals have HF1 := Lib.hid hf1
  all_goals have HFW := Lib.hid hfW
  all_goals unfold edArr at hcW
  all_goals clear hb1 hf1 hfW hce hze hle HPT
  all_goals go_wp2
  all_goals go_ret
  all_goals exact err_end HX.out HC2.out HW.out HFW.out HB1.out HF1.out hbe rfl
end Go.Proofs.YtbhklkolkclflaaGreatDoor
