/- Package editor: End. -/
import Derived.Test.YtbhklkolkclflaaE12
import Derived.Test.YtbhklkolkclflaaA1
namespace Go.Proofs.Ytbhklkolkclflaa
open Go.RowKit

/-- A command ends: the first part. -/
def EdState.endA (S : EdState) : EdState := if S.f.argues = true then { S with f := { S.f with inn := false } } else { S with f := { S.f with inn := false, given := false, minus := false, arg := -1 } }
/-- Only what is typed. -/
def EdState.types (S : EdState) : Bool := decide (S.f.cls = 3) && S.f.whole
def EdState.endB (S : EdState) (S3 : EdState) : EdState :=
  { S3 with core := { S3.core with run := S.types && (decide (S.put ≠ []) || S.core.run), last := S.f.cls, yf := if S.f.cls = 2 then S.core.yf else 0, yt := if S.f.cls = 2 then S.core.yt else 0 } }
def EdState.endOk (S : EdState) : EdState := S.endB (S.endA.flushed (S.types && S.core.run))

theorem EdState.endA_core (S : EdState) : S.endA.core = S.core := by unfold EdState.endA; split <;> rfl
theorem EdState.endA_put (S : EdState) : S.endA.put = S.put := by unfold EdState.endA; split <;> rfl
theorem EdState.endA_inn (S : EdState) : S.endA.f.inn = false := by unfold EdState.endA; split <;> rfl
theorem EdState.endA_cls (S : EdState) : S.endA.f.cls = S.f.cls ∧ S.endA.f.whole = S.f.whole := by unfold EdState.endA; split <;> exact ⟨rfl, rfl⟩
theorem EdState.endA_ok {S : EdState} (h : EdsOk S) : EdsOk S.endA := by
  unfold EdState.endA
  split <;> exact ⟨h.lists, h.put, h.room, h.place⟩
theorem EdState.endA_lst (S : EdState) : S.endA.lst = S.lst := by
  unfold EdState.lst
  rw [EdState.endA_core]
theorem EdState.flushed_same (S : EdState) (on : Bool) : (S.flushed on).f = S.f ∧ (S.flushed on).core.yf = S.core.yf ∧ (S.flushed on).core.yt = S.core.yt ∧ (S.flushed on).core.run = S.core.run := by
  unfold EdState.flushed
  split <;> exact ⟨rfl, rfl, rfl, rfl⟩

/-- The first part: within no command; the argument. -/
theorem end_first {w w' : World} {κ : Col} {i e b r k tm um h bl : Nat} {was : Nat → Value} {putv : Value} {S : EdState} (x : EdAt w κ i e b r k tm um h bl was putv S) (hf : Fr (one e) w w')
    (hb : w'.heap[e]? = some (.cells (edArr b r k um S.core h bl S.endA.f was putv) 69 (0, 0))) : EdAt w' κ i e b r k tm um h bl was putv S.endA := by
  have hc := EdState.endA_core S
  refine EdAt.setE x.ci x.ce x.blk hf (by unfold EdBlk; rw [hc]; exact hb) (by rw [hc]; exact x.core) ?_ x.wone (fun hi => by rw [EdState.endA_inn] at hi; cases hi)
  unfold EdState.endA
  split <;> exact ⟨x.rest.hist, x.rest.cb, x.rest.bells, x.rest.put, x.rest.mp⟩

/-- The last part. -/
theorem end_last {w w1 W2 : World} {κ κ2 : Col} {i e b r k tm um h bl : Nat} {was : Nat → Value} {putv2 : Value} {S : EdState} (R : Bool) (hR : R = (S.types && (decide (S.put ≠ []) || S.core.run))) (hf1 : Fr (edM w κ) w w1) (hk : ∀ y, y < w1.heap.size → κ2 y = κ y) (hf2 : Fr (edM w1 κ) w1 W2)
    (x2 : EdAt W2 κ2 i e b r k tm um h bl was putv2 (S.endA.flushed (S.types && S.core.run))) :
    EdDone w κ e (.int .i64 0) S.endOk (.returned (.int .i64 0)) (if S.f.cls = 2 then (W2.setCell ⟨e, 10, none⟩ (.bool R)).setCell ⟨e, 6, none⟩ (.int .i64 S.f.cls)
      else (((W2.setCell ⟨e, 10, none⟩ (.bool R)).setCell ⟨e, 6, none⟩ (.int .i64 S.f.cls)).setCell ⟨e, 7, none⟩ (.int .i64 0)).setCell ⟨e, 8, none⟩ (.int .i64 0)) := by
  have hs := EdState.flushed_same S.endA (S.types && S.core.run)
  have hinn : (S.endA.flushed (S.types && S.core.run)).f.inn = false := by rw [hs.1, EdState.endA_inn]
  have hyf : (S.endA.flushed (S.types && S.core.run)).core.yf = S.core.yf := by rw [hs.2.1, EdState.endA_core]
  have hyt : (S.endA.flushed (S.types && S.core.run)).core.yt = S.core.yt := by rw [hs.2.2.1, EdState.endA_core]
  have hS : S.endOk = S.endB (S.endA.flushed (S.types && S.core.run)) := rfl
  rw [hS]
  generalize S.endA.flushed (S.types && S.core.run) = S3 at *
  have hb := x2.blk
  unfold EdBlk edArr at hb
  have hsz : w.heap.size ≤ w1.heap.size := hf1.size
  have hcore : CoreAt W2 κ2 i b r k tm um (S.endB S3).core := ⟨x2.core.cb, x2.core.buf, x2.core.cr, x2.core.ring, x2.core.ck, x2.core.walk, x2.core.ct, x2.core.texts, x2.core.cu, x2.core.undos⟩
  have hrest : EdRest W2 κ2 h bl putv2 (S.endB S3) := ⟨x2.rest.hist, x2.rest.cb, x2.rest.bells, x2.rest.put, x2.rest.mp⟩
  have hke : κ2 e ≠ (0, 0) := by rw [x2.ce]; decide
  have hnr : NR W2 (one e) := NR.one hb (by decide)
  have hk0 : ∀ y, y < w.heap.size → κ2 y = κ y := fun y hy => hk y (by omega)
  have fin : ∀ W4 : World, Fr (one e) W2 W4 → Fr (edM w κ) w W4 := fun W4 h4 =>
    edM.trans (edM.trans hf1 (fun _ _ => rfl) hf2) hk0 (edM.of h4 hnr (fun y _ hy => by cases hy; exact hke))
  subst hR
  split
  · rename_i h2
    have hf : Fr (one e) W2 ((W2.setCell ⟨e, 10, none⟩ (.bool (S.types && (decide (S.put ≠ []) || S.core.run)))).setCell ⟨e, 6, none⟩ (.int .i64 S.f.cls)) := ((Fr.refl _ _).setOne _ _).setOne _ _
    have hbb := heap_setCell_same (o := 6) (heap_setCell_same (o := 10) hb (.bool (S.types && (decide (S.put ≠ []) || S.core.run)))) (.int .i64 S.f.cls)
    refine ⟨rfl, κ2, (EdAt.setE x2.ci x2.ce hb hf (S' := S.endB S3) (was' := was) ?_ hcore hrest x2.wone (fun hi => absurd hi (by show ¬ S3.f.inn = true; rw [hinn]; simp))).rep, hk0, fin _ hf⟩
    unfold EdBlk edArr EdState.endB
    simp only [if_pos h2]
    rw [← hyf, ← hyt]
    exact hbb
  · rename_i h2
    have hf : Fr (one e) W2 ((((W2.setCell ⟨e, 10, none⟩ (.bool (S.types && (decide (S.put ≠ []) || S.core.run)))).setCell ⟨e, 6, none⟩ (.int .i64 S.f.cls)).setCell ⟨e, 7, none⟩ (.int .i64 0)).setCell ⟨e, 8, none⟩ (.int .i64 0)) := ((((Fr.refl _ _).setOne _ _).setOne _ _).setOne _ _).setOne _ _
    have hbb := heap_setCell_same (o := 8) (heap_setCell_same (o := 7) (heap_setCell_same (o := 6) (heap_setCell_same (o := 10) hb (.bool (S.types && (decide (S.put ≠ []) || S.core.run)))) (.int .i64 S.f.cls)) (.int .i64 0)) (.int .i64 0)
    refine ⟨rfl, κ2, (EdAt.setE x2.ci x2.ce hb hf (S' := S.endB S3) (was' := was) ?_ hcore hrest x2.wone (fun hi => absurd hi (by show ¬ S3.f.inn = true; rw [hinn]; simp))).rep, hk0, fin _ hf⟩
    unfold EdBlk edArr EdState.endB
    simp only [if_neg h2]
    exact hbb

/-- The cells that the last part reads and writes. -/
theorem end_cells {V : World} {κ2 : Col} {i e b r k tm um h bl : Nat} {was : Nat → Value} {putv2 : Value} {S : EdState} {on : Bool} (hx : EdAt V κ2 i e b r k tm um h bl was putv2 (S.endA.flushed on)) :
    V.cell? ⟨e, 10, none⟩ = some (.bool S.core.run) ∧ V.cell? ⟨e, 28, none⟩ = some (.int .i64 S.f.cls) ∧ (∃ v, V.cell? ⟨e, 6, none⟩ = some v) ∧ (∃ v, V.cell? ⟨e, 7, none⟩ = some v) ∧ (∃ v, V.cell? ⟨e, 8, none⟩ = some v) ∧ (∀ o, V.frozen? ⟨e, o, none⟩ = false) := by
  have hs := EdState.flushed_same S.endA on
  have hc := blk_cells hx.blk
  refine ⟨?_, ?_, ⟨_, (hc 6).trans rfl⟩, ⟨_, (hc 7).trans rfl⟩, ⟨_, (hc 8).trans rfl⟩, blk_free hx.blk⟩
  · rw [hc]
    show some (Value.bool (S.endA.flushed on).core.run) = _
    rw [hs.2.2.2, EdState.endA_core]
  · rw [hc]
    show some (Value.int .i64 (S.endA.flushed on).f.cls) = _
    rw [hs.1, (EdState.endA_cls S).1]

set_option maxRecDepth 10000 in
set_option maxHeartbeats 2000000 in
theorem ed_end_ok (w : World) (κ : Col) (i e b r k tm um h bl : Nat) (was : Nat → Value) (putv : Value) (S : EdState) (x : EdAt w κ i e b r k tm um h bl was putv S) (hok : EdsOk S) (hin : S.f.inn = true) (hrun : S.core.run = true → S.lst.1 ≠ []) :
    Calls Try.prog 9 #[.pointer (some ⟨e, 0, none⟩), .int .i64 0] w (EdDone w κ e (.int .i64 0) S.endOk) := by
  have hpt := ed_part w e b r k um S.core h bl S.f was putv x.blk
  rw [if_pos hin] at hpt
  have HPT := Lib.hid hpt
  have HX := Lib.hid x
  have HOK := Lib.hid hok
  have HRUN := Lib.hid hrun
  have hce := blk_cells x.blk
  have hze := blk_free x.blk
  have hle := blk_lt x.blk
  unfold edArr at hce
  clear x hok hin hpt hrun
  cases ha : S.f.argues
  all_goals rw [ha] at hce
  all_goals have HA := Lib.hid ha
  all_goals clear ha
  all_goals go_enter Try.func9, Try.ntmps9
  all_goals go_wp2_with (go_at_call 25; refine (HPT.out).mono ?_; rintro y w' ⟨rfl, rfl⟩)
  all_goals refine forget (fun W => Hid (EdAt W κ i e b r k tm um h bl was putv S.endA) ∧ Fr (one e) w' W) ⟨end_first HX.out (by first | exact (Fr.refl _ _).setOne _ _ | exact ((((Fr.refl _ _).setOne _ _).setOne _ _).setOne _ _).setOne _ _) (by
    have hbk := HX.out.blk
    unfold EdBlk edArr at hbk
    unfold edArr EdState.endA
    rw [HA.out]
    first
      | exact heap_setCell_same (o := 16) hbk (.bool false)
      | exact heap_setCell_same (o := 15) (heap_setCell_same (o := 14) (heap_setCell_same (o := 13) (heap_setCell_same (o := 16) hbk (.bool false)) (.bool false)) (.bool false)) (.int .i64 (-1))), by first | exact (Fr.refl _ _).setOne _ _ | exact ((((Fr.refl _ _).setOne _ _).setOne _ _).setOne _ _).setOne _ _⟩ ?_
  all_goals clear hce hze hle HPT
  all_goals rintro W ⟨HW, hfW⟩
  all_goals have hfl := fun (on : Bool) (V : World) (hV : Fr nob W V) (hon : on = true → S.endA.lst.1 ≠ []) => ed_flush V κ i e b r k tm um h bl was putv S.endA on (HW.out.stayN hV (fun _ _ => rfl)) (EdState.endA_ok HOK.out) hon
  all_goals have HFL := Lib.hid hfl
  all_goals clear hfl
  all_goals have hcells := Lib.hid (fun (V : World) (κ2 : Col) (putv2 : Value) (on : Bool) (hx : EdAt V κ2 i e b r k tm um h bl was putv2 (S.endA.flushed on)) => end_cells hx)
  all_goals obtain ⟨pa, pc, hpv, _⟩ := HX.out.rest.put.val
  all_goals have hcW := blk_cells HW.out.blk
  all_goals have hc10 : W.cell? ⟨e, 10, none⟩ = some (.bool S.core.run) := by rw [hcW]; show some (Value.bool S.endA.core.run) = _; rw [EdState.endA_core]
  all_goals have hc28 : W.cell? ⟨e, 28, none⟩ = some (.int .i64 S.f.cls) := by rw [hcW]; show some (Value.int .i64 S.endA.f.cls) = _; rw [(EdState.endA_cls S).1]
  all_goals have hc32 : W.cell? ⟨e, 32, none⟩ = some (.bool S.f.whole) := by rw [hcW]; show some (Value.bool S.endA.f.whole) = _; rw [(EdState.endA_cls S).2]
  all_goals have hc33 : W.cell? ⟨e, 33, none⟩ = some (.slice pa S.put.length pc) := by rw [hcW, hpv]; rfl
  all_goals have hnt : decide (0 < S.put.length) = decide (S.put ≠ []) := by rw [decide_eq_decide]; exact List.length_pos_iff
  all_goals have HNT := Lib.hid hnt
  all_goals have hput : S.put.length ≤ 16384 := Nat.le_trans (Nat.le_add_left _ _) HOK.out.room
  all_goals generalize hpl : S.put.length = pl at *
  all_goals have HPL := Lib.hid hpl
  all_goals clear hcW hpv hnt hpl
  all_goals (
    by_cases h3 : S.f.cls = 3
    · (rw [h3] at hc28
       have h2' : (S.f.cls != 2) = true := by rw [h3]; decide
       have H3 := Lib.hid h3
       clear h3
       cases hw : S.f.whole
       all_goals rw [hw] at hc32
       all_goals have HWH := Lib.hid hw
       all_goals clear hw
       all_goals go_quiet (fail)
       · go_wp2_with (go_at_call 27; refine (HFL.out false _ (by exact (Fr.refl _ _).drewN _) (fun h => by cases h)).mono ?_; rintro y W2 ⟨rfl, κ2, putv2, hx2, hk2, hf2⟩; obtain ⟨d10, d28, ⟨v6, d6⟩, ⟨v7, d7⟩, ⟨v8, d8⟩, dz⟩ := hcells.out _ _ _ _ hx2; have HX2 := Lib.hid hx2; have HK2 := Lib.hid hk2; have HF2 := Lib.hid hf2; clear hx2 hk2 hf2)
         go_wp2
         go_ret
         have hfin := end_last (w := w') (S := S) false (by unfold EdState.types; rw [H3.out, HWH.out]; rfl) (edM.trans (edM.of hfW (NR.one HX.out.blk (by decide)) (fun y _ hy => by cases hy; rw [HX.out.ce]; decide)) (fun _ _ => rfl) (edM.nob ((Fr.refl nob W).drewN nq))) HK2.out HF2.out (by rw [show (S.types && S.core.run) = false from by unfold EdState.types; rw [H3.out, HWH.out]; rfl]; exact HX2.out)
         rw [if_neg (by rw [H3.out]; decide)] at hfin
         exact hfin
       · by_cases hp : S.put = []
         · have hpz : decide (0 < pl) = false := by rw [HNT.out]; simp [hp]
           have HPE := Lib.hid hp
           clear hp
           go_wp2_with (go_at_call 27; refine (HFL.out S.core.run _ (by exact (Fr.refl _ _).drewN _) (fun h => by rw [EdState.endA_lst]; exact HRUN.out h)).mono ?_; rintro y W2 ⟨rfl, κ2, putv2, hx2, hk2, hf2⟩; obtain ⟨d10, d28, ⟨v6, d6⟩, ⟨v7, d7⟩, ⟨v8, d8⟩, dz⟩ := hcells.out _ _ _ _ hx2; have HX2 := Lib.hid hx2; have HK2 := Lib.hid hk2; have HF2 := Lib.hid hf2; clear hx2 hk2 hf2)
           go_wp2
           go_ret
           have hfin := end_last (w := w') (S := S) S.core.run (by unfold EdState.types; rw [H3.out, HWH.out, HPE.out]; simp) (edM.trans (edM.of hfW (NR.one HX.out.blk (by decide)) (fun y _ hy => by cases hy; rw [HX.out.ce]; decide)) (fun _ _ => rfl) (edM.nob ((Fr.refl nob W).drewN nq))) HK2.out HF2.out (by rw [show (S.types && S.core.run) = S.core.run from by unfold EdState.types; rw [H3.out, HWH.out]; simp]; exact HX2.out)
           rw [if_neg (by rw [H3.out]; decide)] at hfin
           exact hfin
         · have hpz : decide (0 < pl) = true := by rw [HNT.out]; simp [hp]
           have HPE := Lib.hid hp
           clear hp
           go_wp2_with (go_at_call 27; refine (HFL.out S.core.run _ (by exact (Fr.refl _ _).drewN _) (fun h => by rw [EdState.endA_lst]; exact HRUN.out h)).mono ?_; rintro y W2 ⟨rfl, κ2, putv2, hx2, hk2, hf2⟩; obtain ⟨d10, d28, ⟨v6, d6⟩, ⟨v7, d7⟩, ⟨v8, d8⟩, dz⟩ := hcells.out _ _ _ _ hx2; have HX2 := Lib.hid hx2; have HK2 := Lib.hid hk2; have HF2 := Lib.hid hf2; clear hx2 hk2 hf2)
           go_wp2
           go_ret
           have hfin := end_last (w := w') (S := S) true (by unfold EdState.types; rw [H3.out, HWH.out]; simp [HPE.out]) (edM.trans (edM.of hfW (NR.one HX.out.blk (by decide)) (fun y _ hy => by cases hy; rw [HX.out.ce]; decide)) (fun _ _ => rfl) (edM.nob ((Fr.refl nob W).drewN nq))) HK2.out HF2.out (by rw [show (S.types && S.core.run) = S.core.run from by unfold EdState.types; rw [H3.out, HWH.out]; simp]; exact HX2.out)
           rw [if_neg (by rw [H3.out]; decide)] at hfin
           exact hfin)
    · (have h3' : (S.f.cls == 3) = false := by rw [beq_eq_false_iff_ne]; exact h3
       have H3 := Lib.hid h3
       clear h3
       by_cases h2 : S.f.cls = 2
       · have h2' : (S.f.cls != 2) = false := by simp [h2]
         have H2 := Lib.hid h2
         clear h2
         go_quiet (fail)
         go_wp2_with (go_at_call 27; refine (HFL.out false _ (by exact (Fr.refl _ _).drewN _) (fun h => by cases h)).mono ?_; rintro y W2 ⟨rfl, κ2, putv2, hx2, hk2, hf2⟩; obtain ⟨d10, d28, ⟨v6, d6⟩, ⟨v7, d7⟩, ⟨v8, d8⟩, dz⟩ := hcells.out _ _ _ _ hx2; have HX2 := Lib.hid hx2; have HK2 := Lib.hid hk2; have HF2 := Lib.hid hf2; clear hx2 hk2 hf2)
         go_wp2
         go_ret
         have hfin := end_last (w := w') (S := S) false (by unfold EdState.types; simp [H3.out]) (edM.trans (edM.of hfW (NR.one HX.out.blk (by decide)) (fun y _ hy => by cases hy; rw [HX.out.ce]; decide)) (fun _ _ => rfl) (edM.nob ((Fr.refl nob W).drewN nq))) HK2.out HF2.out (by rw [show (S.types && S.core.run) = false from by unfold EdState.types; simp [H3.out]]; exact HX2.out)
         rw [if_pos H2.out] at hfin
         exact hfin
       · have h2' : (S.f.cls != 2) = true := by simp [h2]
         have H2 := Lib.hid h2
         clear h2
         go_quiet (fail)
         go_wp2_with (go_at_call 27; refine (HFL.out false _ (by exact (Fr.refl _ _).drewN _) (fun h => by cases h)).mono ?_; rintro y W2 ⟨rfl, κ2, putv2, hx2, hk2, hf2⟩; obtain ⟨d10, d28, ⟨v6, d6⟩, ⟨v7, d7⟩, ⟨v8, d8⟩, dz⟩ := hcells.out _ _ _ _ hx2; have HX2 := Lib.hid hx2; have HK2 := Lib.hid hk2; have HF2 := Lib.hid hf2; clear hx2 hk2 hf2)
         go_wp2
         go_ret
         have hfin := end_last (w := w') (S := S) false (by unfold EdState.types; simp [H3.out]) (edM.trans (edM.of hfW (NR.one HX.out.blk (by decide)) (fun y _ hy => by cases hy; rw [HX.out.ce]; decide)) (fun _ _ => rfl) (edM.nob ((Fr.refl nob W).drewN nq))) HK2.out HF2.out (by rw [show (S.types && S.core.run) = false from by unfold EdState.types; simp [H3.out]]; exact HX2.out)
         rw [if_neg H2.out] at hfin
         exact hfin))
end Go.Proofs.Ytbhklkolkclflaa
