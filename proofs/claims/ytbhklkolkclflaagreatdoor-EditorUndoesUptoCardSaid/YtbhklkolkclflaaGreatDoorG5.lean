/- Package editor: flush, what stands between its steps. Package editor: flush, not typed on. Package editor: flush, typed on. sync/atomic: Add and Load of an Int64. Package editor: End. Package editor: Replace, done. Package editor: Type, Move, Line. Package editor: Undo, done. Package editor: undoes, Kills, saved at rest. -/
import Derived.Test.YtbhklkolkclflaaGreatDoorG4
import Derived.RangeFuncBound
import Derived.RangeFuncCalls
import Derived.RangeFuncLeaves
import Derived.RangeFuncNested
import Derived.Test.YtbhklkolkclflaaGreatDoorG1
import Derived.Laws.LoneSync
/- E10: Package editor: flush, what stands between its steps. -/
namespace Go.Proofs.YtbhklkolkclflaaGreatDoor
open Go.RowKit

/-- What stands ahead of flush's loop: the list, what was taken off its end. -/
structure FlSt (w1 : World) (F0 : Nat → Prop) (l ob : Nat) (oldv : Value) (old : List EditP) (gs : List (List EditP)) (n : Int) (D : Nat) (od : Option Obj) (F : Nat → Prop) (opn : Int) (V : World) : Prop where
  lst : ListRep V F l gs [] opn n
  bd : ∀ y, F y → y < V.heap.size
  f0 : ∀ y, F y → F0 y ∨ w1.heap.size ≤ y
  fr : Fr (wr w1 F0) w1 V
  box : V.heap[ob]? = some (.cells #[oldv] 84 (0, 0))
  nbox : ¬ F ob
  lbox : w1.heap.size ≤ ob
  old : EdS V oldv old
  nold : ∀ y, rowOf oldv y → ¬ F y ∧ w1.heap.size ≤ y
  dfr : ∀ o, od = some o → V.heap[D]? = some o ∧ ¬ F D ∧ ∀ c T fr, o ≠ .cells c T fr

theorem wrSub {w1 V V' : World} {F0 F : Nat → Prop} (h : Fr (wr w1 F0) w1 V) (h1 : Fr (wr V F) V V') (hs : ∀ y, F y → F0 y ∨ w1.heap.size ≤ y) : Fr (wr w1 F0) w1 V' :=
  h.trans h1 (fun b hb hm => ⟨(hs b hm.1).elim id (fun hx => by omega), fun c fr e => hm.2 c fr (h.keep e (fun hx => hx.2 c fr e))⟩)

section
variable {w1 V V' : World} {F0 F : Nat → Prop} {l ob : Nat} {oldv : Value} {old : List EditP} {gs gs' : List (List EditP)} {n n' opn opn' : Int} {D : Nat} {od : Option Obj}
/-- A call of the list. -/
theorem FlSt.call (h : FlSt w1 F0 l ob oldv old gs n D od F opn V) (hl : ListRep V' (plus V F) l gs' [] opn' n') (hf : Fr (wr V F) V V') : FlSt w1 F0 l ob oldv old gs' n' D od (fun y => plus V F y ∧ y < V'.heap.size) opn' V' := by
  have h1 : w1.heap.size ≤ V.heap.size := h.fr.size
  refine ⟨hl.within, fun y hy => hy.2, fun y hy => hy.1.elim (h.f0 y) (fun hx => .inr (by omega)), wrSub h.fr hf h.f0, hf.keep h.box (fun hx => h.nbox hx.1), fun hx => ?_, h.lbox, h.old.stay hf (NR.wr _ _) (fun y hy hx => (h.nold y hy).1 hx.1), fun y hy => ⟨fun hx => ?_, (h.nold y hy).2⟩, fun o ho => ?_⟩
  · have := blk_lt h.box
    exact hx.1.elim h.nbox (fun h => by omega)
  · have := h.old.lt y hy
    exact hx.1.elim (h.nold y hy).1 (fun h => by omega)
  · obtain ⟨h2, h3, h4⟩ := h.dfr o ho
    have h5 := blk_lt h2
    exact ⟨hf.keep h2 (fun hx => h3 hx.1), fun hx => hx.1.elim h3 (fun h => by omega), h4⟩
theorem FlSt.quiet (h : FlSt w1 F0 l ob oldv old gs n D od F opn V) (hf : Fr nob V V') : FlSt w1 F0 l ob oldv old gs n D od F opn V' :=
  ⟨h.lst.stayN hf, fun y hy => Nat.lt_of_lt_of_le (h.bd y hy) hf.size, h.f0, h.fr.then hf, hf.keep h.box (fun h => h), h.nbox, h.lbox, h.old.stayN hf, h.nold, fun o ho => ⟨hf.keep (h.dfr o ho).1 (fun h => h), (h.dfr o ho).2⟩⟩
end

/-- What stands in flush's loop: the list, the edits that are added. -/
structure FlLp (w1 : World) (F0 : Nat → Prop) (l : Nat) (tv : Value) (es : List EditP) (gs : List (List EditP)) (n : Int) (D : Nat) (od : Option Obj) (F : Nat → Prop) (k : Nat) (V : World) : Prop where
  lst : ListRep V F l gs (es.take k) 1 n
  bd : ∀ y, F y → y < V.heap.size
  f0 : ∀ y, F y → F0 y ∨ w1.heap.size ≤ y
  fr : Fr (wr w1 F0) w1 V
  tmp : EdS V tv es
  ntmp : ∀ y, rowOf tv y → ¬ F y
  dfr : ∀ o, od = some o → V.heap[D]? = some o ∧ ¬ F D ∧ ∀ c T fr, o ≠ .cells c T fr

section
variable {w1 V V' : World} {F0 F : Nat → Prop} {l : Nat} {tv : Value} {es : List EditP} {gs gs' : List (List EditP)} {n n' : Int} {k k' D : Nat} {od : Option Obj}
theorem FlLp.call (h : FlLp w1 F0 l tv es gs n D od F k V) (hl : ListRep V' (plus V F) l gs (es.take k') 1 n') (hf : Fr (wr V F) V V') : FlLp w1 F0 l tv es gs n' D od (fun y => plus V F y ∧ y < V'.heap.size) k' V' := by
  have h1 : w1.heap.size ≤ V.heap.size := h.fr.size
  refine ⟨hl.within, fun y hy => hy.2, fun y hy => hy.1.elim (h.f0 y) (fun hx => .inr (by omega)), wrSub h.fr hf h.f0, h.tmp.stay hf (NR.wr _ _) (fun y hy hx => h.ntmp y hy hx.1), fun y hy hx => ?_, fun o ho => ?_⟩
  · have := h.tmp.lt y hy
    exact hx.1.elim (h.ntmp y hy) (fun h => by omega)
  · obtain ⟨h2, h3, h4⟩ := h.dfr o ho
    have h5 := blk_lt h2
    exact ⟨hf.keep h2 (fun hx => h3 hx.1), fun hx => hx.1.elim h3 (fun h => by omega), h4⟩
theorem FlLp.quiet (h : FlLp w1 F0 l tv es gs n D od F k V) (hf : Fr nob V V') : FlLp w1 F0 l tv es gs n D od F k V' :=
  ⟨h.lst.stayN hf, fun y hy => Nat.lt_of_lt_of_le (h.bd y hy) hf.size, h.f0, h.fr.then hf, h.tmp.stayN hf, h.ntmp, fun o ho => ⟨hf.keep (h.dfr o ho).1 (fun h => h), (h.dfr o ho).2⟩⟩
/-- The edits are put behind the old ones. -/
theorem FlSt.app {ob : Nat} {oldv : Value} {old put : List EditP} {av : Value} {xo xp : List Value} (h : FlSt w1 F0 l ob oldv old gs n D od F 1 V) (hxo : edCells V xo old) (hxp : edCells V xp put)
    (ho : Own V' 168 3 av (old.length + put.length) (xo ++ xp)) (hpos : put ≠ []) (hf : Fr (rowOf oldv) V V') (hr : rowOf oldv = rowOf av ∨ ∀ b, rowOf av b → V.heap.size ≤ b) (hold : Own V 168 3 oldv old.length xo) :
    FlLp w1 F0 l av (old ++ put) gs n D od F 0 V' := by
  have hnr : NR V (rowOf oldv) := hold.nrRow (by decide)
  refine ⟨?_, fun y hy => Nat.lt_of_lt_of_le (h.bd y hy) hf.size, h.f0, h.fr.trans hf (fun b hb hx => by have := (h.nold b hx).2; omega), ⟨⟨xo ++ xp, by rw [List.length_append]; exact ho, (hxo.append hxp).stay hf hnr⟩, fun a m e => ?_⟩, fun y hy hF => ?_, fun o ho => ?_⟩
  · rw [List.take_zero]
    exact h.lst.stay hf hnr (fun y hy hx => (h.nold y hx).1 hy)
  · obtain ⟨a', c', e', h', _⟩ := ho.val
    rw [e] at e'
    injection e' with _ _ e3
    have := List.length_pos_iff.2 hpos
    omega
  · rcases hr with hr | hr
    · rw [← hr] at hy
      exact (h.nold y hy).1 hF
    · have h1 := hr y hy
      have h2 := h.bd y hF
      omega
  · obtain ⟨h2, h3, h4⟩ := h.dfr o ho
    refine ⟨hf.keep h2 (fun hx => ?_), h3, h4⟩
    obtain ⟨c, fr, hb⟩ := hold.rowTy hx
    rw [h2] at hb
    injection hb with hb
    exact h4 _ _ _ hb
/-- Blocks that are no rows are written, outside of the list. -/
theorem FlSt.off {ob : Nat} {oldv : Value} {old : List EditP} {opn : Int} {M : Nat → Prop} (h : FlSt w1 F0 l ob oldv old gs n D none F opn V) (hf : Fr M V V') (hM : NoRows V M) (hF : ∀ y, F y → ¬ M y) (hw : ∀ y, M y → w1.heap.size ≤ y) : FlSt w1 F0 l ob oldv old gs n D none F opn V' := by
  have hnr : NR V M := fun b c fr hb hm => hM b hm c _ fr hb
  refine ⟨h.lst.stay hf hnr hF, fun y hy => Nat.lt_of_lt_of_le (h.bd y hy) hf.size, h.f0, h.fr.trans hf (fun b hb hx => by have := hw b hx; omega), hf.keep h.box (fun hx => hM _ hx _ _ _ h.box), h.nbox, h.lbox,
    h.old.stay hf hnr (fun y hy hx => ?_), h.nold, fun o ho => by cases ho⟩
  obtain ⟨⟨xs, ho, _⟩, _⟩ := h.old
  obtain ⟨c, fr, hb⟩ := ho.rowTy hy
  exact hM y hx _ _ _ hb
end
end Go.Proofs.YtbhklkolkclflaaGreatDoor
/- E11: Package editor: flush, not typed on. -/
namespace Go.Proofs.YtbhklkolkclflaaGreatDoor
open Go.RowKit

/-- What flush leaves. -/
def Flushed (w : World) (κ : Col) (i e b r k tm um h bl : Nat) (was : Nat → Value) (S : EdState) (on : Bool) (x : Ending) (w' : World) : Prop :=
  x = .returned (.tuple #[]) ∧ ∃ κ' putv', EdAt w' κ' i e b r k tm um h bl was putv' (S.flushed on) ∧ (∀ y, y < w.heap.size → κ' y = κ y) ∧ Fr (edM w κ) w w'

theorem updU_twice (u : Int → Option (List (List EditP) × Int)) (p : Int) (a b : List (List EditP) × Int) : updU (updU u p a) p b = updU u p b := by
  funext q
  unfold updU
  split <;> rfl

theorem flush_end {w w1 V : World} {κ κ1 : Col} {i e b r k tm um h bl l : Nat} {was : Nat → Value} {putv : Value} {S : EdState} {on : Bool} {N : Int} (x1 : EdAt w1 κ1 i e b r k tm um h bl was putv S.listed) (u1 : UndosL w1 κ1 i um S.listed.core.undos S.core.place l)
    (hk1 : ∀ y, y < w.heap.size → κ1 y = κ y) (f1 : Fr (edM w κ) w w1) (hok : EdsOk S) (hp : S.put ≠ []) (hV : Fr (wr w1 (fun y => κ1 y = (i, 5 + S.core.place.toNat))) w1 V)
    (hl : ListRep V (plus w1 (fun y => κ1 y = (i, 5 + S.core.place.toNat))) l (preG on S.lst.1 ++ [oldG on S.lst.1 ++ S.put]) [] 0 N) (hN : N = S.lst.2 + S.put.length) :
    Flushed w κ i e b r k tm um h bl was S on (.returned (.tuple #[])) (V.setCell ⟨e, 33, none⟩ (.slice none 0 0)) := by
  subst hN
  have hg : flushG on S.lst S.put = (preG on S.lst.1 ++ [oldG on S.lst.1 ++ S.put], S.lst.2 + S.put.length) := flushG_eq on S.lst S.put
  have hu2 := u1.set (g := flushG on S.lst S.put) hok.place x1.core.cu hV (by rw [hg]; exact hl)
  have hci := x1.ci
  have hnr : NR w1 (wr w1 (fun y => κ1 y = (i, 5 + S.core.place.toNat))) := NR.wr _ _
  have hm4 : ∀ y, wr w1 (fun y => κ1 y = (i, 5 + S.core.place.toNat)) y → y < w1.heap.size → ∃ j, κ1 y = (i, 4 + j) := fun y hy _ => ⟨1 + S.core.place.toNat, by rw [hy.1]; congr 1; omega⟩
  have hmi : ∀ y, wr w1 (fun y => κ1 y = (i, 5 + S.core.place.toNat)) y → y < w1.heap.size → (κ1 y).1 = i := fun y hy _ => by rw [hy.1]
  have hpo := paint_old κ1 w1.heap.size (i, 5 + S.core.place.toNat)
  have hx2 := x1.setCore hV hnr hmi hpo (x1.core.setUndos hV hnr hm4 hpo hu2.at) rfl
  generalize paint κ1 w1.heap.size (i, 5 + S.core.place.toNat) = κ2 at *
  rw [show updU S.listed.core.undos S.core.place (flushG on S.lst S.put) = updU S.core.undos S.core.place (flushG on S.lst S.put) from updU_twice _ _ _ _] at hx2
  have hS : S.flushed on = { S with core := { S.core with undos := updU S.core.undos S.core.place (flushG on S.lst S.put) }, put := [] } := by
    unfold EdState.flushed
    rw [if_neg hp]
    rfl
  have hblk := heap_setCell_same (o := 33) hx2.blk (.slice none 0 0)
  have hfe : Fr (one e) V (V.setCell ⟨e, 33, none⟩ (.slice none 0 0)) := (Fr.refl _ _).setOne _ _
  have hke : κ2 e ≠ (0, 0) := by rw [hx2.ce]; decide
  have hf2 : Fr (edM w1 κ1) w1 V := hV.wr (fun y _ hy => by rw [show κ1 y = _ from hy.1]; intro h0; injection h0 with h0 _; omega) hnr
  have hk2 : ∀ y, y < w.heap.size → κ2 y = κ y := fun y hy => (hpo y (Nat.lt_of_lt_of_le hy f1.size)).trans (hk1 y hy)
  refine ⟨rfl, κ2, .slice none 0 0, ?_, hk2, ?_⟩
  · rw [hS]
    refine EdAt.setE hci hx2.ce hx2.blk hfe ?_ hx2.core ⟨hx2.rest.hist, hx2.rest.cb, hx2.rest.bells, EdS.none _, fun y ⟨_, _, _, h, _⟩ => by cases h⟩ hx2.wone hx2.inn
    exact hblk
  · have h3 : Fr (edM V κ2) V (V.setCell ⟨e, 33, none⟩ (.slice none 0 0)) := edM.of hfe (NR.one hx2.blk (by decide)) (fun y _ hy => by cases hy; exact hke)
    exact edM.trans (edM.trans f1 hk1 hf2) hk2 h3

set_option maxRecDepth 10000 in
set_option maxHeartbeats 1000000 in
theorem ed_flush_nil (w : World) (κ : Col) (i e b r k tm um h bl : Nat) (was : Nat → Value) (putv : Value) (S : EdState) (on : Bool) (x : EdAt w κ i e b r k tm um h bl was putv S) (hp : S.put = []) :
    Calls Tryz.prog 90 #[.pointer (some ⟨e, 0, none⟩), .bool on] w (Flushed w κ i e b r k tm um h bl was S on) := by
  obtain ⟨a, c, hpv, _⟩ := x.rest.put.val
  rw [hp] at hpv
  have hc : w.cell? ⟨e, 33, none⟩ = some (.slice a 0 c) := by rw [blk_cells x.blk, hpv]; rfl
  have HX := Lib.hid x
  have HP := Lib.hid hp
  clear x hp hpv
  go_enter Tryz.func90, Tryz.ntmps90
  go_wp2
  refine bodyPost_ret (results_none rfl _ _ _) rfl ⟨rfl, κ, putv, ?_, fun _ _ => rfl, edM.nob (Fr.refl _ _)⟩
  unfold EdState.flushed
  rw [if_pos HP.out]
  exact HX.out

set_option maxRecDepth 10000 in
set_option maxHeartbeats 2000000 in
theorem ed_flush_off (w : World) (κ : Col) (i e b r k tm um h bl : Nat) (was : Nat → Value) (putv : Value) (S : EdState) (x : EdAt w κ i e b r k tm um h bl was putv S) (hp : S.put ≠ []) (hok : EdsOk S) :
    Calls Tryz.prog 90 #[.pointer (some ⟨e, 0, none⟩), .bool false] w (Flushed w κ i e b r k tm um h bl was S false) := by
  obtain ⟨a, c, hpv, _⟩ := x.rest.put.val
  have hc : w.cell? ⟨e, 33, none⟩ = some (.slice a S.put.length c) := by rw [blk_cells x.blk, hpv]; rfl
  have hpos : 0 < S.put.length := List.length_pos_iff.2 hp
  have HL := Lib.hid (ed_list w κ i e b r k tm um h bl was putv S x hok.place)
  have HOK := Lib.hid hok
  have HP := Lib.hid hp
  have hn1 : ((S.put.length : Int) == 0) = false := by rw [beq_eq_false_iff_ne]; omega
  have HPV := Lib.hid hpv
  generalize hpl : S.put.length = pl at *
  have HPL := Lib.hid hpl
  clear x hp hpv hok hpl
  go_enter Tryz.func90, Tryz.ntmps90
  go_wp2_with (first
    | (go_at_call 94; refine (HL.out).mono ?_; rintro y w1 ⟨l, κ1, rfl, hx1, hu1, hk1, hf1⟩; have HX1 := Lib.hid hx1; have HU1 := Lib.hid hu1; have HK1 := Lib.hid hk1; have HF1 := Lib.hid hf1; clear hx1 hu1 hk1 hf1))
  have hci1 := HX1.out.ci
  have hll := (HU1.out.list S.listed_at).2
  rw [HOK.out.lst.cnt] at hll
  have hs0 : FlSt w1 (fun y => κ1 y = (i, 5 + S.core.place.toNat)) l w1.heap.size (.slice none 0 0) [] S.lst.1 (total S.lst.1) 0 none (fun y => κ1 y = (i, 5 + S.core.place.toNat) ∧ y < w1.heap.size) 0 (w1.alloc (.cells #[.slice none 0 0] 84)) :=
    ⟨hll.within.stayN ((Fr.refl nob w1).alloc _), fun y hy => by have := hy.2; simp; omega, fun y hy => .inl hy.1, (Fr.refl _ _).alloc _, heap_alloc_new _ _, fun h => by have := h.2; omega, Nat.le_refl _, EdS.none _, fun y ⟨_, _, _, h, _⟩ => (by cases h), fun o ho => (by cases ho)⟩
  have HS0 := Lib.hid hs0
  clear hll hs0
  have HOL := Lib.hid (show ([] : List EditP).length ≤ 16384 from by simp)
  have HSUM := Lib.hid (show ([] : List EditP).length + pl + total (S.lst.1) ≤ 16384 from by have := HOK.out.room; have := HPL.out; simp; omega)
  have HGL := Lib.hid (show (S.lst.1).length ≤ 100000 from HOK.out.lst.smalls.1)
  have HTOT := Lib.hid (show total (S.lst.1) + ([] : List EditP).length = total S.lst.1 from by simp)
  have HALL0 := Lib.hid (show ∀ x ∈ ([] : List EditP) ++ S.put, EdOk x from fun x hx => HOK.out.put x (by simpa using hx))
  go_wp2_with (first
    | (go_at_call 178; refine (undo_begin _ _ l _ _ _ _ HS0.out.lst (by decide)).mono ?_; rintro y V1 ⟨rfl, hl1, hf1⟩; have HS1 := Lib.hid (HS0.out.call (show ListRep V1 _ l S.lst.1 [] 1 _ from hl1) hf1); clear hl1 hf1))
  have hcb := blk_cells HS1.out.box
  have HF0 := Lib.hid (HS1.out.fr)
  have hnE : ¬ wr w1 (fun y => κ1 y = (i, 5 + S.core.place.toNat)) e := fun hy => by
    have h1 : κ1 e = (i, 5 + S.core.place.toNat) := hy.1
    rw [HX1.out.ce] at h1
    injection h1 with h1 _
    omega
  have he33 : V1.cell? ⟨e, 33, none⟩ = some (.slice a pl c) := by
    rw [blk_cells (HF0.out.keep HX1.out.blk hnE), HPV.out]
    rfl
  have hputs : EdS V1 (.slice a pl c) S.put := by
    have h1 : EdS w1 putv S.put := HX1.out.rest.put
    have h2 := h1.stay HF0.out (NR.wr _ _) (fun y hy hM => by
      have h3 := HX1.out.rest.mp y hy
      have h4 : κ1 y = (i, 5 + S.core.place.toNat) := hM.1
      rw [h3] at h4
      injection h4 with h4 _
      omega)
    rwa [HPV.out] at h2
  obtain ⟨⟨xo, hxo1, hxo2⟩, _⟩ := HS1.out.old
  obtain ⟨hpn, xp, hxp1, hxp2⟩ := hputs.sl
  have HPN := Lib.hid hpn
  have HXO := Lib.hid hxo1
  have HXE := Lib.hid hxo2
  have HXP := Lib.hid hxp1
  have HXQ := Lib.hid hxp2
  have hput4 : S.put.length ≤ 16384 := Nat.le_trans (Nat.le_add_left _ _) HOK.out.room
  have hold4 : ([] : List EditP).length ≤ 16384 := HOL.out
  have hpl4 : pl ≤ 16384 := by have := HPL.out; omega
  have b1 : ([] : List EditP).length + pl ≤ maxLen := by unfold maxLen; omega
  have b2 : (([] : List EditP).length + pl) * 56 ≤ 140737488355328 := by omega
  have HB1 := Lib.hid b1
  have HB2 := Lib.hid b2
  obtain ⟨i0, hi0, hz0, hz1, hz2⟩ := info_parts Tryz.info_edits
  have hnE2 := Lib.hid hnE
  clear hputs hpn hxo1 hxo2 hxp1 hxp2 hput4 hold4 b1 b2 hnE
  have HKP : Hid (∀ V V2 : World, Fr nob V1 V → Fr (rowOf (.slice none 0 0)) V V2 → V2.cell? ⟨w1.heap.size, 0, none⟩ = some (.slice none 0 0) ∧ V2.cell? ⟨e, 33, none⟩ = some (.slice a pl c)) := fun V V2 h1 h2 => by
    have ho := HXO.out.stay h1 (fun _ _ _ _ h => h)
    have h3 := h1.keep HS1.out.box (fun h => h)
    have h4 := h1.keep (HF0.out.keep HX1.out.blk hnE2.out) (fun h => h)
    have h5 := blk_cells (h2.keep h3 (fun hr => ho.rowNe hr h3 (by decide) rfl))
    have h6 := blk_cells (h2.keep h4 (fun hr => ho.rowNe hr h4 (by decide) rfl))
    exact ⟨by rw [h5]; rfl, by rw [h6, HPV.out]; rfl⟩
  go_region_held3 (fun V => V.cell? ⟨w1.heap.size, 0, none⟩ = some (.slice none 0 0) ∧ V.cell? ⟨e, 33, none⟩ = some (.slice a pl c))
    ((first | (with_reducible assumption) | (go_keep; done)))
    ((refine step_app rfl (.tmp 27) (.tmp 31) 84 84 rfl 168 i0 _ 3 56 Tryz.underlying84 hi0 hz0 hz1 hz2 rfl (by decide) _ ([] : List EditP).length xo rfl (by exact HXO.out.stay (Fr.refl nob V1).drew (fun _ _ _ _ h => h)) _ pl xp rfl (by exact (HXP.out.oldN (Fr.refl nob V1).drew).src (P := Tryz.prog) (tx := 84) (by simp) Tryz.underlying84) HB1.out HB2.out ?_; intro av c2 V2 hown2 hfr2 hrow2; have hkp2 := HKP.out _ _ (Fr.refl nob V1).drew hfr2; have HO2 := Lib.hid hown2; have HFR2 := Lib.hid hfr2; have HRW2 := Lib.hid hrow2; clear hown2 hfr2 hrow2))
  have hlp := HS1.out.app (put := S.put) HXE.out HXQ.out (by rw [HPL.out]; exact HO2.out) HP.out (Fr.ofDrew HFR2.out) HRW2.out HXO.out
  have hml : (([] : List EditP) ++ S.put).length = ([] : List EditP).length + pl := by rw [List.length_append, HPL.out]
  have hmp : 0 < ([] : List EditP).length + pl := by omega
  have hmx : ([] : List EditP).length + pl + total (S.lst.1) ≤ 16384 := HSUM.out
  have hmm : ([] : List EditP).length + pl = pl := Nat.zero_add pl
  rw [hmm] at hlp hml hmp hmx
  rw [hmm]
  have HLP := Lib.hid hlp
  have HML := Lib.hid hml
  have HMM := Lib.hid hmm
  have hmI : (pl : Int) ≤ 16384 := by omega
  have HMX := Lib.hid hmx
  have HALL := Lib.hid (show ∀ x ∈ ([] : List EditP) ++ S.put, EdOk x from HALL0.out)
  generalize hes : ([] : List EditP) ++ S.put = es at *
  have HES := Lib.hid hes
  clear hkp2 HO2 HFR2 HRW2 HKP hlp hml hmm hmx hes he33 hcb HXO HXE HXP HXQ HS1 HS0 HB1 HB2 hpl4
  go_wp2
  go_loopw [8, 34] (fun _ ki V => ∃ (kk : Nat) (F : Nat → Prop), kk ≤ pl ∧ ki = .int .i64 kk ∧ Hid (FlLp w1 (fun y => κ1 y = (i, 5 + S.core.place.toNat)) l (.slice av pl c2) es (S.lst.1) ((total (S.lst.1) + kk : Nat) : Int) 0 none F kk V)) (fun _ ki _ => pl - (intOf ki).toNat)
  case atStart => exact ⟨0, _, Nat.zero_le _, rfl, (HLP.out.quiet (by first | exact Fr.refl _ _ | exact (Fr.refl nob V2).drew | exact (Fr.refl nob V2).drewN _))⟩
  case round =>
    obtain ⟨kk, F, hk, rfl, HF⟩ := hrel
    by_cases hkt : kk < pl
    · have hke : kk < es.length := by have := HML.out; omega
      obtain ⟨hmn, xs, hs1, hs2⟩ := HF.out.tmp.sl
      obtain ⟨g, off, d, cd, ii, ci, rfl, c0, c1, c3, hE⟩ := edit_at hs1 hs2 kk hke
      have hsm := HALL.out _ (List.getElem_mem hke)
      have htk : es.take (kk + 1) = es.take kk ++ [es[kk]] := by rw [List.take_succ_eq_append_getElem hke]
      have HT := Lib.hid htk
      generalize hp : es[kk] = p at *
      obtain ⟨f, ds, is⟩ := p
      simp only at c0 c1 c3 hE
      have HE := Lib.hid hE
      have HSM := Lib.hid hsm
      generalize hx : ds.length = nd at *
      generalize hy : is.length = ni at *
      have HX := Lib.hid hx
      have HY := Lib.hid hy
      have htl : (es.take kk).length ≤ 100000 := by
        have := HML.out
        have := HMX.out
        rw [List.length_take]
        omega
      have HTL := Lib.hid htl
      clear hE hsm htk hp hx hy hmn hs1 hs2 htl
      go_wp2_with fail
      refine (undo_add _ _ l _ _ (total (S.lst.1) + kk) _ f ds is (HF.out.lst.stayN ((Fr.refl _ _).alloc _)) (HE.out.stay ((Fr.refl _ _).alloc _) (NR.nob _)) HSM.out.1 (Nat.le_trans HSM.out.2.1 (by omega)) (Nat.le_trans HSM.out.2.2.1 (by omega)) HSM.out.2.2.2 (by have := HMX.out; omega) HTL.out).mono ?_
      rintro y V3 ⟨rfl, hl3, hf3⟩
      have HL3 := Lib.hid hl3
      have HF3 := Lib.hid hf3
      clear hl3 hf3
      go_wp2
      go_roundw
      case rel =>
        have h9 := HL3.out
        rw [show ((total (S.lst.1) + kk : Nat) : Int) + 1 = ((total (S.lst.1) + (kk + 1) : Nat) : Int) by omega, ← HT.out] at h9
        exact ⟨kk + 1, fun y => plus _ F y ∧ y < _, by omega, by go_num, FlLp.call (HF.out.quiet ((Fr.refl nob _).alloc _)) h9 HF3.out⟩
      case measure => simp [intOf]; omega
    · have hq : kk = pl := by omega
      subst hq
      have hfin : es.take kk = es := List.take_of_length_le (by have := HML.out; omega)
      have hlst := HF.out.lst
      rw [hfin] at hlst
      have hgl : (S.lst.1).length ≤ 100000 := HGL.out
      have HE4 := Lib.hid (undo_end _ _ l (S.lst.1) es 1 _ hlst hgl rfl)
      have HF9 := HF.out.f0
      have HF8 := Lib.hid HF9
      have HFR9 := Lib.hid HF.out.fr
      clear hlst hfin hgl HF HF9
      go_wp2_with fail
      refine (HE4.out).mono ?_
      rintro y V4 ⟨rfl, hl4, hf4⟩
      have hfr4 := wrSub HFR9.out hf4 HF8.out
      have hb4 := hfr4.keep HX1.out.blk hnE2.out
      have hz4 := blk_free hb4
      have hlt4 := blk_lt hb4
      have hc4 : V4.cell? ⟨e, 33, none⟩ = some putv := by
        rw [blk_cells hb4]
        rfl
      have HL4 := Lib.hid hl4
      have HFR4 := Lib.hid hfr4
      clear hl4 hf4 hfr4 hb4
      go_wp2
      refine bodyPost_end (results_none rfl _ _ _) rfl ?_
      have hcl : closed (S.lst.1) es = (S.lst.1) ++ [es] := by
        unfold closed
        rw [if_neg (by have := HML.out; omega)]
      have hl9 := HL4.out
      rw [hcl] at hl9
      have hs9 : w1.heap.size ≤ wr.heap.size := HFR9.out.size
      have hl10 := hl9.mono (G := plus w1 (fun y => κ1 y = (i, 5 + S.core.place.toNat))) (fun y hy => hy.elim (fun h => HF8.out y h) (fun h => .inr (by omega)))
      rw [← HES.out] at hl10
      exact flush_end HX1.out HU1.out HK1.out HF1.out HOK.out HP.out HFR4.out hl10 (by rw [HOK.out.lst.cnt]; have := HMM.out; have := HPL.out; have := HTOT.out; omega)
end Go.Proofs.YtbhklkolkclflaaGreatDoor
/- E12: Package editor: flush, typed on. -/
namespace Go.Proofs.YtbhklkolkclflaaGreatDoor
open Go.RowKit
attribute [local go_sem] Oper.semAt_some

theorem UndosL.setTo {w w' : World} {κ κ' : Col} {i um : Nat} {u : Int → Option (List (List EditP) × Int)} {p : Int} {l : Nat} (h : UndosL w κ i um u p l) (hp : 0 ≤ p) (hu : κ um = (i, 4)) (hf : Fr (wr w (fun b => κ b = (i, 5 + p.toNat))) w w') (hk : ∀ y, y < w.heap.size → κ' y = κ y)
    {g : List (List EditP) × Int} (hl : ListRep w' (fun b => κ' b = (i, 5 + p.toNat)) l g.1 [] 0 g.2) : UndosL w' κ' i um (updU u p g) p l := by
  obtain ⟨f, h1, h2, h3, h4⟩ := h
  have hum : ¬ wr w (fun b => κ b = (i, 5 + p.toNat)) um := fun hx => by
    have h5 : κ um = (i, 5 + p.toNat) := hx.1
    rw [hu] at h5
    injection h5 with _ h5
    omega
  refine ⟨f, h1.stay hf hum, fun q hq => ?_, fun q g' hq => ?_, h4⟩
  · unfold updU at hq
    split at hq
    · cases hq
    · exact h2 q hq
  · unfold updU at hq
    split at hq
    · rename_i e
      subst e
      injection hq with hq
      subst hq
      exact ⟨hp, l, h4, hl⟩
    · rename_i hne
      obtain ⟨h0, l', h5, h6⟩ := h3 q g' hq
      refine ⟨h0, l', h5, (h6.within.stay hf (NR.wr _ _) (fun y hy hM => ?_)).mono (fun y hy => by rw [hk y hy.2]; exact hy.1)⟩
      have h7 := hy.1.symm.trans hM.1
      injection h7 with _ h7
      omega

theorem flush_end2 {w w1 V : World} {κ κ1 : Col} {i e b r k tm um h bl l D : Nat} {was : Nat → Value} {putv : Value} {S : EdState} {on : Bool} {N : Int} {F9 : Nat → Prop} (x1 : EdAt w1 κ1 i e b r k tm um h bl was putv S.listed) (u1 : UndosL w1 κ1 i um S.listed.core.undos S.core.place l)
    (hk1 : ∀ y, y < w.heap.size → κ1 y = κ y) (f1 : Fr (edM w κ) w w1) (hok : EdsOk S) (hp : S.put ≠ []) (hV : Fr (wr w1 (fun y => κ1 y = (i, 5 + S.core.place.toNat))) w1 V)
    (hl : ListRep V F9 l (preG on S.lst.1 ++ [oldG on S.lst.1 ++ S.put]) [] 0 N) (hF9 : ∀ y, F9 y → κ1 y = (i, 5 + S.core.place.toNat) ∨ w1.heap.size ≤ y) (hD9 : ¬ F9 D) (hD1 : w1.heap.size ≤ D) (hD : V.heap[D]? = some (.deferred (some []))) (hN : N = S.lst.2 + S.put.length) :
    Flushed w κ i e b r k tm um h bl was S on (.returned (.tuple #[])) (World.putObj (V.setCell ⟨e, 33, none⟩ (.slice none 0 0)) D (.deferred none)) := by
  subst hN
  have hg : flushG on S.lst S.put = (preG on S.lst.1 ++ [oldG on S.lst.1 ++ S.put], S.lst.2 + S.put.length) := flushG_eq on S.lst S.put
  have hpo : ∀ y, y < w1.heap.size → (fun y => if y < w1.heap.size then κ1 y else if y = D then (0, 0) else (i, 5 + S.core.place.toNat)) y = κ1 y := fun y hy => if_pos hy
  have hu2 := u1.setTo (κ' := fun y => if y < w1.heap.size then κ1 y else if y = D then (0, 0) else (i, 5 + S.core.place.toNat)) (g := flushG on S.lst S.put) hok.place x1.core.cu hV hpo (by
    rw [hg]
    refine hl.mono (fun y hy => ?_)
    show (if y < w1.heap.size then κ1 y else if y = D then (0, 0) else (i, 5 + S.core.place.toNat)) = _
    by_cases hlt : y < w1.heap.size
    · rw [if_pos hlt]
      exact (hF9 y hy).elim id (fun h => by omega)
    · rw [if_neg hlt, if_neg (fun h => hD9 (by rw [← h]; exact hy))])
  have hci := x1.ci
  have hnr : NR w1 (wr w1 (fun y => κ1 y = (i, 5 + S.core.place.toNat))) := NR.wr _ _
  have hm4 : ∀ y, wr w1 (fun y => κ1 y = (i, 5 + S.core.place.toNat)) y → y < w1.heap.size → ∃ j, κ1 y = (i, 4 + j) := fun y hy _ => ⟨1 + S.core.place.toNat, by rw [hy.1]; congr 1; omega⟩
  have hmi : ∀ y, wr w1 (fun y => κ1 y = (i, 5 + S.core.place.toNat)) y → y < w1.heap.size → (κ1 y).1 = i := fun y hy _ => by rw [hy.1]
  have hx2 := x1.setCore hV hnr hmi hpo (x1.core.setUndos hV hnr hm4 hpo hu2.at) rfl
  have hκD : (fun y => if y < w1.heap.size then κ1 y else if y = D then (0, 0) else (i, 5 + S.core.place.toNat)) D = (0, 0) := by
    show (if D < w1.heap.size then _ else _) = _
    rw [if_neg (by omega), if_pos rfl]
  generalize (fun y => if y < w1.heap.size then κ1 y else if y = D then (0, 0) else (i, 5 + S.core.place.toNat)) = κ2 at *
  rw [show updU S.listed.core.undos S.core.place (flushG on S.lst S.put) = updU S.core.undos S.core.place (flushG on S.lst S.put) from updU_twice _ _ _ _] at hx2
  have hS : S.flushed on = { S with core := { S.core with undos := updU S.core.undos S.core.place (flushG on S.lst S.put) }, put := [] } := by
    unfold EdState.flushed
    rw [if_neg hp]
    rfl
  have hblk := heap_setCell_same (o := 33) hx2.blk (.slice none 0 0)
  have hfe : Fr (one e) V (V.setCell ⟨e, 33, none⟩ (.slice none 0 0)) := (Fr.refl _ _).setOne _ _
  have hke : κ2 e ≠ (0, 0) := by rw [hx2.ce]; decide
  have hf2 : Fr (edM w1 κ1) w1 V := hV.wr (fun y _ hy => by rw [show κ1 y = _ from hy.1]; intro h0; injection h0 with h0 _; omega) hnr
  have hk2 : ∀ y, y < w.heap.size → κ2 y = κ y := fun y hy => (hpo y (Nat.lt_of_lt_of_le hy f1.size)).trans (hk1 y hy)
  have hDe : D ≠ e := fun h => by rw [h, hx2.ce] at hκD; cases hκD
  have hD2 : (V.setCell ⟨e, 33, none⟩ (.slice none 0 0)).heap[D]? = some (.deferred (some [])) := hfe.keep hD (fun h => hDe h)
  have hfD : Fr (one D) (V.setCell ⟨e, 33, none⟩ (.slice none 0 0)) (World.putObj (V.setCell ⟨e, 33, none⟩ (.slice none 0 0)) D (.deferred none)) := (Fr.refl _ _).putObj _ _ (fun _ => rfl)
  have hnD : NR (V.setCell ⟨e, 33, none⟩ (.slice none 0 0)) (one D) := fun y c fr hb hy => by
    cases hy
    rw [hD2] at hb
    cases hb
  have hx3 : EdAt (V.setCell ⟨e, 33, none⟩ (.slice none 0 0)) κ2 i e b r k tm um h bl was (.slice none 0 0) (S.flushed on) := by
    rw [hS]
    refine EdAt.setE hci hx2.ce hx2.blk hfe ?_ hx2.core ⟨hx2.rest.hist, hx2.rest.cb, hx2.rest.bells, EdS.none _, fun y ⟨_, _, _, h, _⟩ => by cases h⟩ hx2.wone hx2.inn
    exact hblk
  refine ⟨rfl, κ2, .slice none 0 0, hx3.stay hfD hnD (fun y hy _ => by cases hy; exact hκD) (fun _ _ => rfl), hk2, ?_⟩
  have h3 : Fr (edM V κ2) V (V.setCell ⟨e, 33, none⟩ (.slice none 0 0)) := edM.of hfe (NR.one hx2.blk (by decide)) (fun y _ hy => by cases hy; exact hke)
  have h4 := edM.trans (edM.trans f1 hk1 hf2) hk2 h3
  have hws : w.heap.size ≤ D := Nat.le_trans f1.size hD1
  exact h4.trans hfD (fun y hy hM => by cases hM; omega)

theorem FlSt.setOld {w1 V : World} {F0 F : Nat → Prop} {l ob D : Nat} {oldv v : Value} {old g : List EditP} {gs : List (List EditP)} {n opn : Int} (h : FlSt w1 F0 l ob oldv old gs n D none F opn V) (hF : ∀ y, F y → y < w1.heap.size) (ho : EdS V v g) (hr : ∀ y, rowOf v y → w1.heap.size ≤ y) :
    FlSt w1 F0 l ob v g gs n D none F opn (V.setCell ⟨ob, 0, none⟩ v) := by
  have hf : Fr (one ob) V (V.setCell ⟨ob, 0, none⟩ v) := (Fr.refl _ _).setOne _ _
  have hnr : NR V (one ob) := NR.one h.box (by decide)
  have hl := h.lbox
  exact ⟨h.lst.stay hf hnr (fun y hy hM => by cases hM; exact h.nbox hy), fun y hy => Nat.lt_of_lt_of_le (h.bd y hy) hf.size, h.f0, h.fr.trans hf (fun b hb hx => by cases hx; omega), heap_setCell_same (o := 0) h.box v, h.nbox, h.lbox,
    ho.stay hf hnr (fun y hy => ho.rowNe hy h.box (by decide)), fun y hy => ⟨fun hx => by have := hF y hx; have := hr y hy; omega, hr y hy⟩, fun o ho => by cases ho⟩

set_option maxRecDepth 100000 in
set_option maxHeartbeats 4000000 in
theorem ed_flush_on (w : World) (κ : Col) (i e b r k tm um h bl : Nat) (was : Nat → Value) (putv : Value) (S : EdState) (x : EdAt w κ i e b r k tm um h bl was putv S) (hp : S.put ≠ []) (hok : EdsOk S) (pre : List (List EditP)) (g : List EditP) (hg : S.lst.1 = pre ++ [g]) :
    Calls Tryz.prog 90 #[.pointer (some ⟨e, 0, none⟩), .bool true] w (Flushed w κ i e b r k tm um h bl was S true) := by
  obtain ⟨a, c, hpv, _⟩ := x.rest.put.val
  have hc : w.cell? ⟨e, 33, none⟩ = some (.slice a S.put.length c) := by rw [blk_cells x.blk, hpv]; rfl
  have hpos : 0 < S.put.length := List.length_pos_iff.2 hp
  have HL := Lib.hid (ed_list w κ i e b r k tm um h bl was putv S x hok.place)
  have HOK := Lib.hid hok
  have HP := Lib.hid hp
  have hn1 : ((S.put.length : Int) == 0) = false := by rw [beq_eq_false_iff_ne]; omega
  have HPV := Lib.hid hpv
  have HG := Lib.hid hg
  generalize hpl : S.put.length = pl at *
  have HPL := Lib.hid hpl
  clear x hp hpv hok hpl hg
  refine callsIn_wide.1 (callsIn_of_wp_marks (F := Fence.wide) (n := 10) Tryz.func90 rfl trivial (wpIn_wide.2 ?_) rfl)
  simp only [Tryz.ntmps90, List.size_toArray, List.length_cons, List.length_nil, Nat.reduceAdd, Nat.reduceSub, Array.replicate_succ, Array.replicate_zero, List.push_toArray, List.append_toArray, List.nil_append, List.cons_append]
  go_wp2_with (first
    | (go_at_call 94; refine (HL.out).mono ?_; rintro y w1 ⟨l, κ1, rfl, hx1, hu1, hk1, hf1⟩; have HX1 := Lib.hid hx1; have HU1 := Lib.hid hu1; have HK1 := Lib.hid hk1; have HF1 := Lib.hid hf1; have hci1 := hx1.ci; have hll := (hu1.list S.listed_at).2; rw [HOK.out.lst.cnt, HG.out] at hll; have HLL := Lib.hid hll; have HGR := Lib.hid (fun (V : World) (hV : Fr nob w1 V) => undo_groups V _ l _ _ _ (hll.stayN hV) (HG.out ▸ HOK.out.lst.smalls)); clear hx1 hu1 hk1 hf1 hll)
    | (go_at_call 177; refine (HGR.out _ (by exact (Fr.refl _ _).alloc _)).mono ?_; rintro y w2 ⟨x, ag, cg, vs, rfl, hx, hxb, hbody, hf2⟩; rw [List.reverse_append, List.reverse_singleton, List.singleton_append] at hxb hbody; have HXB := Lib.hid hxb; have HBO := Lib.hid hbody; have HF2 := Lib.hid hf2; clear hxb hbody hf2 HGR))
  have hsz2 : w1.heap.size + 1 ≤ w2.heap.size := by have := HF2.out.size; simpa using this
  have hfl : FlSt w1 (fun y => κ1 y = (i, 5 + S.core.place.toNat)) l w1.heap.size (.slice none 0 0) [] (pre ++ [g]) (total (pre ++ [g])) 0 none (fun y => κ1 y = (i, 5 + S.core.place.toNat) ∧ y < w1.heap.size) 0 w2 :=
    FlSt.quiet ⟨HLL.out.within.stayN ((Fr.refl nob w1).alloc _), fun y hy => by have := hy.2; simp; omega, fun y hy => .inl hy.1, (Fr.refl _ _).alloc _, heap_alloc_new _ _, fun h => by have := h.2; omega, Nat.le_refl _, EdS.none _, fun y ⟨_, _, _, h, _⟩ => (by cases h), fun o ho => (by cases ho)⟩ HF2.out
  have HFL := Lib.hid hfl
  have hgne : g ≠ [] := HOK.out.lst.ne g (by rw [HG.out]; simp)
  have hgs : Small g := HOK.out.lst.small g (by rw [HG.out]; simp)
  have HGN := Lib.hid hgne
  have HGS := Lib.hid hgs
  have hpl2 : pre.reverse.length ≤ 100000 := by
    have := HOK.out.lst.smalls.1
    rw [HG.out, List.length_append] at this
    rw [List.length_reverse]
    omega
  have HPR := Lib.hid hpl2
  clear hfl hgne hgs hpl2 hx
  refine (wpIn_wide (n := 10)).1 ?_
  refine range_break 229 #[.pointer (some ⟨x, 0, none⟩)] rfl ?hinv 0 (fun args V => ∃ a3 c3, args = #[.slice a3 g.length c3] ∧ EdS V (.slice a3 g.length c3) g ∧ ∀ y, rowOf (.slice a3 g.length c3) y → w2.heap.size ≤ y) ?hit ?hsz
    (fun args => #[.pointer (some ⟨e, 0, none⟩), .bool true, undef, undef, .pointer (some ⟨l, 0, none⟩), .pointer (some ⟨w1.heap.size, 0, none⟩), undef, undef, undef, .pointer (some ⟨e, 0, none⟩), .pointer (some ⟨e, 0, none⟩), .pointer (some ⟨e, 33, none⟩), .slice a pl c, .int .i64 pl, .bool false, .pointer (some ⟨e, 0, none⟩), .pointer (some ⟨l, 0, none⟩), .bool true, .pointer (some ⟨l, 0, none⟩), .func (.func 229) #[] #[.pointer (some ⟨x, 0, none⟩)], args.getD 0 undef, undef, undef, undef, undef, undef, undef, undef, undef, undef, undef, undef, undef, undef, undef, undef, undef, undef, undef, undef, undef, undef, undef, undef, undef, undef, undef]) ?hT
    (fun V => ∃ ao co, FlSt w1 (fun y => κ1 y = (i, 5 + S.core.place.toNat)) l w1.heap.size (.slice ao g.length co) g (pre ++ [g]) (total (pre ++ [g])) 0 none (fun y => κ1 y = (i, 5 + S.core.place.toNat) ∧ y < w1.heap.size) 0 V) ?hU ?hround ?hdone
  case hinv => intro l W; rfl
  case hit =>
    intro lp W J1 hW hY
    refine groups_first _ lp x (by omega) W _ ag cg vs g pre.reverse J1 (hW.keep HXB.out (fun h => h)) (HBO.out.stay hW (NR.nob _) (fun _ _ _ h => h)) HGS.out HPR.out ?_
    intro V a3 c3 hV hE hr
    exact hY V _ hV ⟨a3, c3, rfl, hE, fun y hy => Nat.le_trans hW.size (hr y hy)⟩
  case hsz =>
    rintro args V ⟨a3, c3, rfl, _⟩
    rfl
  case hT =>
    rintro args V ⟨a3, c3, rfl, _⟩
    exact (zip1 _ _ _).trans rfl
  case hU =>
    rintro V V' ⟨ao, co, h⟩ hf hc
    exact ⟨ao, co, h.off hf hc (fun y hy hM => by have := hy.2; rcases hM with rfl | rfl <;> omega) (fun y hM => by rcases hM with rfl | rfl <;> omega)⟩
  case hround =>
    rintro args W hW ⟨a3, c3, rfl, hE, hr⟩ hlt hnc
    have HE := Lib.hid hE
    have HR := Lib.hid hr
    have HNC := Lib.hid hnc
    have HW := Lib.hid (HFL.out.quiet hW)
    clear hE hr hW hnc
    generalize hgl : g.length = gl at *
    have HGL2 := Lib.hid hgl
    clear hgl
    gi_wp2
    refine ⟨trivial, trivial, ?_⟩
    intro W2 hlt2 hf2 hnc2
    have hW2 := HW.out.off hf2 (fun y hy c T fr => HNC.out y (.inr hy) c T fr) (fun y hy hM => by cases hM; have := hy.2; omega) (fun y hM => by cases hM; omega)
    have HW2 := Lib.hid hW2
    have hE2 : EdS W2 (.slice a3 gl c3) g := HE.out.stay hf2 (fun y c fr hb hy => HNC.out y (.inr hy) c _ fr hb) (fun y hy hM => by
      obtain ⟨⟨xs, ho, _⟩, _⟩ := HE.out
      obtain ⟨c, fr, hb⟩ := ho.rowTy hy
      exact HNC.out y (.inr hM) c _ fr hb)
    obtain ⟨hgn, xs, hs1, hs2⟩ := hE2.sl
    have hCL := clone_edits W2 a3 gl c3 xs hs1 (by have := HGS.out.1; have := HGL2.out; omega)
    have HCL := Lib.hid hCL
    have HS2 := Lib.hid hs2
    have HNC2 := Lib.hid hnc2
    clear hW2 hE2 hgn hs1 hs2 hCL hf2 hnc2
    gi_wp2
    refine ⟨trivial, (CallsIn.inRound (w2.heap.size + 1) (callsIn_wide.2 HCL.out)).mono ?_⟩
    rintro y W3 ⟨a4, c4, rfl, ho4, hf4, hr4⟩
    have hw3 := HW2.out.quiet hf4
    have hcb3 := blk_cells hw3.box
    have hzb3 := blk_free hw3.box
    have hlb3 := blk_lt hw3.box
    have HW3 := Lib.hid hw3
    have HO4 := Lib.hid ho4
    have HF4 := Lib.hid hf4
    have HR4 := Lib.hid hr4
    clear ho4 hf4 hr4 hw3
    gi_wp2
    have hgp : 0 < gl := by have := List.length_pos_iff.2 HGN.out; have := HGL2.out; omega
    have hE4 : EdS W3 (.slice a4 gl c4) g := ⟨⟨xs, by rw [HGL2.out]; exact HO4.out, HS2.out.stay HF4.out (NR.nob _)⟩, (OwnZ.of HO4.out hgp).nil⟩
    have hs2 : w2.heap.size + 1 < W2.heap.size := hlt2
    refine ⟨⟨a4, c4, HW3.out.setOld (fun y hy => hy.2) hE4 (fun y hy => by have := HR4.out y hy; omega)⟩, ?_, ?_⟩
    · exact (heap_setCell_ne (by show w2.heap.size ≠ w1.heap.size; omega) _).trans (HF4.out.blk _ (by omega) (fun h => h))
    · exact ((heap_setCell_ne (by show w2.heap.size + 1 ≠ w1.heap.size; omega) _).trans (HF4.out.blk _ (by omega) (fun h => h))).trans (Array.getElem?_eq_getElem hlt2)
  case hdone =>
    rintro V ⟨ao, co, hst⟩ hD hlt
    have hst2 : FlSt w1 (fun y => κ1 y = (i, 5 + S.core.place.toNat)) l w1.heap.size (.slice ao g.length co) g (pre ++ [g]) (total (pre ++ [g])) w2.heap.size (some (.deferred (some []))) (fun y => κ1 y = (i, 5 + S.core.place.toNat) ∧ y < w1.heap.size) 0 V :=
      ⟨hst.lst, hst.bd, hst.f0, hst.fr, hst.box, hst.nbox, hst.lbox, hst.old, hst.nold, fun o ho => by injection ho with ho; subst ho; exact ⟨hD, fun h => by have := h.2; omega, fun c T fr h => by cases h⟩⟩
    have htot : ((total (pre ++ [g]) : Nat) : Int) - (g.length : Nat) = (total pre : Nat) := by rw [total_append, total_one]; omega
    have hle : total (pre ++ [g]) ≤ 16384 := by have := HOK.out.lst.le; rwa [HG.out] at this
    have hpl3 : (pre ++ [g]).length ≤ 100000 := by have := HOK.out.lst.smalls.1; rwa [HG.out] at this
    have HUN := Lib.hid (undo_undo V _ l (pre ++ [g]) [] 0 _ pre g hst2.lst rfl HGS.out hpl3 (by simp) (by omega) (by omega))
    have HST := Lib.hid hst2
    have HTOT := Lib.hid htot
    have hgl9 : g.length ≤ 16384 := by rw [total_append, total_one] at hle; omega
    have HOL := Lib.hid hgl9
    have HSUM0 := Lib.hid (show g.length + pl + total pre ≤ 16384 from by
      have h1 := HOK.out.room
      have h2 := HPL.out
      rw [HG.out, total_append, total_one] at h1
      omega)
    have HGL := Lib.hid (show pre.length ≤ 100000 from by rw [List.length_append] at hpl3; omega)
    have HALL0 := Lib.hid (show ∀ x ∈ g ++ S.put, EdOk x from fun x hx => (List.mem_append.1 hx).elim (HOK.out.lst.ok g (by rw [HG.out]; simp) x) (HOK.out.put x))
    clear hst hst2 hD hlt htot hle hpl3 hgl9
    generalize hgl : g.length = gl at *
    have HGL2 := Lib.hid hgl
    have HSUM := HSUM0
    clear hgl HSUM0
    go_wp2_with (first
      | (go_at_call 95; refine (HUN.out).mono ?_; rintro y V0 ⟨au, cu, rfl, _, _, hl0, hf0⟩; rw [HGL2.out, HTOT.out] at hl0; have HS0 := Lib.hid (HST.out.call hl0 hf0); clear hl0 hf0))
    go_wp2_with (first
      | (go_at_call 178; refine (undo_begin _ _ l _ _ _ _ HS0.out.lst (by decide)).mono ?_; rintro y V1 ⟨rfl, hl1, hf1⟩; have HS1 := Lib.hid (HS0.out.call (show ListRep V1 _ l pre [] 1 _ from hl1) hf1); clear hl1 hf1))
    have hcb := blk_cells HS1.out.box
    have HF0 := Lib.hid (HS1.out.fr)
    have hnE : ¬ wr w1 (fun y => κ1 y = (i, 5 + S.core.place.toNat)) e := fun hy => by
      have h1 : κ1 e = (i, 5 + S.core.place.toNat) := hy.1
      rw [HX1.out.ce] at h1
      injection h1 with h1 _
      omega
    have he33 : V1.cell? ⟨e, 33, none⟩ = some (.slice a pl c) := by
      rw [blk_cells (HF0.out.keep HX1.out.blk hnE), HPV.out]
      rfl
    have hputs : EdS V1 (.slice a pl c) S.put := by
      have h1 : EdS w1 putv S.put := HX1.out.rest.put
      have h2 := h1.stay HF0.out (NR.wr _ _) (fun y hy hM => by
        have h3 := HX1.out.rest.mp y hy
        have h4 : κ1 y = (i, 5 + S.core.place.toNat) := hM.1
        rw [h3] at h4
        injection h4 with h4 _
        omega)
      rwa [HPV.out] at h2
    obtain ⟨⟨xo, hxo1, hxo2⟩, _⟩ := HS1.out.old
    rw [HGL2.out] at hxo1
    obtain ⟨hpn, xp, hxp1, hxp2⟩ := hputs.sl
    have HPN := Lib.hid hpn
    have HXO := Lib.hid hxo1
    have HXE := Lib.hid hxo2
    have HXP := Lib.hid hxp1
    have HXQ := Lib.hid hxp2
    have hput4 : S.put.length ≤ 16384 := Nat.le_trans (Nat.le_add_left _ _) HOK.out.room
    have hold4 : gl ≤ 16384 := HOL.out
    have hpl4 : pl ≤ 16384 := by have := HPL.out; omega
    have b1 : gl + pl ≤ maxLen := by unfold maxLen; omega
    have b2 : (gl + pl) * 56 ≤ 140737488355328 := by omega
    have HB1 := Lib.hid b1
    have HB2 := Lib.hid b2
    obtain ⟨i0, hi0, hz0, hz1, hz2⟩ := info_parts Tryz.info_edits
    have hnE2 := Lib.hid hnE
    clear hputs hpn hxo1 hxo2 hxp1 hxp2 hput4 hold4 b1 b2 hnE
    obtain ⟨m, hmm⟩ : ∃ m, gl + pl = m := ⟨_, rfl⟩
    have HMM := Lib.hid hmm
    clear hmm
    have HKP : Hid (∀ V V2 : World, Fr nob V1 V → Fr (rowOf (.slice ao gl co)) V V2 → V2.cell? ⟨w1.heap.size, 0, none⟩ = some (.slice ao gl co) ∧ V2.cell? ⟨e, 33, none⟩ = some (.slice a pl c)) := fun V V2 h1 h2 => by
      have ho := HXO.out.stay h1 (fun _ _ _ _ h => h)
      have h3 := h1.keep HS1.out.box (fun h => h)
      have h4 := h1.keep (HF0.out.keep HX1.out.blk hnE2.out) (fun h => h)
      have h5 := blk_cells (h2.keep h3 (fun hr => ho.rowNe hr h3 (by decide) rfl))
      have h6 := blk_cells (h2.keep h4 (fun hr => ho.rowNe hr h4 (by decide) rfl))
      exact ⟨by rw [h5]; rfl, by rw [h6, HPV.out]; rfl⟩
    go_region_held3 (fun V => V.cell? ⟨w1.heap.size, 0, none⟩ = some (.slice ao gl co) ∧ V.cell? ⟨e, 33, none⟩ = some (.slice a pl c))
      ((first | (with_reducible assumption) | (go_keep; done)))
      ((refine step_app rfl (.tmp 27) (.tmp 31) 84 84 rfl 168 i0 _ 3 56 Tryz.underlying84 hi0 hz0 hz1 hz2 rfl (by decide) _ gl xo rfl (by exact HXO.out.stay (Fr.refl nob V1).drew (fun _ _ _ _ h => h)) _ pl xp rfl (by exact (HXP.out.oldN (Fr.refl nob V1).drew).src (P := Tryz.prog) (tx := 84) (by simp) Tryz.underlying84) HB1.out HB2.out ?_; intro av c2 V2 hown2 hfr2 hrow2; rw [HMM.out] at hown2 hrow2 ⊢; have hkp2 := HKP.out _ _ (Fr.refl nob V1).drew hfr2; have HO2 := Lib.hid hown2; have HFR2 := Lib.hid hfr2; have HRW2 := Lib.hid hrow2; clear hown2 hfr2 hrow2))
    have hlp := HS1.out.app (put := S.put) HXE.out HXQ.out (by rw [HPL.out, HGL2.out, HMM.out]; exact HO2.out) HP.out (Fr.ofDrew HFR2.out) HRW2.out (by rw [HGL2.out]; exact HXO.out)
    have hml : (g ++ S.put).length = m := by rw [List.length_append, HPL.out, HGL2.out, HMM.out]
    have hmp : 0 < m := by have := HMM.out; omega
    have hmx : m + total (pre) ≤ 16384 := by have := HSUM.out; have := HMM.out; omega
    have HLP := Lib.hid hlp
    have HML := Lib.hid hml
    have hmI : (m : Int) ≤ 16384 := by omega
    have HMX := Lib.hid hmx
    have HALL := Lib.hid (show ∀ x ∈ g ++ S.put, EdOk x from HALL0.out)
    generalize hes : g ++ S.put = es at *
    have HES := Lib.hid hes
    clear hkp2 HO2 HFR2 HRW2 HKP hlp hml hmx hes he33 hcb HXO HXE HXP HXQ HS1 HS0 HB1 HB2 hpl4
    go_wp2
    go_loopw [8, 34] (fun _ ki V => ∃ (kk : Nat) (F : Nat → Prop), kk ≤ m ∧ ki = .int .i64 kk ∧ Hid (FlLp w1 (fun y => κ1 y = (i, 5 + S.core.place.toNat)) l (.slice av m c2) es (pre) ((total (pre) + kk : Nat) : Int) w2.heap.size (some (.deferred (some []))) F kk V)) (fun _ ki _ => m - (intOf ki).toNat)
    case atStart => exact ⟨0, _, Nat.zero_le _, rfl, (HLP.out.quiet (by first | exact Fr.refl _ _ | exact (Fr.refl nob V2).drew | exact (Fr.refl nob V2).drewN _))⟩
    case round =>
      obtain ⟨kk, F, hk, rfl, HF⟩ := hrel
      by_cases hkt : kk < m
      · have hke : kk < es.length := by have := HML.out; omega
        obtain ⟨hmn, xs, hs1, hs2⟩ := HF.out.tmp.sl
        obtain ⟨g, off, d, cd, ii, ci, rfl, c0, c1, c3, hE⟩ := edit_at hs1 hs2 kk hke
        have hsm := HALL.out _ (List.getElem_mem hke)
        have htk : es.take (kk + 1) = es.take kk ++ [es[kk]] := by rw [List.take_succ_eq_append_getElem hke]
        have HT := Lib.hid htk
        generalize hp : es[kk] = p at *
        obtain ⟨f, ds, is⟩ := p
        simp only at c0 c1 c3 hE
        have HE := Lib.hid hE
        have HSM := Lib.hid hsm
        generalize hx : ds.length = nd at *
        generalize hy : is.length = ni at *
        have HX := Lib.hid hx
        have HY := Lib.hid hy
        have htl : (es.take kk).length ≤ 100000 := by
          have := HML.out
          have := HMX.out
          rw [List.length_take]
          omega
        have HTL := Lib.hid htl
        clear hE hsm htk hp hx hy hmn hs1 hs2 htl
        go_wp2_with fail
        refine (undo_add _ _ l _ _ (total (pre) + kk) _ f ds is (HF.out.lst.stayN ((Fr.refl _ _).alloc _)) (HE.out.stay ((Fr.refl _ _).alloc _) (NR.nob _)) HSM.out.1 (Nat.le_trans HSM.out.2.1 (by omega)) (Nat.le_trans HSM.out.2.2.1 (by omega)) HSM.out.2.2.2 (by have := HMX.out; omega) HTL.out).mono ?_
        rintro y V3 ⟨rfl, hl3, hf3⟩
        have HL3 := Lib.hid hl3
        have HF3 := Lib.hid hf3
        clear hl3 hf3
        go_wp2
        go_roundw
        case rel =>
          have h9 := HL3.out
          rw [show ((total (pre) + kk : Nat) : Int) + 1 = ((total (pre) + (kk + 1) : Nat) : Int) by omega, ← HT.out] at h9
          exact ⟨kk + 1, fun y => plus _ F y ∧ y < _, by omega, by go_num, FlLp.call (HF.out.quiet ((Fr.refl nob _).alloc _)) h9 HF3.out⟩
        case measure => simp [intOf]; omega
      · have hq : kk = m := by omega
        subst hq
        have hfin : es.take kk = es := List.take_of_length_le (by have := HML.out; omega)
        have hlst := HF.out.lst
        rw [hfin] at hlst
        have hgl : (pre).length ≤ 100000 := HGL.out
        have HE4 := Lib.hid (undo_end _ _ l (pre) es 1 _ hlst hgl rfl)
        have HF9 := HF.out.f0
        have HF8 := Lib.hid HF9
        have HFR9 := Lib.hid HF.out.fr
        have HDFR := Lib.hid HF.out.dfr
        clear hlst hfin hgl HF HF9
        go_wp2_with fail
        refine (HE4.out).mono ?_
        rintro y V4 ⟨rfl, hl4, hf4⟩
        have hfr4 := wrSub HFR9.out hf4 HF8.out
        have HFW4 := Lib.hid hf4
        have hb4 := hfr4.keep HX1.out.blk hnE2.out
        have hz4 := blk_free hb4
        have hlt4 := blk_lt hb4
        have hc4 : V4.cell? ⟨e, 33, none⟩ = some putv := by
          rw [blk_cells hb4]
          rfl
        have HL4 := Lib.hid hl4
        have HFR4 := Lib.hid hfr4
        clear hl4 hf4 hfr4 hb4
        go_wp2
        obtain ⟨hDV, hDF, _⟩ := HDFR.out _ rfl
        have hDlt := blk_lt hDV
        have hD4 : V4.heap[w2.heap.size]? = some (.deferred (some [])) := HFW4.out.keep hDV (fun h => hDF h.1)
        have hcl : closed (pre) es = (pre) ++ [es] := by
          unfold closed
          rw [if_neg (by have := HML.out; omega)]
        have hl9 := HL4.out
        rw [hcl, ← HES.out] at hl9
        have hs9 : w1.heap.size ≤ wr.heap.size := HFR9.out.size
        have hDe : w2.heap.size ≠ e := by have := HX1.out.lt; omega
        have hD5 : (V4.setCell ⟨e, 33, none⟩ (.slice none 0 0)).heap[w2.heap.size]? = some (.deferred (some [])) := (heap_setCell_ne hDe _).trans hD4
        refine ⟨by simp, .inl ⟨_, _, rfl, run_takeDeferred hD5, ?_⟩⟩
        refine ⟨_, results_none rfl _ _ _, ?_⟩
        have hF9 : ∀ y, plus wr F y → κ1 y = (i, 5 + S.core.place.toNat) ∨ w1.heap.size ≤ y := fun y hy => by
          rcases hy with hy | hy
          · exact HF8.out y hy
          · exact .inr (by omega)
        have hD9 : ¬ plus wr F w2.heap.size := fun hy => by
          rcases hy with hy | hy
          · exact hDF hy
          · omega
        refine flush_end2 (N := (total pre + kk : Nat)) HX1.out HU1.out HK1.out HF1.out HOK.out HP.out HFR4.out (F9 := plus wr F) ?_ hF9 hD9 (by omega) hD4 ?_
        · have hpr : preG true S.lst.1 = pre := by unfold preG; rw [HG.out]; simp
          have hol : oldG true S.lst.1 = g := by unfold oldG; rw [HG.out]; simp
          rw [hpr, hol]
          exact hl9
        · have h1 := HOK.out.lst.cnt
          rw [HG.out, total_append, total_one] at h1
          have h2 := HMM.out
          have h3 := HPL.out
          have h4 := HGL2.out
          omega

theorem ed_flush (w : World) (κ : Col) (i e b r k tm um h bl : Nat) (was : Nat → Value) (putv : Value) (S : EdState) (on : Bool) (x : EdAt w κ i e b r k tm um h bl was putv S) (hok : EdsOk S) (hon : on = true → S.lst.1 ≠ []) :
    Calls Tryz.prog 90 #[.pointer (some ⟨e, 0, none⟩), .bool on] w (Flushed w κ i e b r k tm um h bl was S on) := by
  by_cases hp : S.put = []
  · exact ed_flush_nil w κ i e b r k tm um h bl was putv S on x hp
  · cases on with
    | false => exact ed_flush_off w κ i e b r k tm um h bl was putv S x hp hok
    | true =>
      rcases List.eq_nil_or_concat S.lst.1 with h0 | ⟨pre, g, hg⟩
      · exact absurd h0 (hon rfl)
      · rw [List.concat_eq_append] at hg
        exact ed_flush_on w κ i e b r k tm um h bl was putv S x hp hok pre g hg
end Go.Proofs.YtbhklkolkclflaaGreatDoor
/- A1: sync/atomic: Add and Load of an Int64. -/
namespace Go.Proofs.YtbhklkolkclflaaGreatDoor
open Go.RowKit

theorem atomic_load (w : World) (b : Nat) (x : Int) (h : w.heap[b]? = some (.cells #[.int .i64 x] 150 (0, 0))) :
    Calls Tryz.prog 93 #[.pointer (some ⟨b, 0, none⟩)] w fun e w' => e = .returned (.int .i64 x) ∧ w' = w := by
  have hc : w.cell? ⟨b, 0, none⟩ = some (.int .i64 x) := by rw [blk_cells h]; rfl
  have hl := run_call_load (P := Tryz.prog) Tryz.func182 (by kernel_rfl) (by kernel_rfl) (by kernel_rfl) .i64 (by kernel_rfl) hc
  clear h
  go_enter Tryz.func93, Tryz.ntmps93
  go_wp2
  go_ret
  exact ⟨rfl, rfl⟩

theorem atomic_add (w : World) (b : Nat) (x y : Int) (h : w.heap[b]? = some (.cells #[.int .i64 x] 150 (0, 0))) (h1 : -9223372036854775808 ≤ x + y) (h2 : x + y ≤ 9223372036854775807) :
    Calls Tryz.prog 89 #[.pointer (some ⟨b, 0, none⟩), .int .i64 y] w fun e w' => e = .returned (.int .i64 (x + y)) ∧ w'.heap[b]? = some (.cells #[.int .i64 (x + y)] 150 (0, 0)) ∧ Fr (one b) w w' := by
  have hc : w.cell? ⟨b, 0, none⟩ = some (.int .i64 x) := by rw [blk_cells h]; rfl
  have hz := blk_free h 0
  have hw : IntKind.i64.wrap (x + y) = x + y := IntWalk.i64_in _ ⟨h1, h2⟩
  have hb := heap_setCell_same (o := 0) h (.int .i64 (x + y))
  have HB := Lib.hid hb
  have hadd := run_call_add (P := Tryz.prog) Tryz.func176 (by kernel_rfl) (by kernel_rfl) (by kernel_rfl) .i64 (by kernel_rfl) (y := y) (s := x + y) hc hz (by simp [go_sem, hw])
  clear h hb hw h1 h2
  go_enter Tryz.func89, Tryz.ntmps89
  go_wp2
  go_ret
  exact ⟨rfl, HB.out, (Fr.refl _ _).setOne _ _⟩
end Go.Proofs.YtbhklkolkclflaaGreatDoor
/- E13: Package editor: End. -/
namespace Go.Proofs.YtbhklkolkclflaaGreatDoor
open Go.RowKit

/-- A command ends: the first part. -/
def EdState.endA (S : EdState) : EdState := if S.f.argues = true then { S with f := { S.f with inn := false } } else { S with f := { S.f with inn := false, given := false, minus := false, arg := -1 } }
/-- Only what is typed. -/
def EdState.types (S : EdState) : Bool := decide (S.f.cls = 3) && S.f.whole
def EdState.endB (S : EdState) (S3 : EdState) : EdState :=
  { S3 with core := { S3.core with run := S.types && (decide (S.put ≠ []) || S.core.run), last := S.f.cls, yf := if S.f.cls = 2 then S.core.yf else 0, yt := if S.f.cls = 2 then S.core.yt else 0 } }
def EdState.endOk (S : EdState) : EdState := S.endB (S.endA.flushed (S.types && S.core.run))

theorem EdState.endA_core (S : EdState) : S.endA.core = S.core := by unfold EdState.endA; split <;> rfl
theorem EdState.endA_put (S : EdState) : S.endA.put = S.put := by unfold EdState.endA; split <;> rfl
theorem EdState.endA_inn (S : EdState) : S.endA.f.inn = false := by unfold EdState.endA; split <;> rfl
theorem EdState.endA_cls (S : EdState) : S.endA.f.cls = S.f.cls ∧ S.endA.f.whole = S.f.whole := by unfold EdState.endA; split <;> exact ⟨rfl, rfl⟩
theorem EdState.endA_ok {S : EdState} (h : EdsOk S) : EdsOk S.endA := by
  unfold EdState.endA
  split <;> exact ⟨h.lists, h.put, h.room, h.place⟩
theorem EdState.endA_lst (S : EdState) : S.endA.lst = S.lst := by
  unfold EdState.lst
  rw [EdState.endA_core]
theorem EdState.flushed_same (S : EdState) (on : Bool) : (S.flushed on).f = S.f ∧ (S.flushed on).core.yf = S.core.yf ∧ (S.flushed on).core.yt = S.core.yt ∧ (S.flushed on).core.run = S.core.run := by
  unfold EdState.flushed
  split <;> exact ⟨rfl, rfl, rfl, rfl⟩

/-- The first part: within no command; the argument. -/
theorem end_first {w w' : World} {κ : Col} {i e b r k tm um h bl : Nat} {was : Nat → Value} {putv : Value} {S : EdState} (x : EdAt w κ i e b r k tm um h bl was putv S) (hf : Fr (one e) w w')
    (hb : w'.heap[e]? = some (.cells (edArr b r k um S.core h bl S.endA.f was putv) 86 (0, 0))) : EdAt w' κ i e b r k tm um h bl was putv S.endA := by
  have hc := EdState.endA_core S
  refine EdAt.setE x.ci x.ce x.blk hf (by unfold EdBlk; rw [hc]; exact hb) (by rw [hc]; exact x.core) ?_ x.wone (fun hi => by rw [EdState.endA_inn] at hi; cases hi)
  unfold EdState.endA
  split <;> exact ⟨x.rest.hist, x.rest.cb, x.rest.bells, x.rest.put, x.rest.mp⟩

/-- The last part. -/
theorem end_last {w w1 W2 : World} {κ κ2 : Col} {i e b r k tm um h bl : Nat} {was : Nat → Value} {putv2 : Value} {S : EdState} (R : Bool) (hR : R = (S.types && (decide (S.put ≠ []) || S.core.run))) (hf1 : Fr (edM w κ) w w1) (hk : ∀ y, y < w1.heap.size → κ2 y = κ y) (hf2 : Fr (edM w1 κ) w1 W2)
    (x2 : EdAt W2 κ2 i e b r k tm um h bl was putv2 (S.endA.flushed (S.types && S.core.run))) :
    EdDone w κ e (.int .i64 0) S.endOk (.returned (.int .i64 0)) (if S.f.cls = 2 then (W2.setCell ⟨e, 10, none⟩ (.bool R)).setCell ⟨e, 6, none⟩ (.int .i64 S.f.cls)
      else (((W2.setCell ⟨e, 10, none⟩ (.bool R)).setCell ⟨e, 6, none⟩ (.int .i64 S.f.cls)).setCell ⟨e, 7, none⟩ (.int .i64 0)).setCell ⟨e, 8, none⟩ (.int .i64 0)) := by
  have hs := EdState.flushed_same S.endA (S.types && S.core.run)
  have hinn : (S.endA.flushed (S.types && S.core.run)).f.inn = false := by rw [hs.1, EdState.endA_inn]
  have hyf : (S.endA.flushed (S.types && S.core.run)).core.yf = S.core.yf := by rw [hs.2.1, EdState.endA_core]
  have hyt : (S.endA.flushed (S.types && S.core.run)).core.yt = S.core.yt := by rw [hs.2.2.1, EdState.endA_core]
  have hS : S.endOk = S.endB (S.endA.flushed (S.types && S.core.run)) := rfl
  rw [hS]
  generalize S.endA.flushed (S.types && S.core.run) = S3 at *
  have hb := x2.blk
  unfold EdBlk edArr at hb
  have hsz : w.heap.size ≤ w1.heap.size := hf1.size
  have hcore : CoreAt W2 κ2 i b r k tm um (S.endB S3).core := ⟨x2.core.cb, x2.core.buf, x2.core.cr, x2.core.ring, x2.core.ck, x2.core.walk, x2.core.ct, x2.core.texts, x2.core.cu, x2.core.undos⟩
  have hrest : EdRest W2 κ2 h bl putv2 (S.endB S3) := ⟨x2.rest.hist, x2.rest.cb, x2.rest.bells, x2.rest.put, x2.rest.mp⟩
  have hke : κ2 e ≠ (0, 0) := by rw [x2.ce]; decide
  have hnr : NR W2 (one e) := NR.one hb (by decide)
  have hk0 : ∀ y, y < w.heap.size → κ2 y = κ y := fun y hy => hk y (by omega)
  have fin : ∀ W4 : World, Fr (one e) W2 W4 → Fr (edM w κ) w W4 := fun W4 h4 =>
    edM.trans (edM.trans hf1 (fun _ _ => rfl) hf2) hk0 (edM.of h4 hnr (fun y _ hy => by cases hy; exact hke))
  subst hR
  split
  · rename_i h2
    have hf : Fr (one e) W2 ((W2.setCell ⟨e, 10, none⟩ (.bool (S.types && (decide (S.put ≠ []) || S.core.run)))).setCell ⟨e, 6, none⟩ (.int .i64 S.f.cls)) := ((Fr.refl _ _).setOne _ _).setOne _ _
    have hbb := heap_setCell_same (o := 6) (heap_setCell_same (o := 10) hb (.bool (S.types && (decide (S.put ≠ []) || S.core.run)))) (.int .i64 S.f.cls)
    refine ⟨rfl, κ2, (EdAt.setE x2.ci x2.ce hb hf (S' := S.endB S3) (was' := was) ?_ hcore hrest x2.wone (fun hi => absurd hi (by show ¬ S3.f.inn = true; rw [hinn]; simp))).rep, hk0, fin _ hf⟩
    unfold EdBlk edArr EdState.endB
    simp only [if_pos h2]
    rw [← hyf, ← hyt]
    exact hbb
  · rename_i h2
    have hf : Fr (one e) W2 ((((W2.setCell ⟨e, 10, none⟩ (.bool (S.types && (decide (S.put ≠ []) || S.core.run)))).setCell ⟨e, 6, none⟩ (.int .i64 S.f.cls)).setCell ⟨e, 7, none⟩ (.int .i64 0)).setCell ⟨e, 8, none⟩ (.int .i64 0)) := ((((Fr.refl _ _).setOne _ _).setOne _ _).setOne _ _).setOne _ _
    have hbb := heap_setCell_same (o := 8) (heap_setCell_same (o := 7) (heap_setCell_same (o := 6) (heap_setCell_same (o := 10) hb (.bool (S.types && (decide (S.put ≠ []) || S.core.run)))) (.int .i64 S.f.cls)) (.int .i64 0)) (.int .i64 0)
    refine ⟨rfl, κ2, (EdAt.setE x2.ci x2.ce hb hf (S' := S.endB S3) (was' := was) ?_ hcore hrest x2.wone (fun hi => absurd hi (by show ¬ S3.f.inn = true; rw [hinn]; simp))).rep, hk0, fin _ hf⟩
    unfold EdBlk edArr EdState.endB
    simp only [if_neg h2]
    exact hbb

/-- The cells that the last part reads and writes. -/
theorem end_cells {V : World} {κ2 : Col} {i e b r k tm um h bl : Nat} {was : Nat → Value} {putv2 : Value} {S : EdState} {on : Bool} (hx : EdAt V κ2 i e b r k tm um h bl was putv2 (S.endA.flushed on)) :
    V.cell? ⟨e, 10, none⟩ = some (.bool S.core.run) ∧ V.cell? ⟨e, 28, none⟩ = some (.int .i64 S.f.cls) ∧ (∃ v, V.cell? ⟨e, 6, none⟩ = some v) ∧ (∃ v, V.cell? ⟨e, 7, none⟩ = some v) ∧ (∃ v, V.cell? ⟨e, 8, none⟩ = some v) ∧ (∀ o, V.frozen? ⟨e, o, none⟩ = false) := by
  have hs := EdState.flushed_same S.endA on
  have hc := blk_cells hx.blk
  refine ⟨?_, ?_, ⟨_, (hc 6).trans rfl⟩, ⟨_, (hc 7).trans rfl⟩, ⟨_, (hc 8).trans rfl⟩, blk_free hx.blk⟩
  · rw [hc]
    show some (Value.bool (S.endA.flushed on).core.run) = _
    rw [hs.2.2.2, EdState.endA_core]
  · rw [hc]
    show some (Value.int .i64 (S.endA.flushed on).f.cls) = _
    rw [hs.1, (EdState.endA_cls S).1]

set_option maxRecDepth 10000 in
set_option maxHeartbeats 2000000 in
theorem ed_end_ok (w : World) (κ : Col) (i e b r k tm um h bl : Nat) (was : Nat → Value) (putv : Value) (S : EdState) (x : EdAt w κ i e b r k tm um h bl was putv S) (hok : EdsOk S) (hin : S.f.inn = true) (hrun : S.core.run = true → S.lst.1 ≠ []) :
    Calls Tryz.prog 26 #[.pointer (some ⟨e, 0, none⟩), .int .i64 0] w (EdDone w κ e (.int .i64 0) S.endOk) := by
  have hpt := ed_part w e b r k um S.core h bl S.f was putv x.blk
  rw [if_pos hin] at hpt
  have HPT := Lib.hid hpt
  have HX := Lib.hid x
  have HOK := Lib.hid hok
  have HRUN := Lib.hid hrun
  have hce := blk_cells x.blk
  have hze := blk_free x.blk
  have hle := blk_lt x.blk
  unfold edArr at hce
  clear x hok hin hpt hrun
  cases ha : S.f.argues
  all_goals rw [ha] at hce
  all_goals have HA := Lib.hid ha
  all_goals clear ha
  all_goals go_enter Tryz.func26, Tryz.ntmps26
  all_goals go_wp2_with (go_at_call 88; refine (HPT.out).mono ?_; rintro y w' ⟨rfl, rfl⟩)
  all_goals refine forget (fun W => Hid (EdAt W κ i e b r k tm um h bl was putv S.endA) ∧ Fr (one e) w' W) ⟨end_first HX.out (by first | exact (Fr.refl _ _).setOne _ _ | exact ((((Fr.refl _ _).setOne _ _).setOne _ _).setOne _ _).setOne _ _) (by
    have hbk := HX.out.blk
    unfold EdBlk edArr at hbk
    unfold edArr EdState.endA
    rw [HA.out]
    first
      | exact heap_setCell_same (o := 16) hbk (.bool false)
      | exact heap_setCell_same (o := 15) (heap_setCell_same (o := 14) (heap_setCell_same (o := 13) (heap_setCell_same (o := 16) hbk (.bool false)) (.bool false)) (.bool false)) (.int .i64 (-1))), by first | exact (Fr.refl _ _).setOne _ _ | exact ((((Fr.refl _ _).setOne _ _).setOne _ _).setOne _ _).setOne _ _⟩ ?_
  all_goals clear hce hze hle HPT
  all_goals rintro W ⟨HW, hfW⟩
  all_goals have hfl := fun (on : Bool) (V : World) (hV : Fr nob W V) (hon : on = true → S.endA.lst.1 ≠ []) => ed_flush V κ i e b r k tm um h bl was putv S.endA on (HW.out.stayN hV (fun _ _ => rfl)) (EdState.endA_ok HOK.out) hon
  all_goals have HFL := Lib.hid hfl
  all_goals clear hfl
  all_goals have hcells := Lib.hid (fun (V : World) (κ2 : Col) (putv2 : Value) (on : Bool) (hx : EdAt V κ2 i e b r k tm um h bl was putv2 (S.endA.flushed on)) => end_cells hx)
  all_goals obtain ⟨pa, pc, hpv, _⟩ := HX.out.rest.put.val
  all_goals have hcW := blk_cells HW.out.blk
  all_goals have hc10 : W.cell? ⟨e, 10, none⟩ = some (.bool S.core.run) := by rw [hcW]; show some (Value.bool S.endA.core.run) = _; rw [EdState.endA_core]
  all_goals have hc28 : W.cell? ⟨e, 28, none⟩ = some (.int .i64 S.f.cls) := by rw [hcW]; show some (Value.int .i64 S.endA.f.cls) = _; rw [(EdState.endA_cls S).1]
  all_goals have hc32 : W.cell? ⟨e, 32, none⟩ = some (.bool S.f.whole) := by rw [hcW]; show some (Value.bool S.endA.f.whole) = _; rw [(EdState.endA_cls S).2]
  all_goals have hc33 : W.cell? ⟨e, 33, none⟩ = some (.slice pa S.put.length pc) := by rw [hcW, hpv]; rfl
  all_goals have hnt : decide (0 < S.put.length) = decide (S.put ≠ []) := by rw [decide_eq_decide]; exact List.length_pos_iff
  all_goals have HNT := Lib.hid hnt
  all_goals have hput : S.put.length ≤ 16384 := Nat.le_trans (Nat.le_add_left _ _) HOK.out.room
  all_goals generalize hpl : S.put.length = pl at *
  all_goals have HPL := Lib.hid hpl
  all_goals clear hcW hpv hnt hpl
  all_goals (
    by_cases h3 : S.f.cls = 3
    · (rw [h3] at hc28
       have h2' : (S.f.cls != 2) = true := by rw [h3]; decide
       have H3 := Lib.hid h3
       clear h3
       cases hw : S.f.whole
       all_goals rw [hw] at hc32
       all_goals have HWH := Lib.hid hw
       all_goals clear hw
       all_goals go_quiet (fail)
       · go_wp2_with (go_at_call 90; refine (HFL.out false _ (by exact (Fr.refl _ _).drewN _) (fun h => by cases h)).mono ?_; rintro y W2 ⟨rfl, κ2, putv2, hx2, hk2, hf2⟩; obtain ⟨d10, d28, ⟨v6, d6⟩, ⟨v7, d7⟩, ⟨v8, d8⟩, dz⟩ := hcells.out _ _ _ _ hx2; have HX2 := Lib.hid hx2; have HK2 := Lib.hid hk2; have HF2 := Lib.hid hf2; clear hx2 hk2 hf2)
         go_wp2
         go_ret
         have hfin := end_last (w := w') (S := S) false (by unfold EdState.types; rw [H3.out, HWH.out]; rfl) (edM.trans (edM.of hfW (NR.one HX.out.blk (by decide)) (fun y _ hy => by cases hy; rw [HX.out.ce]; decide)) (fun _ _ => rfl) (edM.nob ((Fr.refl nob W).drewN nq))) HK2.out HF2.out (by rw [show (S.types && S.core.run) = false from by unfold EdState.types; rw [H3.out, HWH.out]; rfl]; exact HX2.out)
         rw [if_neg (by rw [H3.out]; decide)] at hfin
         exact hfin
       · by_cases hp : S.put = []
         · have hpz : decide (0 < pl) = false := by rw [HNT.out]; simp [hp]
           have HPE := Lib.hid hp
           clear hp
           go_wp2_with (go_at_call 90; refine (HFL.out S.core.run _ (by exact (Fr.refl _ _).drewN _) (fun h => by rw [EdState.endA_lst]; exact HRUN.out h)).mono ?_; rintro y W2 ⟨rfl, κ2, putv2, hx2, hk2, hf2⟩; obtain ⟨d10, d28, ⟨v6, d6⟩, ⟨v7, d7⟩, ⟨v8, d8⟩, dz⟩ := hcells.out _ _ _ _ hx2; have HX2 := Lib.hid hx2; have HK2 := Lib.hid hk2; have HF2 := Lib.hid hf2; clear hx2 hk2 hf2)
           go_wp2
           go_ret
           have hfin := end_last (w := w') (S := S) S.core.run (by unfold EdState.types; rw [H3.out, HWH.out, HPE.out]; simp) (edM.trans (edM.of hfW (NR.one HX.out.blk (by decide)) (fun y _ hy => by cases hy; rw [HX.out.ce]; decide)) (fun _ _ => rfl) (edM.nob ((Fr.refl nob W).drewN nq))) HK2.out HF2.out (by rw [show (S.types && S.core.run) = S.core.run from by unfold EdState.types; rw [H3.out, HWH.out]; simp]; exact HX2.out)
           rw [if_neg (by rw [H3.out]; decide)] at hfin
           exact hfin
         · have hpz : decide (0 < pl) = true := by rw [HNT.out]; simp [hp]
           have HPE := Lib.hid hp
           clear hp
           go_wp2_with (go_at_call 90; refine (HFL.out S.core.run _ (by exact (Fr.refl _ _).drewN _) (fun h => by rw [EdState.endA_lst]; exact HRUN.out h)).mono ?_; rintro y W2 ⟨rfl, κ2, putv2, hx2, hk2, hf2⟩; obtain ⟨d10, d28, ⟨v6, d6⟩, ⟨v7, d7⟩, ⟨v8, d8⟩, dz⟩ := hcells.out _ _ _ _ hx2; have HX2 := Lib.hid hx2; have HK2 := Lib.hid hk2; have HF2 := Lib.hid hf2; clear hx2 hk2 hf2)
           go_wp2
           go_ret
           have hfin := end_last (w := w') (S := S) true (by unfold EdState.types; rw [H3.out, HWH.out]; simp [HPE.out]) (edM.trans (edM.of hfW (NR.one HX.out.blk (by decide)) (fun y _ hy => by cases hy; rw [HX.out.ce]; decide)) (fun _ _ => rfl) (edM.nob ((Fr.refl nob W).drewN nq))) HK2.out HF2.out (by rw [show (S.types && S.core.run) = S.core.run from by unfold EdState.types; rw [H3.out, HWH.out]; simp]; exact HX2.out)
           rw [if_neg (by rw [H3.out]; decide)] at hfin
           exact hfin)
    · (have h3' : (S.f.cls == 3) = false := by rw [beq_eq_false_iff_ne]; exact h3
       have H3 := Lib.hid h3
       clear h3
       by_cases h2 : S.f.cls = 2
       · have h2' : (S.f.cls != 2) = false := by simp [h2]
         have H2 := Lib.hid h2
         clear h2
         go_quiet (fail)
         go_wp2_with (go_at_call 90; refine (HFL.out false _ (by exact (Fr.refl _ _).drewN _) (fun h => by cases h)).mono ?_; rintro y W2 ⟨rfl, κ2, putv2, hx2, hk2, hf2⟩; obtain ⟨d10, d28, ⟨v6, d6⟩, ⟨v7, d7⟩, ⟨v8, d8⟩, dz⟩ := hcells.out _ _ _ _ hx2; have HX2 := Lib.hid hx2; have HK2 := Lib.hid hk2; have HF2 := Lib.hid hf2; clear hx2 hk2 hf2)
         go_wp2
         go_ret
         have hfin := end_last (w := w') (S := S) false (by unfold EdState.types; simp [H3.out]) (edM.trans (edM.of hfW (NR.one HX.out.blk (by decide)) (fun y _ hy => by cases hy; rw [HX.out.ce]; decide)) (fun _ _ => rfl) (edM.nob ((Fr.refl nob W).drewN nq))) HK2.out HF2.out (by rw [show (S.types && S.core.run) = false from by unfold EdState.types; simp [H3.out]]; exact HX2.out)
         rw [if_pos H2.out] at hfin
         exact hfin
       · have h2' : (S.f.cls != 2) = true := by simp [h2]
         have H2 := Lib.hid h2
         clear h2
         go_quiet (fail)
         go_wp2_with (go_at_call 90; refine (HFL.out false _ (by exact (Fr.refl _ _).drewN _) (fun h => by cases h)).mono ?_; rintro y W2 ⟨rfl, κ2, putv2, hx2, hk2, hf2⟩; obtain ⟨d10, d28, ⟨v6, d6⟩, ⟨v7, d7⟩, ⟨v8, d8⟩, dz⟩ := hcells.out _ _ _ _ hx2; have HX2 := Lib.hid hx2; have HK2 := Lib.hid hk2; have HF2 := Lib.hid hf2; clear hx2 hk2 hf2)
         go_wp2
         go_ret
         have hfin := end_last (w := w') (S := S) false (by unfold EdState.types; simp [H3.out]) (edM.trans (edM.of hfW (NR.one HX.out.blk (by decide)) (fun y _ hy => by cases hy; rw [HX.out.ce]; decide)) (fun _ _ => rfl) (edM.nob ((Fr.refl nob W).drewN nq))) HK2.out HF2.out (by rw [show (S.types && S.core.run) = false from by unfold EdState.types; simp [H3.out]]; exact HX2.out)
         rw [if_neg H2.out] at hfin
         exact hfin))
end Go.Proofs.YtbhklkolkclflaaGreatDoor
/- E14: Package editor: Replace, done. -/
namespace Go.Proofs.YtbhklkolkclflaaGreatDoor
open Go.RowKit

/-- A part of a command. -/
def EdStep (w : World) (κ : Col) (i e b r k tm um h bl : Nat) (was : Nat → Value) (S : EdState) (v : Int) (x : Ending) (w' : World) : Prop :=
  x = .returned (.int .i64 v) ∧ ∃ κ' putv', EdAt w' κ' i e b r k tm um h bl was putv' S ∧ (∀ y, y < w.heap.size → κ' y = κ y) ∧ Fr (edM w κ) w w'
theorem EdStep.done {w : World} {κ : Col} {i e b r k tm um h bl : Nat} {was : Nat → Value} {S : EdState} {v : Int} {x : Ending} {w' : World} (hs : EdStep w κ i e b r k tm um h bl was S v x w') : EdDone w κ e (.int .i64 v) S x w' := by
  obtain ⟨h1, κ', putv', h2, h3⟩ := hs
  exact ⟨h1, κ', h2.rep, h3⟩

theorem EdState.bufd_ok {S : EdState} (h : EdsOk S) (f t : Nat) (l : List Int) : EdsOk (S.bufd f t l) := ⟨h.lists, h.put, h.room, h.place⟩
theorem EdState.bufd_lst (S : EdState) (f t : Nat) (l : List Int) : (S.bufd f t l).lst = S.lst := rfl
theorem EdAt.bufd {w w1 : World} {κ : Col} {i e b r k tm um h bl : Nat} {was : Nat → Value} {putv : Value} {S : EdState} (x : EdAt w κ i e b r k tm um h bl was putv S) (f t : Nat) (l : List Int)
    (hb : BufRep w1 b (S.core.text.take f ++ l ++ S.core.text.drop t) (newPoint S.core.point f t l.length) (newMark S.core.mark f t l.length)) (hf : Fr (one b) w w1) : EdAt w1 κ i e b r k tm um h bl was putv (S.bufd f t l) :=
  x.setCore hf x.core.buf.nr (fun y hy _ => by cases hy; rw [x.core.cb]) (fun _ _ => rfl) (x.core.setBuf hf (fun _ _ => rfl) hb) rfl
theorem EdAt.frBuf {w w1 : World} {κ : Col} {i e b r k tm um h bl : Nat} {was : Nat → Value} {putv : Value} {S : EdState} (x : EdAt w κ i e b r k tm um h bl was putv S) (hf : Fr (one b) w w1) : Fr (edM w κ) w w1 :=
  edM.of hf x.core.buf.nr (fun y _ hy => by
    cases hy
    rw [x.core.cb]
    intro h0
    injection h0 with h0 _
    have := x.ci
    omega)

/-- The command's edits are changed. -/
theorem EdAt.setPut {V V' : World} {κ : Col} {i e b r k tm um h bl : Nat} {was : Nat → Value} {putv putv' : Value} {S : EdState} {es : List EditP} (x : EdAt V κ i e b r k tm um h bl was putv S) (hf : Fr (fun y => y = e ∨ rowOf putv y) V V')
    (hblk : EdBlk V' e b r k um S.core h bl S.f was putv') (hput : EdS V' putv' es) (hrow : ∀ y, rowOf putv' y → rowOf putv y ∨ V.heap.size ≤ y) :
    EdAt V' (paint κ V.heap.size (3, 3)) i e b r k tm um h bl was putv' { S with put := es } ∧ Fr (edM V κ) V V' := by
  have hpo := paint_old κ V.heap.size (3, 3)
  have hci := x.ci
  have hcol : ∀ y, (y = e ∨ rowOf putv y) → κ y = (3, 0) ∨ κ y = (3, 3) := fun y hy => hy.elim (fun h => .inl (h ▸ x.ce)) (fun h => .inr (x.rest.mp y h))
  have hnr : NR V (fun y => y = e ∨ rowOf putv y) := fun y c fr hb hy => by
    rcases hy with rfl | hy
    · rw [show V.heap[y]? = _ from x.blk] at hb
      injection hb with hb
      injection hb with _ hb _
      exact absurd hb (by decide)
    · obtain ⟨⟨xs, ho, _⟩, _⟩ := x.rest.put
      exact ho.nrRow (by decide) y c fr hb hy
  have hn : ∀ j, j ≠ 3 → ∀ y, (y = e ∨ rowOf putv y) → y < V.heap.size → (κ y).1 ≠ j := fun j hj y hy _ h0 => by
    rcases hcol y hy with h1 | h1 <;> (rw [h1] at h0; exact hj h0.symm)
  refine ⟨⟨hci, (hpo _ x.lt).trans x.ce, hblk, x.core.stay hf hnr (hn i (by omega)) hpo, ?_, x.wone, fun hi => ?_⟩, edM.of hf hnr (fun y _ hy h0 => by rcases hcol y hy with h1 | h1 <;> (rw [h1] at h0; cases h0))⟩
  · have hb := blk_lt x.rest.bells
    have h0 : ∀ y j, κ y = (3, j) → j ≠ 0 → j ≠ 3 → ¬ (y = e ∨ rowOf putv y) := fun y j hy h1 h2 hM => by
      rcases hcol y hM with h3 | h3
      · rw [h3] at hy; injection hy with _ hy; exact h1 hy.symm
      · rw [h3] at hy; injection hy with _ hy; exact h2 hy.symm
    refine ⟨(x.rest.hist.within.stay hf (fun y hy => h0 y 1 hy.1 (by omega) (by omega))).mono (fun y hy => (hpo y hy.2).trans hy.1), (hpo _ hb).trans x.rest.cb, hf.keep x.rest.bells (h0 _ 2 x.rest.cb (by omega) (by omega)), hput, fun y hy => ?_⟩
    rcases hrow y hy with h1 | h1
    · exact (hpo y (x.rest.put.lt y h1)).trans (x.rest.mp y h1)
    · exact paint_new _ _ _ _ h1
  · obtain ⟨b2, r2, k2, tm2, um2, h6, h7⟩ := x.inn hi
    exact ⟨b2, r2, k2, tm2, um2, h6, h7.stay hf hnr (hn (3 - i) (by omega)) hpo⟩
theorem EdAt.addPut {V V1 V5 : World} {κ : Col} {i e b r k tm um h bl : Nat} {was : Nat → Value} {pa av : Option Addr} {pl pc c2 : Nat} {S : EdState} {ed : EditP} {xs news : List Value} (x : EdAt V κ i e b r k tm um h bl was (.slice pa pl pc) S) (hpl : pl = S.put.length)
    (hxs : Own V 168 3 (.slice pa pl pc) pl xs) (hxe : edCells V xs S.put) (hV1 : Fr nob V V1) (hnew : edCells V1 news [ed])
    (ho : Own V5 168 3 (.slice av (pl + 1) c2) (pl + 1) (xs ++ news)) (hf : Fr (rowOf (.slice pa pl pc)) V1 V5) (hr : rowOf (.slice pa pl pc) = rowOf (.slice av (pl + 1) c2) ∨ ∀ y, rowOf (.slice av (pl + 1) c2) y → V1.heap.size ≤ y) :
    EdAt (V5.setCell ⟨e, 33, none⟩ (.slice av (pl + 1) c2)) (paint κ V.heap.size (3, 3)) i e b r k tm um h bl was (.slice av (pl + 1) c2) { S with put := S.put ++ [ed] } ∧ Fr (edM V κ) V (V5.setCell ⟨e, 33, none⟩ (.slice av (pl + 1) c2)) := by
  have hs := hV1.size
  have hfe : Fr (fun y => y = e ∨ rowOf (.slice pa pl pc) y) V V5 := (hV1.mono (M1 := fun y => y = e ∨ rowOf (.slice pa pl pc) y) (fun _ _ h => h.elim)).trans (hf.mono (M1 := fun y => y = e ∨ rowOf (.slice pa pl pc) y) (fun _ _ h => .inr h)) (fun _ _ h => h)
  have hfs := hfe.setIn e 33 (.slice av (pl + 1) c2) (.inl rfl)
  have hbe : V5.heap[e]? = _ := hf.keep (hV1.keep x.blk (fun h => h)) (fun hr => (hxs.stay hV1 (fun _ _ _ _ h => h)).rowNe hr (hV1.keep x.blk (fun h => h)) (by decide) rfl)
  refine x.setPut hfs (heap_setCell_same (o := 33) hbe _) ?_ (fun y hy => ?_)
  · refine EdS.stay (M := one e) ?_ ((Fr.refl _ _).setOne _ _) (NR.one hbe (by decide)) (fun y hy hM => ?_)
    · exact EdS.snoc (k := pl) hpl (hxs.stay hV1 (fun _ _ _ _ h => h)) (hxe.stay hV1 (NR.nob _)) hnew ho hf
    · obtain ⟨c, fr, hb⟩ := ho.rowTy hy
      cases hM
      rw [hbe] at hb
      injection hb with hb
      injection hb with _ hb _
      exact absurd hb (by decide)
  · rcases hr with hr | hr
    · rw [← hr] at hy
      exact .inl hy
    · have := hr y hy
      exact .inr (by omega)

set_option maxRecDepth 10000 in
set_option maxHeartbeats 2000000 in
theorem ed_replace_room (w : World) (κ : Col) (i e b r k tm um h bl : Nat) (was : Nat → Value) (putv : Value) (S : EdState) (x : EdAt w κ i e b r k tm um h bl was putv S) (hok : EdsOk S) (hin : S.f.inn = true) (f t : Nat) (l : List Int) (al : Option Addr) (cl : Nat)
    (hl : Sl w 1 al l.length cl (runes l)) (hft : f ≤ t) (ht : t ≤ S.core.text.length) (hlen : l.length + (S.core.text.length - (t - f)) ≤ 1024) (hroom : total S.lst.1 + S.put.length < 16384) :
    Calls Tryz.prog 84 #[.pointer (some ⟨e, 0, none⟩), .int .i64 f, .int .i64 t, .slice al l.length cl] w (EdStep w κ i e b r k tm um h bl was (S.replaced f t l) 0) := by
  have hpt := ed_part w e b r k um S.core h bl S.f was putv x.blk
  rw [if_pos hin] at hpt
  have HPT := Lib.hid hpt
  have HX := Lib.hid x
  have HOK := Lib.hid hok
  have HIN := Lib.hid hin
  have HB := Lib.hid (buf_replace_ok w b S.core.text S.core.point S.core.mark f t l al cl x.core.buf hl hft ht hlen)
  have hc0 : w.cell? ⟨e, 0, none⟩ = some (.pointer (some ⟨b, 0, none⟩)) := by rw [blk_cells x.blk]; rfl
  obtain ⟨pa, pc, hpv, _⟩ := x.rest.put.val
  have HPV := Lib.hid hpv
  have HR := Lib.hid hroom
  have hnd : ((S.core.text.drop f).take (t - f)).length = t - f := by rw [List.length_take, List.length_drop]; omega
  have HND := Lib.hid hnd
  have hpl4 : S.put.length ≤ 16384 := by omega
  generalize hndx : ((S.core.text.drop f).take (t - f)) = dl at *
  have HDL := Lib.hid hndx
  generalize hdn : dl.length = nd at *
  generalize hln : l.length = ni at *
  generalize hpn : S.put.length = pl at *
  have HDN := Lib.hid hdn
  have HLN := Lib.hid hln
  have HPN := Lib.hid hpn
  have hn1 : ni ≤ 1024 := by omega
  have hn2 : nd ≤ 1024 := by
    have := x.core.buf.len
    obtain ⟨_, _, _, _, _, _, _, _, _, _, _, _, _, _, h3, _⟩ := this
    omega
  clear x hok hin hpt hl hpv hroom hnd hndx hdn hln hpn
  by_cases hz : nd + ni = 0
  · have hz2 : IntKind.i64.wrap ((nd : Int) + ni) = nd + ni := IntWalk.i64_in _ (by omega)
    have hz3 : decide ((0 : Int) < nd + ni) = false := decide_eq_false (by omega)
    have HZ := Lib.hid hz
    clear hz
    go_enter Tryz.func84, Tryz.ntmps84
    go_wp2_with (first
      | (go_at_call 88; refine (HPT.out).mono ?_; rintro y w' ⟨rfl, rfl⟩)
      | (go_at_call 170; refine (HB.out).mono ?_; rintro y w1 ⟨v, rfl, ⟨d1, i1, cd, ci, rfl, hd1, hi1⟩, hb1, hf1⟩; rw [HDL.out] at hd1 ⊢; rw [HDN.out] at hd1 ⊢; rw [HLN.out] at hi1 hb1 ⊢; have HD1 := Lib.hid hd1; have HI1 := Lib.hid hi1; have HB1 := Lib.hid hb1; have HF1 := Lib.hid hf1; clear hd1 hi1 hb1 hf1))
    go_ret
    have hS : S.replaced f t l = S.bufd f t l := by
      unfold EdState.replaced
      rw [if_pos (by have := HZ.out; have := HND.out; have := HLN.out; omega)]
    refine ⟨rfl, κ, putv, ?_, fun _ _ => rfl, (HX.out.frBuf HF1.out).alloc _⟩
    rw [hS]
    exact (HX.out.bufd f t l (by rw [HLN.out]; exact HB1.out) HF1.out).stayN ((Fr.refl _ _).alloc _) (fun _ _ => rfl)
  · have hz1 : (0 : Int) < nd + ni := by omega
    have hz2 : IntKind.i64.wrap ((nd : Int) + ni) = nd + ni := IntWalk.i64_in _ (by omega)
    have hz3 : decide ((0 : Int) < nd + ni) = true := by simpa using hz1
    have HZ := Lib.hid hz
    clear hz
    go_enter Tryz.func84, Tryz.ntmps84
    go_wp2_with (first
      | (go_at_call 88; refine (HPT.out).mono ?_; rintro y w' ⟨rfl, rfl⟩)
      | (go_at_call 170; refine (HB.out).mono ?_; rintro y w1 ⟨v, rfl, ⟨d1, i1, cd, ci, rfl, hd1, hi1⟩, hb1, hf1⟩; rw [HDL.out] at hd1 ⊢; rw [HDN.out] at hd1 ⊢; rw [HLN.out] at hi1 hb1 ⊢; have HD1 := Lib.hid hd1; have HI1 := Lib.hid hi1; have HB1 := Lib.hid hb1; have HF1 := Lib.hid hf1; clear hd1 hi1 hb1 hf1))
    have hxw : EdAt (w1.alloc (.cells #[.int .i64 f, .slice d1 nd cd, .slice i1 ni ci] 168)) (paint κ w1.heap.size (0, 0)) i e b r k tm um h bl was putv (S.bufd f t l) :=
      (HX.out.bufd f t l (by rw [HLN.out]; exact HB1.out) HF1.out).stayN ((Fr.refl _ _).alloc _) (paint_old _ _ _)
    have hxc := heap_alloc_new w1 (.cells #[.int .i64 f, .slice d1 nd cd, .slice i1 ni ci] 168)
    have hfw : Fr (edM w' κ) w' (w1.alloc (.cells #[.int .i64 f, .slice d1 nd cd, .slice i1 ni ci] 168)) := (HX.out.frBuf HF1.out).alloc _
    have hev : EditV (w1.alloc (.cells #[.int .i64 f, .slice d1 nd cd, .slice i1 ni ci] 168)) (.agg #[.int .i64 f, .slice d1 nd cd, .slice i1 ni ci]) f dl l := by
      refine EditV.stay (w := w1) ⟨d1, i1, cd, ci, ?_, ?_, ?_⟩ ((Fr.refl nob _).alloc _) (NR.nob _)
      · rw [HDN.out, HLN.out]
      · rw [HDN.out]; exact HD1.out
      · rw [HLN.out]; exact HI1.out
    have hsw := HF1.out.size
    clear hc0
    refine forget (fun W => Hid (EdAt W (paint κ w1.heap.size (0, 0)) i e b r k tm um h bl was putv (S.bufd f t l)) ∧ Hid (W.heap[w1.heap.size]? = some (.cells #[.int .i64 f, .slice d1 nd cd, .slice i1 ni ci] 168 (0, 0))) ∧
      Hid (EditV W (.agg #[.int .i64 f, .slice d1 nd cd, .slice i1 ni ci]) f dl l) ∧ Fr (edM w' κ) w' W) ⟨hxw, hxc, hev, hfw⟩ ?_
    clear hxw hxc hev hfw
    rintro W ⟨HXW, HXC, HEV, hfW⟩
    have hκx : paint κ w1.heap.size (0, 0) w1.heap.size = (0, 0) := paint_new _ _ _ _ (Nat.le_refl _)
    have hκo : ∀ y, y < w'.heap.size → paint κ w1.heap.size (0, 0) y = κ y := fun y hy => paint_old _ _ _ _ (by omega)
    generalize paint κ w1.heap.size (0, 0) = κa at *
    have HKX := Lib.hid hκx
    have HKO := Lib.hid hκo
    have hplc := HOK.out.place
    have hli : ∀ V, Fr nob W V → Calls Tryz.prog 94 #[.pointer (some ⟨e, 0, none⟩)] V (Listed V κa i e b r k tm um h bl was putv (S.bufd f t l)) := fun V hV => ed_list V κa i e b r k tm um h bl was putv (S.bufd f t l) (HXW.out.stayN hV (fun _ _ => rfl)) hplc
    have HLI := Lib.hid hli
    have hS33 : ∀ (V : World) (κ2 : Col) (S2 : EdState), EdAt V κ2 i e b r k tm um h bl was putv S2 → V.cell? ⟨e, 33, none⟩ = some (.slice pa pl pc) := fun V κ2 S2 hx => by
      rw [blk_cells hx.blk, HPV.out]
      rfl
    have HS33 := Lib.hid hS33
    have hS0 := hS33 _ _ _ HXW.out
    have hcnt := HOK.out.lst.cnt
    have htn := HR.out
    generalize hE : (total S.lst.1 : Int) = E at *
    have HE := Lib.hid hE
    have hE0 : 0 ≤ E := by omega
    have hwr : IntKind.i64.wrap (E + pl) = E + pl := IntWalk.i64_in _ (by omega)
    have hge : decide (16384 ≤ E + (pl : Int)) = false := decide_eq_false (by omega)
    have HCNT := Lib.hid hcnt
    clear hκx hκo hli hS33 hplc hcnt htn hE
    go_region_held3 (fun V => V.cell? ⟨e, 33, none⟩ = some (.slice pa pl pc))
      ((first | (with_reducible assumption) | (go_keep; done) | exact HS33.out _ _ _ HX2.out))
      (first
        | (go_at_call 94; refine (HLI.out _ (by exact (Fr.refl _ _).drew)).mono ?_; rintro y V2 ⟨ls, κ2, rfl, hx2, hu2, hk2, hf2⟩; have hs33 := HS33.out _ _ _ hx2; have hlr := (hu2.list (EdState.listed_at _)).2; rw [show (S.bufd f t l).lst.2 = E from HCNT.out] at hlr; have HX2 := Lib.hid hx2; have HU2 := Lib.hid hu2; have HK2 := Lib.hid hk2; have HF2 := Lib.hid hf2; have HLR := Lib.hid hlr; clear hx2 hu2 hk2 hf2 hlr)
        | (go_at_call 171; refine (undo_edits _ _ _ _ _ _ _ HLR.out).mono ?_; rintro y V3 ⟨rfl, rfl⟩))
    have hfV : Fr (edM W κa) W V3 := Fr.ofDrew HF2.out
    have hkV : ∀ y, y < W.heap.size → κ2 y = κa y := HK2.out
    have hxk : ¬ edM W κa w1.heap.size := fun h => h.1 HKX.out
    have hxc3 := hfV.keep HXC.out hxk
    have HEV3 := Lib.hid (HEV.out.stay hfV (NR.wr _ _))
    have HFV := Lib.hid hfV
    have HKV := Lib.hid hkV
    have HXC3 := Lib.hid hxc3
    have hce3 := blk_free HX2.out.blk
    have hle3 := blk_lt HX2.out.blk
    have hcx3 := blk_cells hxc3
    obtain ⟨⟨xs, hxs, hxe⟩, _⟩ := HX2.out.rest.put
    have hpn2 : (S.bufd f t l).listed.put.length = pl := HPN.out
    rw [hpn2, HPV.out] at hxs
    have HXS := Lib.hid hxs
    have HXE := Lib.hid hxe
    obtain ⟨i0, hi0, hz0, hz1', hz2'⟩ := info_parts Tryz.info_edits
    have HXo : Hid (∀ V : World, Fr nob V3 V → Own V 168 3 (.slice pa pl pc) pl xs) := fun V hV => HXS.out.stay hV (fun _ _ _ _ h => h)
    have HSr : Hid (∀ (V : World) (da2 ia2 : Option Addr) (dc2 ic2 x y : Nat), Src Tryz.prog 3 84 (.slice (some ⟨V.heap.size, 0, none⟩) 1 1) 1 [.int .i64 f, .slice da2 x dc2, .slice ia2 y ic2] (V.alloc (.cells #[.int .i64 f, .slice da2 x dc2, .slice ia2 y ic2] 168)).drew) := fun V da2 ia2 dc2 ic2 x y =>
      ((Sl.ofRow V #[.int .i64 f, .slice da2 x dc2, .slice ia2 y ic2] 168 (by simp [Value.oneCell'])).oldN (Fr.refl nob _).drew).src (P := Tryz.prog) (tx := 84) (by simp) Tryz.underlying84
    have HB1' := Lib.hid (show pl + 1 ≤ maxLen from by unfold maxLen; omega)
    have HB2' := Lib.hid (show (pl + 1) * 56 ≤ 140737488355328 from by omega)
    have HKP : Hid (∀ V V2 : World, Fr nob V3 V → Fr (rowOf (.slice pa pl pc)) V V2 → (∃ v, V2.cell? ⟨e, 33, none⟩ = some v) ∧ V2.frozen? ⟨e, 33, none⟩ = false ∧ e < V2.heap.size) := fun V V2 h1 h2 => by
      have h3 := h1.keep HX2.out.blk (fun h => h)
      have h4 := h2.keep h3 (fun hr => (HXo.out V h1).rowNe hr h3 (by decide) rfl)
      exact ⟨⟨_, (blk_cells h4 33).trans rfl⟩, blk_free h4 33, blk_lt h4⟩
    clear hfV hkV hxk hxc3 hxs hxe hpn2 hS0
    go_wp2
    go_region_law (first
      | (refine step_app rfl (.tmp 65) (.tmp 67) 84 84 rfl 168 i0 _ 3 56 Tryz.underlying84 hi0 hz0 hz1' hz2' rfl (by decide) (.slice pa pl pc) pl xs rfl (by exact HXo.out _ ((Fr.refl _ _).alloc _).drew) _ 1 _ rfl (by exact HSr.out _ _ _ _ _ _ _) HB1'.out HB2'.out ?_; intro av c2 V5 hown5 hfr5 hrow5; obtain ⟨⟨v33, e33⟩, z33, l33⟩ := HKP.out _ _ ((Fr.refl _ _).alloc _).drew hfr5; have HO5 := Lib.hid hown5; have HF5 := Lib.hid hfr5; have HR5 := Lib.hid hrow5; clear hown5 hfr5 hrow5))
    all_goals go_wp2
    all_goals go_ret
    all_goals
      have hxp : EdAt V3 κ2 i e b r k tm um h bl was (.slice pa pl pc) (S.bufd f t l).listed := by
        have h0 := HX2.out
        rwa [HPV.out] at h0
      have hnew : edCells (V3.alloc (.cells #[.int .i64 f, .slice d1 nd cd, .slice i1 ni ci] 168)).drew [.int .i64 f, .slice d1 nd cd, .slice i1 ni ci] [((f : Int), dl, l)] :=
        (HEV3.out.stay ((Fr.refl nob V3).alloc (.cells #[.int .i64 f, .slice d1 nd cd, .slice i1 ni ci] 168)).drew (NR.nob _)).cells
      obtain ⟨hfin, hff⟩ := EdAt.addPut hxp HPN.out.symm HXS.out HXE.out ((Fr.refl nob V3).alloc (.cells #[.int .i64 f, .slice d1 nd cd, .slice i1 ni ci] 168)).drew hnew HO5.out HF5.out HR5.out
      have hS : S.replaced f t l = { (S.bufd f t l).listed with put := (S.bufd f t l).listed.put ++ [((f : Int), dl, l)] } := by
        unfold EdState.replaced
        rw [if_neg (by have := HZ.out; have := HND.out; have := HLN.out; omega), HDL.out]
        have hr : (S.bufd f t l).roomed = (S.bufd f t l).listed := by
          unfold EdState.roomed
          rw [if_neg]
          have h1 : (S.bufd f t l).lst.2 = E := HCNT.out
          have h2 : (S.bufd f t l).put.length = pl := HPN.out
          rw [h1, h2]
          have h3 := HR.out
          have h4 := HE.out
          omega
        rw [hr]
      refine ⟨rfl, _, _, by rw [hS]; exact hfin, fun y hy => ?_, ?_⟩
      · rw [paint_old _ _ _ y (Nat.lt_of_lt_of_le hy (Nat.le_trans hfW.size HFV.out.size)), HKV.out y (Nat.lt_of_lt_of_le hy hfW.size), HKO.out y hy]
      · exact edM.trans (edM.trans hfW HKO.out HFV.out) (fun y hy => (HKV.out y (Nat.lt_of_lt_of_le hy hfW.size)).trans (HKO.out y hy)) hff
end Go.Proofs.YtbhklkolkclflaaGreatDoor
/- E15: Package editor: Type, Move, Line. -/
namespace Go.Proofs.YtbhklkolkclflaaGreatDoor
open Go.RowKit

/-- Where what is typed ends. -/
def EdState.typeTo (S : EdState) (n : Nat) : Nat := if S.core.over = true then min (S.core.point.toNat + n) S.core.text.length else S.core.point.toNat
def EdState.classed (S : EdState) : EdState := if S.f.cls = 0 then { S with f := { S.f with cls := 3 } } else S
def EdState.typed (S : EdState) (l : List Int) : EdState := (S.replaced S.core.point.toNat (S.typeTo l.length) l).classed
theorem EdState.replaced_f (S : EdState) (f t : Nat) (l : List Int) : (S.replaced f t l).f = S.f := by
  unfold EdState.replaced EdState.roomed
  split
  · rfl
  · split <;> rfl

theorem EdAt.classed {w w' : World} {κ : Col} {i e b r k tm um h bl : Nat} {was : Nat → Value} {putv : Value} {S : EdState} (x : EdAt w κ i e b r k tm um h bl was putv S) (h0 : S.f.cls = 0) (hw : w' = w.setCell ⟨e, 28, none⟩ (.int .i64 3)) :
    EdAt w' κ i e b r k tm um h bl was putv S.classed ∧ Fr (edM w κ) w w' := by
  subst hw
  have hf : Fr (one e) w (w.setCell ⟨e, 28, none⟩ (.int .i64 3)) := (Fr.refl _ _).setOne _ _
  have hS : S.classed = { S with f := { S.f with cls := 3 } } := by unfold EdState.classed; rw [if_pos h0]
  rw [hS]
  refine ⟨EdAt.setE x.ci x.ce x.blk hf (heap_setCell_same (o := 28) x.blk _) x.core ⟨x.rest.hist, x.rest.cb, x.rest.bells, x.rest.put, x.rest.mp⟩ x.wone x.inn, edM.of hf (NR.one x.blk (by decide)) (fun y _ hy => by cases hy; rw [x.ce]; decide)⟩

set_option maxRecDepth 10000 in
set_option maxHeartbeats 2000000 in
theorem ed_type_room (w : World) (κ : Col) (i e b r k tm um h bl : Nat) (was : Nat → Value) (putv : Value) (S : EdState) (x : EdAt w κ i e b r k tm um h bl was putv S) (hok : EdsOk S) (hin : S.f.inn = true) (l : List Int) (al : Option Addr) (cl : Nat)
    (hl : Sl w 1 al l.length cl (runes l)) (hll : l.length ≤ 1024) (hlen : l.length + (S.core.text.length - (S.typeTo l.length - S.core.point.toNat)) ≤ 1024) (hroom : total S.lst.1 + S.put.length < 16384) (hover : S.core.over = false) :
    Calls Tryz.prog 40 #[.pointer (some ⟨e, 0, none⟩), .slice al l.length cl] w (EdStep w κ i e b r k tm um h bl was (S.typed l) 0) := by
  have hpt := ed_part w e b r k um S.core h bl S.f was putv x.blk
  rw [if_pos hin] at hpt
  have HPT := Lib.hid hpt
  have hbf := x.core.buf
  have hbd : 0 ≤ S.core.point ∧ S.core.point ≤ S.core.text.length ∧ S.core.text.length ≤ 1024 := by
    obtain ⟨_, _, _, _, _, _, _, _, _, _, _, _, h1, h2, h3, _⟩ := hbf
    exact ⟨h2, h3, h1⟩
  obtain ⟨p, hp⟩ := Int.eq_ofNat_of_zero_le hbd.1
  have htn : S.core.point.toNat = p := by rw [hp]; rfl
  have HX := Lib.hid x
  have hov : w.cell? ⟨e, 5, none⟩ = some (.bool S.core.over) := by rw [blk_cells x.blk]; rfl
  have hc0 : w.cell? ⟨e, 0, none⟩ = some (.pointer (some ⟨b, 0, none⟩)) := by rw [blk_cells x.blk]; rfl
  have hpn := fun (V : World) (hV : Fr nob w V) => buf_point V b _ _ _ (hbf.stayN hV)
  simp only [hp] at hpn
  have HPN := Lib.hid hpn
  have htp : S.core.point.toNat ≤ S.typeTo l.length ∧ S.typeTo l.length ≤ S.core.text.length := by
    unfold EdState.typeTo
    have := hbd.2.1
    split <;> omega
  have hrep := fun (V : World) (hV : Fr nob w V) => ed_replace_room V κ i e b r k tm um h bl was putv S (x.stayN hV (fun _ _ => rfl)) hok hin S.core.point.toNat (S.typeTo l.length) l al cl (hl.oldN hV) htp.1 htp.2 hlen hroom
  have HREP := Lib.hid hrep
  have hbl : S.core.text.length ≤ 1024 := hbd.2.2
  have hpl : p ≤ S.core.text.length := by have := hbd.2.1; omega
  have HTN := Lib.hid htn
  have HTY := Lib.hid (show S.typeTo l.length = if S.core.over = true then min (p + l.length) S.core.text.length else p from by unfold EdState.typeTo; rw [htn])
  clear x hok hin hpt hl hbf hbd hp htn hpn htp hrep hlen hroom
  have HTD := Lib.hid (show ∀ S' : EdState, S' = S.replaced S.core.point.toNat (S.typeTo l.length) l → S.typed l = S'.classed from fun S' h => by rw [h]; rfl)
  generalize hcx : S.typed l = ST at *
  clear hcx
  generalize hrx : S.replaced S.core.point.toNat (S.typeTo l.length) l = SR at *
  have HRX := Lib.hid hrx.symm
  have HSF := Lib.hid (show SR.f = S.f from by rw [← hrx, EdState.replaced_f])
  clear hrx
  generalize hn : S.core.text.length = n at *
  generalize hm : l.length = m at *
  have HSN := Lib.hid hn
  clear hn hm
  rw [hover] at hov
  have hty := HTY.out
  rw [hover] at hty
  have HO := Lib.hid hover
  clear hover HTY
  cases hcl : decide (S.f.cls = 0)
  all_goals have HC := Lib.hid hcl
  all_goals have hcb : (S.f.cls == 0) = decide (S.f.cls = 0) := rfl
  all_goals rw [hcl] at hcb
  all_goals clear hcl
  · have HT2 := Lib.hid (show S.typeTo m = p from hty)
    clear hty
    go_enter Tryz.func40, Tryz.ntmps40
    go_wp2_with (first
      | (go_at_call 88; refine (HPT.out).mono ?_; rintro y w' ⟨rfl, rfl⟩)
      | (go_at_call 107; refine (HPN.out _ (by first | exact Fr.refl nob _ | exact (Fr.refl nob _).drewN _)).mono ?_; rintro y w' ⟨rfl, rfl⟩)
      | (go_at_call 84; (have hq := HREP.out _ (by first | exact Fr.refl nob _ | exact (Fr.refl nob _).drewN _)); (rw [HTN.out, HT2.out] at hq); refine hq.mono ?_; clear hq; rintro y w2 ⟨rfl, κ2, putv2, hx2, hk2, hf2⟩; have d28 := (blk_cells hx2.blk 28).trans (show _ = some (Value.int .i64 S.f.cls) by (rw [← HSF.out]; rfl)); have z28 := blk_free hx2.blk 28; have l28 := blk_lt hx2.blk; have HX2 := Lib.hid hx2; have HK2 := Lib.hid hk2; have HF2 := Lib.hid hf2; clear hx2 hk2 hf2))
    all_goals go_ret
    all_goals first
      | (have hcl0 : SR.f.cls = 0 := by (rw [HSF.out]; exact (of_decide_eq_true HC.out))
         obtain ⟨h5, h6⟩ := EdAt.classed HX2.out hcl0 rfl
         rw [HTD.out SR rfl]
         exact ⟨rfl, κ2, putv2, h5, HK2.out, edM.trans (w := w') (w1 := w2) (by first | exact HF2.out | exact Fr.ofDrewN HF2.out) HK2.out h6⟩)
      | (have hcl0 : SR.classed = SR := by (unfold EdState.classed; rw [if_neg (by rw [HSF.out]; exact (of_decide_eq_false HC.out))])
         rw [HTD.out SR rfl, hcl0]
         exact ⟨rfl, κ2, putv2, HX2.out, HK2.out, (by first | exact HF2.out | exact Fr.ofDrewN HF2.out)⟩)
  · have HT2 := Lib.hid (show S.typeTo m = p from hty)
    clear hty
    go_enter Tryz.func40, Tryz.ntmps40
    go_wp2_with (first
      | (go_at_call 88; refine (HPT.out).mono ?_; rintro y w' ⟨rfl, rfl⟩)
      | (go_at_call 107; refine (HPN.out _ (by first | exact Fr.refl nob _ | exact (Fr.refl nob _).drewN _)).mono ?_; rintro y w' ⟨rfl, rfl⟩)
      | (go_at_call 84; (have hq := HREP.out _ (by first | exact Fr.refl nob _ | exact (Fr.refl nob _).drewN _)); (rw [HTN.out, HT2.out] at hq); refine hq.mono ?_; clear hq; rintro y w2 ⟨rfl, κ2, putv2, hx2, hk2, hf2⟩; have d28 := (blk_cells hx2.blk 28).trans (show _ = some (Value.int .i64 S.f.cls) by (rw [← HSF.out]; rfl)); have z28 := blk_free hx2.blk 28; have l28 := blk_lt hx2.blk; have HX2 := Lib.hid hx2; have HK2 := Lib.hid hk2; have HF2 := Lib.hid hf2; clear hx2 hk2 hf2))
    all_goals go_ret
    all_goals first
      | (have hcl0 : SR.f.cls = 0 := by (rw [HSF.out]; exact (of_decide_eq_true HC.out))
         obtain ⟨h5, h6⟩ := EdAt.classed HX2.out hcl0 rfl
         rw [HTD.out SR rfl]
         exact ⟨rfl, κ2, putv2, h5, HK2.out, edM.trans (w := w') (w1 := w2) (by first | exact HF2.out | exact Fr.ofDrewN HF2.out) HK2.out h6⟩)
      | (have hcl0 : SR.classed = SR := by (unfold EdState.classed; rw [if_neg (by rw [HSF.out]; exact (of_decide_eq_false HC.out))])
         rw [HTD.out SR rfl, hcl0]
         exact ⟨rfl, κ2, putv2, HX2.out, HK2.out, (by first | exact HF2.out | exact Fr.ofDrewN HF2.out)⟩)

set_option maxRecDepth 10000 in
theorem ed_move_ok (w : World) (κ : Col) (i e b r k tm um h bl : Nat) (was : Nat → Value) (putv : Value) (S : EdState) (x : EdAt w κ i e b r k tm um h bl was putv S) (hin : S.f.inn = true) (q : Int) (h0 : 0 ≤ q) (h1 : q ≤ S.core.text.length) :
    Calls Tryz.prog 44 #[.pointer (some ⟨e, 0, none⟩), .int .i64 q] w (EdStep w κ i e b r k tm um h bl was { S with core := { S.core with point := q } } 0) := by
  have hpt := ed_part w e b r k um S.core h bl S.f was putv x.blk
  rw [if_pos hin] at hpt
  have HPT := Lib.hid hpt
  have hmv := buf_move w b _ _ _ q x.core.buf
  rw [if_pos ⟨h0, h1⟩] at hmv
  have HMV := Lib.hid hmv
  have hc0 : w.cell? ⟨e, 0, none⟩ = some (.pointer (some ⟨b, 0, none⟩)) := by rw [blk_cells x.blk]; rfl
  have HX := Lib.hid x
  clear x hin hpt hmv h0 h1
  go_enter Tryz.func44, Tryz.ntmps44
  go_wp2_with (first
    | (go_at_call 88; refine (HPT.out).mono ?_; rintro y w' ⟨rfl, rfl⟩)
    | (go_at_call 113; refine (HMV.out).mono ?_; rintro y w2 ⟨rfl, hb2, hf2⟩; have HB2 := Lib.hid hb2; have HF2 := Lib.hid hf2; clear hb2 hf2))
  go_ret
  exact ⟨rfl, κ, putv, HX.out.setCore HF2.out HX.out.core.buf.nr (fun y hy _ => by cases hy; rw [HX.out.core.cb]) (fun _ _ => rfl) (HX.out.core.setBuf HF2.out (fun _ _ => rfl) HB2.out) rfl, fun _ _ => rfl, HX.out.frBuf HF2.out⟩

/-- What Line answers. -/
def EdLine (w : World) (L : List Int) (p m : Int) (x : Ending) (w' : World) : Prop :=
  ∃ a c, x = .returned (.agg #[.slice a L.length c, .int .i64 p, .int .i64 m]) ∧ Own w' 21 1 (.slice a L.length c) L.length (runes L) ∧ Fr nob w w'

set_option maxRecDepth 10000 in
theorem ed_line (w : World) (κ : Col) (e : Nat) (S : EdState) (x : EdRep w κ e S) :
    Calls Tryz.prog 31 #[.pointer (some ⟨e, 0, none⟩)] w (EdLine w S.core.text S.core.point S.core.mark) := by
  obtain ⟨i, b, r, k, tm, um, h, bl, was, putv, x⟩ := x
  have hW : Fr nob w (w.alloc (.cells #[.slice none 0 0, .int .i64 0, .int .i64 0] 57)) := (Fr.refl _ _).alloc _
  have HN := Lib.hid (ed_none _ e b r k um S.core h bl S.f was putv (hW.keep x.blk (fun h => h)))
  have hbl := buf_line _ b _ _ _ (x.core.buf.stayN hW)
  have HBL := Lib.hid hbl
  have hc0 := (blk_cells (hW.keep x.blk (fun h => h)) 0).trans (show _ = some (Value.pointer (some ⟨b, 0, none⟩)) from rfl)
  clear x hW hbl
  go_enter Tryz.func31, Tryz.ntmps31
  go_wp2_with (first
    | (go_at_call 81; refine (HN.out).mono ?_; rintro y w' ⟨rfl, rfl⟩)
    | (go_at_call 99; refine (HBL.out).mono ?_; rintro y w2 ⟨a, c, rfl, ho, hf, hr⟩; have hb2 := hf.keep (heap_alloc_new w _) (fun h => h); have hcb := blk_cells hb2; have hzb := blk_free hb2; have hlb := blk_lt hb2; have HB2 := Lib.hid hb2; have HO := Lib.hid ho; have HF := Lib.hid hf; clear ho hf hr hb2))
  refine bodyPost_ret (v := .agg #[.slice a S.core.text.length c, .int .i64 S.core.point, .int .i64 S.core.mark]) (by simp [results, Tryz.results31, go_sem, hcb]) rfl ⟨a, c, rfl, ?_, ?_⟩
  · exact HO.out.stay ((((Fr.refl (one w.heap.size) w2).setOne _ _).setOne _ _).setOne _ _) (NR.one HB2.out (by decide))
  · exact (((((Fr.refl nob w).alloc _).then HF.out).setNew _ _ _ (Nat.le_refl _)).setNew _ _ _ (Nat.le_refl _)).setNew _ _ _ (Nat.le_refl _)
end Go.Proofs.YtbhklkolkclflaaGreatDoor
/- E16: Package editor: Undo, done. -/
namespace Go.Proofs.YtbhklkolkclflaaGreatDoor
open Go.RowKit

/-- The list at the place is changed. -/
theorem EdAt.setList {w1 V : World} {κ1 : Col} {i e b r k tm um h bl l : Nat} {was : Nat → Value} {putv : Value} {S : EdState} {g : List (List EditP) × Int} (x1 : EdAt w1 κ1 i e b r k tm um h bl was putv S.listed) (u1 : UndosL w1 κ1 i um S.listed.core.undos S.core.place l) (hp : 0 ≤ S.core.place)
    (hV : Fr (wr w1 (fun y => κ1 y = (i, 5 + S.core.place.toNat))) w1 V) (hl : ListRep V (plus w1 (fun y => κ1 y = (i, 5 + S.core.place.toNat))) l g.1 [] 0 g.2) :
    EdAt V (paint κ1 w1.heap.size (i, 5 + S.core.place.toNat)) i e b r k tm um h bl was putv (S.setLst g) ∧ Fr (edM w1 κ1) w1 V := by
  have hu2 := u1.set (g := g) hp x1.core.cu hV hl
  have hci := x1.ci
  have hnr : NR w1 (wr w1 (fun y => κ1 y = (i, 5 + S.core.place.toNat))) := NR.wr _ _
  have hm4 : ∀ y, wr w1 (fun y => κ1 y = (i, 5 + S.core.place.toNat)) y → y < w1.heap.size → ∃ j, κ1 y = (i, 4 + j) := fun y hy _ => ⟨1 + S.core.place.toNat, by rw [hy.1]; congr 1; omega⟩
  have hmi : ∀ y, wr w1 (fun y => κ1 y = (i, 5 + S.core.place.toNat)) y → y < w1.heap.size → (κ1 y).1 = i := fun y hy _ => by rw [hy.1]
  have hpo := paint_old κ1 w1.heap.size (i, 5 + S.core.place.toNat)
  have hx2 := x1.setCore hV hnr hmi hpo (x1.core.setUndos hV hnr hm4 hpo hu2.at) rfl
  rw [show updU S.listed.core.undos S.core.place g = updU S.core.undos S.core.place g from updU_twice _ _ _ _] at hx2
  exact ⟨hx2, hV.wr (fun y _ hy => by rw [show κ1 y = _ from hy.1]; intro h0; injection h0 with h0 _; omega) hnr⟩

theorem EdsOk.flushed {S : EdState} (h : EdsOk S) (on : Bool) : EdsOk (S.flushed on) := by
  unfold EdState.flushed
  split
  · exact h
  · rename_i hne
    have hl := h.lst.flush (on := on) h.put h.room hne
    refine ⟨fun p g hp => ?_, fun e he => absurd he (by simp), ?_, h.place⟩
    · have hp' : updU S.core.undos S.core.place (flushG on S.lst S.put) p = some g := hp
      unfold updU at hp'
      split at hp'
      · injection hp' with hp'
        rw [← hp']
        exact hl
      · exact h.lists p g hp'
    · have h1 : EdState.lst { S.setLst (flushG on S.lst S.put) with put := [] } = flushG on S.lst S.put := EdState.lst_of (if_pos rfl)
      rw [h1]
      have := hl.le
      simpa using this

/-- Another line. -/
def EdState.lined (S : EdState) (s : LineS) : EdState := { S with core := { S.core with text := s.text, point := s.point, mark := s.mark } }
def EdState.line (S : EdState) : LineS := ⟨S.core.text, S.core.point, S.core.mark⟩
/-- The last group is taken back. -/
def EdState.undone (S : EdState) (pre : List (List EditP)) (g : List EditP) : EdState :=
  let S2 := (S.setLst (pre, (total pre : Nat))).lined (S.line.edits (g.reverse.map inv))
  { S2 with core := { S2.core with run := false }, f := { S2.f with whole := false } }

theorem FitAll.at {es : List EditP} : ∀ {L : List Int} (k : Nat) (hk : k < es.length), FitAll L es → FitsE (doAll L (es.take k)) es[k] := by
  induction es with
  | nil => intro L k hk; simp at hk
  | cons e es ih =>
    intro L k hk h
    cases k with
    | zero => exact h.1
    | succ k => exact ih k (by simpa using hk) h.2

/-- An edit is done to the editor's line. -/
theorem EdAt.applied {w w1 : World} {κ : Col} {i e b r k tm um h bl : Nat} {was : Nat → Value} {putv : Value} {S : EdState} {s : LineS} {f : Nat} {d ins : List Int} {x : Ending} (x0 : EdAt w κ i e b r k tm um h bl was putv (S.lined s)) (ha : Applied w b s.text s.point s.mark f d ins x w1) :
    x = .returned (.int .i64 0) ∧ EdAt w1 κ i e b r k tm um h bl was putv (S.lined (s.edit ((f : Int), d, ins))) ∧ Fr (one b) w w1 := by
  obtain ⟨h1, h2, h3⟩ := ha
  refine ⟨h1, ?_, h3⟩
  exact x0.setCore h3 x0.core.buf.nr (fun y hy _ => by cases hy; rw [x0.core.cb]) (fun _ _ => rfl) (x0.core.setBuf h3 (fun _ _ => rfl) h2) rfl
theorem undone_end {w w1 V : World} {κ κ1 : Col} {i e b r k tm um h bl : Nat} {was : Nat → Value} {putv : Value} {S : EdState} {pre : List (List EditP)} {g : List EditP} (hf : Fr (edM w κ) w V) (hk : ∀ y, y < w.heap.size → κ1 y = κ y)
    (x : EdAt V κ1 i e b r k tm um h bl was putv ((S.setLst (pre, (total pre : Nat))).lined (S.line.edits (g.reverse.map inv)))) (hw : w1 = (V.setCell ⟨e, 32, none⟩ (.bool false)).setCell ⟨e, 10, none⟩ (.bool false)) :
    EdStep w κ i e b r k tm um h bl was (S.undone pre g) 0 (.returned (.int .i64 0)) w1 := by
  subst hw
  have hfe : Fr (one e) V ((V.setCell ⟨e, 32, none⟩ (.bool false)).setCell ⟨e, 10, none⟩ (.bool false)) := ((Fr.refl _ _).setOne _ _).setOne _ _
  have hb := heap_setCell_same (o := 10) (heap_setCell_same (o := 32) x.blk (.bool false)) (.bool false)
  refine ⟨rfl, κ1, putv, EdAt.setE x.ci x.ce x.blk hfe (S' := S.undone pre g) hb ⟨x.core.cb, x.core.buf, x.core.cr, x.core.ring, x.core.ck, x.core.walk, x.core.ct, x.core.texts, x.core.cu, x.core.undos⟩ ⟨x.rest.hist, x.rest.cb, x.rest.bells, x.rest.put, x.rest.mp⟩ x.wone x.inn, hk, ?_⟩
  exact edM.trans hf hk (edM.of hfe (NR.one x.blk (by decide)) (fun y _ hy => by cases hy; rw [x.ce]; decide))

set_option maxRecDepth 10000 in
set_option maxHeartbeats 2000000 in
theorem ed_undo_ok (w : World) (κ : Col) (i e b r k tm um h bl : Nat) (was : Nat → Value) (putv : Value) (S : EdState) (x : EdAt w κ i e b r k tm um h bl was putv S) (hok : EdsOk S) (hin : S.f.inn = true) (pre : List (List EditP)) (g : List EditP) (hg : (S.flushed false).lst.1 = pre ++ [g])
    (hfit : FitAll S.core.text (g.reverse.map inv)) :
    Calls Tryz.prog 28 #[.pointer (some ⟨e, 0, none⟩)] w (EdStep w κ i e b r k tm um h bl was ((S.flushed false).undone pre g) 0) := by
  have hpt := ed_part w e b r k um S.core h bl S.f was putv x.blk
  rw [if_pos hin] at hpt
  have HPT := Lib.hid hpt
  have HFL := Lib.hid (ed_flush w κ i e b r k tm um h bl was putv S false x hok (fun h => by cases h))
  have hok1 := hok.flushed false
  have hln : (S.flushed false).line = S.line := by unfold EdState.flushed; split <;> rfl
  have htx : (S.flushed false).core.text = S.core.text := by unfold EdState.flushed; split <;> rfl
  rw [← htx] at hfit
  generalize hS1 : S.flushed false = S1 at *
  have HS1 := Lib.hid hS1
  have HOK := Lib.hid hok1
  have HG := Lib.hid hg
  have HFT := Lib.hid hfit
  have hgs : Small g := hok1.lst.small g (by rw [hg]; simp)
  have hcnt := hok1.lst.cnt
  rw [hg, total_append, total_one] at hcnt
  have hle := hok1.lst.le
  rw [hg, total_append, total_one] at hle
  have hpl : (pre ++ [g]).length ≤ 100000 := by rw [← hg]; exact hok1.lst.smalls.1
  have HGS := Lib.hid hgs
  have HCNT := Lib.hid hcnt
  have HLE := Lib.hid hle
  have HPL := Lib.hid hpl
  clear x hok hin hpt hok1 hln htx hS1 hfit hg hgs hcnt hle hpl
  go_enter Tryz.func28, Tryz.ntmps28
  go_wp2_with (first
    | (go_at_call 88; refine (HPT.out).mono ?_; rintro y w' ⟨rfl, rfl⟩)
    | (go_at_call 90; refine (HFL.out).mono ?_; rintro y w1 ⟨rfl, κ1, putv1, hx1, hk1, hf1⟩; rw [HS1.out] at hx1; have HX1 := Lib.hid hx1; have HK1 := Lib.hid hk1; have HF1 := Lib.hid hf1; clear hx1 hk1 hf1)
    | (go_at_call 94; refine (ed_list _ κ1 i e b r k tm um h bl was putv1 S1 HX1.out HOK.out.place).mono ?_; rintro y w2 ⟨ls, κ2, rfl, hx2, hu2, hk2, hf2⟩; have hlr := (hu2.list S1.listed_at).2; rw [HG.out] at hlr; have HX2 := Lib.hid hx2; have HU2 := Lib.hid hu2; have HK2 := Lib.hid hk2; have HF2 := Lib.hid hf2; have HLR := Lib.hid hlr; clear hx2 hu2 hk2 hf2 hlr)
    | (go_at_call 95; refine (undo_undo _ _ _ _ [] 0 _ pre g HLR.out rfl HGS.out HPL.out (by simp) (by rw [HCNT.out]; omega) (by have := HLE.out; rw [HCNT.out]; omega)).mono ?_; rintro y w3 ⟨at', ct, rfl, he3, hr3, hl3, hf3⟩; have HE3 := Lib.hid he3; have HL3 := Lib.hid hl3; have HF3 := Lib.hid hf3; clear he3 hr3 hl3 hf3))
  have hgl : (g.reverse.map inv).length = g.length := by rw [List.length_map, List.length_reverse]
  have hsub : S1.lst.2 - (g.length : Nat) = (total pre : Nat) := by rw [HCNT.out]; omega
  have hl3 := HL3.out
  rw [hsub] at hl3
  obtain ⟨hx3, hf3⟩ := HX2.out.setList (g := (pre, (total pre : Nat))) HU2.out HOK.out.place HF3.out hl3
  have hk3 : ∀ y, y < w'.heap.size → paint κ2 w2.heap.size (i, 5 + S1.core.place.toNat) y = κ y := fun y hy => by
    have h1 := HF1.out.size
    have h2 := HF2.out.size
    rw [paint_old _ _ _ y (by omega), HK2.out y (by omega), HK1.out y hy]
  have hfr3 : Fr (edM w' κ) w' w3 := edM.trans (edM.trans HF1.out HK1.out HF2.out) (fun y hy => by
    have h1 := HF1.out.size
    rw [HK2.out y (by omega), HK1.out y hy]) hf3
  generalize paint κ2 w2.heap.size (i, 5 + S1.core.place.toNat) = κ3 at *
  have hfall := HFT.out
  have hsm3 : ∀ x ∈ g.reverse.map inv, 0 ≤ x.1 := fun x hx => by
    obtain ⟨y, hy, rfl⟩ := List.mem_map.1 hx
    exact (HOK.out.lst.ok g (by rw [HG.out]; simp) y (by simpa using hy)).1
  generalize hes : g.reverse.map inv = es at *
  have HES := Lib.hid hes
  generalize hgn : g.length = gn at *
  have HGN := Lib.hid hgn
  have HGL := Lib.hid hgl
  have HK3 := Lib.hid hk3
  have HFA := Lib.hid hfall
  have HS3 := Lib.hid hsm3
  have HX3 := Lib.hid hx3
  have HFR3 := Lib.hid hfr3
  have hgI : gn ≤ 16384 := by have := HLE.out; omega
  have hgI2 : (gn : Int) ≤ 16384 := by omega
  clear hes hgn hgl hsub hl3 hx3 hf3 hk3 hfr3 hfall hsm3
  go_loopw [7, 26] (fun _ ki V => ∃ kk : Nat, kk ≤ gn ∧ ki = .int .i64 kk ∧ Hid (EdAt V κ3 i e b r k tm um h bl was putv1 ((S1.setLst (pre, (total pre : Nat))).lined (S1.line.edits (es.take kk)))) ∧ Hid (EdS V (.slice at' gn ct) es) ∧ Hid (Fr (edM w' κ) w' V)) (fun _ ki _ => gn - (intOf ki).toNat)
  case atStart => exact ⟨0, Nat.zero_le _, rfl, HX3.out, HE3.out, HFR3.out⟩
  case round =>
    obtain ⟨kk, hk, rfl, HXV, HEV, HFV⟩ := hrel
    by_cases hkt : kk < gn
    · have hke : kk < es.length := by have := HGL.out; omega
      obtain ⟨hgx, xs, hs1, hs2⟩ := HEV.out.sl
      clear hgx
      obtain ⟨gg, off, d, cd, ii, ci, rfl, c0, c1, c3, hE⟩ := edit_at hs1 hs2 kk hke
      have hf0 := HS3.out _ (List.getElem_mem hke)
      have hft := FitAll.at kk hke HFA.out
      have htk : es.take (kk + 1) = es.take kk ++ [es[kk]] := by rw [List.take_succ_eq_append_getElem hke]
      have HT := Lib.hid htk
      generalize hp : es[kk] = p at *
      obtain ⟨f, ds, is⟩ := p
      simp only at c0 c1 c3 hE hf0
      obtain ⟨fn, rfl⟩ := Int.eq_ofNat_of_zero_le hf0
      obtain ⟨ht0, ht1, ht2, ht3⟩ := hft
      simp only [Int.toNat_natCast] at ht1 ht2 ht3
      have htext : ((S1.setLst (pre, (total pre : Nat))).lined (S1.line.edits (es.take kk))).core.text = doAll S1.core.text (es.take kk) := LineS.edits_text _ _
      rw [← htext] at ht1 ht2 ht3
      obtain ⟨d', i', cd', ci', hv, ho1, ho2⟩ := hE
      injection hv with hv
      simp only [Array.mk.injEq, List.cons.injEq, true_and, and_true] at hv
      obtain ⟨hv1, hv2⟩ := hv
      injection hv1 with hv1 _ hv3
      injection hv2 with hv2 _ hv4
      subst hv1 hv2 hv3 hv4
      have hap := fun (V : World) (hV : Fr nob wr V) => buf_apply_ok V b _ _ _ fn ds is d ii cd ci ((HXV.out.core.buf).stayN hV) (ho1.sl.oldN hV) (ho2.sl.oldN hV) ht1 ht2 (by rw [Nat.add_comm] at *; omega)
      have HAP := Lib.hid hap
      have hcb : wr.cell? ⟨e, 0, none⟩ = some (.pointer (some ⟨b, 0, none⟩)) := by rw [blk_cells HXV.out.blk]; rfl
      have hcb3 : ∀ o : Obj, (wr.alloc o).cell? ⟨e, 0, none⟩ = some (.pointer (some ⟨b, 0, none⟩)) := fun o => by rw [blk_cells (((Fr.refl nob wr).alloc o).keep HXV.out.blk (fun h => h))]; rfl
      have hle := HXV.out.lt
      generalize hx : ds.length = nd at *
      generalize hy : is.length = ni at *
      have HXL := Lib.hid hx
      have HYL := Lib.hid hy
      clear htk hp hx hy hs1 hs2 ht0 ht1 ht2 ht3 htext ho1 ho2 hap hf0
      go_wp2
      have hxw := heap_alloc_new wr (.cells #[.int .i64 fn, .slice d nd cd, .slice ii ni ci] 168)
      refine forget (fun W => Hid (W.heap[wr.heap.size]? = some (.cells #[.int .i64 fn, .slice d nd cd, .slice ii ni ci] 168 (0, 0))) ∧ Fr nob wr W) ⟨hxw, (Fr.refl _ _).alloc _⟩ ?_
      clear hxw hcb hcb3 hle
      rintro W ⟨HXW, hfW⟩
      have hcx := blk_cells HXW.out
      have hcb : W.cell? ⟨e, 0, none⟩ = some (.pointer (some ⟨b, 0, none⟩)) := by
        rw [blk_cells (hfW.keep HXV.out.blk (fun h => h))]
        rfl
      go_still_tail 6, (by kernel_rfl)
      go_wp2_with fail
      refine (HAP.out _ (by first | exact hfW.drew | exact hfW)).mono ?_
      rintro y V3 ha
      obtain ⟨rfl, hx4, hf4⟩ := EdAt.applied (HXV.out.stayN hfW.drew (fun _ _ => rfl)) ha
      have HX4 := Lib.hid hx4
      have HF4 := Lib.hid hf4
      clear ha hx4 hf4 hcb hcx
      go_wp2
      go_roundw
      case rel =>
        refine ⟨kk + 1, by omega, by go_num, ?_, ?_, ?_⟩
        · show EdAt _ _ _ _ _ _ _ _ _ _ _ _ _ (EdState.lined _ (LineS.edits _ _))
          rw [HT.out]
          have := HX4.out
          unfold LineS.edits
          rw [List.foldl_append]
          exact this
        · exact (HEV.out.stayN hfW.drew).stay HF4.out (HXV.out.core.buf.stayN hfW.drew).nr (fun y hy hM => by
            have h1 := HEV.out.stayN hfW.drew
            obtain ⟨cb, hcb2⟩ := (HXV.out.core.buf.stayN hfW.drew).blk
            exact h1.rowNe hy hcb2 (by decide) hM)
        · exact (HFV.out.then hfW.drew).trans HF4.out (fun y hy hM => by
            cases hM
            have h1 := HXV.out.core.cb
            have h2 := HK3.out b hy
            refine ⟨?_, fun c fr h => ?_⟩
            · show κ b ≠ (0, 0)
              rw [← h2, h1]
              intro h0
              injection h0 with h0 _
              have := HXV.out.ci
              omega
            · exact (HXV.out.core.buf.nr) b c fr (HFV.out.keep h (fun hx => hx.2 c fr h)) rfl)
      case measure => simp [intOf]; omega
    · have hq : kk = gn := by omega
      subst hq
      have hcv := HXV.out.blk
      have hz := blk_free hcv
      have hlt := blk_lt hcv
      have hc32 : ∃ v, wr.cell? ⟨e, 32, none⟩ = some v := ⟨_, (blk_cells hcv 32).trans rfl⟩
      have hc10 : ∃ v, wr.cell? ⟨e, 10, none⟩ = some v := ⟨_, (blk_cells hcv 10).trans rfl⟩
      obtain ⟨v32, hc32⟩ := hc32
      obtain ⟨v10, hc10⟩ := hc10
      have hxv := HXV.out
      rw [List.take_of_length_le (by have := HGL.out; omega), ← HES.out] at hxv
      have HX9 := Lib.hid hxv
      clear hcv hxv
      go_wp2
      go_ret
      exact undone_end HFV.out HK3.out HX9.out rfl
end Go.Proofs.YtbhklkolkclflaaGreatDoor
/- E17: Package editor: undoes, Kills, saved at rest. -/
namespace Go.Proofs.YtbhklkolkclflaaGreatDoor
open Go.RowKit

set_option maxRecDepth 10000 in
set_option maxHeartbeats 1000000 in
theorem ed_undoes_rest (w : World) (κ : Col) (e : Nat) (S : EdState) (x : EdRep w κ e S) (hok : EdsOk S) (hin : S.f.inn = false) :
    Calls Tryz.prog 92 #[.pointer (some ⟨e, 0, none⟩)] w fun y w' => y = .returned (.int .i64 S.lst.1.length) ∧ Fr nob w w' := by
  obtain ⟨i, b, r, k, tm, um, h, bl, was, putv, x⟩ := x
  obtain ⟨f, hf1, hf2, hf3⟩ := x.core.undos
  have hce := blk_cells x.blk
  have hc3 : w.cell? ⟨e, 3, none⟩ = some (.map (some um)) := by rw [hce]; rfl
  have hc2 : w.cell? ⟨e, 2, none⟩ = some (.pointer (some ⟨k, 0, none⟩)) := by rw [hce]; rfl
  have hc16 : w.cell? ⟨e, 16, none⟩ = some (.bool false) := by rw [hce, ← hin]; rfl
  have hck : w.cell? ⟨k, 0, none⟩ = some (.int .i64 S.core.place) := by rw [blk_cells x.core.walk]; rfl
  have hsm := hok.lst.smalls.1
  cases hg : S.core.undos S.core.place with
  | none =>
    have hfl := hf2 _ hg
    have hlk : ∀ n, (Instr.lookup 80 (.map (some um)) (.int .i64 S.core.place) false).run Tryz.prog (w.drewN n) = .ok (.pointer none) (w.drewN n) := fun n => by
      have := run_mapget (P := Tryz.prog) (w.drewN n) 80 3 164 (.pointer none) um f S.core.place false Tryz.underlying80 Tryz.underlying3 (fun _ => rfl) (hf1.stay ((Fr.refl nob w).drewN n) (fun h => h))
      rw [this, hfl]
      rfl
    have HL := Lib.hid (EdState.lst_none hg)
    clear x hf1 hf2 hf3 hfl hce hg hin hok hsm
    go_enter Tryz.func92, Tryz.ntmps92
    go_wp2
    go_quiet (fail)
    go_wp2
    go_ret
    refine ⟨?_, (Fr.refl _ _).drewN _⟩
    rw [HL.out]
    rfl
  | some g =>
    obtain ⟨h0, l, hfl, hl⟩ := hf3 _ _ hg
    have hlk : ∀ n, (Instr.lookup 80 (.map (some um)) (.int .i64 S.core.place) false).run Tryz.prog (w.drewN n) = .ok (.pointer (some ⟨l, 0, none⟩)) (w.drewN n) := fun n => by
      have := run_mapget (P := Tryz.prog) (w.drewN n) 80 3 164 (.pointer none) um f S.core.place false Tryz.underlying80 Tryz.underlying3 (fun _ => rfl) (hf1.stay ((Fr.refl nob w).drewN n) (fun h => h))
      rw [this, hfl]
      rfl
    have hlst := EdState.lst_of hg
    rw [hlst] at hsm ⊢
    have hlen := fun (V : World) (hV : Fr nob w V) => undo_len V _ l _ _ _ _ (hl.stayN hV) (by omega)
    have HLEN := Lib.hid hlen
    clear x hf1 hf2 hf3 hfl hce hg hl hlst hlen h0 hin hok
    go_enter Tryz.func92, Tryz.ntmps92
    go_wp2
    go_quiet (fail)
    go_wp2_with (go_at_call 97; refine (HLEN.out _ ((Fr.refl _ _).drewN _)).mono ?_; rintro y w' ⟨rfl, kn, rfl⟩)
    go_ret
    refine ⟨?_, (Fr.refl _ _).drewN _⟩
    simp

set_option maxRecDepth 10000 in
theorem ed_kills_none (w : World) (κ : Col) (e : Nat) (S : EdState) (x : EdRep w κ e S) (hk : S.core.ents = []) :
    Calls Tryz.prog 51 #[.pointer (some ⟨e, 0, none⟩)] w fun y w' => y = .returned (.slice none 0 0) ∧ Fr nob w w' := by
  obtain ⟨i, b, r, k, tm, um, h, bl, was, putv, x⟩ := x
  have HN := Lib.hid (ed_none w e b r k um S.core h bl S.f was putv x.blk)
  have HC := Lib.hid (ring_clone w r _ _ x.core.ring)
  have hc1 : w.cell? ⟨e, 1, none⟩ = some (.pointer (some ⟨r, 0, none⟩)) := by rw [blk_cells x.blk]; rfl
  rw [hk] at HC
  clear x hk
  go_enter Tryz.func51, Tryz.ntmps51
  go_wp2_with (first
    | (go_at_call 81; refine (HN.out).mono ?_; rintro y w' ⟨rfl, rfl⟩)
    | (go_at_call 111; refine (HC.out).mono ?_; rintro y w2 ⟨rfl, hr2, hf2⟩; have HR2 := Lib.hid hr2; have HF2 := Lib.hid hf2; clear hr2 hf2)
    | (go_at_call 118; refine (ring_len _ _ _ _ HR2.out).mono ?_; rintro y w' ⟨rfl, rfl⟩))
  go_loop [3, 18] (fun v i => v = .slice none 0 0 ∧ i = .int .i64 0) (fun _ _ => 0)
  case atStart => exact ⟨rfl, rfl⟩
  case round =>
    obtain ⟨rfl, rfl⟩ := hrel
    go_wp2
    go_ret
    exact ⟨rfl, HF2.out⟩

set_option maxRecDepth 10000 in
theorem ed_saved_none (w : World) (κ : Col) (e : Nat) (S : EdState) (x : EdRep w κ e S) (hh : S.hist = []) (hp : S.core.place = 0) :
    Calls Tryz.prog 91 #[.pointer (some ⟨e, 0, none⟩)] w fun y w' => y = .returned (.slice none 0 0) ∧ Fr nob w w' := by
  obtain ⟨i, b, r, k, tm, um, h, bl, was, putv, x⟩ := x
  have hrp := x.rest.hist
  rw [hh] at hrp
  have HL := Lib.hid (hist_len w _ h _ _ _ hrp)
  have hce := blk_cells x.blk
  have hc11 : w.cell? ⟨e, 11, none⟩ = some (.pointer (some ⟨h, 0, none⟩)) := by rw [hce]; rfl
  have hc2 : w.cell? ⟨e, 2, none⟩ = some (.pointer (some ⟨k, 0, none⟩)) := by rw [hce]; rfl
  have hck : w.cell? ⟨k, 0, none⟩ = some (.int .i64 0) := by rw [blk_cells x.core.walk, hp]; rfl
  clear x hrp hh hp hce
  go_enter Tryz.func91, Tryz.ntmps91
  go_wp2_with (go_at_call 114; refine (HL.out).mono ?_; rintro y w' ⟨rfl, rfl⟩)
  go_loop [3, 12] (fun v i => v = .slice none 0 0 ∧ i = .int .i64 0) (fun _ _ => 0)
  case atStart => exact ⟨rfl, rfl⟩
  case round =>
    obtain ⟨rfl, rfl⟩ := hrel
    go_wp2
    go_ret
    exact ⟨rfl, Fr.refl _ _⟩
end Go.Proofs.YtbhklkolkclflaaGreatDoor
