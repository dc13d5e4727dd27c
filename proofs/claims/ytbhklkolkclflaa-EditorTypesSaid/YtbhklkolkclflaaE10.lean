/- Package editor: flush, what stands between its steps. -/
import Derived.Test.YtbhklkolkclflaaP2
namespace Go.Proofs.Ytbhklkolkclflaa
open Go.RowKit

/-- What stands ahead of flush's loop: the list, what was taken off its end. -/
structure FlSt (w1 : World) (F0 : Nat → Prop) (l ob : Nat) (oldv : Value) (old : List EditP) (gs : List (List EditP)) (n : Int) (D : Nat) (od : Option Obj) (F : Nat → Prop) (opn : Int) (V : World) : Prop where
  lst : ListRep V F l gs [] opn n
  bd : ∀ y, F y → y < V.heap.size
  f0 : ∀ y, F y → F0 y ∨ w1.heap.size ≤ y
  fr : Fr (wr w1 F0) w1 V
  box : V.heap[ob]? = some (.cells #[oldv] 67 (0, 0))
  nbox : ¬ F ob
  lbox : w1.heap.size ≤ ob
  old : EdS V oldv old
  nold : ∀ y, rowOf oldv y → ¬ F y ∧ w1.heap.size ≤ y
  dfr : ∀ o, od = some o → V.heap[D]? = some o ∧ ¬ F D ∧ ∀ c T fr, o ≠ .cells c T fr

theorem wrSub {w1 V V' : World} {F0 F : Nat → Prop} (h : Fr (wr w1 F0) w1 V) (h1 : Fr (wr V F) V V') (hs : ∀ y, F y → F0 y ∨ w1.heap.size ≤ y) : Fr (wr w1 F0) w1 V' :=
  h.trans h1 (fun b hb hm => ⟨(hs b hm.1).elim id (fun hx => by omega), fun c fr e => hm.2 c fr (h.keep e (fun hx => hx.2 c fr e))⟩)

section
variable {w1 V V' : World} {F0 F : Nat → Prop} {l ob : Nat} {oldv : Value} {old : List EditP} {gs gs' : List (List EditP)} {n n' opn opn' : Int} {D : Nat} {od : Option Obj}
/-- A call of the list. -/
theorem FlSt.call (h : FlSt w1 F0 l ob oldv old gs n D od F opn V) (hl : ListRep V' (plus V F) l gs' [] opn' n') (hf : Fr (wr V F) V V') : FlSt w1 F0 l ob oldv old gs' n' D od (fun y => plus V F y ∧ y < V'.heap.size) opn' V' := by
  have h1 : w1.heap.size ≤ V.heap.size := h.fr.size
  refine ⟨hl.within, fun y hy => hy.2, fun y hy => hy.1.elim (h.f0 y) (fun hx => .inr (by omega)), wrSub h.fr hf h.f0, hf.keep h.box (fun hx => h.nbox hx.1), fun hx => ?_, h.lbox, h.old.stay hf (NR.wr _ _) (fun y hy hx => (h.nold y hy).1 hx.1), fun y hy => ⟨fun hx => ?_, (h.nold y hy).2⟩, fun o ho => ?_⟩
  · have := blk_lt h.box
    exact hx.1.elim h.nbox (fun h => by omega)
  · have := h.old.lt y hy
    exact hx.1.elim (h.nold y hy).1 (fun h => by omega)
  · obtain ⟨h2, h3, h4⟩ := h.dfr o ho
    have h5 := blk_lt h2
    exact ⟨hf.keep h2 (fun hx => h3 hx.1), fun hx => hx.1.elim h3 (fun h => by omega), h4⟩
theorem FlSt.quiet (h : FlSt w1 F0 l ob oldv old gs n D od F opn V) (hf : Fr nob V V') : FlSt w1 F0 l ob oldv old gs n D od F opn V' :=
  ⟨h.lst.stayN hf, fun y hy => Nat.lt_of_lt_of_le (h.bd y hy) hf.size, h.f0, h.fr.then hf, hf.keep h.box (fun h => h), h.nbox, h.lbox, h.old.stayN hf, h.nold, fun o ho => ⟨hf.keep (h.dfr o ho).1 (fun h => h), (h.dfr o ho).2⟩⟩
end

/-- What stands in flush's loop: the list, the edits that are added. -/
structure FlLp (w1 : World) (F0 : Nat → Prop) (l : Nat) (tv : Value) (es : List EditP) (gs : List (List EditP)) (n : Int) (D : Nat) (od : Option Obj) (F : Nat → Prop) (k : Nat) (V : World) : Prop where
  lst : ListRep V F l gs (es.take k) 1 n
  bd : ∀ y, F y → y < V.heap.size
  f0 : ∀ y, F y → F0 y ∨ w1.heap.size ≤ y
  fr : Fr (wr w1 F0) w1 V
  tmp : EdS V tv es
  ntmp : ∀ y, rowOf tv y → ¬ F y
  dfr : ∀ o, od = some o → V.heap[D]? = some o ∧ ¬ F D ∧ ∀ c T fr, o ≠ .cells c T fr

section
variable {w1 V V' : World} {F0 F : Nat → Prop} {l : Nat} {tv : Value} {es : List EditP} {gs gs' : List (List EditP)} {n n' : Int} {k k' D : Nat} {od : Option Obj}
theorem FlLp.call (h : FlLp w1 F0 l tv es gs n D od F k V) (hl : ListRep V' (plus V F) l gs (es.take k') 1 n') (hf : Fr (wr V F) V V') : FlLp w1 F0 l tv es gs n' D od (fun y => plus V F y ∧ y < V'.heap.size) k' V' := by
  have h1 : w1.heap.size ≤ V.heap.size := h.fr.size
  refine ⟨hl.within, fun y hy => hy.2, fun y hy => hy.1.elim (h.f0 y) (fun hx => .inr (by omega)), wrSub h.fr hf h.f0, h.tmp.stay hf (NR.wr _ _) (fun y hy hx => h.ntmp y hy hx.1), fun y hy hx => ?_, fun o ho => ?_⟩
  · have := h.tmp.lt y hy
    exact hx.1.elim (h.ntmp y hy) (fun h => by omega)
  · obtain ⟨h2, h3, h4⟩ := h.dfr o ho
    have h5 := blk_lt h2
    exact ⟨hf.keep h2 (fun hx => h3 hx.1), fun hx => hx.1.elim h3 (fun h => by omega), h4⟩
theorem FlLp.quiet (h : FlLp w1 F0 l tv es gs n D od F k V) (hf : Fr nob V V') : FlLp w1 F0 l tv es gs n D od F k V' :=
  ⟨h.lst.stayN hf, fun y hy => Nat.lt_of_lt_of_le (h.bd y hy) hf.size, h.f0, h.fr.then hf, h.tmp.stayN hf, h.ntmp, fun o ho => ⟨hf.keep (h.dfr o ho).1 (fun h => h), (h.dfr o ho).2⟩⟩
/-- The edits are put behind the old ones. -/
theorem FlSt.app {ob : Nat} {oldv : Value} {old put : List EditP} {av : Value} {xo xp : List Value} (h : FlSt w1 F0 l ob oldv old gs n D od F 1 V) (hxo : edCells V xo old) (hxp : edCells V xp put)
    (ho : Own V' 82 3 av (old.length + put.length) (xo ++ xp)) (hpos : put ≠ []) (hf : Fr (rowOf oldv) V V') (hr : rowOf oldv = rowOf av ∨ ∀ b, rowOf av b → V.heap.size ≤ b) (hold : Own V 82 3 oldv old.length xo) :
    FlLp w1 F0 l av (old ++ put) gs n D od F 0 V' := by
  have hnr : NR V (rowOf oldv) := hold.nrRow (by decide)
  refine ⟨?_, fun y hy => Nat.lt_of_lt_of_le (h.bd y hy) hf.size, h.f0, h.fr.trans hf (fun b hb hx => by have := (h.nold b hx).2; omega), ⟨⟨xo ++ xp, by rw [List.length_append]; exact ho, (hxo.append hxp).stay hf hnr⟩, fun a m e => ?_⟩, fun y hy hF => ?_, fun o ho => ?_⟩
  · rw [List.take_zero]
    exact h.lst.stay hf hnr (fun y hy hx => (h.nold y hx).1 hy)
  · obtain ⟨a', c', e', h', _⟩ := ho.val
    rw [e] at e'
    injection e' with _ _ e3
    have := List.length_pos_iff.2 hpos
    omega
  · rcases hr with hr | hr
    · rw [← hr] at hy
      exact (h.nold y hy).1 hF
    · have h1 := hr y hy
      have h2 := h.bd y hF
      omega
  · obtain ⟨h2, h3, h4⟩ := h.dfr o ho
    refine ⟨hf.keep h2 (fun hx => ?_), h3, h4⟩
    obtain ⟨c, fr, hb⟩ := hold.rowTy hx
    rw [h2] at hb
    injection hb with hb
    exact h4 _ _ _ hb
/-- Blocks that are no rows are written, outside of the list. -/
theorem FlSt.off {ob : Nat} {oldv : Value} {old : List EditP} {opn : Int} {M : Nat → Prop} (h : FlSt w1 F0 l ob oldv old gs n D none F opn V) (hf : Fr M V V') (hM : NoRows V M) (hF : ∀ y, F y → ¬ M y) (hw : ∀ y, M y → w1.heap.size ≤ y) : FlSt w1 F0 l ob oldv old gs n D none F opn V' := by
  have hnr : NR V M := fun b c fr hb hm => hM b hm c _ fr hb
  refine ⟨h.lst.stay hf hnr hF, fun y hy => Nat.lt_of_lt_of_le (h.bd y hy) hf.size, h.f0, h.fr.trans hf (fun b hb hx => by have := hw b hx; omega), hf.keep h.box (fun hx => hM _ hx _ _ _ h.box), h.nbox, h.lbox,
    h.old.stay hf hnr (fun y hy hx => ?_), h.nold, fun o ho => by cases ho⟩
  obtain ⟨⟨xs, ho, _⟩, _⟩ := h.old
  obtain ⟨c, fr, hb⟩ := ho.rowTy hy
  exact hM y hx _ _ _ hb
end
end Go.Proofs.Ytbhklkolkclflaa
