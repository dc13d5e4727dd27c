/- Package editor: Begin. -/
import Derived.Test.YtbhklkolkclflaaE4
namespace Go.Proofs.Ytbhklkolkclflaa
open Go.RowKit

/-- Several cells of a block are written. -/
def sets (w : World) (e : Nat) (l : List (Nat × Value)) : World := l.foldl (fun w x => w.setCell ⟨e, x.1, none⟩ x.2) w
theorem sets_blk {e : Nat} {T : TypeId} : ∀ (l : List (Nat × Value)) (w : World) (c : Array Value), w.heap[e]? = some (.cells c T (0, 0)) → (sets w e l).heap[e]? = some (.cells (l.foldl (fun c x => c.setIfInBounds x.1 x.2) c) T (0, 0))
  | [], _, _, h => h
  | x :: l, _, _, h => sets_blk l _ _ (heap_setCell_same (o := x.1) h x.2)
theorem sets_fr {e : Nat} : ∀ (l : List (Nat × Value)) (w w0 : World), Fr (one e) w0 w → Fr (one e) w0 (sets w e l)
  | [], _, _, h => h
  | x :: l, _, _, h => sets_fr l _ _ (h.setOne x.1 x.2)

/-- A call of an editor's: what it answers, and what the editor is then. -/
def EdDone (w : World) (κ : Col) (e : Nat) (v : Value) (S : EdState) (x : Ending) (w' : World) : Prop :=
  x = .returned v ∧ ∃ κ', EdRep w' κ' e S ∧ (∀ y, y < w.heap.size → κ' y = κ y) ∧ Fr (edM w κ) w w'

/-- Within a command. -/
def EdState.begun (S : EdState) : EdState := { S with f := { S.f with inn := true, cls := 0, killed := false, yanked := false, argues := false, whole := true }, was := S.core, put := [] }

/-- What Begin writes. -/
def beginSets (b2 r2 k2 um2 : Nat) (S : EdState) : List (Nat × Value) := [(16, .bool true), (17, .pointer (some ⟨b2, 0, none⟩)), (18, .pointer (some ⟨r2, 0, none⟩)), (19, .pointer (some ⟨k2, 0, none⟩)), (20, .map (some um2)), (21, .int .i64 S.core.mode), (22, .bool S.core.over), (23, .int .i64 S.core.last),
    (24, .int .i64 S.core.yf), (25, .int .i64 S.core.yt), (26, .int .i64 S.core.res), (27, .bool S.core.run), (28, .int .i64 0), (29, .bool false), (30, .bool false), (31, .bool false), (32, .bool true), (33, .slice none 0 0)]
set_option maxRecDepth 10000 in
theorem begin_arr (b r k um hh bl b2 r2 k2 um2 : Nat) (S : EdState) (was : Nat → Value) (putv : Value) :
    (beginSets b2 r2 k2 um2 S).foldl (fun c x => c.setIfInBounds x.1 x.2) (edArr b r k um S.core hh bl S.f was putv) = edArr b r k um S.begun.core hh bl S.begun.f (fun j => (coreCells b2 r2 k2 um2 S.core).getD j (.bool false)) (.slice none 0 0) := by
  simp [beginSets, edArr, EdState.begun, coreCells]

set_option maxRecDepth 10000 in
set_option maxHeartbeats 1000000 in
theorem ed_begin (w : World) (κ : Col) (e : Nat) (S : EdState) (h : EdRep w κ e S) (hok : CoreOk S.core) (hi : S.f.inn = false) :
    Calls Try.prog 8 #[.pointer (some ⟨e, 0, none⟩)] w (EdDone w κ e (.int .i64 0) S.begun) := by
  obtain ⟨i, b, r, k, tm, um, hh, bl, was, putv, hci, h0, hb, hcore, hrest, hone, _⟩ := h
  have HN := Lib.hid (ed_none w e b r k um S.core hh bl S.f was putv hb)
  have HT := Lib.hid (core_twin w κ i (3 - i) b r k tm um S.core hcore hok)
  have HB := Lib.hid hb
  have HC := Lib.hid hcore
  have HR := Lib.hid hrest
  have HO := Lib.hid hone
  have H0 := Lib.hid h0
  have hb2 := hb
  unfold EdBlk edArr at hb2
  rw [hi] at hb2
  have hc := blk_cells hb2
  have hlt := blk_lt hb2
  clear hb hcore hrest hone hok h0 hb2
  go_enter Try.func8, Try.ntmps8
  go_wp2_with (first
    | (go_at_call 23; refine (HN.out).mono ?_; rintro x w' ⟨rfl, rfl⟩)
    | (go_at_call 24; refine (HT.out).mono ?_; rintro x w2 ⟨b2, r2, k2, tm2, um2, κ2, rfl, hk2, hc2, hf2⟩; have HK2 := Lib.hid hk2; have HC2 := Lib.hid hc2; have HF2 := Lib.hid hf2; have HB2 := Lib.hid (hf2.keep HB.out (fun h => h)); have hz2 := blk_free HB2.out; have hlt2 := blk_lt HB2.out; have hcc := blk_cells HB2.out; unfold edArr at hcc; unfold coreCells; clear hk2 hc2 hf2))
  have hsb := sets_blk (beginSets b2 r2 k2 um2 S) w2 _ HB2.out
  rw [begin_arr] at hsb
  have hsf := sets_fr (e := e) (beginSets b2 r2 k2 um2 S) w2 w2 (Fr.refl _ _)
  have HSB := Lib.hid hsb
  have HSF := Lib.hid hsf
  clear hsb hsf hcc hz2 hlt2 hc
  have hne : NR w2 (one e) := NR.one HB2.out (by decide)
  have hes : e < w'.heap.size := blk_lt HB.out
  have hke : κ2 e = (3, 0) := (HK2.out e hes).trans H0.out
  have hx : ∀ i, i ≠ 3 → ∀ x, one e x → x < w2.heap.size → (κ2 x).1 ≠ i := fun i hi x hx _ he => by
    cases hx
    rw [hke] at he
    exact hi he.symm
  refine bodyPost_ret (results_tmp rfl _ _ _) rfl ⟨rfl, κ2, ⟨i, b, r, k, tm, um, hh, bl, fun j => (coreCells b2 r2 k2 um2 S.core).getD j (.bool false), .slice none 0 0, hci, hke, ?_, ?_, ?_, ?_, ?_⟩, HK2.out, ?_⟩
  · exact HSB.out
  · exact (HC.out.stayN HF2.out HK2.out).stay HSF.out hne (hx i (by omega)) (fun _ _ => rfl)
  · have h1 := (HR.out.stay (κ' := κ2) HF2.out (NR.nob _) (fun _ h => h.elim) HK2.out).stay (κ' := κ2) HSF.out hne (fun x hx _ => by cases hx; rw [hke]; exact ⟨by decide, by decide, by decide⟩) (fun _ _ => rfl)
    exact ⟨h1.hist, h1.cb, h1.bells, EdS.none _, fun x ⟨_, _, _, h, _⟩ => by cases h⟩
  · intro j
    unfold coreCells
    match j with
    | 0 | 1 | 2 | 3 | 4 | 5 | 6 | 7 | 8 | 9 | 10 => rfl
    | n + 11 => rfl
  · intro _
    refine ⟨b2, r2, k2, tm2, um2, fun j hj => ?_, HC2.out.stay HSF.out hne (hx (3 - i) (by omega)) (fun _ _ => rfl)⟩
    simp only [EdState.begun]
    match j, hj with
    | 0, _ | 1, _ | 2, _ | 3, _ | 4, _ | 5, _ | 6, _ | 7, _ | 8, _ | 9, _ | 10, _ => rfl
  · exact wr.nobAfter (F := fun x => κ x ≠ (0, 0)) HF2.out (HSF.out.wr (fun x _ hx => by cases hx; exact .inl (by show κ e ≠ (0, 0); rw [H0.out]; decide)) hne)
end Go.Proofs.Ytbhklkolkclflaa
