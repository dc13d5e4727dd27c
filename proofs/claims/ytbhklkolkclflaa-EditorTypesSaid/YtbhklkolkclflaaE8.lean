/- Package editor: New. -/
import Derived.Test.YtbhklkolkclflaaE6
import Derived.Test.YtbhklkolkclflaaE7
namespace Go.Proofs.Ytbhklkolkclflaa
open Go.RowKit

/-- A new editor. -/
def newState (hs : List (ByteArray × Int)) (base most : Int) : EdState :=
  { core := { text := [], point := 0, mark := -1, ents := [], rpl := 0, place := hs.length, texts := fun _ => none, undos := fun _ => none, mode := 0, over := false, last := 0, yf := 0, yt := 0, res := 0, run := false },
    f := { given := false, minus := false, arg := -1, inn := false, cls := 0, killed := false, yanked := false, argues := false, whole := false }, hist := hs, base := base, most := most, bells := 0,
    was := { text := [], point := 0, mark := -1, ents := [], rpl := 0, place := hs.length, texts := fun _ => none, undos := fun _ => none, mode := 0, over := false, last := 0, yf := 0, yt := 0, res := 0, run := false }, put := [] }
def zcore : CoreS := { text := [], point := 0, mark := -1, ents := [], rpl := 0, place := 0, texts := fun _ => none, undos := fun _ => none, mode := 0, over := false, last := 0, yf := 0, yt := 0, res := 0, run := false }
/-- What New answers. -/
def EdNew (w : World) (hs : List (ByteArray × Int)) (base most : Int) (x : Ending) (w' : World) : Prop :=
  ∃ e κ, x = .returned (.tuple #[.pointer (some ⟨e, 0, none⟩), .int .i64 0]) ∧ w.heap.size ≤ e ∧ (∀ y, y < w.heap.size → κ y = (0, 0)) ∧ EdRep w' κ e (newState hs base most) ∧ Fr nob w w'

/-- A new editor's cells ahead of its line. -/
def newX (bl r : Nat) : Nat → Value
  | 0 => .pointer none | 1 => .pointer (some ⟨r, 0, none⟩) | 2 => .pointer none | 3 => .map none | 4 => .int .i64 0 | 5 => .bool false | 6 => .int .i64 0 | 7 => .int .i64 0 | 8 => .int .i64 0 | 9 => .int .i64 0 | 10 => .bool false
  | 11 => .pointer none | 12 => .pointer (some ⟨bl, 0, none⟩) | 13 => .bool false | 14 => .bool false | 15 => .int .i64 0 | 16 => .bool false | 17 => .pointer none | 18 => .pointer none | 19 => .pointer none | 20 => .map none
  | 21 => .int .i64 0 | 22 => .bool false | 23 => .int .i64 0 | 24 => .int .i64 0 | 25 => .int .i64 0 | 26 => .int .i64 0 | 27 => .bool false | 28 => .int .i64 0 | 29 => .bool false | 30 => .bool false | 31 => .bool false | 32 => .bool false
  | _ => .slice none 0 0
def newWas (j : Nat) : Value := newX 0 0 (17 + j)
theorem newWas_one (j : Nat) : (newWas j).oneCell' = true := by
  match j with
  | 0 | 1 | 2 | 3 | 4 | 5 | 6 | 7 | 8 | 9 | 10 | 11 | 12 | 13 | 14 | 15 => rfl
  | n + 16 =>
    unfold newWas
    have : newX 0 0 (17 + (n + 16)) = .slice none 0 0 := by rw [show 17 + (n + 16) = n + 33 by omega]; rfl
    rw [this]
    rfl
theorem new_arr (bl r h b k um : Nat) (hs : List (ByteArray × Int)) (base most : Int) :
    begArr2 (newX bl r) (.pointer (some ⟨h, 0, none⟩)) (.pointer (some ⟨b, 0, none⟩)) (.pointer (some ⟨r, 0, none⟩)) (.pointer (some ⟨k, 0, none⟩)) (.map (some um)) (.int .i64 zcore.mode) = edArr b r k um (newState hs base most).core h bl (newState hs base most).f newWas (.slice none 0 0) := by
  simp [begArr2, arr34, edArr, newState, newX, newWas, zcore]
theorem new_ed {w W w' : World} {e r bl : Nat} {hs : List (ByteArray × Int)} {base most : Int} {x : Ending} (h0 : W.heap[bl]? = some (.cells #[.int .i64 0] 60 (0, 0))) (hbe : bl ≠ e) (hw : w.heap.size ≤ bl) (hw2 : w.heap.size ≤ e) (hw3 : w.heap.size ≤ r) (hf : Fr nob w W)
    (hel : e < W.heap.size)
    (h : Begun W (fun y => if y = bl then (3, 2) else if y = e then (3, 0) else if y = r then (1, 1) else (0, 0)) 1 e r (newX bl r) zcore hs base most [] x w') : x = .returned (.tuple #[]) ∧ ∃ κ, (∀ y, y < w.heap.size → κ y = (0, 0)) ∧ EdRep w' κ e (newState hs base most) ∧ Fr nob w w' := by
  obtain ⟨rfl, b, k, tm, um, h', κ', h1, h2, h3, h4, h5⟩ := h
  rw [new_arr bl r h' b k um hs base most] at h4
  have hlb := blk_lt h0
  have hs := hf.size
  have hke := h1 e hel
  have hkb := h1 bl hlb
  simp only [if_true] at hke hkb
  rw [if_neg (fun h => hbe h.symm)] at hke
  refine ⟨rfl, κ', fun y hy => ?_, ⟨1, b, r, k, tm, um, h', bl, newWas, .slice none 0 0, .inl rfl, hke, h4, h2, ⟨h3, hkb, h5.keep h0 (fun h => hbe h), EdS.none _, fun x ⟨_, _, _, h, _⟩ => by cases h⟩, newWas_one, fun h => by cases h⟩, hf.trans h5 (fun y hy hM => by cases hM; omega)⟩
  rw [h1 y (by omega)]
  show (if y = bl then _ else _) = _
  rw [if_neg (by omega), if_neg (by omega), if_neg (by omega)]

set_option maxRecDepth 10000 in
set_option maxHeartbeats 1000000 in
theorem ed_new (w : World) (F : Nat → Prop) (h : Nat) (hs : List (ByteArray × Int)) (base most : Int) (hh : HistRep w F h hs base most) (hhl : hs.length ≤ 100000) :
    Calls Try.prog 6 #[.pointer (some ⟨h, 0, none⟩)] w (EdNew w hs base most) := by
  have HC := Lib.hid (hist_clone w F h hs base most hh hhl)
  have HH := Lib.hid hh
  have HHL := Lib.hid hhl
  clear hh hhl
  go_enter Try.func6, Try.ntmps6
  go_wp2_with (first
    | (go_at_call 20; refine (HC.out).mono ?_; rintro y w1 ⟨h1, rfl, hh1, hr1, hf1⟩; have HF1 := Lib.hid hf1; clear hr1 hh1 hf1)
    | (go_at_call 21; refine (ring_new _).mono ?_; rintro y w2 ⟨rfl, hr2, hf2⟩; have hbe := hf2.keep (Go.heap_alloc_new _ _) (fun h => h); have hbb := hf2.keep ((heap_alloc_lt _ (by simp)).trans (Go.heap_alloc_new _ _)) (fun h => h); rw [World.size_alloc] at hbe hr2; rw [World.size_alloc] at hr2; have hc2 := blk_cells hbe; have hz2 := blk_free hbe; have hl2 := blk_lt hbe; have HBE := Lib.hid hbe; have HBB := Lib.hid hbb; have HR2 := Lib.hid hr2; have HF2 := Lib.hid hf2; clear hbe hbb hr2 hf2)
    | (go_at_call 0; skip))
  have hW : (w2.setCell ⟨w1.heap.size + 1, 1, none⟩ (.pointer (some ⟨w1.heap.size + 1 + 1, 0, none⟩))).heap[w1.heap.size + 1]? = some (.cells (arr34 (newX w1.heap.size (w1.heap.size + 1 + 1))) 69 (0, 0)) := by
    rw [heap_setCell_same (o := 1) HBE.out]
    rfl
  have hfo : Fr (one (w1.heap.size + 1)) w2 (w2.setCell ⟨w1.heap.size + 1, 1, none⟩ (.pointer (some ⟨w1.heap.size + 1 + 1, 0, none⟩))) := (Fr.refl _ _).setOne _ _
  have hs1 := HF1.out.size
  have hfn : Fr nob w (w2.setCell ⟨w1.heap.size + 1, 1, none⟩ (.pointer (some ⟨w1.heap.size + 1 + 1, 0, none⟩))) := (((HF1.out.alloc _).alloc _).then HF2.out).setNew _ _ _ (by omega)
  have hbl := hfo.keep HBB.out (fun h => by have : w1.heap.size = w1.heap.size + 1 := h; omega)
  have hrr := HR2.out.stay hfo (NR.one HBE.out (by decide)) (fun h => by have : w1.heap.size + 1 + 1 = w1.heap.size + 1 := h; omega)
  clear hc2 hz2 hl2
  generalize w2.setCell ⟨w1.heap.size + 1, 1, none⟩ (.pointer (some ⟨w1.heap.size + 1 + 1, 0, none⟩)) = W at *
  have hlt := blk_lt hW
  have hbg := ed_begins W (w1.heap.size + 1) (w1.heap.size + 1 + 1) (newX w1.heap.size (w1.heap.size + 1 + 1)) zcore (fun y => F y ∧ y < w.heap.size) h hs base most none 0 [] hW rfl rfl (HH.out.within.stayN hfn) HHL.out (fun hx => by have := hx.2; omega)
    ⟨rfl, Nat.le_refl _, .inl rfl, fun u hu => by cases hu⟩ (by simp) (fun y => if y = w1.heap.size then (3, 2) else if y = w1.heap.size + 1 then (3, 0) else if y = w1.heap.size + 1 + 1 then (1, 1) else (0, 0)) 1 hrr (by rw [if_neg (by omega), if_neg (by omega), if_pos rfl]) (by omega)
  refine hbg.mono ?_
  intro y w' hy
  obtain ⟨rfl, κ, hκ, hrep, hfw⟩ := new_ed hbl (by omega) hs1 (by omega) (by omega) hfn hlt hy
  have HREP := Lib.hid hrep
  have HK := Lib.hid hκ
  have HFW := Lib.hid hfw
  clear hrep hκ hfw hy hbg hW hfo hfn hbl hrr hlt
  go_wp2
  go_ret2
  exact ⟨_, κ, rfl, by omega, HK.out, HREP.out, HFW.out⟩
end Go.Proofs.Ytbhklkolkclflaa
