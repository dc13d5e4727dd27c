/- Package editor: begins. -/
import Derived.Test.YtbhklkolkclflaaE5
namespace Go.Proofs.Ytbhklkolkclflaa
open Go.RowKit

theorem forgetE {K : Act → World → Prop} {Q : Exit → Act → World → Prop} {x : Exit} {a : Act} {W0 : World} (F : World → Prop) (h0 : F W0) (h : ∀ W, F W → Exit.then K Q x a W) : Exit.then K Q x a W0 := h W0 h0
/-- A block of 34 cells. -/
def arr34 (x : Nat → Value) : Array Value :=
  #[x 0, x 1, x 2, x 3, x 4, x 5, x 6, x 7, x 8, x 9, x 10, x 11, x 12, x 13, x 14, x 15, x 16, x 17, x 18, x 19, x 20, x 21, x 22, x 23, x 24, x 25, x 26, x 27, x 28, x 29, x 30, x 31, x 32, x 33]

/-- A core that begins with a line. -/
def CoreS.begun (C : CoreS) (L : List Int) (n : Nat) : CoreS :=
  { text := L, point := L.length, mark := -1, ents := C.ents, rpl := C.rpl, place := n, texts := fun _ => none, undos := fun _ => none, mode := C.mode, over := false, last := 0, yf := 0, yt := 0, res := 0, run := false }

theorem arr34_get (y : Nat → Value) : ∀ j, j < 34 → (arr34 y)[j]? = some (y j)
  | 0, _ => rfl | 1, _ => rfl | 2, _ => rfl | 3, _ => rfl | 4, _ => rfl | 5, _ => rfl | 6, _ => rfl | 7, _ => rfl | 8, _ => rfl | 9, _ => rfl | 10, _ => rfl | 11, _ => rfl | 12, _ => rfl | 13, _ => rfl | 14, _ => rfl
  | 15, _ => rfl | 16, _ => rfl | 17, _ => rfl | 18, _ => rfl | 19, _ => rfl | 20, _ => rfl | 21, _ => rfl | 22, _ => rfl | 23, _ => rfl | 24, _ => rfl | 25, _ => rfl | 26, _ => rfl | 27, _ => rfl | 28, _ => rfl | 29, _ => rfl
  | 30, _ => rfl | 31, _ => rfl | 32, _ => rfl | 33, _ => rfl
  | n + 34, h => absurd h (by omega)
theorem BegS.of {V : World} {e : Nat} {r m : Value} {y : Nat → Value} {T : TypeId} (h : V.heap[e]? = some (.cells (arr34 y) T (0, 0))) (h1 : y 1 = r) (h4 : y 4 = m) : V.cell? ⟨e, 1, none⟩ = some r ∧ V.cell? ⟨e, 4, none⟩ = some m := by
  have hc : ∀ j, j < 34 → V.cell? ⟨e, j, none⟩ = some (y j) := fun j hj => by rw [blk_cells h, arr34_get y j hj]
  exact ⟨by rw [hc 1 (by omega), h1], by rw [hc 4 (by omega), h4]⟩
/-- The cells after begins' store. -/
def begArr (x : Nat → Value) (h b r k um m : Value) : Array Value :=
  arr34 (fun j => if j = 0 then b else if j = 1 then r else if j = 2 then k else if j = 3 then um else if j = 4 then m else if j = 5 then .bool false else if j < 10 then .int .i64 0 else if j = 10 then .bool false else if j = 11 then h else x j)
def begSets (b r k um m : Value) : List (Nat × Value) :=
  [(0, b), (1, r), (2, k), (3, um), (4, m), (5, .bool false), (6, .int .i64 0), (7, .int .i64 0), (8, .int .i64 0), (9, .int .i64 0), (10, .bool false)]
theorem begSets_arr (x : Nat → Value) (h b r k um m : Value) : (begSets b r k um m).foldl (fun c x => c.setIfInBounds x.1 x.2) (arr34 (fun j => if j = 11 then h else x j)) = begArr x h b r k um m := by
  simp [begSets, begArr, arr34]
/-- What stands behind begins' store. -/
def BegF (W : World) (e : Nat) (x : Nat → Value) (h b r m : Value) (n : Int) (V : World) : Prop :=
  ∃ k tm um, V.heap[e]? = some (.cells (begArr x h b r (.pointer (some ⟨k, 0, none⟩)) (.map (some um)) m) 69 (0, 0)) ∧ V.heap[k]? = some (.cells #[.int .i64 n, .map (some tm)] 87 (0, 0)) ∧
    MapRep V tm (fun _ => none) ∧ MapRep V um (fun _ => none) ∧ k ≠ tm ∧ k ≠ um ∧ tm ≠ um ∧ W.heap.size ≤ k ∧ W.heap.size ≤ tm ∧ W.heap.size ≤ um ∧ Fr (one e) W V
theorem BegF.of {W W1 : World} {e : Nat} {x : Nat → Value} {h b r m : Value} {n : Int} (k tm um : Nat) (hW : W.heap[e]? = some (.cells (arr34 (fun j => if j = 11 then h else x j)) 69 (0, 0))) (hf : Fr nob W W1)
    (hk : W1.heap[k]? = some (.cells #[.int .i64 n, .map (some tm)] 87 (0, 0))) (ht : MapRep W1 tm (fun _ => none)) (hu : MapRep W1 um (fun _ => none)) (h1 : k ≠ tm) (h2 : k ≠ um) (h3 : tm ≠ um) (h4 : W.heap.size ≤ k) (h5 : W.heap.size ≤ tm) (h6 : W.heap.size ≤ um) :
    BegF W e x h b r m n (sets W1 e (begSets b r (.pointer (some ⟨k, 0, none⟩)) (.map (some um)) m)).drew := by
  have hl := blk_lt hW
  have hb := sets_blk (begSets b r (.pointer (some ⟨k, 0, none⟩)) (.map (some um)) m) W1 _ (hf.keep hW (fun h => h))
  rw [begSets_arr] at hb
  have hs := sets_fr (e := e) (begSets b r (.pointer (some ⟨k, 0, none⟩)) (.map (some um)) m) W1 W1 (Fr.refl _ _)
  have hd := hs.drew
  clear hs
  generalize sets W1 e (begSets b r (.pointer (some ⟨k, 0, none⟩)) (.map (some um)) m) = U at *
  exact ⟨k, tm, um, hb, hd.keep hk (fun h => by have : k = e := h; omega), ht.stay hd (fun h => by have : tm = e := h; omega), hu.stay hd (fun h => by have : um = e := h; omega), h1, h2, h3, h4, h5, h6, hf.after hd⟩
theorem beg1 {W : World} {e : Nat} {x : Nat → Value} {h b r m : Value} {n : Int} (hW : W.heap[e]? = some (.cells (arr34 (fun j => if j = 11 then h else x j)) 69 (0, 0))) :
    BegF W e x h b r m n (sets (((W.alloc (.map #[] 0)).alloc (.cells #[.int .i64 n, .map (some W.heap.size)] 87)).alloc (.map #[] 0)) e (begSets b r (.pointer (some ⟨W.heap.size + 1, 0, none⟩)) (.map (some (W.heap.size + 1 + 1))) m)).drew := by
  refine BegF.of (W.heap.size + 1) W.heap.size (W.heap.size + 1 + 1) hW ((((Fr.refl _ _).alloc _).alloc _).alloc _) ?_ ?_ ?_ (by omega) (by omega) (by omega) (by omega) (by omega) (by omega)
  · have := heap_alloc_new (W.alloc (.map #[] 0)) (.cells #[.int .i64 n, .map (some W.heap.size)] 87)
    rw [heap_alloc_lt _ (by simp)]
    simpa only [World.size_alloc] using this
  · exact ((MapRep.new W).stay ((Fr.refl nob _).alloc _) (fun h => h)).stay ((Fr.refl nob _).alloc _) (fun h => h)
  · have := MapRep.new ((W.alloc (.map #[] 0)).alloc (.cells #[.int .i64 n, .map (some W.heap.size)] 87))
    simpa only [World.size_alloc] using this
theorem beg2 {W : World} {e : Nat} {x : Nat → Value} {h b r m : Value} {n : Int} (hW : W.heap[e]? = some (.cells (arr34 (fun j => if j = 11 then h else x j)) 69 (0, 0))) :
    BegF W e x h b r m n (sets (((W.alloc (.map #[] 0)).alloc (.map #[] 0)).alloc (.cells #[.int .i64 n, .map (some W.heap.size)] 87)) e (begSets b r (.pointer (some ⟨W.heap.size + 1 + 1, 0, none⟩)) (.map (some (W.heap.size + 1))) m)).drew := by
  refine BegF.of (W.heap.size + 1 + 1) W.heap.size (W.heap.size + 1) hW ((((Fr.refl _ _).alloc _).alloc _).alloc _) ?_ ?_ ?_ (by omega) (by omega) (by omega) (by omega) (by omega) (by omega)
  · have := heap_alloc_new ((W.alloc (.map #[] 0)).alloc (.map #[] 0)) (.cells #[.int .i64 n, .map (some W.heap.size)] 87)
    simpa only [World.size_alloc] using this
  · exact ((MapRep.new W).stay ((Fr.refl nob _).alloc _) (fun h => h)).stay ((Fr.refl nob _).alloc _) (fun h => h)
  · have := (MapRep.new (W.alloc (.map #[] 0))).stay ((Fr.refl nob _).alloc (.cells #[.int .i64 n, .map (some W.heap.size)] 87)) (fun h => h)
    simpa only [World.size_alloc] using this
theorem beg3 {W : World} {e : Nat} {x : Nat → Value} {h b r m : Value} {n : Int} (hW : W.heap[e]? = some (.cells (arr34 (fun j => if j = 11 then h else x j)) 69 (0, 0))) :
    BegF W e x h b r m n (sets (((W.alloc (.map #[] 0)).alloc (.map #[] 0)).alloc (.cells #[.int .i64 n, .map (some (W.heap.size + 1))] 87)) e (begSets b r (.pointer (some ⟨W.heap.size + 1 + 1, 0, none⟩)) (.map (some W.heap.size)) m)).drew := by
  refine BegF.of (W.heap.size + 1 + 1) (W.heap.size + 1) W.heap.size hW ((((Fr.refl _ _).alloc _).alloc _).alloc _) ?_ ?_ ?_ (by omega) (by omega) (by omega) (by omega) (by omega) (by omega)
  · have := heap_alloc_new ((W.alloc (.map #[] 0)).alloc (.map #[] 0)) (.cells #[.int .i64 n, .map (some (W.heap.size + 1))] 87)
    simpa only [World.size_alloc] using this
  · have := (MapRep.new (W.alloc (.map #[] 0))).stay ((Fr.refl nob _).alloc (.cells #[.int .i64 n, .map (some (W.heap.size + 1))] 87)) (fun h => h)
    simpa only [World.size_alloc] using this
  · exact ((MapRep.new W).stay ((Fr.refl nob _).alloc _) (fun h => h)).stay ((Fr.refl nob _).alloc _) (fun h => h)
theorem BegS_sets {V : World} {e : Nat} {T : TypeId} {x : Nat → Value} {h b r k um m : Value} (hV : V.heap[e]? = some (.cells (arr34 (fun j => if j = 11 then h else x j)) T (0, 0))) : (sets V e (begSets b r k um m)).drew.cell? ⟨e, 1, none⟩ = some r ∧ (sets V e (begSets b r k um m)).drew.cell? ⟨e, 4, none⟩ = some m := by
  have h1 := sets_blk (begSets b r k um m) V _ hV
  rw [begSets_arr] at h1
  generalize sets V e (begSets b r k um m) = U at *
  unfold begArr at h1
  exact BegS.of (V := U.drew) h1 rfl rfl

/-- The cells that begins leaves. -/
def begArr2 (x : Nat → Value) (h b r k um m : Value) : Array Value :=
  arr34 (fun j => if j = 0 then b else if j = 1 then r else if j = 2 then k else if j = 3 then um else if j = 4 then m else if j = 5 then .bool false else if j < 10 then .int .i64 0 else if j = 10 then .bool false else if j = 11 then h else
    if j = 13 then .bool false else if j = 14 then .bool false else if j = 15 then .int .i64 (-1) else x j)
theorem begArr2_of (x : Nat → Value) (h b r k um m : Value) : (((begArr x h b r k um m).setIfInBounds 13 (.bool false)).setIfInBounds 14 (.bool false)).setIfInBounds 15 (.int .i64 (-1)) = begArr2 x h b r k um m := by
  simp [begArr, begArr2, arr34]
theorem HistRep.within {w : World} {F : Nat → Prop} {h : Nat} {hs : List (ByteArray × Int)} {base most : Int} (r : HistRep w F h hs base most) : HistRep w (fun y => F y ∧ y < w.heap.size) h hs base most := by
  obtain ⟨a, c, h1, h2, h3⟩ := r.ex
  refine ⟨⟨r.mem, blk_lt h1⟩, r.nz, a, c, h1, h2, fun hn ad ea => ⟨h3 hn ad ea, ?_⟩⟩
  rcases h2.rd with h4 | ⟨g, off, e, h4⟩
  · have := congrArg List.length h4
    rw [hcells_length] at this
    simp at this
    omega
  · obtain ⟨u, hu⟩ : ∃ u, (hcells hs)[0]? = some u := ⟨_, List.getElem?_eq_getElem (by rw [hcells_length]; omega)⟩
    have h5 := h4 0 u hu
    rw [ea] at e
    injection e with e
    rw [e]
    simp only [World.cell?] at h5
    rcases Nat.lt_or_ge g w.heap.size with h6 | h6
    · exact h6
    · rw [Array.getElem?_eq_none h6] at h5
      simp at h5
/-- What begins leaves. -/
def Begun (w : World) (κ : Col) (i e r : Nat) (x : Nat → Value) (C : CoreS) (hs : List (ByteArray × Int)) (base most : Int) (L : List Int) (y : Ending) (w' : World) : Prop :=
  y = .returned (.tuple #[]) ∧ ∃ b k tm um h' κ', (∀ z, z < w.heap.size → κ' z = κ z) ∧ CoreAt w' κ' i b r k tm um (C.begun L hs.length) ∧ HistRep w' (fun z => κ' z = (3, 1)) h' hs base most ∧
    w'.heap[e]? = some (.cells (begArr2 x (.pointer (some ⟨h', 0, none⟩)) (.pointer (some ⟨b, 0, none⟩)) (.pointer (some ⟨r, 0, none⟩)) (.pointer (some ⟨k, 0, none⟩)) (.map (some um)) (.int .i64 C.mode)) 69 (0, 0)) ∧ Fr (one e) w w'
theorem beg_end {w w1 w2 W V : World} {κ : Col} {i e r b h' k tm um : Nat} {x : Nat → Value} {C : CoreS} {hs : List (ByteArray × Int)} {base most : Int} {L : List Int} {c0 : Array Value} (hb0 : w.heap[e]? = some (.cells c0 69 (0, 0))) (hf1 : Fr nob w w1) (hb : w.heap.size ≤ b) (hbr : BufRep w1 b L L.length (-1))
    (hf2 : Fr nob w1 w2) (hh : HistRep w2 (newIn w1) h' hs base most) (hW : Fr (one e) w2 W) (hV : Fr (one e) W V)
    (hV0 : V.heap[e]? = some (.cells (begArr x (.pointer (some ⟨h', 0, none⟩)) (.pointer (some ⟨b, 0, none⟩)) (.pointer (some ⟨r, 0, none⟩)) (.pointer (some ⟨k, 0, none⟩)) (.map (some um)) (.int .i64 C.mode)) 69 (0, 0)))
    (hVk : V.heap[k]? = some (.cells #[.int .i64 hs.length, .map (some tm)] 87 (0, 0))) (hVt : MapRep V tm (fun _ => none)) (hVu : MapRep V um (fun _ => none)) (h1 : k ≠ tm) (h2 : k ≠ um) (h3 : tm ≠ um) (h4 : W.heap.size ≤ k) (h5 : W.heap.size ≤ tm) (h6 : W.heap.size ≤ um)
    (hr : RingRep w r C.ents C.rpl) (hκ : κ r = (i, 1)) (hre : r ≠ e) :
    Begun w κ i e r x C hs base most L (.returned (.tuple #[])) (((V.setCell ⟨e, 13, none⟩ (.bool false)).setCell ⟨e, 14, none⟩ (.bool false)).setCell ⟨e, 15, none⟩ (.int .i64 (-1))) := by
  have l1 := hbr.lt
  have l2 := hr.lt
  have s1 := hf1.size
  have s2 := hf2.size
  have s3 := hW.size
  have hf : Fr (one e) V (((V.setCell ⟨e, 13, none⟩ (.bool false)).setCell ⟨e, 14, none⟩ (.bool false)).setCell ⟨e, 15, none⟩ (.int .i64 (-1))) := (((Fr.refl _ _).setOne _ _).setOne _ _).setOne _ _
  have hblk : (((V.setCell ⟨e, 13, none⟩ (.bool false)).setCell ⟨e, 14, none⟩ (.bool false)).setCell ⟨e, 15, none⟩ (.int .i64 (-1))).heap[e]? = some (.cells (begArr2 x (.pointer (some ⟨h', 0, none⟩)) (.pointer (some ⟨b, 0, none⟩)) (.pointer (some ⟨r, 0, none⟩)) (.pointer (some ⟨k, 0, none⟩)) (.map (some um)) (.int .i64 C.mode)) 69 (0, 0)) := by
    rw [← begArr2_of]
    exact heap_setCell_same (o := 15) (heap_setCell_same (o := 14) (heap_setCell_same (o := 13) hV0 _) _) _
  generalize ((V.setCell ⟨e, 13, none⟩ (.bool false)).setCell ⟨e, 14, none⟩ (.bool false)).setCell ⟨e, 15, none⟩ (.int .i64 (-1)) = U at *
  have he := blk_lt hb0
  have hN : NR w2 (one e) := NR.one ((hf1.then hf2).keep hb0 (fun h => h)) (by decide)
  have hU : Fr (one e) w2 U := (hW.trans hV (fun _ _ h => h)).trans hf (fun _ _ h => h)
  have hne : ∀ z, w.heap.size ≤ z → ¬ one e z := fun z hz h => by
    have : z = e := h
    omega
  refine ⟨rfl, b, k, tm, um, h', fun z => if z < w.heap.size then κ z else if z < w1.heap.size then (i, 0) else if z < w2.heap.size then (3, 1) else if z = k then (i, 2) else if z = tm then (i, 3) else (i, 4), fun z hz => if_pos hz, ⟨?_, ?_, ?_, ?_, ?_, ?_, ?_, ?_, ?_, ?_⟩, ?_, hblk, (hf1.then hf2).after hU⟩
  · show (if b < w.heap.size then _ else _) = _
    rw [if_neg (by omega), if_pos l1]
  · exact (hbr.stayN hf2).stay hU (hne _ hb) hN
  · show (if r < w.heap.size then _ else _) = _
    rw [if_pos l2, hκ]
  · exact ((hr.stayN hf1).stayN hf2).stay hU hN (fun h => hre h)
  · show (if k < w.heap.size then _ else _) = _
    rw [if_neg (by omega), if_neg (by omega), if_neg (by omega), if_pos rfl]
  · exact hf.keep hVk (hne _ (by omega))
  · show (if tm < w.heap.size then _ else _) = _
    rw [if_neg (by omega), if_neg (by omega), if_neg (by omega), if_neg (by omega), if_pos rfl]
  · exact hVt.stay hf (hne _ (by omega))
  · show (if um < w.heap.size then _ else _) = _
    rw [if_neg (by omega), if_neg (by omega), if_neg (by omega), if_neg (by omega), if_neg (by omega)]
  · exact ⟨fun _ => none, hVu.stay hf (hne _ (by omega)), fun _ _ => rfl, fun p g h => by cases h⟩
  · refine (hh.within.stay hU (fun z hz => hne z ?_)).mono (fun z hz => ?_)
    · have := hz.1.elim (fun h => h.elim) id
      omega
    · have := hz.1.elim (fun h => h.elim) id
      have h8 := hz.2
      show (if z < w.heap.size then _ else _) = _
      rw [if_neg (by omega), if_neg (by omega), if_pos h8]

set_option maxRecDepth 10000 in
set_option maxHeartbeats 4000000 in
theorem ed_begins (w : World) (e r : Nat) (x : Nat → Value) (C : CoreS) (F : Nat → Prop) (h : Nat) (hs : List (ByteArray × Int)) (base most : Int) (a : Option Addr) (c : Nat) (L : List Int)
    (hb : w.heap[e]? = some (.cells (arr34 x) 69 (0, 0))) (h1 : x 1 = .pointer (some ⟨r, 0, none⟩)) (h4 : x 4 = .int .i64 C.mode) (hh : HistRep w F h hs base most) (hhl : hs.length ≤ 100000) (heh : ¬ F e)
    (hl : Sl w 1 a L.length c (runes L)) (hL : L.length ≤ 1024) (κ : Col) (i : Nat) (hr : RingRep w r C.ents C.rpl) (hκ : κ r = (i, 1)) (hre : r ≠ e) :
    Calls Try.prog 22 #[.pointer (some ⟨e, 0, none⟩), .pointer (some ⟨h, 0, none⟩), .slice a L.length c] w (Begun w κ i e r x C hs base most L) := by
  have HN := Lib.hid (buf_new w a c L hl hL)
  have HH := Lib.hid hh
  have HHL := Lib.hid hhl
  have HEH := Lib.hid heh
  have HB := Lib.hid hb
  have H1 := Lib.hid h1
  have H4 := Lib.hid h4
  have hcl : ∀ V, Fr nob w V → Calls Try.prog 20 #[.pointer (some ⟨h, 0, none⟩)] V fun y w' => ∃ h', y = .returned (.pointer (some ⟨h', 0, none⟩)) ∧ V.heap.size ≤ h' ∧ HistRep w' (newIn V) h' hs base most ∧ Fr nob V w' := fun V hV => hist_clone V F h hs base most (hh.stayN hV) hhl
  have HCL := Lib.hid hcl
  have HRR := Lib.hid hr
  have HKK := Lib.hid hκ
  have HRE := Lib.hid hre
  clear hh hl hb h1 h4 hcl hhl heh hr hκ hre
  go_enter Try.func22, Try.ntmps22
  go_wp2_with (first
    | (go_at_call 47; refine (HN.out).mono ?_; rintro y w1 ⟨b, rfl, hb1, hbr, hf1⟩; have HF1 := Lib.hid hf1; have HBR := Lib.hid hbr; have HB1 := Lib.hid hb1; clear hf1 hbr hb1)
    | (go_at_call 20; refine (HCL.out _ HF1.out).mono ?_; rintro y w2 ⟨h', rfl, hh', hhr, hf2⟩; have HF2 := Lib.hid hf2; have HHR := Lib.hid hhr; have HH' := Lib.hid hh'; have hb2 := (HF1.out.then hf2).keep HB.out (fun h => h); have hz2 := blk_free hb2; have hlt2 := blk_lt hb2; have hcc := blk_cells hb2; unfold arr34 at hcc; have HB2 := Lib.hid hb2; clear hf2 hhr hh' hb2))
  have hlh : e < w2.heap.size := blk_lt HB2.out
  have hW0 : (w2.setCell ⟨e, 11, none⟩ (.pointer (some ⟨h', 0, none⟩))).heap[e]? = some (.cells (arr34 (fun j => if j = 11 then .pointer (some ⟨h', 0, none⟩) else x j)) 69 (0, 0)) := by
    have h := heap_setCell_same (o := 11) HB2.out (.pointer (some ⟨h', 0, none⟩))
    simpa [arr34] using h
  have hf0 : Fr (one e) w2 (w2.setCell ⟨e, 11, none⟩ (.pointer (some ⟨h', 0, none⟩))) := (Fr.refl _ _).setOne _ _
  have hLen : ∀ V, Fr (one e) w2 V → Calls Try.prog 48 #[.pointer (some ⟨h, 0, none⟩)] V fun y w' => y = .returned (.int .i64 hs.length) ∧ w' = V := fun V hV =>
    hist_len V F h hs base most (((HH.out.stayN HF1.out).stayN HF2.out).stay hV (fun z hz hze => by cases hze; exact HEH.out hz))
  have HLEN := Lib.hid hLen
  refine forget (fun W => Hid (W.heap[e]? = some (.cells (arr34 (fun j => if j = 11 then .pointer (some ⟨h', 0, none⟩) else x j)) 69 (0, 0))) ∧ Fr (one e) w2 W) ⟨hW0, hf0⟩ ?_
  clear hW0 hf0 hLen hz2 hlt2 hcc
  rintro W ⟨HW, hfW⟩
  have hS2 : ∀ (A B D : Obj) (k um : Value), ((((((((((((((W.alloc A).alloc B).alloc D).setCell ⟨e, 0, none⟩ (.pointer (some ⟨b, 0, none⟩))).setCell ⟨e, 1, none⟩ (.pointer (some ⟨r, 0, none⟩))).setCell ⟨e, 2, none⟩ (k)).setCell ⟨e, 3, none⟩ (um)).setCell ⟨e, 4, none⟩ (.int .i64 C.mode)).setCell ⟨e, 5, none⟩ (.bool false)).setCell ⟨e, 6, none⟩ (.int .i64 0)).setCell ⟨e, 7, none⟩ (.int .i64 0)).setCell ⟨e, 8, none⟩ (.int .i64 0)).setCell ⟨e, 9, none⟩ (.int .i64 0)).setCell ⟨e, 10, none⟩ (.bool false)).drew.cell? ⟨e, 1, none⟩ = some (.pointer (some ⟨r, 0, none⟩)) ∧ ((((((((((((((W.alloc A).alloc B).alloc D).setCell ⟨e, 0, none⟩ (.pointer (some ⟨b, 0, none⟩))).setCell ⟨e, 1, none⟩ (.pointer (some ⟨r, 0, none⟩))).setCell ⟨e, 2, none⟩ (k)).setCell ⟨e, 3, none⟩ (um)).setCell ⟨e, 4, none⟩ (.int .i64 C.mode)).setCell ⟨e, 5, none⟩ (.bool false)).setCell ⟨e, 6, none⟩ (.int .i64 0)).setCell ⟨e, 7, none⟩ (.int .i64 0)).setCell ⟨e, 8, none⟩ (.int .i64 0)).setCell ⟨e, 9, none⟩ (.int .i64 0)).setCell ⟨e, 10, none⟩ (.bool false)).drew.cell? ⟨e, 4, none⟩ = some (.int .i64 C.mode) := fun A B D k um => BegS_sets (V := ((W.alloc A).alloc B).alloc D) (((((Fr.refl nob W).alloc A).alloc B).alloc D).keep HW.out (fun h => h))
  have HS2 := Lib.hid hS2
  clear hS2
  have hmk1 : ∀ W, (Instr.makeMap 85 none).run Try.prog W = .ok (.map (some W.heap.size)) (W.alloc (.map #[] 0)) := fun W => run_makeMap _ W
  have hmk2 : ∀ W, (Instr.makeMap 64 none).run Try.prog W = .ok (.map (some W.heap.size)) (W.alloc (.map #[] 0)) := fun W => run_makeMap _ W
  have hA0 : ∀ (o : Nat), W.cell? ⟨e, o, none⟩ = (arr34 (fun j => if j = 11 then .pointer (some ⟨h', 0, none⟩) else x j))[o]? := fun o => blk_cells HW.out o
  have hA1 : ∀ (A : Obj) (o : Nat), (W.alloc A).cell? ⟨e, o, none⟩ = (arr34 (fun j => if j = 11 then .pointer (some ⟨h', 0, none⟩) else x j))[o]? := fun A o => blk_cells (((Fr.refl nob W).alloc A).keep HW.out (fun h => h)) o
  have hA2 : ∀ (A B : Obj) (o : Nat), ((W.alloc A).alloc B).cell? ⟨e, o, none⟩ = (arr34 (fun j => if j = 11 then .pointer (some ⟨h', 0, none⟩) else x j))[o]? := fun A B o => blk_cells ((((Fr.refl nob W).alloc A).alloc B).keep HW.out (fun h => h)) o
  have hx1 := H1.out
  have hx4 := H4.out
  have hA : ∀ (A B D : Obj) (o : Nat), (((W.alloc A).alloc B).alloc D).cell? ⟨e, o, none⟩ = (arr34 (fun j => if j = 11 then .pointer (some ⟨h', 0, none⟩) else x j))[o]? := fun A B D o => blk_cells (((((Fr.refl nob W).alloc A).alloc B).alloc D).keep HW.out (fun h => h)) o
  have hZ : ∀ (A B D : Obj) (o : Nat), (((W.alloc A).alloc B).alloc D).frozen? ⟨e, o, none⟩ = false := fun A B D o => blk_free (((((Fr.refl nob W).alloc A).alloc B).alloc D).keep HW.out (fun h => h)) o
  have HF1 := Lib.hid (show BegF W e x (.pointer (some ⟨h', 0, none⟩)) (.pointer (some ⟨b, 0, none⟩)) (.pointer (some ⟨r, 0, none⟩)) (.int .i64 C.mode) hs.length ((((((((((((((W.alloc (.map #[] 0)).alloc (.cells #[.int .i64 hs.length, .map (some W.heap.size)] 87)).alloc (.map #[] 0)).setCell ⟨e, 0, none⟩ (.pointer (some ⟨b, 0, none⟩))).setCell ⟨e, 1, none⟩ (.pointer (some ⟨r, 0, none⟩))).setCell ⟨e, 2, none⟩ (.pointer (some ⟨W.heap.size + 1, 0, none⟩))).setCell ⟨e, 3, none⟩ (.map (some (W.heap.size + 1 + 1)))).setCell ⟨e, 4, none⟩ (.int .i64 C.mode)).setCell ⟨e, 5, none⟩ (.bool false)).setCell ⟨e, 6, none⟩ (.int .i64 0)).setCell ⟨e, 7, none⟩ (.int .i64 0)).setCell ⟨e, 8, none⟩ (.int .i64 0)).setCell ⟨e, 9, none⟩ (.int .i64 0)).setCell ⟨e, 10, none⟩ (.bool false)).drew from beg1 HW.out)
  have HF2 := Lib.hid (show BegF W e x (.pointer (some ⟨h', 0, none⟩)) (.pointer (some ⟨b, 0, none⟩)) (.pointer (some ⟨r, 0, none⟩)) (.int .i64 C.mode) hs.length ((((((((((((((W.alloc (.map #[] 0)).alloc (.map #[] 0)).alloc (.cells #[.int .i64 hs.length, .map (some W.heap.size)] 87)).setCell ⟨e, 0, none⟩ (.pointer (some ⟨b, 0, none⟩))).setCell ⟨e, 1, none⟩ (.pointer (some ⟨r, 0, none⟩))).setCell ⟨e, 2, none⟩ (.pointer (some ⟨W.heap.size + 1 + 1, 0, none⟩))).setCell ⟨e, 3, none⟩ (.map (some (W.heap.size + 1)))).setCell ⟨e, 4, none⟩ (.int .i64 C.mode)).setCell ⟨e, 5, none⟩ (.bool false)).setCell ⟨e, 6, none⟩ (.int .i64 0)).setCell ⟨e, 7, none⟩ (.int .i64 0)).setCell ⟨e, 8, none⟩ (.int .i64 0)).setCell ⟨e, 9, none⟩ (.int .i64 0)).setCell ⟨e, 10, none⟩ (.bool false)).drew from beg2 HW.out)
  have HF3 := Lib.hid (show BegF W e x (.pointer (some ⟨h', 0, none⟩)) (.pointer (some ⟨b, 0, none⟩)) (.pointer (some ⟨r, 0, none⟩)) (.int .i64 C.mode) hs.length ((((((((((((((W.alloc (.map #[] 0)).alloc (.map #[] 0)).alloc (.cells #[.int .i64 hs.length, .map (some (W.heap.size + 1))] 87)).setCell ⟨e, 0, none⟩ (.pointer (some ⟨b, 0, none⟩))).setCell ⟨e, 1, none⟩ (.pointer (some ⟨r, 0, none⟩))).setCell ⟨e, 2, none⟩ (.pointer (some ⟨W.heap.size + 1 + 1, 0, none⟩))).setCell ⟨e, 3, none⟩ (.map (some W.heap.size))).setCell ⟨e, 4, none⟩ (.int .i64 C.mode)).setCell ⟨e, 5, none⟩ (.bool false)).setCell ⟨e, 6, none⟩ (.int .i64 0)).setCell ⟨e, 7, none⟩ (.int .i64 0)).setCell ⟨e, 8, none⟩ (.int .i64 0)).setCell ⟨e, 9, none⟩ (.int .i64 0)).setCell ⟨e, 10, none⟩ (.bool false)).drew from beg3 HW.out)
  unfold arr34 at hA hA0 hA1 hA2
  clear hlh
  go_region_held3 (fun V => V.cell? ⟨e, 1, none⟩ = some (.pointer (some ⟨r, 0, none⟩)) ∧ V.cell? ⟨e, 4, none⟩ = some (.int .i64 C.mode))
    ((first | (go_keep; done) | with_reducible exact HS2.out _ _ _ _ _))
    (first
      | (go_at_call 48; refine (HLEN.out _ (by first | with_reducible exact hfW.drew | with_reducible exact (hfW.alloc _).drew | with_reducible exact ((hfW.alloc _).alloc _).drew | with_reducible exact (((hfW.alloc _).alloc _).alloc _).drew | with_reducible exact hfW.drew.alloc _ | with_reducible exact (hfW.drew.alloc _).alloc _ | with_reducible exact ((hfW.drew.alloc _).alloc _).alloc _)).mono ?_; rintro y w' ⟨rfl, rfl⟩))
  all_goals refine forgetE (BegF W e x (.pointer (some ⟨h', 0, none⟩)) (.pointer (some ⟨b, 0, none⟩)) (.pointer (some ⟨r, 0, none⟩)) (.int .i64 C.mode) hs.length) (by first | with_reducible exact HF1.out | with_reducible exact HF2.out | with_reducible exact HF3.out) ?_
  all_goals clear HF1 HF2 HF3 HS2 hA hA0 hA1 hA2 hZ hmk1 hmk2 hx1 hx4
  all_goals rintro V ⟨k, tm, um, hV0, hVk, hVt, hVu, hk1, hk2, hk3, hk4, hk5, hk6, hVf⟩
  all_goals have HV0 := Lib.hid hV0
  all_goals have HVK := Lib.hid hVk
  all_goals have HVT := Lib.hid hVt
  all_goals have HVU := Lib.hid hVu
  all_goals have HVF := Lib.hid hVf
  all_goals have hcV := blk_cells hV0
  all_goals have hzV := blk_free hV0
  all_goals have hlV := blk_lt hV0
  all_goals unfold begArr arr34 at hcV
  all_goals clear hV0 hVk hVt hVu hVf
  all_goals go_wp2
  all_goals refine bodyPost_end (results_none rfl _ _ _) rfl ?_
  all_goals exact beg_end HB.out HF1.out HB1.out HBR.out HF2.out HHR.out hfW HVF.out HV0.out HVK.out HVT.out HVU.out hk1 hk2 hk3 hk4 hk5 hk6 HRR.out HKK.out HRE.out
end Go.Proofs.Ytbhklkolkclflaa
