/- Contracts of package buffer, second part: Line, Clone, New, Move, SetMark, Swap. -/
import Derived.Test.YtbhklkolkclflaaB4
namespace Go.Proofs.Ytbhklkolkclflaa
open Go.RowKit

/-- A line by value. -/
def LineIs (w : World) (L : List Int) (p m : Int) (e : Ending) (w' : World) : Prop :=
  ∃ a c, e = .returned (.agg #[.slice a L.length c, .int .i64 p, .int .i64 m]) ∧ Own w' 21 1 (.slice a L.length c) L.length (runes L) ∧ Fr nob w w' ∧ ∀ b, rowOf (.slice a L.length c) b → w.heap.size ≤ b

set_option maxRecDepth 10000 in
theorem buf_line (w : World) (b : Nat) (L : List Int) (p m : Int) (h : BufRep w b L p m) :
    Calls Try.prog 32 #[.pointer (some ⟨b, 0, none⟩)] w (LineIs w L p m) := by
  have hb := h.lt
  have H := Lib.hid h
  clear h
  go_enter Try.func32, Try.ntmps32
  go_wp2_with fail
  refine (buf_text _ _ L p m (H.out.stayN ((Fr.refl _ _).alloc _))).mono ?_
  rintro e w1 ⟨a, c, rfl, hown, hfr, hfresh⟩
  have hf1 : Fr nob w w1 := ((Fr.refl nob w).alloc _).then hfr
  have HO := Lib.hid hown
  have hr : w1.heap[w.heap.size]? = some (.cells #[.slice none 0 0, .int .i64 0, .int .i64 0] 38 (0, 0)) := hfr.keep (heap_alloc_new w _) (fun h => h)
  have hc := blk_cells hr
  have hz := blk_free hr
  have hlt := blk_lt hr
  clear hown
  go_wp2_with (first | (go_at_call 28; refine (buf_point _ _ L p m (H.out.stayN hf1)).mono ?_; rintro e w' ⟨rfl, rfl⟩) | (go_at_call 63; refine (buf_mark _ _ L p m (H.out.stayN hf1)).mono ?_; rintro e w' ⟨rfl, rfl⟩))
  refine bodyPost_ret (v := .agg #[.slice a L.length c, .int .i64 p, .int .i64 m]) (by simp [results, Try.results32, go_sem, hc]) rfl ⟨a, c, rfl, ?_, ?_, fun b hb => Nat.le_of_succ_le (by have := hfresh b hb; simpa using this)⟩
  · exact HO.out.stay ((((Fr.refl (one w.heap.size) w1).setOne _ _).setOne _ _).setOne _ _) (NR.one hr (by decide))
  · exact ((hf1.setNew _ _ _ (Nat.le_refl _)).setNew _ _ _ (Nat.le_refl _)).setNew _ _ _ (Nat.le_refl _)

/-- A call that answers a number and leaves the buffer so. -/
def BufDone (w : World) (b : Nat) (n : Int) (L : List Int) (p m : Int) (e : Ending) (w' : World) : Prop :=
  e = .returned (.int .i64 n) ∧ BufRep w' b L p m ∧ Fr (one b) w w'

theorem BufRep.setPoint {w : World} {b : Nat} {L : List Int} {p m : Int} (h : BufRep w b L p m) (q : Int) (h0 : 0 ≤ q) (h1 : q ≤ L.length) : BufRep (w.setCell ⟨b, 4, none⟩ (.int .i64 q)) b L q m := by
  obtain ⟨a, n, c, f, t, cs, h2, h3, h4, h5, h6, h7, h8, _, _, h9⟩ := h
  exact ⟨a, n, c, f, t, cs, by have h := heap_setCell_same (o := 4) h2 (.int .i64 q); simpa [BufBlk] using h, h3.stay ((Fr.refl (one b) w).setOne _ _) (NR.one h2 (by decide)), h4, h5, h6, h7, h8, h0, h1, h9⟩
theorem BufRep.setMark {w : World} {b : Nat} {L : List Int} {p m : Int} (h : BufRep w b L p m) (q : Int) (h0 : -1 ≤ q) (h1 : q ≤ L.length) : BufRep (w.setCell ⟨b, 5, none⟩ (.int .i64 q)) b L p q := by
  obtain ⟨a, n, c, f, t, cs, h2, h3, h4, h5, h6, h7, h8, h10, h11, _, _⟩ := h
  exact ⟨a, n, c, f, t, cs, by have h := heap_setCell_same (o := 5) h2 (.int .i64 q); simpa [BufBlk] using h, h3.stay ((Fr.refl (one b) w).setOne _ _) (NR.one h2 (by decide)), h4, h5, h6, h7, h8, h10, h11, h0, h1⟩

set_option maxRecDepth 10000 in
theorem buf_move (w : World) (b : Nat) (L : List Int) (p m q : Int) (h : BufRep w b L p m) :
    Calls Try.prog 31 #[.pointer (some ⟨b, 0, none⟩), .int .i64 q] w (if 0 ≤ q ∧ q ≤ L.length then BufDone w b 0 L q m else BufDone w b 70 L p m) := by
  have H := Lib.hid h
  have hb := h.lt
  obtain ⟨a, n, c, f, t, h1⟩ := h.at
  clear h
  have hc := blk_cells h1
  have hz := blk_free h1
  by_cases hq : 0 ≤ q ∧ q ≤ L.length
  · rw [if_pos hq]
    obtain ⟨hq1, hq2⟩ := hq
    go_enter Try.func31, Try.ntmps31
    go_wp2_with (first | (go_at_call 58; refine (buf_none _ _ h1).mono ?_; rintro e w' ⟨rfl, rfl⟩) | (go_at_call 29; refine (buf_len _ _ L p m H.out).mono ?_; rintro e w' ⟨rfl, k, rfl⟩))
    go_ret
    exact ⟨rfl, (H.out.setPoint q hq1 hq2).stayN ((Fr.refl _ _).drewN _), ((Fr.refl _ _).drewN _).setOne _ _⟩
  · rw [if_neg hq]
    by_cases hq1 : q < 0
    · go_enter Try.func31, Try.ntmps31
      go_wp2_with (first | (go_at_call 58; refine (buf_none _ _ h1).mono ?_; rintro e w' ⟨rfl, rfl⟩) | (go_at_call 29; refine (buf_len _ _ L p m H.out).mono ?_; rintro e w' ⟨rfl, k, rfl⟩))
      go_ret
      exact ⟨rfl, H.out, Fr.refl _ _⟩
    · have hq2 : (L.length : Int) < q := by omega
      clear hq
      go_enter Try.func31, Try.ntmps31
      go_wp2_with (first | (go_at_call 58; refine (buf_none _ _ h1).mono ?_; rintro e w' ⟨rfl, rfl⟩) | (go_at_call 29; refine (buf_len _ _ L p m H.out).mono ?_; rintro e w' ⟨rfl, k, rfl⟩))
      go_ret
      exact ⟨rfl, H.out.stayN ((Fr.refl _ _).drewN _), (Fr.refl _ _).drewN _⟩

set_option maxRecDepth 10000 in
theorem buf_setMark (w : World) (b : Nat) (L : List Int) (p m q : Int) (h : BufRep w b L p m) :
    Calls Try.prog 44 #[.pointer (some ⟨b, 0, none⟩), .int .i64 q] w (if -1 ≤ q ∧ q ≤ L.length then BufDone w b 0 L p q else BufDone w b 70 L p m) := by
  have H := Lib.hid h
  have hb := h.lt
  obtain ⟨a, n, c, f, t, h1⟩ := h.at
  clear h
  have hc := blk_cells h1
  have hz := blk_free h1
  by_cases hq : -1 ≤ q ∧ q ≤ L.length
  · rw [if_pos hq]
    obtain ⟨hq1, hq2⟩ := hq
    go_enter Try.func44, Try.ntmps44
    go_wp2_with (first | (go_at_call 58; refine (buf_none _ _ h1).mono ?_; rintro e w' ⟨rfl, rfl⟩) | (go_at_call 29; refine (buf_len _ _ L p m H.out).mono ?_; rintro e w' ⟨rfl, k, rfl⟩))
    go_ret
    exact ⟨rfl, (H.out.setMark q hq1 hq2).stayN ((Fr.refl _ _).drewN _), ((Fr.refl _ _).drewN _).setOne _ _⟩
  · rw [if_neg hq]
    by_cases hq1 : q < -1
    · go_enter Try.func44, Try.ntmps44
      go_wp2_with (first | (go_at_call 58; refine (buf_none _ _ h1).mono ?_; rintro e w' ⟨rfl, rfl⟩) | (go_at_call 29; refine (buf_len _ _ L p m H.out).mono ?_; rintro e w' ⟨rfl, k, rfl⟩))
      go_ret
      exact ⟨rfl, H.out, Fr.refl _ _⟩
    · have hq2 : (L.length : Int) < q := by omega
      clear hq
      go_enter Try.func44, Try.ntmps44
      go_wp2_with (first | (go_at_call 58; refine (buf_none _ _ h1).mono ?_; rintro e w' ⟨rfl, rfl⟩) | (go_at_call 29; refine (buf_len _ _ L p m H.out).mono ?_; rintro e w' ⟨rfl, k, rfl⟩))
      go_ret
      exact ⟨rfl, H.out.stayN ((Fr.refl _ _).drewN _), (Fr.refl _ _).drewN _⟩


/-- A new buffer. -/
def BufMade (w : World) (L : List Int) (p m : Int) (e : Ending) (w' : World) : Prop :=
  ∃ b, e = .returned (.pointer (some ⟨b, 0, none⟩)) ∧ w.heap.size ≤ b ∧ BufRep w' b L p m ∧ Fr nob w w'

set_option maxRecDepth 10000 in
theorem buf_clone (w : World) (b : Nat) (L : List Int) (p m : Int) (h : BufRep w b L p m) :
    Calls Try.prog 49 #[.pointer (some ⟨b, 0, none⟩)] w (BufMade w L p m) := by
  obtain ⟨a, n, c, f, t, cs, h1, h2, hft, htn, hn, hL⟩ := h
  have hb := blk_lt h1
  have hc := blk_cells h1
  have hz := blk_free h1
  have HO := Lib.hid h2
  have HL := Lib.hid hL
  clear h2 hL
  go_enter Try.func49, Try.ntmps49
  go_wp2_with (go_at_call 58; refine (buf_none _ _ h1).mono ?_; rintro e w' ⟨rfl, rfl⟩)
  refine (clone_runes _ a n c (runes cs) (HO.out.sl.oldN ((Fr.refl _ _).alloc _)) (by omega)).mono ?_
  rintro e w1 ⟨a', c', rfl, hown, hfr, hfresh⟩
  have hf1 : Fr nob w w1 := ((Fr.refl nob w).alloc _).then hfr
  have HO2 := Lib.hid hown
  have hr := hfr.keep (heap_alloc_new w _) (fun h => h)
  have hc2 := blk_cells hr
  have hz2 := blk_free hr
  have hlt := blk_lt hr
  clear hown
  go_wp2
  go_ret
  refine ⟨w.heap.size, rfl, Nat.le_refl _, ⟨a', n, c', f, t, cs, ?_, ?_, hft, htn, hn, HL.out⟩, hf1.setNew _ _ _ (Nat.le_refl _)⟩
  · have := heap_setCell_same (o := 1) hr (.slice a' n c')
    simpa [BufBlk] using this
  · exact HO2.out.stay ((Fr.refl (one w.heap.size) w1).setOne _ _) (NR.one hr (by decide))

/-- What New answers. -/
def BufNew (w : World) (L : List Int) (e : Ending) (w' : World) : Prop :=
  ∃ b, e = .returned (.tuple #[.pointer (some ⟨b, 0, none⟩), .int .i64 0]) ∧ w.heap.size ≤ b ∧ BufRep w' b L L.length (-1) ∧ Fr nob w w'

set_option maxRecDepth 10000 in
theorem buf_new (w : World) (a : Option Addr) (c : Nat) (L : List Int) (h : Sl w 1 a L.length c (runes L)) (hl : L.length ≤ 1024) :
    Calls Try.prog 47 #[.slice a L.length c] w (BufNew w L) := by
  have H := Lib.hid h
  clear h
  go_enter Try.func47, Try.ntmps47
  go_wp2_with fail
  refine (clone_runes _ a L.length c (runes L) H.out (by omega)).mono ?_
  rintro e w1 ⟨a', c', rfl, hown, hfr, hfresh⟩
  have HO := Lib.hid hown
  clear hown
  go_wp2
  go_ret2
  refine ⟨_, rfl, hfr.size, ⟨a', L.length, c', L.length, L.length, L, heap_alloc_new w1 _, HO.out.stay (M := nob) ((Fr.refl _ _).alloc _) (NR.nob _), Nat.le_refl _, Nat.le_refl _, by omega, by simp, hl, by omega, by omega, by omega, by omega⟩, hfr.alloc _⟩
end Go.Proofs.Ytbhklkolkclflaa
