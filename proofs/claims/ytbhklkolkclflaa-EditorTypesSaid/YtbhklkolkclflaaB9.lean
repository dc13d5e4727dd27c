/- Contracts of package buffer, sixth part: Apply where the edit does not fit. -/
import Derived.Test.YtbhklkolkclflaaB8
namespace Go.Proofs.Ytbhklkolkclflaa
open Go.RowKit

/-- What Apply leaves where the edit does not fit. -/
def ApplyNo (w : World) (b : Nat) (L : List Int) (p m : Int) (e : Ending) (w' : World) : Prop :=
  ∃ c : Int, c ≠ 0 ∧ e = .returned (.int .i64 c) ∧ BufRep w' b L p m ∧ Fr nob w w'

set_option maxRecDepth 10000 in
set_option maxHeartbeats 1600000 in
theorem buf_apply_mis (w : World) (b : Nat) (L : List Int) (p m : Int) (f : Nat) (del ins : List Int) (d i : Option Addr) (cd ci : Nat) (h : BufRep w b L p m)
    (hd : Sl w 1 d del.length cd (runes del))
    (hf : f + del.length ≤ L.length) (heq : (L.drop f).take del.length ≠ del) :
    Calls Try.prog 35 #[.pointer (some ⟨b, 0, none⟩), .agg #[.int .i64 f, .slice d del.length cd, .slice i ins.length ci]] w (ApplyNo w b L p m) := by
  have H := Lib.hid h
  have hL : L.length ≤ 1024 := by obtain ⟨_, _, _, _, _, _, _, _, _, _, _, _, h, _⟩ := h; exact h
  have hb := h.lt
  have HD := Lib.hid hd
  have HE := Lib.hid heq
  clear h hd heq
  have F0 : ∀ o n, Fr nob w ((w.alloc o).drewN n) := fun o n => ((Fr.refl _ _).alloc o).drewN n
  have HF0 := Lib.hid F0
  clear F0
  generalize hn : L.length = n at *
  generalize hnd : del.length = nd at *
  generalize ins.length = ni
  have HN := Lib.hid hn
  have HND := Lib.hid hnd
  clear hn hnd
  have b1 : decide ((f : Int) < 0) = false := by simp
  have b2 : decide (n < f) = false := by simp; omega
  have b3 : decide ((n : Int) - f < nd) = false := by simp; omega
  have i1 : (f : Int) ≤ n := by omega
  have i2 : (f : Int) + nd ≤ n := by omega
  have hLen : ∀ W, Fr nob w W → Calls Try.prog 29 #[.pointer (some ⟨b, 0, none⟩)] W fun e w' => e = .returned (.int .i64 n) ∧ ∃ k, w' = W.drewN k := fun W hW => by
    have h := buf_len W b L p m (H.out.stayN hW)
    rw [HN.out] at h
    exact h
  have HLen := Lib.hid hLen
  clear hLen
  have hEq : ∀ W a2 c2, Sl W 1 a2 nd c2 (runes ((L.drop f).take nd)) → Fr nob w W → Calls Try.prog 13 #[.slice a2 nd c2, .slice d nd cd] W fun e w' => e = .returned (.bool false) ∧ ∃ k, w' = W.drewN k := fun W a2 c2 hW hfW => by
    have e1 : ((L.drop f).take nd).length = nd := by rw [List.length_take, List.length_drop, HN.out]; omega
    have e2 := HE.out
    have h := equal_runes W a2 d c2 cd ((L.drop f).take nd) del (by rw [e1]; exact hW) (by rw [HND.out]; exact HD.out.oldN hfW) (by rw [e1]; omega)
    rw [e1, HND.out, decide_eq_false e2] at h
    exact h
  have HEq := Lib.hid hEq
  clear hEq
  obtain ⟨a0, n0, c0, f0, t0, h1⟩ := (H.out.stayN (w' := w.alloc (.cells #[.int .i64 f, .slice d nd cd, .slice i ni ci] 82)) ((Fr.refl _ _).alloc _)).at
  go_enter Try.func35, Try.ntmps35
  go_wp2_with (go_at_call 58; refine (buf_none _ b h1).mono ?_; rintro e w' ⟨rfl, rfl⟩)
  go_quiet ((go_at_call 29; exact Calls.quiet_of (HLen.out _ (((Fr.refl _ _).alloc _).drewN _))))
  go_wp2
  have hE0 := heap_alloc_new w (.cells #[.int .i64 f, .slice d nd cd, .slice i ni ci] 82)
  refine forget (fun W => Hid (W.heap[w.heap.size]? = some (.cells #[.int .i64 f, .slice d nd cd, .slice i ni ci] 82 (0, 0))) ∧ Fr nob w W) ⟨hE0, ((Fr.refl _ _).alloc _).drewN _⟩ ?_
  rintro W ⟨HW, hfW⟩
  have hS : ∀ V, Fr nob W V → (V.cell? ⟨w.heap.size, 0, none⟩ = some (.int .i64 f) ∧ V.cell? ⟨w.heap.size, 1, none⟩ = some (.slice d nd cd) ∧ Hid (Fr nob W V)) := fun V hV => by
    have h0 := blk_cells (hV.keep HW.out (fun h => h))
    exact ⟨by rw [h0]; rfl, by rw [h0]; rfl, hV⟩
  have HS := Lib.hid hS
  clear hS
  have e1 : IntKind.i64.wrap ((n : Int) - f) = n - f := IntWalk.i64_in _ (by omega)
  have e2 : IntKind.i64.wrap ((f : Int) + nd) = f + nd := IntWalk.i64_in _ (by omega)
  have e4 : ((f : Int) + nd).toNat = f + nd := by omega
  go_region_held3 (fun V => V.cell? ⟨w.heap.size, 0, none⟩ = some (.int .i64 f) ∧ V.cell? ⟨w.heap.size, 1, none⟩ = some (.slice d nd cd) ∧ Hid (Fr nob W V))
    ((go_split_ands; refine HS.out _ ?_; first | exact (Fr.refl _ _).drew | exact Fr.drewN (Fr.refl _ _) _ | exact Fr.then (Fr.drewN (Fr.refl _ _) _) (by assumption) | exact Fr.drewN (Fr.then (Fr.drewN (Fr.refl _ _) _) (by assumption)) _))
    (first
      | (go_at_call 29; refine (HLen.out _ ?_).mono ?_; (first | exact hfW.then (Fr.refl _ _).drew | exact hfW.then ((Fr.refl _ _).drewN _)); rintro e w' ⟨rfl, k, rfl⟩)
      | (go_at_call 62; refine (buf_text _ b L p m ?_).mono ?_; (exact H.out.stayN (hfW.then ((Fr.refl _ _).drewN _))); rintro e w' ⟨a, c, rfl, hown, hfr, _⟩; rw [HN.out] at hown ⊢; obtain ⟨a2, c2, hsl, hS2⟩ := slice_lh hown.sl f (f + nd) ((f : Int) + nd) (by omega) (by omega) (by omega); rw [show f + nd - f = nd by omega] at hsl hS2; have HS2 := Lib.hid hS2; have HFR := Lib.hid (hfW.then (((Fr.refl nob W).drewN _).then hfr)); clear hS2 hown)
      | (go_at_call 13; refine (HEq.out _ _ _ HS2.out HFR.out).mono ?_; rintro e w' ⟨rfl, k, rfl⟩))
  rename_i hSV
  obtain ⟨s0, s1, hSF⟩ := hSV
  have hWF := hfW.then hSF.out
  go_wp2
  go_ret
  exact ⟨71, by decide, rfl, H.out.stayN hWF, hWF⟩

set_option maxRecDepth 10000 in
set_option maxHeartbeats 1600000 in
theorem buf_apply_long (w : World) (b : Nat) (L : List Int) (p m : Int) (f : Nat) (del ins : List Int) (d i : Option Addr) (cd ci : Nat) (h : BufRep w b L p m)
    (hd : Sl w 1 d del.length cd (runes del))
    (hf : f + del.length ≤ L.length) (heq : (L.drop f).take del.length = del) (hlen : 1024 < ins.length + (L.length - del.length)) :
    Calls Try.prog 35 #[.pointer (some ⟨b, 0, none⟩), .agg #[.int .i64 f, .slice d del.length cd, .slice i ins.length ci]] w (ApplyNo w b L p m) := by
  have H := Lib.hid h
  have hL : L.length ≤ 1024 := by obtain ⟨_, _, _, _, _, _, _, _, _, _, _, _, h, _⟩ := h; exact h
  have hb := h.lt
  have HD := Lib.hid hd
  have HE := Lib.hid heq
  clear h hd heq
  have F0 : ∀ o n, Fr nob w ((w.alloc o).drewN n) := fun o n => ((Fr.refl _ _).alloc o).drewN n
  have HF0 := Lib.hid F0
  clear F0
  generalize hn : L.length = n at *
  generalize hnd : del.length = nd at *
  generalize hni : ins.length = ni at *
  have HN := Lib.hid hn
  have HND := Lib.hid hnd
  clear hn hnd hni
  have b1 : decide ((f : Int) < 0) = false := by simp
  have b2 : decide (n < f) = false := by simp; omega
  have b3 : decide ((n : Int) - f < nd) = false := by simp; omega
  have i1 : (f : Int) ≤ n := by omega
  have i2 : (f : Int) + nd ≤ n := by omega
  have hLen : ∀ W, Fr nob w W → Calls Try.prog 29 #[.pointer (some ⟨b, 0, none⟩)] W fun e w' => e = .returned (.int .i64 n) ∧ ∃ k, w' = W.drewN k := fun W hW => by
    have h := buf_len W b L p m (H.out.stayN hW)
    rw [HN.out] at h
    exact h
  have HLen := Lib.hid hLen
  clear hLen
  have hEq : ∀ W a2 c2, Sl W 1 a2 nd c2 (runes ((L.drop f).take nd)) → Fr nob w W → Calls Try.prog 13 #[.slice a2 nd c2, .slice d nd cd] W fun e w' => e = .returned (.bool true) ∧ ∃ k, w' = W.drewN k := fun W a2 c2 hW hfW => by
    have e1 : ((L.drop f).take nd).length = nd := by rw [List.length_take, List.length_drop, HN.out]; omega
    have e2 := HE.out
    have h := equal_runes W a2 d c2 cd ((L.drop f).take nd) del (by rw [e1]; exact hW) (by rw [HND.out]; exact HD.out.oldN hfW) (by rw [e1]; omega)
    rw [e1, HND.out, decide_eq_true e2] at h
    exact h
  have HEq := Lib.hid hEq
  clear hEq
  obtain ⟨a0, n0, c0, f0, t0, h1⟩ := (H.out.stayN (w' := w.alloc (.cells #[.int .i64 f, .slice d nd cd, .slice i ni ci] 82)) ((Fr.refl _ _).alloc _)).at
  go_enter Try.func35, Try.ntmps35
  go_wp2_with (go_at_call 58; refine (buf_none _ b h1).mono ?_; rintro e w' ⟨rfl, rfl⟩)
  go_quiet ((go_at_call 29; exact Calls.quiet_of (HLen.out _ (((Fr.refl _ _).alloc _).drewN _))))
  go_wp2
  have hE0 := heap_alloc_new w (.cells #[.int .i64 f, .slice d nd cd, .slice i ni ci] 82)
  refine forget (fun W => Hid (W.heap[w.heap.size]? = some (.cells #[.int .i64 f, .slice d nd cd, .slice i ni ci] 82 (0, 0))) ∧ Fr nob w W) ⟨hE0, ((Fr.refl _ _).alloc _).drewN _⟩ ?_
  rintro W ⟨HW, hfW⟩
  have hS : ∀ V, Fr nob W V → (V.cell? ⟨w.heap.size, 0, none⟩ = some (.int .i64 f) ∧ V.cell? ⟨w.heap.size, 1, none⟩ = some (.slice d nd cd) ∧ Hid (Fr nob W V)) := fun V hV => by
    have h0 := blk_cells (hV.keep HW.out (fun h => h))
    exact ⟨by rw [h0]; rfl, by rw [h0]; rfl, hV⟩
  have HS := Lib.hid hS
  clear hS
  have e1 : IntKind.i64.wrap ((n : Int) - f) = n - f := IntWalk.i64_in _ (by omega)
  have e2 : IntKind.i64.wrap ((f : Int) + nd) = f + nd := IntWalk.i64_in _ (by omega)
  have e4 : ((f : Int) + nd).toNat = f + nd := by omega
  go_region_held3 (fun V => V.cell? ⟨w.heap.size, 0, none⟩ = some (.int .i64 f) ∧ V.cell? ⟨w.heap.size, 1, none⟩ = some (.slice d nd cd) ∧ Hid (Fr nob W V))
    ((go_split_ands; refine HS.out _ ?_; first | exact (Fr.refl _ _).drew | exact Fr.drewN (Fr.refl _ _) _ | exact Fr.then (Fr.drewN (Fr.refl _ _) _) (by assumption) | exact Fr.drewN (Fr.then (Fr.drewN (Fr.refl _ _) _) (by assumption)) _))
    (first
      | (go_at_call 29; refine (HLen.out _ ?_).mono ?_; (first | exact hfW.then (Fr.refl _ _).drew | exact hfW.then ((Fr.refl _ _).drewN _)); rintro e w' ⟨rfl, k, rfl⟩)
      | (go_at_call 62; refine (buf_text _ b L p m ?_).mono ?_; (exact H.out.stayN (hfW.then ((Fr.refl _ _).drewN _))); rintro e w' ⟨a, c, rfl, hown, hfr, _⟩; rw [HN.out] at hown ⊢; obtain ⟨a2, c2, hsl, hS2⟩ := slice_lh hown.sl f (f + nd) ((f : Int) + nd) (by omega) (by omega) (by omega); rw [show f + nd - f = nd by omega] at hsl hS2; have HS2 := Lib.hid hS2; have HFR := Lib.hid (hfW.then (((Fr.refl nob W).drewN _).then hfr)); clear hS2 hown)
      | (go_at_call 13; refine (HEq.out _ _ _ HS2.out HFR.out).mono ?_; rintro e w' ⟨rfl, k, rfl⟩))
  rename_i hSV
  obtain ⟨s0, s1, hSF⟩ := hSV
  have hWF := hfW.then hSF.out
  have hEV := hSF.out.keep HW.out (fun h => h)
  have hcV := blk_cells hEV
  have hlV := blk_lt hEV
  clear s0 s1
  have hRep : ∀ V, Fr nob w V → Calls Try.prog 59 #[.pointer (some ⟨b, 0, none⟩), .int .i64 f, .int .i64 (f + nd), .slice i ni ci] V (Refused V 3) := fun V hV => by
    have h := buf_replace_long V b L p m f (f + nd) i ni ci (H.out.stayN hV) (by omega) (by rw [HN.out]; omega) (by rw [HN.out]; omega)
    rw [Int.natCast_add] at h
    exact h
  have HRep := Lib.hid hRep
  clear hRep
  go_wp2_with fail
  refine (HRep.out _ hWF).mono ?_
  rintro e w3 ⟨rfl, hf3⟩
  go_wp2
  go_ret
  have hWF3 := hWF.then (hf3.alloc (.cells #[.int .i64 0, .slice none 0 0, .slice none 0 0] 82))
  exact ⟨3, by decide, rfl, H.out.stayN hWF3, hWF3⟩

set_option maxRecDepth 10000 in
set_option maxHeartbeats 1600000 in
theorem buf_apply_short (w : World) (b : Nat) (L : List Int) (p m : Int) (f : Nat) (nd ni : Nat) (d i : Option Addr) (cd ci : Nat) (h : BufRep w b L p m)
    (hf : f ≤ L.length) (hbad : L.length < f + nd) :
    Calls Try.prog 35 #[.pointer (some ⟨b, 0, none⟩), .agg #[.int .i64 f, .slice d nd cd, .slice i ni ci]] w (ApplyNo w b L p m) := by
  have H := Lib.hid h
  have hL : L.length ≤ 1024 := by obtain ⟨_, _, _, _, _, _, _, _, _, _, _, _, h, _⟩ := h; exact h
  have hb := h.lt
  clear h
  generalize hn : L.length = n at *
  have HN := Lib.hid hn
  clear hn
  have b1 : decide ((f : Int) < 0) = false := by simp
  have b2 : decide (n < f) = false := by simp; omega
  have b3 : decide ((n : Int) - f < nd) = true := by simp; omega
  have i1 : (f : Int) ≤ n := by omega
  have hLen : ∀ W, Fr nob w W → Calls Try.prog 29 #[.pointer (some ⟨b, 0, none⟩)] W fun e w' => e = .returned (.int .i64 n) ∧ ∃ k, w' = W.drewN k := fun W hW => by
    have h := buf_len W b L p m (H.out.stayN hW)
    rw [HN.out] at h
    exact h
  have HLen := Lib.hid hLen
  clear hLen
  obtain ⟨a0, n0, c0, f0, t0, h1⟩ := (H.out.stayN (w' := w.alloc (.cells #[.int .i64 f, .slice d nd cd, .slice i ni ci] 82)) ((Fr.refl _ _).alloc _)).at
  go_enter Try.func35, Try.ntmps35
  go_wp2_with (go_at_call 58; refine (buf_none _ b h1).mono ?_; rintro e w' ⟨rfl, rfl⟩)
  go_quiet ((go_at_call 29; exact Calls.quiet_of (HLen.out _ (((Fr.refl _ _).alloc _).drewN _))))
  go_wp2
  have hE0 := heap_alloc_new w (.cells #[.int .i64 f, .slice d nd cd, .slice i ni ci] 82)
  refine forget (fun W => Hid (W.heap[w.heap.size]? = some (.cells #[.int .i64 f, .slice d nd cd, .slice i ni ci] 82 (0, 0))) ∧ Fr nob w W) ⟨hE0, ((Fr.refl _ _).alloc _).drewN _⟩ ?_
  rintro W ⟨HW, hfW⟩
  have hcW := blk_cells HW.out
  have hlW := blk_lt HW.out
  have e1 : IntKind.i64.wrap ((n : Int) - f) = n - f := IntWalk.i64_in _ (by omega)
  go_quiet ((go_at_call 29; exact Calls.quiet_of (HLen.out _ (hfW.drewN _))))
  go_wp2
  go_ret
  exact ⟨71, by decide, rfl, H.out.stayN (hfW.drewN _), hfW.drewN _⟩

set_option maxRecDepth 10000 in
set_option maxHeartbeats 1600000 in
theorem buf_apply_place (w : World) (b : Nat) (L : List Int) (p m : Int) (f : Int) (nd ni : Nat) (d i : Option Addr) (cd ci : Nat) (h : BufRep w b L p m)
    (hbad : ¬ (0 ≤ f ∧ f ≤ L.length)) :
    Calls Try.prog 35 #[.pointer (some ⟨b, 0, none⟩), .agg #[.int .i64 f, .slice d nd cd, .slice i ni ci]] w (ApplyNo w b L p m) := by
  have H := Lib.hid h
  have hL : L.length ≤ 1024 := by obtain ⟨_, _, _, _, _, _, _, _, _, _, _, _, h, _⟩ := h; exact h
  have hb := h.lt
  clear h
  generalize hn : L.length = n at *
  have HN := Lib.hid hn
  clear hn
  have hLen : ∀ W, Fr nob w W → Calls Try.prog 29 #[.pointer (some ⟨b, 0, none⟩)] W fun e w' => e = .returned (.int .i64 n) ∧ ∃ k, w' = W.drewN k := fun W hW => by
    have h := buf_len W b L p m (H.out.stayN hW)
    rw [HN.out] at h
    exact h
  have HLen := Lib.hid hLen
  clear hLen
  obtain ⟨a0, n0, c0, f0, t0, h1⟩ := (H.out.stayN (w' := w.alloc (.cells #[.int .i64 f, .slice d nd cd, .slice i ni ci] 82)) ((Fr.refl _ _).alloc _)).at
  by_cases h0 : f < 0
  · have b1 : decide (f < 0) = true := by simpa using h0
    go_enter Try.func35, Try.ntmps35
    go_wp2_with (go_at_call 58; refine (buf_none _ b h1).mono ?_; rintro e w' ⟨rfl, rfl⟩)
    go_quiet ((go_at_call 29; exact Calls.quiet_of (HLen.out _ (((Fr.refl _ _).alloc _).drewN _))))
    go_wp2
    go_ret
    exact ⟨70, by decide, rfl, H.out.stayN (((Fr.refl _ _).alloc _).drewN _), ((Fr.refl _ _).alloc _).drewN _⟩
  · have b1 : decide (f < 0) = false := by simpa using h0
    have b2 : decide ((n : Int) < f) = true := by simp; omega
    go_enter Try.func35, Try.ntmps35
    go_wp2_with (go_at_call 58; refine (buf_none _ b h1).mono ?_; rintro e w' ⟨rfl, rfl⟩)
    go_quiet ((go_at_call 29; exact Calls.quiet_of (HLen.out _ (((Fr.refl _ _).alloc _).drewN _))))
    go_wp2
    go_ret
    exact ⟨70, by decide, rfl, H.out.stayN (((Fr.refl _ _).alloc _).drewN _), ((Fr.refl _ _).alloc _).drewN _⟩

end Go.Proofs.Ytbhklkolkclflaa
