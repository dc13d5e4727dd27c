/- Contracts of package buffer, fifth part: Replace where it is refused; Apply. -/
import Derived.Test.YtbhklkolkclflaaB7
namespace Go.Proofs.Ytbhklkolkclflaa
open Go.RowKit

/-- What Replace leaves where it refuses. -/
def Refused (w : World) (n : Int) (e : Ending) (w' : World) : Prop :=
  e = .returned (.tuple #[.agg #[.int .i64 0, .slice none 0 0, .slice none 0 0], .int .i64 n]) ∧ Fr nob w w'

set_option maxRecDepth 10000 in
set_option maxHeartbeats 800000 in
theorem buf_replace_place (w : World) (b : Nat) (L : List Int) (p m f t : Int) (al : Option Addr) (k cl : Nat) (h : BufRep w b L p m)
    (hbad : ¬ (0 ≤ f ∧ f ≤ L.length ∧ f ≤ t ∧ t ≤ L.length)) :
    Calls Try.prog 59 #[.pointer (some ⟨b, 0, none⟩), .int .i64 f, .int .i64 t, .slice al k cl] w (Refused w 70) := by
  have H := Lib.hid h
  have hb := h.lt
  clear h
  have F0 : ∀ o n, Fr nob w ((w.alloc o).drewN n) := fun o n => ((Fr.refl _ _).alloc o).drewN n
  have HF0 := Lib.hid F0
  clear F0
  generalize hn : L.length = n at *
  have HN := Lib.hid hn
  clear hn
  have hcs : f < 0 ∨ (0 ≤ f ∧ n < f) ∨ (0 ≤ f ∧ f ≤ n ∧ t < f) ∨ (0 ≤ f ∧ f ≤ n ∧ f ≤ t ∧ n < t) := by omega
  clear hbad
  rcases hcs with h1 | ⟨h1, h2⟩ | ⟨h1, h2, h3⟩ | ⟨h1, h2, h3, h4⟩
  all_goals
    go_enter Try.func59, Try.ntmps59
    go_wp2_with (first
      | (go_at_call 29; refine (buf_len _ _ L p m (H.out.stayN (HF0.out _ 0))).mono ?_; rintro e w' ⟨rfl, k1, rfl⟩; rw [HN.out])
      | (go_at_call 58; refine (buf_none _ b (H.out.stayN (HF0.out _ _)).at.choose_spec.choose_spec.choose_spec.choose_spec.choose_spec).mono ?_; rintro e w' ⟨rfl, rfl⟩))
    exact bodyPost_ret (v := .tuple #[.agg #[.int .i64 0, .slice none 0 0, .slice none 0 0], .int .i64 70]) (by simp [results, Try.results59, go_sem]) rfl ⟨rfl, (((HF0.out _ _).setNew _ _ _ (Nat.le_refl _)).setNew _ _ _ (Nat.le_refl _)).setNew _ _ _ (Nat.le_refl _)⟩

set_option maxRecDepth 10000 in
set_option maxHeartbeats 800000 in
theorem buf_replace_long (w : World) (b : Nat) (L : List Int) (p m : Int) (f t : Nat) (al : Option Addr) (k cl : Nat) (h : BufRep w b L p m)
    (hft : f ≤ t) (ht : t ≤ L.length) (hbad : 1024 < k + (L.length - (t - f))) :
    Calls Try.prog 59 #[.pointer (some ⟨b, 0, none⟩), .int .i64 f, .int .i64 t, .slice al k cl] w (Refused w 3) := by
  have H := Lib.hid h
  have hL : L.length ≤ 1024 := by obtain ⟨_, _, _, _, _, _, _, _, _, _, _, _, h, _⟩ := h; exact h
  have hb := h.lt
  clear h
  have F0 : ∀ o n, Fr nob w ((w.alloc o).drewN n) := fun o n => ((Fr.refl _ _).alloc o).drewN n
  have HF0 := Lib.hid F0
  clear F0
  generalize hn : L.length = n at *
  have HN := Lib.hid hn
  clear hn
  have i1 : (t : Int) - f ≤ n := by omega
  have i2 : 1024 - ((n : Int) - (t - f)) < k := by omega
  go_enter Try.func59, Try.ntmps59
  go_wp2_with (first
    | (go_at_call 29; refine (buf_len _ _ L p m (H.out.stayN (HF0.out _ 0))).mono ?_; rintro e w' ⟨rfl, k1, rfl⟩; rw [HN.out])
    | (go_at_call 58; refine (buf_none _ b (H.out.stayN (HF0.out _ _)).at.choose_spec.choose_spec.choose_spec.choose_spec.choose_spec).mono ?_; rintro e w' ⟨rfl, rfl⟩))
  exact bodyPost_ret (v := .tuple #[.agg #[.int .i64 0, .slice none 0 0, .slice none 0 0], .int .i64 3]) (by simp [results, Try.results59, go_sem]) rfl ⟨rfl, (((HF0.out _ _).setNew _ _ _ (Nat.le_refl _)).setNew _ _ _ (Nat.le_refl _)).setNew _ _ _ (Nat.le_refl _)⟩

/-- What Apply leaves where the edit fits. -/
def Applied (w : World) (b : Nat) (L : List Int) (p m : Int) (f : Nat) (del ins : List Int) (e : Ending) (w' : World) : Prop :=
  e = .returned (.int .i64 0) ∧ BufRep w' b (L.take f ++ ins ++ L.drop (f + del.length)) (newPoint p f (f + del.length) ins.length) (newMark m f (f + del.length) ins.length) ∧ Fr (one b) w w'

set_option maxRecDepth 10000 in
set_option maxHeartbeats 1600000 in
theorem buf_apply_ok (w : World) (b : Nat) (L : List Int) (p m : Int) (f : Nat) (del ins : List Int) (d i : Option Addr) (cd ci : Nat) (h : BufRep w b L p m)
    (hd : Sl w 1 d del.length cd (runes del)) (hi : Sl w 1 i ins.length ci (runes ins))
    (hf : f + del.length ≤ L.length) (heq : (L.drop f).take del.length = del) (hlen : ins.length + (L.length - del.length) ≤ 1024) :
    Calls Try.prog 35 #[.pointer (some ⟨b, 0, none⟩), .agg #[.int .i64 f, .slice d del.length cd, .slice i ins.length ci]] w (Applied w b L p m f del ins) := by
  have H := Lib.hid h
  have hL : L.length ≤ 1024 := by obtain ⟨_, _, _, _, _, _, _, _, _, _, _, _, h, _⟩ := h; exact h
  have hb := h.lt
  have HD := Lib.hid hd
  have HI := Lib.hid hi
  have HE := Lib.hid heq
  clear h hd hi heq
  have F0 : ∀ o n, Fr nob w ((w.alloc o).drewN n) := fun o n => ((Fr.refl _ _).alloc o).drewN n
  have HF0 := Lib.hid F0
  clear F0
  generalize hn : L.length = n at *
  generalize hnd : del.length = nd at *
  generalize hni : ins.length = ni at *
  have HN := Lib.hid hn
  have HND := Lib.hid hnd
  have HNI := Lib.hid hni
  clear hn hnd hni
  have b1 : decide ((f : Int) < 0) = false := by simp
  have b2 : decide (n < f) = false := by simp; omega
  have b3 : decide ((n : Int) - f < nd) = false := by simp; omega
  have i1 : (f : Int) ≤ n := by omega
  have i2 : (f : Int) + nd ≤ n := by omega
  have hLen : ∀ W, Fr nob w W → Calls Try.prog 29 #[.pointer (some ⟨b, 0, none⟩)] W fun e w' => e = .returned (.int .i64 n) ∧ ∃ k, w' = W.drewN k := fun W hW => by
    have h := buf_len W b L p m (H.out.stayN hW)
    rw [HN.out] at h
    exact h
  have HLen := Lib.hid hLen
  clear hLen
  have hEq : ∀ W a2 c2, Sl W 1 a2 nd c2 (runes ((L.drop f).take nd)) → Fr nob w W → Calls Try.prog 13 #[.slice a2 nd c2, .slice d nd cd] W fun e w' => e = .returned (.bool true) ∧ ∃ k, w' = W.drewN k := fun W a2 c2 hW hfW => by
    have e1 : ((L.drop f).take nd).length = nd := by rw [List.length_take, List.length_drop, HN.out]; omega
    have e2 := HE.out
    have h := equal_runes W a2 d c2 cd ((L.drop f).take nd) del (by rw [e1]; exact hW) (by rw [HND.out]; exact HD.out.oldN hfW) (by rw [e1]; omega)
    rw [e1, HND.out, decide_eq_true e2] at h
    exact h
  have HEq := Lib.hid hEq
  clear hEq
  obtain ⟨a0, n0, c0, f0, t0, h1⟩ := (H.out.stayN (w' := w.alloc (.cells #[.int .i64 f, .slice d nd cd, .slice i ni ci] 82)) ((Fr.refl _ _).alloc _)).at
  go_enter Try.func35, Try.ntmps35
  go_wp2_with (go_at_call 58; refine (buf_none _ b h1).mono ?_; rintro e w' ⟨rfl, rfl⟩)
  go_quiet ((go_at_call 29; exact Calls.quiet_of (HLen.out _ (((Fr.refl _ _).alloc _).drewN _))))
  go_wp2
  have hE0 := heap_alloc_new w (.cells #[.int .i64 f, .slice d nd cd, .slice i ni ci] 82)
  refine forget (fun W => Hid (W.heap[w.heap.size]? = some (.cells #[.int .i64 f, .slice d nd cd, .slice i ni ci] 82 (0, 0))) ∧ Fr nob w W) ⟨hE0, ((Fr.refl _ _).alloc _).drewN _⟩ ?_
  rintro W ⟨HW, hfW⟩
  have hS : ∀ V, Fr nob W V → (V.cell? ⟨w.heap.size, 0, none⟩ = some (.int .i64 f) ∧ V.cell? ⟨w.heap.size, 1, none⟩ = some (.slice d nd cd) ∧ Hid (Fr nob W V)) := fun V hV => by
    have h0 := blk_cells (hV.keep HW.out (fun h => h))
    exact ⟨by rw [h0]; rfl, by rw [h0]; rfl, hV⟩
  have HS := Lib.hid hS
  clear hS
  have e1 : IntKind.i64.wrap ((n : Int) - f) = n - f := IntWalk.i64_in _ (by omega)
  have e2 : IntKind.i64.wrap ((f : Int) + nd) = f + nd := IntWalk.i64_in _ (by omega)
  have e4 : ((f : Int) + nd).toNat = f + nd := by omega
  go_region_held3 (fun V => V.cell? ⟨w.heap.size, 0, none⟩ = some (.int .i64 f) ∧ V.cell? ⟨w.heap.size, 1, none⟩ = some (.slice d nd cd) ∧ Hid (Fr nob W V))
    ((go_split_ands; refine HS.out _ ?_; first | exact (Fr.refl _ _).drew | exact Fr.drewN (Fr.refl _ _) _ | exact Fr.then (Fr.drewN (Fr.refl _ _) _) (by assumption) | exact Fr.drewN (Fr.then (Fr.drewN (Fr.refl _ _) _) (by assumption)) _))
    (first
      | (go_at_call 29; refine (HLen.out _ ?_).mono ?_; (first | exact hfW.then (Fr.refl _ _).drew | exact hfW.then ((Fr.refl _ _).drewN _)); rintro e w' ⟨rfl, k, rfl⟩)
      | (go_at_call 62; refine (buf_text _ b L p m ?_).mono ?_; (exact H.out.stayN (hfW.then ((Fr.refl _ _).drewN _))); rintro e w' ⟨a, c, rfl, hown, hfr, _⟩; rw [HN.out] at hown ⊢; obtain ⟨a2, c2, hsl, hS2⟩ := slice_lh hown.sl f (f + nd) ((f : Int) + nd) (by omega) (by omega) (by omega); rw [show f + nd - f = nd by omega] at hsl hS2; have HS2 := Lib.hid hS2; have HFR := Lib.hid (hfW.then (((Fr.refl nob W).drewN _).then hfr)); clear hS2 hown)
      | (go_at_call 13; refine (HEq.out _ _ _ HS2.out HFR.out).mono ?_; rintro e w' ⟨rfl, k, rfl⟩))
  rename_i hSV
  obtain ⟨s0, s1, hSF⟩ := hSV
  have hWF := hfW.then hSF.out
  have hEV := hSF.out.keep HW.out (fun h => h)
  have hcV := blk_cells hEV
  have hlV := blk_lt hEV
  clear s0 s1
  have hRep : ∀ V, Fr nob w V → Calls Try.prog 59 #[.pointer (some ⟨b, 0, none⟩), .int .i64 f, .int .i64 (f + nd), .slice i ni ci] V (Replaced V b L p m f (f + nd) ins) := fun V hV => by
    have h := buf_replace_ok V b L p m f (f + nd) ins i ci (H.out.stayN hV) (by rw [HNI.out]; exact HI.out.oldN hV) (by omega) (by rw [HN.out]; omega) (by rw [HN.out, HNI.out]; omega)
    rw [HNI.out, Int.natCast_add] at h
    exact h
  have HRep := Lib.hid hRep
  clear hRep
  go_wp2_with fail
  refine (HRep.out _ hWF).mono ?_
  rintro e w3 ⟨v, rfl, ⟨d3, i3, cd3, ci3, rfl, _, _⟩, hB3, hf3⟩
  have HB3 := Lib.hid hB3
  clear hB3
  go_wp2
  go_ret
  refine ⟨rfl, ?_, ?_⟩
  · rw [HND.out]
    exact HB3.out.stayN ((Fr.refl _ _).alloc _)
  · exact ((hWF.mono (fun _ _ h => h.elim)).trans hf3 (fun _ _ h => h)).alloc _
end Go.Proofs.Ytbhklkolkclflaa
