/- Package undo, sixth part: inverses. -/
import Derived.Test.YtbhklkolkclflaaU5
import Derived.Test.YtbhklkolkclflaaR1
import Derived.Test.YtbhklkolkclflaaR3
namespace Go.Proofs.Ytbhklkolkclflaa
open Go.RowKit
attribute [local go_sem] Oper.semAt_some

/-- The value of the j-th edit among cells. -/
def elAt (xs : List Value) (j : Nat) : Int × Value × Value := (intOf (xs.getD (j * 3) undef), xs.getD (j * 3 + 1) undef, xs.getD (j * 3 + 2) undef)
def bargs (xs : List Value) (n k : Nat) : Array Value := #[.int .i64 (n - 1 - k : Nat), .agg #[.int .i64 (elAt xs (n - 1 - k)).1, (elAt xs (n - 1 - k)).2.1, (elAt xs (n - 1 - k)).2.2]]

theorem elAt_edit {w : World} {xs : List Value} {es : List EditP} (h : edCells w xs es) (j : Nat) (hj : j < es.length) :
    xs[j * 3]? = some (.int .i64 (elAt xs j).1) ∧ xs[j * 3 + 1]? = some (elAt xs j).2.1 ∧ xs[j * 3 + 2]? = some (elAt xs j).2.2 ∧
      EditV w (.agg #[.int .i64 (elAt xs j).1, (elAt xs j).2.1, (elAt xs j).2.2]) es[j].1 es[j].2.1 es[j].2.2 := by
  obtain ⟨d, cd, i, ci, h0, h1, h2, h3, h4⟩ := h.at j hj
  have e0 : xs.getD (j * 3) undef = .int .i64 es[j].1 := by rw [List.getD_eq_getElem?_getD, h0]; rfl
  have e1 : xs.getD (j * 3 + 1) undef = .slice d es[j].2.1.length cd := by rw [List.getD_eq_getElem?_getD, h1]; rfl
  have e2 : xs.getD (j * 3 + 2) undef = .slice i es[j].2.2.length ci := by rw [List.getD_eq_getElem?_getD, h2]; rfl
  simp only [elAt, e0, e1, e2, intOf]
  exact ⟨h0, h1, h2, d, i, cd, ci, rfl, h3, h4⟩

theorem back_yields (m : Nat) (hm : 1 ≤ m) (box : Nat) (a : Option Addr) (n c : Nat) (xs : List Value) (es : List EditP) (hn : n = es.length) (hs : n ≤ 100000) :
    Yields Try.prog m 89 #[.pointer (some ⟨box, 0, none⟩)] n (bargs xs n) (fun W => W.cell? ⟨box, 0, none⟩ = some (.slice a n c) ∧ Sl W 3 a n c xs ∧ edCells W xs es) := by
  intro l J W hK hY h0
  obtain ⟨g, off, ha⟩ : ∃ g off, 0 < n → a = some ⟨g, off, none⟩ := by
    rcases (hK 0 W h0).2.1.rd with h | ⟨g, off, e, _⟩
    · refine ⟨0, 0, fun hp => ?_⟩
      have h1 := (hK 0 W h0).2.1.len
      rw [h] at h1
      simp at h1
      omega
    · exact ⟨g, off, fun _ => e⟩
  refine back1_edits m l box g off n c a ha (elAt xs) hm (by omega) J (fun k W hJ => ⟨(hK k W hJ).1, fun j hj => ?_⟩) (fun k i W hJ hi => ?_) W h0
  · obtain ⟨_, hsl, he⟩ := hK k W hJ
    obtain ⟨h1, h2, h3, _⟩ := elAt_edit he j (by omega)
    rcases hsl.rd with h | ⟨g', off', e, hc⟩
    · rw [h] at h1
      simp at h1
    · rw [ha (by omega)] at e
      injection e with e
      injection e with e1 e2
      subst e1 e2
      exact ⟨hc _ _ h1, hc _ _ h2, hc _ _ h3⟩
  · have h := hY k W hJ (by omega)
    have e : n - 1 - k = i := by omega
    simp only [bargs, e] at h
    exact h

/-- An edit taken back. -/
def inv (e : EditP) : EditP := (e.1, e.2.2, e.2.1)

/-- After k rounds. -/
structure InvSt (w : World) (a : Option Addr) (n c : Nat) (rs : List EditP) (k : Nat) (W : World) : Prop where
  fr : Fr nob w W
  box : W.heap[w.heap.size + 1]? = some (.cells #[.slice a n c] 67 (0, 0))
  ex : ∃ a' c', W.heap[w.heap.size]? = some (.cells #[.slice a' k c'] 67 (0, 0)) ∧ EdS W (.slice a' k c') (rs.take k) ∧ ∀ b, rowOf (.slice a' k c') b → w.heap.size ≤ b

theorem InvSt.keep {w : World} {a : Option Addr} {n c k : Nat} {rs : List EditP} {W W' : World} {M : Nat → Prop} (h : InvSt w a n c rs k W) (hf : Fr M W W') (hM : ∀ b, M b → w.heap.size ≤ b)
    (hc : ∀ b, M b → ∀ c T fr, W.heap[b]? ≠ some (.cells c T fr)) : InvSt w a n c rs k W' := by
  obtain ⟨a', c', h1, h2, h3⟩ := h.ex
  have hn : ∀ b c T fr, W.heap[b]? = some (.cells c T fr) → ¬ M b := fun b c T fr e hb => hc b hb c T fr e
  refine ⟨h.fr.trans hf (fun b hb hm => absurd (hM b hm) (by omega)), hf.keep h.box (hn _ _ _ _ h.box), a', c', hf.keep h1 (hn _ _ _ _ h1), h2.stay hf (fun b c fr e => hn b c _ fr e) (fun b hb => ?_), h3⟩
  obtain ⟨xs, ho⟩ := h2.own
  obtain ⟨c, fr, hb⟩ := ho.rowTy hb
  exact hn _ _ _ _ hb

theorem InvSt.n {w : World} {a : Option Addr} {n c k : Nat} {rs : List EditP} {W W' : World} (h : InvSt w a n c rs k W) (hf : Fr nob W W') : InvSt w a n c rs k W' := h.keep hf (fun _ h => h.elim) (fun _ h => h.elim)

set_option maxRecDepth 10000 in
set_option maxHeartbeats 1000000 in
theorem undo_inverses (w : World) (a : Option Addr) (n c : Nat) (es : List EditP) (h : EdS w (.slice a n c) es) (hs : Small es) :
    Calls Try.prog 67 #[.slice a n c] w (EdMade w (es.reverse.map inv)) := by
  obtain ⟨hn, xs, h1, h2⟩ := h.sl
  clear h
  have HL := Lib.hid hn
  have H1 := Lib.hid h1
  have H2 := Lib.hid h2
  have HS := Lib.hid hs
  have hn1 : n ≤ 100000 := by rw [hn]; exact hs.1
  have HN1 := Lib.hid hn1
  have hnI : (n : Int) ≤ 100000 := by omega
  clear h1 h2 hs hn hn1
  obtain ⟨rs, hrs⟩ : ∃ rs, es.reverse.map inv = rs := ⟨_, rfl⟩
  have HRS := Lib.hid hrs
  rw [hrs]
  have hrn : rs.length = n := by rw [← hrs, List.length_map, List.length_reverse, HL.out]
  have HRN := Lib.hid hrn
  clear hrs hrn
  refine callsIn_wide.1 (callsIn_of_wp_marks (F := Fence.wide) (n := 10) Try.func67 rfl trivial (wpIn_wide.2 ?_) rfl)
  simp only [Try.ntmps67, List.size_toArray, List.length_cons, List.length_nil, Nat.reduceAdd, Nat.reduceSub, Array.replicate_succ, Array.replicate_zero, List.push_toArray, List.append_toArray, List.nil_append, List.cons_append]
  go_wp2_with (go_at_call 82; refine (callsIn_wide.1 (back_edits 10 a n c _)).mono ?_; rintro e w' ⟨rfl, rfl⟩)
  have HSrc := Lib.hid (fun (V : World) (f : Int) (da2 ia2 : Option Addr) (dc2 ic2 x y : Nat) => (Sl.ofRow V #[.int .i64 f, .slice da2 x dc2, .slice ia2 y ic2] 82 (by simp [Value.oneCell'])).src (P := Try.prog) (tx := 67) (by simp) Try.underlying67)
  obtain ⟨i0, hi0, hz0, hz1, hz2⟩ := info_parts Try.info_edits
  refine (wpIn_wide (n := 10)).1 ?_
  refine range_all 89 #[.pointer (some ⟨w.heap.size + 1, 0, none⟩)] rfl ?hinv n (bargs xs n) (fun _ => rfl)
    (fun k => #[.slice a n c, undef, .slice none 0 0, .pointer (some ⟨w.heap.size, 0, none⟩), undef, undef, .slice a n c, .func (.func 89) #[] #[.pointer (some ⟨w.heap.size + 1, 0, none⟩)],
      .int .i64 (n - 1 - k : Nat), .agg #[.int .i64 (elAt xs (n - 1 - k)).1, (elAt xs (n - 1 - k)).2.1, (elAt xs (n - 1 - k)).2.2], undef, undef, undef, undef, undef, undef]) (fun _ => (zip2 _ _ _ _ _).trans rfl) _
    (back_yields 9 (by omega) (w.heap.size + 1) a n c xs es HL.out HN1.out)
    (InvSt w a n c rs) ?h0 ?hK ?hU ?hround ?hdone
  case hinv => intro l W; rfl
  case h0 =>
    refine ⟨((Fr.refl _ _).alloc _).alloc _, ?_, none, 0, (heap_alloc_lt _ (by simp)).trans (heap_alloc_new w _), EdS.none _, fun b ⟨_, _, _, h, _⟩ => by cases h⟩
    have h := heap_alloc_new (w.alloc (.cells #[.slice none 0 0] 67)) (.cells #[.slice a n c] 67)
    rw [show (w.alloc (.cells #[.slice none 0 0] 67)).heap.size = w.heap.size + 1 by simp] at h
    exact h
  case hK => exact fun k W h => ⟨by rw [blk_cells h.box]; rfl, H1.out.oldN h.fr, H2.out.stay h.fr (NR.nob _)⟩
  case hU => exact fun k W W' h hf hc => h.keep hf (fun b hb => by simp at hb; omega) hc
  case hdone =>
    rintro W hst hD hlt
    have HST := Lib.hid hst
    rw [show ((w.alloc (.cells #[.slice none 0 0] 67)).alloc (.cells #[.slice a n c] 67)).heap.size = w.heap.size + 1 + 1 by simp] at hD
    have HD := Lib.hid hD
    obtain ⟨a', c', h1, h2, h3⟩ := hst.ex
    have hc := blk_cells h1
    clear h2 hD hst
    go_wp2
    refine ⟨by simp, .inl ⟨_, _, rfl, run_takeDeferred HD.out, ?_⟩⟩
    have hW : InvSt w a n c rs n (World.putObj W (w.heap.size + 1 + 1) (.deferred none)) := HST.out.keep (M := one (w.heap.size + 1 + 1)) ((Fr.refl _ _).putObj _ _ (fun _ => rfl)) (fun b hb => by cases hb; omega) (fun b hb c T fr e => by
      cases hb
      rw [HD.out] at e
      cases e)
    obtain ⟨a2, c2, g1, g2, g3⟩ := hW.ex
    have e1 : (World.putObj W (w.heap.size + 1 + 1) (.deferred none)).heap[w.heap.size]? = W.heap[w.heap.size]? := putObj_ne (by omega)
    rw [e1, h1] at g1
    injection g1 with g1
    injection g1 with g1 _ _
    injection g1 with g1
    injection g1 with g1 _
    injection g1 with g4 _ g5
    subst g4 g5
    rw [List.take_of_length_le (by rw [HRN.out]; omega)] at g2
    refine ⟨_, results_tmp rfl _ _ _, a', c', ?_, ?_, hW.fr, ?_⟩
    · rw [HRN.out]
      rfl
    · rw [HRN.out]
      exact g2
    · rw [HRN.out]
      exact g3
  case hround =>
    rintro k W hk hU hlt
    have hs2 : ((w.alloc (.cells #[.slice none 0 0] 67)).alloc (.cells #[.slice a n c] 67)).heap.size = w.heap.size + 2 := by simp
    rw [hs2] at hlt ⊢
    clear hs2
    obtain ⟨j, hj⟩ : ∃ j, n - 1 - k = j := ⟨_, rfl⟩
    have hje : j < es.length := by have := HL.out; omega
    obtain ⟨_, _, _, hE⟩ := elAt_edit H2.out j hje
    simp only [hj]
    have HU := Lib.hid hU
    have HLT := Lib.hid hlt
    have htk : rs.take (k + 1) = rs.take k ++ [inv es[j]] := by
      rw [List.take_succ_eq_append_getElem (by have := HRN.out; omega)]
      have e := HRS.out
      subst e
      rw [List.getElem_map, List.getElem_reverse]
      congr 4
      have := HL.out
      omega
    have HT := Lib.hid htk
    have hsm := HS.out.2 _ (List.getElem_mem hje)
    generalize es[j] = p at *
    obtain ⟨f, ds, is⟩ := p
    simp only at hE hsm
    generalize (elAt xs j).1 = x0 at *
    generalize (elAt xs j).2.1 = x1 at *
    generalize (elAt xs j).2.2 = x2 at *
    obtain ⟨d, i, cd, ci, hv, ho1, ho2⟩ := hE
    injection hv with hv
    simp only [Array.mk.injEq, List.cons.injEq, Value.int.injEq, true_and, and_true] at hv
    obtain ⟨rfl, rfl, rfl⟩ := hv
    have HE := Lib.hid (show EditV w (.agg #[.int .i64 x0, .slice d ds.length cd, .slice i is.length ci]) x0 ds is from ⟨d, i, cd, ci, rfl, ho1, ho2⟩)
    have HSM := Lib.hid hsm
    generalize hx : ds.length = nd at *
    generalize hy : is.length = ni at *
    have HX := Lib.hid hx
    have HY := Lib.hid hy
    clear hj hU ho1 ho2 hsm hx hy htk hlt
    gi_wp2
    refine ⟨HU.out.n ((Fr.refl _ _).alloc _), heap_alloc_lt _ (by have := HLT.out; omega), heap_alloc_lt _ (by have := HLT.out; omega), ?_⟩
    intro W2 hU2 hlt2 hf2 hncD hncL
    have hnc2 : ∀ b, b = w.heap.size + 2 ∨ b = w.heap.size + 2 + 1 → ∀ c T fr, W2.heap[b]? ≠ some (.cells c T fr) := fun b hb c T fr => by
      rcases hb with rfl | rfl
      · exact hncD c T fr.1 fr.2
      · exact hncL c T fr.1 fr.2
    have HNC := Lib.hid hnc2
    clear hnc2 hncD hncL
    have hx5 : W2.heap[W.heap.size]? = some (.cells #[.int .i64 x0, .slice d nd cd, .slice i ni ci] 82 (0, 0)) := hf2.keep (heap_alloc_new W _) (fun e => by have := HLT.out; have : W.heap.size = w.heap.size + 2 + 1 := e; omega)
    have HX5 := Lib.hid hx5
    have HU2 := Lib.hid hU2
    have HLT2 := Lib.hid hlt2
    obtain ⟨a', c', h1, h2, h3⟩ := hU2.ex
    have HX1 := Lib.hid h1
    have HX2 := Lib.hid h2
    have HX3 := Lib.hid h3
    have HEV := Lib.hid (HE.out.stay hU2.fr (NR.nob _))
    clear hx5 hU2 hlt2 h1 h2 h3 hf2
    refine wpIn_block ?_
    refine region6 (by kernel_rfl) rfl (by kernel_rfl) (by kernel_rfl) (by kernel_rfl) (by kernel_rfl) (by kernel_rfl) (by kernel_rfl) (by kernel_rfl) (by kernel_rfl) (by kernel_rfl) (by kernel_rfl)
      (fun ld a1 V => ∃ v10, (ld = true → v10 = .slice a' k c') ∧ a1 = ⟨#[.slice a n c, undef, .slice none 0 0, .pointer (some ⟨w.heap.size, 0, none⟩), undef, .pointer (some ⟨W.heap.size, 0, none⟩), .slice a n c, .func (.func 89) #[] #[.pointer (some ⟨w.heap.size + 1, 0, none⟩)], .int .i64 j, .agg #[.int .i64 x0, .slice d nd cd, .slice i ni ci], v10, undef, undef, undef, undef, undef], []⟩ ∧ Fr nob W2 V)
      (fun ld a1 V => ∃ v10, (ld = true → v10 = .slice a' k c') ∧ a1 = ⟨#[.slice a n c, undef, .slice none 0 0, .pointer (some ⟨w.heap.size, 0, none⟩), undef, .pointer (some ⟨W.heap.size, 0, none⟩), .slice a n c, .func (.func 89) #[] #[.pointer (some ⟨w.heap.size + 1, 0, none⟩)], .int .i64 j, .agg #[.int .i64 x0, .slice d nd cd, .slice i ni ci], v10, .agg #[.int .i64 x0, .slice d nd cd, .slice i ni ci], undef, undef, undef, undef], []⟩ ∧ Fr nob W2 V)
      (fun ld a1 V => ∃ v10 v12, (ld = true → v10 = .slice a' k c') ∧ a1 = ⟨#[.slice a n c, undef, .slice none 0 0, .pointer (some ⟨w.heap.size, 0, none⟩), undef, .pointer (some ⟨W.heap.size, 0, none⟩), .slice a n c, .func (.func 89) #[] #[.pointer (some ⟨w.heap.size + 1, 0, none⟩)], .int .i64 j, .agg #[.int .i64 x0, .slice d nd cd, .slice i ni ci], v10, .agg #[.int .i64 x0, .slice d nd cd, .slice i ni ci], v12, undef, undef, undef], []⟩ ∧ Fr nob W2 V ∧ EditV V v12 x0 is ds)
      (fun ld a1 V => ∃ v10 v12 g cs, (ld = true → v10 = .slice a' k c') ∧ a1 = ⟨#[.slice a n c, undef, .slice none 0 0, .pointer (some ⟨w.heap.size, 0, none⟩), undef, .pointer (some ⟨W.heap.size, 0, none⟩), .slice a n c, .func (.func 89) #[] #[.pointer (some ⟨w.heap.size + 1, 0, none⟩)], .int .i64 j, .agg #[.int .i64 x0, .slice d nd cd, .slice i ni ci], v10, .agg #[.int .i64 x0, .slice d nd cd, .slice i ni ci], v12, .slice (some ⟨g, 0, none⟩) 1 1, undef, undef], []⟩ ∧ Fr nob W2 V ∧ edCells V cs [(x0, is, ds)] ∧ Src Try.prog 3 67 (.slice (some ⟨g, 0, none⟩) 1 1) 1 cs V)
      (fun a1 V => ∃ v12 v13 av c2, a1 = ⟨#[.slice a n c, undef, .slice none 0 0, .pointer (some ⟨w.heap.size, 0, none⟩), undef, .pointer (some ⟨W.heap.size, 0, none⟩), .slice a n c, .func (.func 89) #[] #[.pointer (some ⟨w.heap.size + 1, 0, none⟩)], .int .i64 j, .agg #[.int .i64 x0, .slice d nd cd, .slice i ni ci], .slice a' k c', .agg #[.int .i64 x0, .slice d nd cd, .slice i ni ci], v12, v13, .slice av (k + 1) c2, undef], []⟩ ∧ Fr (rowOf (.slice a' k c')) W2 V ∧ EdS V (.slice av (k + 1) c2) (rs.take (k + 1)) ∧ ∀ b, rowOf (.slice av (k + 1) c2) b → w.heap.size ≤ b)
      (fun _ V => InvSt w a n c rs (k + 1) V ∧ V.heap[w.heap.size + 2]? = W2.heap[w.heap.size + 2]? ∧ V.heap[w.heap.size + 2 + 1]? = W2.heap[w.heap.size + 2 + 1]?)
      ?h0 ?l1 ?l2 ?l3 ?l4 ?m1 ?m2 ?m3 ?m4 ?m5 ?hC
    case h0 => exact ⟨_, fun h => absurd h (by decide), rfl, (Fr.refl _ _).drew⟩
    case l1 =>
      rintro a1 V K ⟨v10, _, rfl, hf⟩ hK
      have hc := blk_cells (hf.keep HX1.out (fun h => h))
      exact opIn_run rfl rfl (by simp [Oper.semAt_some, go_sem, hc]) (hK _ _ ⟨_, fun _ => rfl, rfl, hf⟩)
    case l2 =>
      rintro a1 V K ⟨v10, _, rfl, hf⟩ hK
      have hc := blk_cells (hf.keep HX1.out (fun h => h))
      exact opIn_run rfl rfl (by simp [Oper.semAt_some, go_sem, hc]) (hK _ _ ⟨_, fun _ => rfl, rfl, hf⟩)
    case l3 =>
      rintro a1 V K ⟨v10, v12, _, rfl, hf, hv⟩ hK
      have hc := blk_cells (hf.keep HX1.out (fun h => h))
      exact opIn_run rfl rfl (by simp [Oper.semAt_some, go_sem, hc]) (hK _ _ ⟨_, _, fun _ => rfl, rfl, hf, hv⟩)
    case l4 =>
      rintro a1 V K ⟨v10, v12, g, cs, _, rfl, hf, hv⟩ hK
      have hc := blk_cells (hf.keep HX1.out (fun h => h))
      exact opIn_run rfl rfl (by simp [Oper.semAt_some, go_sem, hc]) (hK _ _ ⟨_, _, _, _, fun _ => rfl, rfl, hf, hv⟩)
    case m1 =>
      rintro ld a1 V K ⟨v10, h10, rfl, hf⟩ hK
      have hc := blk_cells (hf.keep HX5.out (fun h => h))
      exact opIn_run rfl rfl (by simp [Oper.semAt_some, go_sem, hc]) (hK _ _ ⟨_, h10, rfl, hf⟩)
    case m2 =>
      rintro ld a1 V K ⟨v10, h10, rfl, hf⟩ hK
      exact opIn_call rfl rfl (by simp [Oper.semAt_some, go_sem]) (undo_inverse V _ x0 ds is (HEV.out.stay hf (NR.nob _)) (by rw [HX.out]; exact HSM.out.1) (by rw [HY.out]; exact HSM.out.2)) (fun e V2 ⟨v, he, hv, hfr⟩ => ⟨v, he, hK _ _ ⟨v10, v, h10, rfl, hf.then hfr, hv⟩⟩)
    case m3 =>
      rintro ld a1 V K ⟨v10, v12, h10, rfl, hf, hv⟩ hK
      have hcs := (hv.stay (Fr.alloc (Fr.refl nob V) (.cells v12.cells 82)) (NR.nob _)).cells
      obtain ⟨da2, ia2, dc2, ic2, rfl, _⟩ := hv
      exact opIn_run rfl rfl (by simp [Oper.semAt_some, go_sem]) (hK _ _ ⟨v10, _, _, _, h10, rfl, hf.alloc _, hcs, HSrc.out V _ _ _ _ _ _ _⟩)
    case m4 =>
      rintro a1 V K ⟨v10, v12, g, cs, h10, rfl, hf, hcs, hsrc⟩ hK
      obtain rfl := h10 rfl
      obtain ⟨⟨ys, hy1, hy2⟩, _⟩ := HX2.out
      have hlen : (rs.take k).length = k := by rw [List.length_take]; have := HRN.out; omega
      rw [hlen] at hy1
      have hyV := hy1.stay hf (fun _ _ _ _ h => h)
      refine opIn_app rfl rfl (.tmp 10) (.tmp 13) 67 67 rfl 82 i0 _ 3 56 Try.underlying67 hi0 hz0 hz1 hz2 rfl (by decide) _ k ys rfl hyV _ 1 cs rfl hsrc (by have := HN1.out; unfold maxLen; omega) (by have := HN1.out; omega) ?_
      intro av c2 V2 hO hF hR
      refine hK _ _ ⟨_, _, av, c2, rfl, hf.after hF, ?_, ?_⟩
      · rw [HT.out]
        exact EdS.snoc (e := (x0, is, ds)) hlen.symm hyV (hy2.stay hf (NR.nob _)) hcs hO hF
      · exact fresh_of (w2 := w) (HU2.out.fr.then hf).size hR HX3.out
    case m5 =>
      rintro a1 V K ⟨v12, v13, av, c2, rfl, hf, hed, hfresh⟩ hK
      have hrow : ∀ b, rowOf (.slice a' k c') b → ∃ c fr, W2.heap[b]? = some (.cells c 82 fr) := fun b hb => by
        obtain ⟨ys, hy⟩ := HX2.out.own
        exact hy.rowTy hb
      have hn : ¬ rowOf (.slice a' k c') w.heap.size := fun hr => HX2.out.rowNe hr HX1.out (by decide) rfl
      have hn1 : ¬ rowOf (.slice a' k c') (w.heap.size + 1) := fun hr => HX2.out.rowNe hr HU2.out.box (by decide) rfl
      have hn2 : ∀ b, b = w.heap.size + 2 ∨ b = w.heap.size + 2 + 1 → ¬ rowOf (.slice a' k c') b := fun b hb hr => by
        obtain ⟨c, fr, h⟩ := hrow b hr
        exact HNC.out b hb c _ fr h
      have hb := hf.keep HX1.out hn
      have hc := blk_cells hb
      have hz := blk_free hb
      have hlt := blk_lt hb
      have hN : NR V (one w.heap.size) := NR.one hb (by decide)
      have hfs : Fr (one w.heap.size) V (V.setCell ⟨w.heap.size, 0, none⟩ (.slice av (k + 1) c2)) := (Fr.refl _ _).setOne _ _
      have hb2 := heap_setCell_same (o := 0) hb (.slice av (k + 1) c2)
      refine opIn_skip rfl rfl (by simp [Oper.semAt_some, go_sem, hc, hz]) (hK _ _ ⟨⟨?_, ?_, av, c2, hb2, ?_, hfresh⟩, ?_, ?_⟩)
      · exact (HU2.out.fr.trans hf (fun b hb hr => absurd (HX3.out b hr) (by omega))).setNew _ _ _ (Nat.le_refl _)
      · exact hfs.keep (hf.keep HU2.out.box hn1) (fun e => absurd (show w.heap.size + 1 = w.heap.size from e) (by omega))
      · exact hed.stay hfs hN (fun b hr => hed.rowNe hr hb (by decide))
      · exact (heap_setCell_ne (by show _ ≠ w.heap.size; omega) _).trans (hf.blk _ (by have := HLT2.out; omega) (hn2 _ (.inl rfl)))
      · exact (heap_setCell_ne (by show _ ≠ w.heap.size; omega) _).trans (hf.blk _ (by have := HLT2.out; omega) (hn2 _ (.inr rfl)))
    case hC => exact fun a1 V h => ⟨rfl, h⟩
end Go.Proofs.Ytbhklkolkclflaa
