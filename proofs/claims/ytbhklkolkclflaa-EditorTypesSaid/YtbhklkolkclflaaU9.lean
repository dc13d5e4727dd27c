/- Package undo, ninth part: Groups. -/
import Derived.Test.YtbhklkolkclflaaU8
import Derived.Test.YtbhklkolkclflaaR4
namespace Go.Proofs.Ytbhklkolkclflaa
open Go.RowKit
attribute [local go_sem] Oper.semAt_some

def gargs (vs : List Value) (n k : Nat) : Array Value := #[.int .i64 (n - 1 - k : Nat), vs.getD (n - 1 - k) undef]

theorem backG_yields (m : Nat) (hm : 1 ≤ m) (box g : Nat) (a : Option Addr) (n c : Nat) (vs : List Value) (ha : 0 < n → a = some ⟨g, 0, none⟩) (hs : n ≤ 100000) :
    Yields Try.prog m 87 #[.pointer (some ⟨box, 0, none⟩)] n (gargs vs n) (fun W => W.cell? ⟨box, 0, none⟩ = some (.slice a n c) ∧ ∀ j, j < n → W.cell? ⟨g, j, none⟩ = some (vs.getD j undef)) := by
  intro l J W hK hY h0
  refine back1_groups m l box g 0 n c a ha (fun j => vs.getD j undef) hm (by omega) J (fun k W hJ => ⟨(hK k W hJ).1, fun j hj => ?_⟩) (fun k i W hJ hi => ?_) W h0
  · rw [Nat.zero_add]
    exact (hK k W hJ).2 j hj
  · have h := hY k W hJ (by omega)
    have e : n - 1 - k = i := by omega
    simp only [gargs, e] at h
    exact h

/-- After k rounds. -/
structure GrpSt (w : World) (a : Option Addr) (n c : Nat) (rs : List (List EditP)) (k : Nat) (W : World) : Prop where
  fr : Fr nob w W
  box : W.heap[w.heap.size + 1]? = some (.cells #[.slice a n c] 113 (0, 0))
  ex : ∃ a' c' vs', W.heap[w.heap.size]? = some (.cells #[.slice a' k c'] 113 (0, 0)) ∧ ListBody W (newIn w) (.slice a' k c') (.slice none 0 0) vs' (rs.take k) []

theorem GrpSt.keep {w : World} {a : Option Addr} {n c k : Nat} {rs : List (List EditP)} {W W' : World} {M : Nat → Prop} (h : GrpSt w a n c rs k W) (hf : Fr M W W') (hM : ∀ b, M b → w.heap.size ≤ b)
    (hc : ∀ b, M b → ∀ c T fr, W.heap[b]? ≠ some (.cells c T fr)) : GrpSt w a n c rs k W' := by
  obtain ⟨a', c', vs', h1, h2⟩ := h.ex
  have hn : ∀ b c T fr, W.heap[b]? = some (.cells c T fr) → ¬ M b := fun b c T fr e hb => hc b hb c T fr e
  refine ⟨h.fr.trans hf (fun b hb hm => absurd (hM b hm) (by omega)), hf.keep h.box (hn _ _ _ _ h.box), a', c', vs', hf.keep h1 (hn _ _ _ _ h1), h2.stay hf (fun b c fr e => hn b c _ fr e) ?_⟩
  rintro b _ ⟨c, fr, e | e⟩
  · exact hn _ _ _ _ e
  · exact hn _ _ _ _ e
theorem GrpSt.n {w : World} {a : Option Addr} {n c k : Nat} {rs : List (List EditP)} {W W' : World} (h : GrpSt w a n c rs k W) (hf : Fr nob W W') : GrpSt w a n c rs k W' := h.keep hf (fun _ h => h.elim) (fun _ h => h.elim)

/-- The function that Groups answers: its box, what the box holds. -/
def GroupsAre (w : World) (rs : List (List EditP)) (e : Ending) (w' : World) : Prop :=
  ∃ x a c vs, e = .returned (.func (.func 78) #[] #[.pointer (some ⟨x, 0, none⟩)]) ∧ w.heap.size ≤ x ∧ w'.heap[x]? = some (.cells #[.slice a rs.length c] 113 (0, 0)) ∧
    ListBody w' (newIn w) (.slice a rs.length c) (.slice none 0 0) vs rs [] ∧ Fr nob w w'

set_option maxRecDepth 10000 in
set_option maxHeartbeats 1000000 in
theorem undo_groups (w : World) (F : Nat → Prop) (l : Nat) (gs : List (List EditP)) (opn edits : Int) (h : ListRep w F l gs [] opn edits) (hs : Smalls gs) :
    Calls Try.prog 53 #[.pointer (some ⟨l, 0, none⟩)] w (GroupsAre w gs.reverse) := by
  obtain ⟨gv, nv, vs, hb, hbody⟩ := h.ex
  obtain ⟨ga, gc, rfl, _⟩ := hbody.grp.own.val
  obtain ⟨na, nc, rfl, _⟩ := hbody.now.val
  clear h
  have HB := Lib.hid hbody
  have HBlk := Lib.hid hb
  have HS := Lib.hid hs
  have hgn := hs.1
  have hvl : vs.length = gs.length := by simpa using hbody.grp.own.1
  have hrd : ∃ gg, (0 < gs.length → ga = some ⟨gg, 0, none⟩) ∧ ∀ j, j < gs.length → w.cell? ⟨gg, j, none⟩ = some (vs.getD j undef) := by
    rcases hbody.grp.own.2.2 with ⟨a', e1, e2, _⟩ | ⟨gg, cap, cur, e1, e2, e3, e4, e5, e6⟩
    · exact ⟨0, fun h => by omega, fun j h => by omega⟩
    · injection e1 with e1 _ e7
      subst e1 e7
      refine ⟨gg, fun _ => rfl, fun j hj => ?_⟩
      have h0 := hbody.grp.own.cells (by omega) j _ (List.getElem?_eq_getElem (show j < vs.length by omega))
      rw [h0, List.getD_eq_getElem?_getD, List.getElem?_eq_getElem (show j < vs.length by omega)]
      rfl
  obtain ⟨gg, hga, hgc⟩ := hrd
  generalize hn1 : gs.length = n at *
  have HN1 := Lib.hid hn1
  have HGA := Lib.hid hga
  have HGC := Lib.hid hgc
  have HVL := Lib.hid hvl
  have hnI : (n : Int) ≤ 100000 := by omega
  obtain ⟨rs, hrs⟩ : ∃ rs, gs.reverse = rs := ⟨_, rfl⟩
  have HRS := Lib.hid hrs
  rw [hrs]
  have hrn : rs.length = n := by rw [← hrs, List.length_reverse, hn1]
  have HRN := Lib.hid hrn
  clear hrs hrn hs hbody hgn hn1 hga hgc hvl
  obtain ⟨i0, hi0, hz0, hz1, hz2⟩ := info_parts Try.info_edit1
  have HSrc := Lib.hid (fun (V : World) (a' : Option Addr) (n' c' : Nat) => (Sl.ofNew V (.slice a' n' c') 67 rfl).src (P := Try.prog) (tx := 113) (by decide) Try.underlying113)
  have hb1 : ListBlk (w.alloc (.cells #[.slice none 0 0] 113)) l (.slice ga n gc) (.slice na 0 nc) opn edits := ((Fr.refl nob w).alloc _).keep HBlk.out (fun h => h)
  have hc := blk_cells hb1
  have hlt := blk_lt hb1
  refine callsIn_wide.1 (callsIn_of_wp_marks (F := Fence.wide) (n := 10) Try.func53 rfl trivial (wpIn_wide.2 ?_) rfl)
  simp only [Try.ntmps53, List.size_toArray, List.length_cons, List.length_nil, Nat.reduceAdd, Nat.reduceSub, Array.replicate_succ, Array.replicate_zero, List.push_toArray, List.append_toArray, List.nil_append, List.cons_append]
  go_wp2_with (first | (go_at_call 65; refine (undo_none _ _ _ _ _ _ hb1).mono ?_; rintro e w' ⟨rfl, rfl⟩) | (go_at_call 77; refine (callsIn_wide.1 (back_groups 10 ga n gc _)).mono ?_; rintro e w' ⟨rfl, rfl⟩))
  -- GENERATED FROM HERE by gen_u9.py
  refine (wpIn_wide (n := 10)).1 ?_
  refine range_all 87 #[.pointer (some ⟨w.heap.size + 1, 0, none⟩)] rfl ?hinv n (gargs vs n) (fun _ => rfl)
    (fun k => #[.pointer (some ⟨l, 0, none⟩), undef, .nilFunc, .pointer (some ⟨w.heap.size, 0, none⟩), undef, undef, .pointer (some ⟨l, 0, none⟩), .bool false, .bool true, .pointer (some ⟨l, 0, none⟩), .pointer (some ⟨l, 0, none⟩), .pointer (some ⟨l, 0, none⟩), .pointer (some ⟨l, 1, none⟩), .slice na 0 nc, .int .i64 0, .bool false, undef, undef, undef, undef, undef, undef, undef, undef, undef, .pointer (some ⟨l, 0, none⟩), .pointer (some ⟨l, 0, none⟩), .pointer (some ⟨l, 0, none⟩), .pointer (some ⟨l, 0, none⟩), .slice ga n gc, .func (.func 87) #[] #[.pointer (some ⟨w.heap.size + 1, 0, none⟩)], .int .i64 (n - 1 - k : Nat), vs.getD (n - 1 - k) undef, undef, undef, undef, undef, undef, undef]) (fun _ => (zip2 _ _ _ _ _).trans rfl) _
    (backG_yields 9 (by omega) (w.heap.size + 1) gg ga n gc vs HGA.out (by omega))
    (GrpSt w ga n gc rs) ?h0 ?hK ?hU ?hround ?hdone
  case hinv => intro l W; rfl
  case h0 =>
    refine ⟨((Fr.refl _ _).alloc _).alloc _, ?_, none, 0, [], (heap_alloc_lt _ (by simp)).trans (heap_alloc_new w _), OwnZ.none _ _ _, EdS.none _, fun k hk => absurd hk (by simp), (fun b ⟨_, _, _, h, _⟩ => by cases h), (fun b ⟨_, _, _, h, _⟩ => by cases h)⟩
    have h := heap_alloc_new (w.alloc (.cells #[.slice none 0 0] 113)) (.cells #[.slice ga n gc] 113)
    rw [show (w.alloc (.cells #[.slice none 0 0] 113)).heap.size = w.heap.size + 1 by simp] at h
    exact h
  case hK =>
    refine fun k W h => ⟨by rw [blk_cells h.box]; rfl, fun j hj => ?_⟩
    have h1 := (Rd.old (cs := [vs.getD j undef]) (a := some ⟨gg, j, none⟩) (.inr ⟨gg, j, rfl, fun i u hi => by cases i with | zero => (simp at hi; subst hi; exact HGC.out j hj) | succ i => simp at hi⟩) h.fr (fun _ _ h => h))
    rcases h1 with h1 | ⟨g', o', e, h1⟩
    · cases h1
    · injection e with e
      injection e with e1 e2
      subst e1 e2
      exact h1 0 _ rfl
  case hU => exact fun k W W' h hf hc => h.keep hf (fun b hb => by simp at hb; omega) hc
  case hdone =>
    rintro W hst hD hlt
    have HST := Lib.hid hst
    rw [show ((w.alloc (.cells #[.slice none 0 0] 113)).alloc (.cells #[.slice ga n gc] 113)).heap.size = w.heap.size + 1 + 1 by simp] at hD ⊢
    have HD := Lib.hid hD
    clear hD hst hc
    go_wp2
    refine ⟨by simp, .inl ⟨_, _, rfl, run_takeDeferred HD.out, ?_⟩⟩
    have hW : GrpSt w ga n gc rs n (World.putObj W (w.heap.size + 1 + 1) (.deferred none)) := HST.out.keep (M := one (w.heap.size + 1 + 1)) ((Fr.refl _ _).putObj _ _ (fun _ => rfl)) (fun b hb => by cases hb; omega) (fun b hb c T fr e => by
      cases hb
      rw [HD.out] at e
      cases e)
    obtain ⟨a2, c2, vs2, g1, g2⟩ := hW.ex
    rw [List.take_of_length_le (by rw [HRN.out]; omega)] at g2
    refine ⟨_, results_tmp rfl _ _ _, w.heap.size, a2, c2, vs2, rfl, Nat.le_refl _, ?_, ?_, hW.fr⟩
    · rw [HRN.out]
      exact g1
    · rw [HRN.out]
      exact g2
  case hround =>
    rintro k W hk hU hlt2
    have hs2 : ((w.alloc (.cells #[.slice none 0 0] 113)).alloc (.cells #[.slice ga n gc] 113)).heap.size = w.heap.size + 2 := by simp
    rw [hs2] at hlt2 ⊢
    clear hs2
    obtain ⟨j, hj⟩ : ∃ j, n - 1 - k = j := ⟨_, rfl⟩
    have hje : j < gs.length := by have := HN1.out; omega
    obtain ⟨v, hv1, hv2, _⟩ := HB.out.each j hje
    obtain ⟨va, vc, rfl, _, _⟩ := hv2.val
    have hvj : vs.getD j undef = .slice va gs[j].length vc := by rw [List.getD_eq_getElem?_getD, hv1]; rfl
    simp only [hj, hvj]
    have HU := Lib.hid hU
    have HLT := Lib.hid hlt2
    have htk : rs.take (k + 1) = rs.take k ++ [gs[j]] := by
      rw [List.take_succ_eq_append_getElem (by have := HRN.out; omega)]
      have e := HRS.out
      subst e
      rw [List.getElem_reverse]
      congr 3
      have := HN1.out
      omega
    have HT := Lib.hid htk
    have hsm := HS.out.2 _ (List.getElem_mem hje)
    generalize gs[j] = g at *
    generalize hgl : g.length = gl at *
    have HGL := Lib.hid hgl
    have HSM := Lib.hid hsm
    have HV2 := Lib.hid hv2
    clear hj hU hsm htk hlt2 hv1 hv2 hvj hgl
    gi_wp2
    refine ⟨HU.out, trivial, trivial, ?_⟩
    intro W2 hU2 hlt2 hf2 hnc2
    have HNC := Lib.hid hnc2
    clear hnc2
    have HU2 := Lib.hid hU2
    have HLT2 := Lib.hid hlt2
    obtain ⟨a', c', vs', h1, h2⟩ := hU2.ex
    have HX1 := Lib.hid h1
    have HX2 := Lib.hid h2
    have HEV := Lib.hid (HV2.out.stayN hU2.fr)
    clear hU2 hlt2 h1 h2 hf2
    refine wpIn_block ?_
    refine region6 (by kernel_rfl) rfl (by kernel_rfl) (by kernel_rfl) (by kernel_rfl) (by kernel_rfl) (by kernel_rfl) (by kernel_rfl) (by kernel_rfl) (by kernel_rfl) (by kernel_rfl) (by kernel_rfl)
      (fun ld a1 V => ∃ v33, (ld = true → v33 = .slice a' k c') ∧ a1 = ⟨#[.pointer (some ⟨l, 0, none⟩), undef, .nilFunc, .pointer (some ⟨w.heap.size, 0, none⟩), undef, .slice va gl vc, .pointer (some ⟨l, 0, none⟩), .bool false, .bool true, .pointer (some ⟨l, 0, none⟩), .pointer (some ⟨l, 0, none⟩), .pointer (some ⟨l, 0, none⟩), .pointer (some ⟨l, 1, none⟩), .slice na 0 nc, .int .i64 0, .bool false, undef, undef, undef, undef, undef, undef, undef, undef, undef, .pointer (some ⟨l, 0, none⟩), .pointer (some ⟨l, 0, none⟩), .pointer (some ⟨l, 0, none⟩), .pointer (some ⟨l, 0, none⟩), .slice ga n gc, .func (.func 87) #[] #[.pointer (some ⟨w.heap.size + 1, 0, none⟩)], .int .i64 j, .slice va gl vc, v33, undef, undef, undef, undef, undef], []⟩ ∧ Fr nob W2 V)
      (fun ld a1 V => ∃ v33, (ld = true → v33 = .slice a' k c') ∧ a1 = ⟨#[.pointer (some ⟨l, 0, none⟩), undef, .nilFunc, .pointer (some ⟨w.heap.size, 0, none⟩), undef, .slice va gl vc, .pointer (some ⟨l, 0, none⟩), .bool false, .bool true, .pointer (some ⟨l, 0, none⟩), .pointer (some ⟨l, 0, none⟩), .pointer (some ⟨l, 0, none⟩), .pointer (some ⟨l, 1, none⟩), .slice na 0 nc, .int .i64 0, .bool false, undef, undef, undef, undef, undef, undef, undef, undef, undef, .pointer (some ⟨l, 0, none⟩), .pointer (some ⟨l, 0, none⟩), .pointer (some ⟨l, 0, none⟩), .pointer (some ⟨l, 0, none⟩), .slice ga n gc, .func (.func 87) #[] #[.pointer (some ⟨w.heap.size + 1, 0, none⟩)], .int .i64 j, .slice va gl vc, v33, .slice va gl vc, undef, undef, undef, undef], []⟩ ∧ Fr nob W2 V)
      (fun ld a1 V => ∃ v33 a3 c3, (ld = true → v33 = .slice a' k c') ∧ a1 = ⟨#[.pointer (some ⟨l, 0, none⟩), undef, .nilFunc, .pointer (some ⟨w.heap.size, 0, none⟩), undef, .slice va gl vc, .pointer (some ⟨l, 0, none⟩), .bool false, .bool true, .pointer (some ⟨l, 0, none⟩), .pointer (some ⟨l, 0, none⟩), .pointer (some ⟨l, 0, none⟩), .pointer (some ⟨l, 1, none⟩), .slice na 0 nc, .int .i64 0, .bool false, undef, undef, undef, undef, undef, undef, undef, undef, undef, .pointer (some ⟨l, 0, none⟩), .pointer (some ⟨l, 0, none⟩), .pointer (some ⟨l, 0, none⟩), .pointer (some ⟨l, 0, none⟩), .slice ga n gc, .func (.func 87) #[] #[.pointer (some ⟨w.heap.size + 1, 0, none⟩)], .int .i64 j, .slice va gl vc, v33, .slice va gl vc, .slice a3 gl c3, undef, undef, undef], []⟩ ∧ Fr nob W2 V ∧ EdS V (.slice a3 gl c3) g ∧ ∀ b, rowOf (.slice a3 gl c3) b → w.heap.size ≤ b)
      (fun ld a1 V => ∃ v33 a3 c3 h3, (ld = true → v33 = .slice a' k c') ∧ a1 = ⟨#[.pointer (some ⟨l, 0, none⟩), undef, .nilFunc, .pointer (some ⟨w.heap.size, 0, none⟩), undef, .slice va gl vc, .pointer (some ⟨l, 0, none⟩), .bool false, .bool true, .pointer (some ⟨l, 0, none⟩), .pointer (some ⟨l, 0, none⟩), .pointer (some ⟨l, 0, none⟩), .pointer (some ⟨l, 1, none⟩), .slice na 0 nc, .int .i64 0, .bool false, undef, undef, undef, undef, undef, undef, undef, undef, undef, .pointer (some ⟨l, 0, none⟩), .pointer (some ⟨l, 0, none⟩), .pointer (some ⟨l, 0, none⟩), .pointer (some ⟨l, 0, none⟩), .slice ga n gc, .func (.func 87) #[] #[.pointer (some ⟨w.heap.size + 1, 0, none⟩)], .int .i64 j, .slice va gl vc, v33, .slice va gl vc, .slice a3 gl c3, .slice (some ⟨h3, 0, none⟩) 1 1, undef, undef], []⟩ ∧ Fr nob W2 V ∧ EdS V (.slice a3 gl c3) g ∧ (∀ b, rowOf (.slice a3 gl c3) b → w.heap.size ≤ b) ∧ Src Try.prog 1 113 (.slice (some ⟨h3, 0, none⟩) 1 1) 1 [.slice a3 gl c3] V)
      (fun a1 V => ∃ v35 v36 av c2 vs2, a1 = ⟨#[.pointer (some ⟨l, 0, none⟩), undef, .nilFunc, .pointer (some ⟨w.heap.size, 0, none⟩), undef, .slice va gl vc, .pointer (some ⟨l, 0, none⟩), .bool false, .bool true, .pointer (some ⟨l, 0, none⟩), .pointer (some ⟨l, 0, none⟩), .pointer (some ⟨l, 0, none⟩), .pointer (some ⟨l, 1, none⟩), .slice na 0 nc, .int .i64 0, .bool false, undef, undef, undef, undef, undef, undef, undef, undef, undef, .pointer (some ⟨l, 0, none⟩), .pointer (some ⟨l, 0, none⟩), .pointer (some ⟨l, 0, none⟩), .pointer (some ⟨l, 0, none⟩), .slice ga n gc, .func (.func 87) #[] #[.pointer (some ⟨w.heap.size + 1, 0, none⟩)], .int .i64 j, .slice va gl vc, .slice a' k c', .slice va gl vc, v35, v36, .slice av (k + 1) c2, undef], []⟩ ∧ Fr (rowOf (.slice a' k c')) W2 V ∧ ListBody V (newIn w) (.slice av (k + 1) c2) (.slice none 0 0) vs2 (rs.take (k + 1)) [])
      (fun _ V => GrpSt w ga n gc rs (k + 1) V ∧ V.heap[w.heap.size + 2]? = W2.heap[w.heap.size + 2]? ∧ V.heap[w.heap.size + 2 + 1]? = W2.heap[w.heap.size + 2 + 1]?)
      ?h0 ?l1 ?l2 ?l3 ?l4 ?m1 ?m2 ?m3 ?m4 ?m5 ?hC
    case h0 => exact ⟨_, fun h => absurd h (by decide), rfl, (Fr.refl _ _).drew⟩
    case l1 =>
      rintro a1 V K ⟨v10, _, rfl, hf⟩ hK
      have hc := blk_cells (hf.keep HX1.out (fun h => h))
      exact opIn_run rfl rfl (by simp [Oper.semAt_some, go_sem, hc]) (hK _ _ ⟨_, fun _ => rfl, rfl, hf⟩)
    case l2 =>
      rintro a1 V K ⟨v10, _, rfl, hf⟩ hK
      have hc := blk_cells (hf.keep HX1.out (fun h => h))
      exact opIn_run rfl rfl (by simp [Oper.semAt_some, go_sem, hc]) (hK _ _ ⟨_, fun _ => rfl, rfl, hf⟩)
    case l3 =>
      rintro a1 V K ⟨v10, a3, c3, _, rfl, hf, hv⟩ hK
      have hc := blk_cells (hf.keep HX1.out (fun h => h))
      exact opIn_run rfl rfl (by simp [Oper.semAt_some, go_sem, hc]) (hK _ _ ⟨_, _, _, fun _ => rfl, rfl, hf, hv⟩)
    case l4 =>
      rintro a1 V K ⟨v10, a3, c3, h3, _, rfl, hf, hv⟩ hK
      have hc := blk_cells (hf.keep HX1.out (fun h => h))
      exact opIn_run rfl rfl (by simp [Oper.semAt_some, go_sem, hc]) (hK _ _ ⟨_, _, _, _, fun _ => rfl, rfl, hf, hv⟩)
    case m1 =>
      rintro ld a1 V K ⟨v10, h10, rfl, hf⟩ hK
      exact opIn_run rfl rfl (by simp [Oper.semAt_some, go_sem]) (hK _ _ ⟨_, h10, rfl, hf⟩)
    case m2 =>
      rintro ld a1 V K ⟨v10, h10, rfl, hf⟩ hK
      refine opIn_call rfl rfl (by simp [Oper.semAt_some, go_sem]) (undo_copied V va gl vc g (HEV.out.stayN hf) HSM.out) ?_
      rintro e V2 ⟨a3, c3, rfl, hed, hfr, hfs⟩
      rw [HGL.out] at hed hfs ⊢
      exact ⟨_, rfl, hK _ _ ⟨v10, a3, c3, h10, rfl, hf.then hfr, hed, fun b hb => Nat.le_trans (Nat.le_trans HU2.out.fr.size hf.size) (hfs b hb)⟩⟩
    case m3 =>
      rintro ld a1 V K ⟨v10, a3, c3, h10, rfl, hf, hed, hfs⟩ hK
      exact opIn_run rfl rfl (by simp [Oper.semAt_some, go_sem]) (hK _ _ ⟨v10, a3, c3, _, h10, rfl, hf.alloc _, hed.stayN ((Fr.refl _ _).alloc _), hfs, HSrc.out V _ _ _⟩)
    case m4 =>
      rintro a1 V K ⟨v10, a3, c3, h3, h10, rfl, hf, hed, hfs, hsrc⟩ hK
      obtain rfl := h10 rfl
      have hlen : (rs.take k).length = k := by rw [List.length_take]; have := HRN.out; omega
      have hbV := HX2.out.stay hf (NR.nob _) (fun _ _ _ h => h)
      have hyV := hbV.grp.own
      rw [hlen] at hyV
      refine opIn_app rfl rfl (.tmp 33) (.tmp 36) 113 113 rfl 67 i0 _ 1 24 Try.underlying113 hi0 hz0 hz1 hz2 rfl (by decide) _ k vs' rfl hyV _ 1 _ rfl hsrc (by unfold maxLen; omega) (by omega) ?_
      intro av c2 V2 hO hF hR
      have hbd := ListBody.pushG hbV hed (fun b hb => ⟨.inr (hfs b hb), fun ⟨_, _, _, h, _⟩ => by cases h⟩) (by rw [hlen]; exact hO) hF hR
      refine hK _ _ ⟨_, _, av, c2, vs' ++ [.slice a3 gl c3], rfl, hf.after hF, ?_⟩
      rw [HT.out]
      exact hbd.mono (plus.idem (Nat.le_trans HU2.out.fr.size hf.size))
    case m5 =>
      rintro a1 V K ⟨v12, v13, av, c2, vs2, rfl, hf, hbd⟩ hK
      have hrow : ∀ b, rowOf (.slice a' k c') b → ∃ c fr, W2.heap[b]? = some (.cells c 67 fr) := fun b hb => HX2.out.grp.own.rowTy hb
      have hn : ¬ rowOf (.slice a' k c') w.heap.size := fun hr => HX2.out.grp.own.rowNe hr HX1.out (by decide) rfl
      have hn1 : ¬ rowOf (.slice a' k c') (w.heap.size + 1) := fun hr => HX2.out.grp.own.rowNe hr HU2.out.box (by decide) rfl
      have hn2 : ∀ b, b = w.heap.size + 2 ∨ b = w.heap.size + 2 + 1 → ¬ rowOf (.slice a' k c') b := fun b hb hr => by
        obtain ⟨c, fr, h⟩ := hrow b hr
        exact HNC.out b hb c _ fr h
      have hb := hf.keep HX1.out hn
      have hc := blk_cells hb
      have hz := blk_free hb
      have hlt := blk_lt hb
      have hN : NR V (one w.heap.size) := NR.one hb (by decide)
      have hfs : Fr (one w.heap.size) V (V.setCell ⟨w.heap.size, 0, none⟩ (.slice av (k + 1) c2)) := (Fr.refl _ _).setOne _ _
      have hb2 := heap_setCell_same (o := 0) hb (.slice av (k + 1) c2)
      refine opIn_skip rfl rfl (by simp [Oper.semAt_some, go_sem, hc, hz]) (hK _ _ ⟨⟨?_, ?_, av, c2, vs2, hb2, ?_⟩, ?_, ?_⟩)
      · exact (HU2.out.fr.trans hf (fun b hb hr => absurd (HX2.out.mg b hr) (by rintro (h | h); exact h; omega))).setNew _ _ _ (Nat.le_refl _)
      · exact hfs.keep (hf.keep HU2.out.box hn1) (fun e => absurd (show w.heap.size + 1 = w.heap.size from e) (by omega))
      · refine hbd.stay hfs hN ?_
        rintro b _ ⟨c, fr, e | e⟩ rfl
        · rw [hb] at e
          injection e with e
          injection e with _ e
          exact absurd e (by decide)
        · rw [hb] at e
          injection e with e
          injection e with _ e
          exact absurd e (by decide)
      · exact (heap_setCell_ne (by show _ ≠ w.heap.size; omega) _).trans (hf.blk _ (by have := HLT2.out; omega) (hn2 _ (.inl rfl)))
      · exact (heap_setCell_ne (by show _ ≠ w.heap.size; omega) _).trans (hf.blk _ (by have := HLT2.out; omega) (hn2 _ (.inr rfl)))
    case hC => exact fun a1 V h => ⟨rfl, h⟩
end Go.Proofs.Ytbhklkolkclflaa
