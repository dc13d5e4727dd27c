/- Package undo, fourth part: Add. -/
import Derived.Test.YtbhklkolkclflaaU3
namespace Go.Proofs.Ytbhklkolkclflaa
open Go.RowKit

/-- A row of one element that was made just now. -/
theorem Sl.ofRow (w : World) (cs : Array Value) (T : TypeId) (hu : ∀ u ∈ cs.toList, u.oneCell' = true) : Sl (w.alloc (.cells cs T)) cs.size (some ⟨w.heap.size, 0, none⟩) 1 1 cs.toList := by
  refine ⟨by simp, Nat.le_refl _, .inr ⟨_, 0, rfl, fun j v hj => ?_⟩, hu⟩
  have h := blk_cells (heap_alloc_new w (.cells cs T)) j
  rw [Nat.zero_add, h]
  simpa using hj

theorem Own.nrRow {w : World} {e size : Nat} {v : Value} {n : Nat} {xs : List Value} (h : Own w e size v n xs) (he : e ≠ 21) : NR w (rowOf v) := fun b c fr hb hg => by
  obtain ⟨c', fr', hc⟩ := h.rowTy hg
  rw [hb] at hc
  injection hc with hc
  injection hc with _ hc
  exact he hc.symm

theorem ListBody.add {w w' : World} {F : Nat → Prop} {gv nv nv' : Value} {vs xs news : List Value} {gs : List (List EditP)} {now : List EditP} {e : EditP} (h : ListBody w F gv nv vs gs now)
    (hx : Own w 82 3 nv now.length xs) (hxe : edCells w xs now) (hn : edCells w news [e])
    (ho : Own w' 82 3 nv' (now.length + 1) (xs ++ news)) (hf : Fr (rowOf nv) w w') (hr : rowOf nv = rowOf nv' ∨ ∀ b, rowOf nv' b → w.heap.size ≤ b) :
    ListBody w' (plus w F) gv nv' vs gs (now ++ [e]) := by
  have hN : NR w (rowOf nv) := hx.nrRow (by decide)
  have hg : ∀ b, rowOf gv b → ¬ rowOf nv b := fun b hb hn => by
    obtain ⟨c, fr, hc⟩ := h.grp.own.rowTy hb
    exact hx.rowNe hn hc (by decide) rfl
  refine ⟨h.grp.stay hf hg, EdS.ofMade (by simpa using ho) ((hxe.stay hf hN).append (hn.stay hf hN)) (by simp), fun k hk => ?_, fun b hb => .inl (h.mg b hb), fun b hb => ?_⟩
  · obtain ⟨v, g1, g2, g3⟩ := h.each k hk
    refine ⟨v, g1, g2.stay hf hN (fun b hb => (g3 b hb).2), fun b hb => ⟨.inl (g3 b hb).1, fun hb' => ?_⟩⟩
    rcases hr with hr | hr
    · rw [← hr] at hb'
      exact (g3 b hb).2 hb'
    · have h1 := hr b hb'
      have h2 := g2.lt b hb
      omega
  · rcases hr with hr | hr
    · rw [← hr] at hb
      exact .inl (h.mn b hb)
    · exact .inr (hr b hb)

set_option maxRecDepth 10000 in
set_option maxHeartbeats 1000000 in
theorem undo_add (w : World) (F : Nat → Prop) (l : Nat) (gs : List (List EditP)) (now : List EditP) (edits : Nat) (v : Value) (f : Int) (d i : List Int) (h : ListRep w F l gs now 1 edits)
    (hv : EditV w v f d i) (hf : 0 ≤ f) (hd : d.length ≤ 100000) (hi : i.length ≤ 100000) (hne : 0 < d.length + i.length) (hed : edits < 16384) (hnl : now.length ≤ 100000) :
    Calls Try.prog 56 #[.pointer (some ⟨l, 0, none⟩), v] w (ListDone w F l 0 gs (now ++ [(f, d, i)]) 1 (edits + 1)) := by
  have H := Lib.hid h
  obtain ⟨gv, nv, vs, hb0, hbody0⟩ := h.ex
  have HM := Lib.hid h.mem
  clear h
  obtain ⟨a, c, rfl, _⟩ := hbody0.grp.own.val
  obtain ⟨a', c', rfl, _⟩ := hbody0.now.val
  obtain ⟨da, ia, dc, ic, rfl, hv1, hv2⟩ := hv
  have hE : EditV w (.agg #[.int .i64 f, .slice da d.length dc, .slice ia i.length ic]) f d i := ⟨da, ia, dc, ic, rfl, hv1, hv2⟩
  have HE := Lib.hid hE
  have HB0 := Lib.hid hbody0
  have HBlk := Lib.hid hb0
  clear hv1 hv2 hE hbody0 hb0
  obtain ⟨i0, hi0, hz0, hz1, hz2⟩ := info_parts Try.info_edits
  have hb1 : ListBlk (w.alloc (.cells #[.int .i64 f, .slice da d.length dc, .slice ia i.length ic] 82)) l (.slice a gs.length c) (.slice a' now.length c') 1 edits := ((Fr.refl nob w).alloc _).keep HBlk.out (fun h => h)
  have hc := blk_cells hb1
  have hz := blk_free hb1
  have hlt := blk_lt hb1
  have HNL := Lib.hid hnl
  have HED := Lib.hid hed
  generalize hdl : d.length = nd at *
  generalize hil : i.length = ni at *
  generalize hnn : now.length = nn at *
  have HDL := Lib.hid hdl
  have HIL := Lib.hid hil
  have HNN := Lib.hid hnn
  have i1 : decide (f < 0) = false := decide_eq_false (by omega)
  have i2 : ((nd : Int) + ni == 0) = false := by rw [beq_eq_false_iff_ne]; omega
  generalize hEE : (edits : Int) = E at *
  have i4 : E < 16384 := by omega
  have i6 : IntKind.i64.wrap (E + 1) = E + 1 := IntWalk.i64_in _ (by omega)
  have HEE := Lib.hid hEE
  clear hEE
  have i5 : IntKind.i64.wrap ((nd : Int) + ni) = nd + ni := IntWalk.i64_in _ (by omega)
  have HD := Lib.hid hd
  have HI := Lib.hid hi
  clear hdl hil hnn hd hi hnl hed
  go_enter Try.func56, Try.ntmps56
  go_wp2_with (first | (go_at_call 65; refine (undo_none _ _ _ _ _ _ hb1).mono ?_; rintro e w' ⟨rfl, rfl⟩))
  have hA : Fr nob w (w.alloc (.cells #[.int .i64 f, .slice da nd dc, .slice ia ni ic] 82)) := (Fr.refl _ _).alloc _
  have hF0 : Fr (one l) w ((w.alloc (.cells #[.int .i64 f, .slice da nd dc, .slice ia ni ic] 82)).setCell ⟨l, 3, none⟩ (.int .i64 (E + 1))) := (hA.mono (fun _ _ h => h.elim)).setOne _ _
  refine forget (fun W => Hid (ListBlk W l (.slice a gs.length c) (.slice a' nn c') 1 (E + 1)) ∧ Hid (ListBody W F (.slice a gs.length c) (.slice a' nn c') vs gs now) ∧
      Hid (W.heap[w.heap.size]? = some (.cells #[.int .i64 f, .slice da nd dc, .slice ia ni ic] 82 (0, 0))) ∧ Hid (EditV W (.agg #[.int .i64 f, .slice da nd dc, .slice ia ni ic]) f d i) ∧ Fr (one l) w W) ?_ ?_
  · have hlw : l < w.heap.size := blk_lt HBlk.out
    refine ⟨hb1.set3 _, HBlk.out.body HB0.out hF0, ?_, HE.out.stay hF0 HBlk.out.nr, hF0⟩
    exact (heap_setCell_ne (by show w.heap.size ≠ l; omega) _).trans (heap_alloc_new w _)
  clear hA hF0 hc hz hlt hb1 HE
  rintro W ⟨HW, HWB, HWX, HWE, hfW⟩
  have hc := blk_cells HW.out
  have hz := blk_free HW.out
  have hlt := blk_lt HW.out
  have hcx := blk_cells HWX.out
  have hOwn : ∀ V, Fr nob W V → Calls Try.prog 79 #[.agg #[.int .i64 f, .slice da nd dc, .slice ia ni ic]] V (EditNew V f d i) := fun V hV => undo_own V _ f d i (HWE.out.stay hV (NR.nob _)) (by have := HDL.out; have := HD.out; omega) (by have := HIL.out; have := HI.out; omega)
  have HOwn := Lib.hid hOwn
  clear hOwn
  obtain ⟨⟨xs, hx1, hx2⟩, _⟩ := HWB.out.now
  have hx1' := hx1
  rw [HNN.out] at hx1'
  have HX1 := Lib.hid hx1
  have HX := Lib.hid hx1'
  have HXE := Lib.hid hx2
  clear hx1 hx1' hx2
  have hXo : ∀ V : World, Fr nob W V → Own V 82 3 (.slice a' nn c') nn xs := fun V hV => HX.out.stay hV (fun _ _ _ _ h => h)
  have HXo := Lib.hid hXo
  have hK : ∀ V V2 : World, Fr nob W V → Fr (rowOf (.slice a' nn c')) V V2 → ListBlk V2 l (.slice a gs.length c) (.slice a' nn c') 1 (E + 1) := fun V V2 hV hV2 => by
    have h1 := hV.keep HW.out (fun h => h)
    exact hV2.keep h1 (fun hr => (HXo.out V hV).rowNe hr h1 (by decide) rfl)
  have HK := Lib.hid hK
  have hS : ∀ (V : World) (da2 ia2 : Option Addr) (dc2 ic2 x y : Nat), Src Try.prog 3 67 (.slice (some ⟨V.heap.size, 0, none⟩) 1 1) 1 [.int .i64 f, .slice da2 x dc2, .slice ia2 y ic2] (V.alloc (.cells #[.int .i64 f, .slice da2 x dc2, .slice ia2 y ic2] 82)) := fun V da2 ia2 dc2 ic2 x y =>
    (Sl.ofRow V #[.int .i64 f, .slice da2 x dc2, .slice ia2 y ic2] 82 (by simp [Value.oneCell'])).src (P := Try.prog) (tx := 67) (by simp) Try.underlying67
  have HS := Lib.hid hS
  have b1 : nn + 1 ≤ maxLen := by have := HNL.out; unfold maxLen; omega
  have b2 : (nn + 1) * 56 ≤ 140737488355328 := by have := HNL.out; omega
  have HB1 := Lib.hid b1
  have HB2 := Lib.hid b2
  clear hXo hK hS b1 b2
  have hEnd : ∀ (V w2 : World) (da2 ia2 av : Option Addr) (dc2 ic2 c2 : Nat), Fr nob W V → EditV V (.agg #[.int .i64 f, .slice da2 d.length dc2, .slice ia2 i.length ic2]) f d i →
      Own w2 82 3 (.slice av (nn + 1) c2) (nn + 1) (xs ++ [.int .i64 f, .slice da2 d.length dc2, .slice ia2 i.length ic2]) →
      Fr (rowOf (.slice a' nn c')) (V.alloc (.cells #[.int .i64 f, .slice da2 d.length dc2, .slice ia2 i.length ic2] 82)) w2 →
      (rowOf (.slice a' nn c') = rowOf (.slice av (nn + 1) c2) ∨ ∀ b, rowOf (.slice av (nn + 1) c2) b → (V.alloc (.cells #[.int .i64 f, .slice da2 d.length dc2, .slice ia2 i.length ic2] 82)).heap.size ≤ b) →
      ListBlk w2 l (.slice a gs.length c) (.slice a' nn c') 1 (E + 1) → ListDone w F l 0 gs (now ++ [(f, d, i)]) 1 (E + 1) (.returned (.int .i64 0)) (w2.setCell ⟨l, 1, none⟩ (.slice av (nn + 1) c2)) := by
    intro V w2 da2 ia2 av dc2 ic2 c2 hV hG hO hF2 hR2 hb2
    have hVA := hV.alloc (.cells #[.int .i64 f, .slice da2 d.length dc2, .slice ia2 i.length ic2] 82)
    have hwA : w.heap.size ≤ (V.alloc (.cells #[.int .i64 f, .slice da2 d.length dc2, .slice ia2 i.length ic2] 82)).heap.size := Nat.le_trans hfW.size hVA.size
    have hbd := ListBody.add (e := (f, d, i)) (HWB.out.stay hVA (NR.nob _) (fun _ _ _ h => h)) (HX1.out.stay hVA (fun _ _ _ _ h => h)) (HXE.out.stay hVA (NR.nob _)) ((hG.stay ((Fr.refl _ _).alloc _) (NR.nob _)).cells) (by rw [HNN.out]; exact hO) hF2 hR2
    refine ⟨rfl, ⟨⟨_, _, vs, hb2.set1 _, hb2.body (hbd.mono (plus.grow hwA)) ((Fr.refl _ _).setOne _ _)⟩, .inl HM.out⟩, ?_⟩
    have hfin : Fr (fun b => b = l ∨ rowOf (.slice a' nn c') b) w (w2.setCell ⟨l, 1, none⟩ (.slice av (nn + 1) c2)) :=
      ((((hfW.mono (fun _ _ h => .inl h)).then hVA).trans (hF2.mono (M1 := fun b => b = l ∨ rowOf (.slice a' nn c') b) (fun _ _ h => .inr h)) (fun _ _ h => h)).setIn _ _ _ (.inl rfl))
    refine hfin.wr (fun b _ hx => hx.elim (fun e => e ▸ HM.out) (HB0.out.mn b)) ?_
    rintro b c3 fr hc3 (rfl | hx)
    · exact HBlk.out.nr _ _ _ hc3 rfl
    · obtain ⟨xs0, hxs0⟩ := HB0.out.now.own
      exact hxs0.nrRow (by decide) _ _ _ hc3 hx
  have HEnd := Lib.hid hEnd
  clear hEnd
  go_region_law (first
    | (go_simp; go_at_call 79; refine (HOwn.out _ (by exact (Fr.refl _ _).drew)).mono ?_; rintro e V ⟨v2, rfl, ⟨da2, ia2, dc2, ic2, rfl, g1, g2⟩, hfrV⟩; have hfV := (Fr.refl nob W).drew.then hfrV; have hb3 := hfV.keep HW.out (fun h => h); have hc3 := blk_cells hb3; have hlt3 := blk_lt hb3; have HFV := Lib.hid hfV; have HG := Lib.hid (show EditV V (.agg #[.int .i64 f, .slice da2 d.length dc2, .slice ia2 i.length ic2]) f d i from ⟨da2, ia2, dc2, ic2, rfl, g1, g2⟩); clear g1 g2 hfrV hfV)
    | (refine step_app rfl (.tmp 46) (.tmp 49) 67 67 rfl 82 i0 _ 3 56 Try.underlying67 hi0 hz0 hz1 hz2 rfl (by decide) _ nn xs rfl (by exact HXo.out _ (HFV.out.alloc _)) _ 1 _ rfl (by exact HS.out _ _ _ _ _ _ _) HB1.out HB2.out ?_; intro av c2 w2 hown2 hfr2 hrow2; have HO2 := Lib.hid hown2; have HF2 := Lib.hid hfr2; have HR2 := Lib.hid hrow2; have hb4 := HK.out _ _ (HFV.out.alloc _) hfr2; have hc4 := blk_cells hb4; have hz4 := blk_free hb4; have hlt4 := blk_lt hb4; clear hown2 hfr2 hrow2))
  all_goals go_wp2
  all_goals go_ret
  all_goals exact HEnd.out _ _ _ _ _ _ _ _ HFV.out HG.out HO2.out HF2.out HR2.out hb4
end Go.Proofs.Ytbhklkolkclflaa
