/- Package undo, eighth part: Clone. -/
import Derived.Test.YtbhklkolkclflaaU7
namespace Go.Proofs.Ytbhklkolkclflaa
open Go.RowKit

theorem ListBody.pushG {w w' : World} {F : Nat → Prop} {gv nv gv' v : Value} {vs : List Value} {gs : List (List EditP)} {g now : List EditP} (h : ListBody w F gv nv vs gs now) (hv : EdS w v g)
    (hvF : ∀ b, rowOf v b → F b ∧ ¬ rowOf nv b)
    (ho : Own w' 67 1 gv' (gs.length + 1) (vs ++ [v])) (hf : Fr (rowOf gv) w w') (hr : rowOf gv = rowOf gv' ∨ ∀ b, rowOf gv' b → w.heap.size ≤ b) :
    ListBody w' (plus w F) gv' nv (vs ++ [v]) (gs ++ [g]) now := by
  have hN : NR w (rowOf gv) := h.grp.own.nrRow (by decide)
  have he : ∀ v es, EdS w v es → ∀ b, rowOf v b → ¬ rowOf gv b := fun v es hv b hb hg => by
    obtain ⟨c', fr', hc⟩ := h.grp.own.rowTy hg
    exact hv.rowNe hb hc (by decide) rfl
  have hl : vs.length = gs.length := by simpa using h.grp.own.1
  refine ⟨OwnZ.of (by simpa using ho) (by simp), h.now.stay hf hN (he _ _ h.now), fun k hk => ?_, fun b hb => ?_, fun b hb => .inl (h.mn b hb)⟩
  · rcases Nat.lt_or_ge k gs.length with hk' | hk'
    · obtain ⟨v, g1, g2, g3⟩ := h.each k hk'
      refine ⟨v, by rw [List.getElem?_append_left (by omega)]; exact g1, ?_, fun b hb => ⟨.inl (g3 b hb).1, (g3 b hb).2⟩⟩
      rw [List.getElem_append_left hk']
      exact g2.stay hf hN (he _ _ g2)
    · obtain rfl : k = gs.length := by simp at hk; omega
      refine ⟨v, by rw [List.getElem?_append_right (by omega), hl]; simp, ?_, fun b hb => ⟨.inl (hvF b hb).1, (hvF b hb).2⟩⟩
      simp only [List.getElem_append_right (Nat.le_refl _), Nat.sub_self, List.getElem_cons_zero]
      exact hv.stay hf hN (he _ _ hv)
  · rcases hr with hr | hr
    · rw [← hr] at hb
      exact .inl (h.mg b hb)
    · exact .inr (hr b hb)

/-- What is new. -/
def newIn (w : World) : Nat → Prop := plus w nob

/-- All groups can be copied. -/
def Smalls (gs : List (List EditP)) : Prop := gs.length ≤ 100000 ∧ ∀ g ∈ gs, Small g

set_option maxRecDepth 10000 in
set_option maxHeartbeats 1000000 in
theorem undo_clone (w : World) (F : Nat → Prop) (l : Nat) (gs : List (List EditP)) (now : List EditP) (opn edits : Int) (h : ListRep w F l gs now opn edits) (hs : Smalls gs) (hn : Small now) :
    Calls Try.prog 51 #[.pointer (some ⟨l, 0, none⟩)] w fun e w' => ∃ l', e = .returned (.pointer (some ⟨l', 0, none⟩)) ∧ w.heap.size ≤ l' ∧ ListRep w' (newIn w) l' gs now opn edits ∧ Fr nob w w' := by
  obtain ⟨gv, nv, vs, hb, hbody⟩ := h.ex
  obtain ⟨ga, gc, rfl, _⟩ := hbody.grp.own.val
  obtain ⟨na, nc, rfl, _⟩ := hbody.now.val
  clear h
  have HB := Lib.hid hbody
  have HBlk := Lib.hid hb
  have HS := Lib.hid hs
  have HN := Lib.hid hn
  have hc := blk_cells hb
  have hlt := blk_lt hb
  have hgn := hs.1
  generalize hn1 : gs.length = n at *
  have HN1 := Lib.hid hn1
  have hnI : (n : Int) ≤ 100000 := by omega
  obtain ⟨i0, hi0, hz0, hz1, hz2⟩ := info_parts Try.info_edit1
  have HSrc := Lib.hid (fun (V : World) (a' : Option Addr) (n' c' : Nat) => (Sl.ofNew V (.slice a' n' c') 67 rfl).src (P := Try.prog) (tx := 113) (by decide) Try.underlying113)
  have hCop : ∀ V, Fr nob w V → Calls Try.prog 76 #[.slice na now.length nc] V (EdMade V now) := fun V hV => undo_copied V na now.length nc now (HB.out.now.stayN hV) HN.out
  have HCop := Lib.hid hCop
  clear hs hn hbody hgn hn1 hCop
  go_enter Try.func51, Try.ntmps51
  go_wp2_with (first | (go_at_call 65; refine (undo_none _ _ _ _ _ _ hb).mono ?_; rintro e w' ⟨rfl, rfl⟩) | (go_at_call 76; refine (HCop.out _ (by exact (Fr.refl _ _).alloc _)).mono ?_; rintro e w1 ⟨a1, c1, rfl, hed, hfr, hfresh⟩; have hfr1 := ((Fr.refl nob _).alloc _).then hfr; have hb1 := hfr1.keep HBlk.out (fun h => h); have hc1 := blk_cells hb1; have hlt1 := blk_lt hb1; have hbx := hfr.keep (heap_alloc_new _ _) (fun h => h); have hcx := blk_cells hbx; have hzx := blk_free hbx; have hltx := blk_lt hbx; have HED := Lib.hid hed; have HFR1 := Lib.hid hfr1; have HFS := Lib.hid hfresh; have HBX := Lib.hid hbx; clear hed hfr hfresh hfr1 hbx hb1))
  have hst : ListBlk ((w1.setCell ⟨w'.heap.size, 0, none⟩ (.slice none 0 0)).setCell ⟨w'.heap.size, 1, none⟩ (.slice a1 now.length c1)) w'.heap.size (.slice none 0 0) (.slice a1 now.length c1) opn edits := (ListBlk.set0 HBX.out _).set1 _
  have hfs : Fr (one w'.heap.size) w1 ((w1.setCell ⟨w'.heap.size, 0, none⟩ (.slice none 0 0)).setCell ⟨w'.heap.size, 1, none⟩ (.slice a1 now.length c1)) := ((Fr.refl _ _).setOne _ _).setOne _ _
  have hed2 := HED.out.stay hfs (ListBlk.nr HBX.out) (fun b hb => HED.out.rowNe hb HBX.out (by decide))
  have hf0 : Fr nob w' ((w1.setCell ⟨w'.heap.size, 0, none⟩ (.slice none 0 0)).setCell ⟨w'.heap.size, 1, none⟩ (.slice a1 now.length c1)) := HFR1.out.trans hfs (fun b hb e => by cases e; omega)
  have hbd : ListBody ((w1.setCell ⟨w'.heap.size, 0, none⟩ (.slice none 0 0)).setCell ⟨w'.heap.size, 1, none⟩ (.slice a1 now.length c1)) (newIn w') (.slice none 0 0) (.slice a1 now.length c1) [] (gs.take 0) now :=
    ⟨OwnZ.none _ _ _, hed2, fun k hk => absurd hk (by simp), (fun b ⟨_, _, _, h, _⟩ => by cases h), fun b hb => .inr (Nat.le_trans (by simp) (HFS.out b hb))⟩
  have HST := Lib.hid hst
  have HF0 := Lib.hid hf0
  have HBD := Lib.hid hbd
  clear hst hfs hed2 hf0 hbd hcx hzx hltx hc1 hlt1 HBX HED HFS HFR1
  go_loopw [5, 27] (fun _ i W => ∃ (k : Nat) (a' : Option Addr) (c' : Nat) (vs' : List Value), k ≤ n ∧ i = .int .i64 k ∧ Hid (ListBlk W w'.heap.size (.slice a' k c') (.slice a1 now.length c1) opn edits) ∧
    Hid (ListBody W (newIn w') (.slice a' k c') (.slice a1 now.length c1) vs' (gs.take k) now) ∧ Fr nob w' W) (fun _ i _ => n - (intOf i).toNat)
  case atStart => exact ⟨0, none, 0, [], Nat.zero_le _, rfl, HST.out, HBD.out, HF0.out⟩
  case round =>
    obtain ⟨k, a', c', vs', hk, rfl, HLB, HBO, hfr⟩ := hrel
    by_cases hkt : k < n
    · have hkg : k < gs.length := by have := HN1.out; omega
      obtain ⟨v, hv1, hv2, _⟩ := HB.out.each k hkg
      obtain ⟨va, vc, rfl, _, _⟩ := hv2.val
      have hrd : ∃ gg, ga = some ⟨gg, 0, none⟩ ∧ w'.cell? ⟨gg, k, none⟩ = some (.slice va gs[k].length vc) := by
        rcases HB.out.grp.own.2.2 with ⟨a', e1, e2, _⟩ | ⟨gg, cap, cur, e1, e2, e3, e4, e5, e6⟩
        · omega
        · injection e1 with e1 _ e7
          subst e1 e7
          have h0 := HB.out.grp.own
          rw [HN1.out] at h0
          have := h0.cells (by omega) _ _ hv1
          exact ⟨gg, rfl, this⟩
      obtain ⟨gg, rfl, hcell0⟩ := hrd
      have hsm := HS.out.2 _ (List.getElem_mem hkg)
      have htk : gs.take (k + 1) = gs.take k ++ [gs[k]] := by rw [List.take_succ_eq_append_getElem hkg]
      have HT := Lib.hid htk
      generalize gs[k] = g at *
      generalize hgl : g.length = gl at *
      have HGL := Lib.hid hgl
      have HSM := Lib.hid hsm
      have HV2 := Lib.hid hv2
      clear hv1 hv2 hsm htk hgl
      have hcell := (show World.cell? wr ⟨gg, k, none⟩ = _ from (by
        have h1 := (Rd.old (cs := [.slice va gl vc]) (a := some ⟨gg, k, none⟩) (.inr ⟨gg, k, rfl, fun j u hj => by cases j with | zero => (simp at hj; subst hj; exact hcell0) | succ j => simp at hj⟩) hfr (fun _ _ h => h))
        rcases h1 with h1 | ⟨g', o', e, h1⟩
        · cases h1
        · injection e with e
          injection e with e1 e2
          subst e1 e2
          exact h1 0 _ rfl))
      have hc2 := blk_cells HLB.out
      have hlt2 := blk_lt HLB.out
      have hCg : ∀ V, Fr nob wr V → Calls Try.prog 76 #[.slice va gl vc] V (EdMade V g) := fun V hV => undo_copied V va gl vc g ((HV2.out.stayN hfr).stayN hV) HSM.out
      have hXo : ∀ V : World, Fr nob wr V → Own V 67 1 (.slice a' k c') k vs' := fun V hV => by
        have h := HBO.out.grp.own.stay hV (fun _ _ _ _ h => h)
        rwa [show (gs.take k).length = k by rw [List.length_take]; omega] at h
      have HXo := Lib.hid hXo
      have HCg := Lib.hid hCg
      have hK : ∀ V V2 : World, Fr nob wr V → Fr (rowOf (.slice a' k c')) V V2 → ListBlk V2 w'.heap.size (.slice a' k c') (.slice a1 now.length c1) opn edits := fun V V2 hV hV2 => by
        have h1 := hV.keep HLB.out (fun h => h)
        exact hV2.keep h1 (fun hr => (HXo.out V hV).rowNe hr h1 (by decide) rfl)
      have HK := Lib.hid hK
      have b1 : k + 1 ≤ maxLen := by unfold maxLen; omega
      have b2 : (k + 1) * 24 ≤ 140737488355328 := by omega
      have HB1 := Lib.hid b1
      have HB2 := Lib.hid b2
      clear hCg hXo hK b1 b2 hcell0
      have hEnd : Hid (∀ (V w2 : World) (a3 av : Option Addr) (c3 c2 : Nat) (o : Obj), Fr nob wr V → EdS V (.slice a3 g.length c3) g → (∀ b, rowOf (.slice a3 g.length c3) b → wr.heap.size ≤ b) →
          Own w2 67 1 (.slice av (k + 1) c2) (k + 1) (vs' ++ [.slice a3 g.length c3]) → Fr (rowOf (.slice a' k c')) (V.alloc o) w2 →
          (rowOf (.slice a' k c') = rowOf (.slice av (k + 1) c2) ∨ ∀ b, rowOf (.slice av (k + 1) c2) b → (V.alloc o).heap.size ≤ b) →
          ListBlk w2 w'.heap.size (.slice a' k c') (.slice a1 now.length c1) opn edits →
          Hid (ListBody (w2.setCell ⟨w'.heap.size, 0, none⟩ (.slice av (k + 1) c2)) (newIn w') (.slice av (k + 1) c2) (.slice a1 now.length c1) (vs' ++ [.slice a3 g.length c3]) (gs.take (k + 1)) now)) := by
        intro V w2 a3 av c3 c2 o hV hed hfs hO hF2 hR2 hb2
        have hVA := hV.alloc o
        have hbd := ListBody.pushG (v := .slice a3 g.length c3) (g := g) (HBO.out.stay hVA (NR.nob _) (fun _ _ _ h => h)) (hed.stayN ((Fr.refl _ _).alloc _))
          (fun b hb => ⟨.inr (Nat.le_trans hfr.size (hfs b hb)), fun hn => by have h1 := HBO.out.now.lt b hn; have h2 := hfs b hb; omega⟩) (by rw [show (gs.take k).length = k by rw [List.length_take]; omega]; exact hO) hF2 hR2
        rw [HT.out]
        exact hb2.body (hbd.mono (plus.idem (Nat.le_trans hfr.size hVA.size))) ((Fr.refl _ _).setOne _ _)
      have hFin : Hid (∀ (V w2 : World) (av : Option Addr) (c2 : Nat) (o : Obj), Fr nob wr V → Fr (rowOf (.slice a' k c')) (V.alloc o) w2 → Fr nob w' (w2.setCell ⟨w'.heap.size, 0, none⟩ (.slice av (k + 1) c2))) := by
        intro V w2 av c2 o hV hF2
        exact (((hfr.then hV).alloc o).trans hF2 (fun b hb hr => absurd (HBO.out.mg b hr) (by rintro (h | h); exact h; omega))).setNew _ _ _ (Nat.le_refl _)
      go_wp2
      go_region_law (first
        | (go_simp; go_at_call 76; refine (HCg.out _ (by exact (Fr.refl _ _).drew)).mono ?_; rintro e V ⟨a3, c3, rfl, hed3, hfr3, hfs3⟩; have hfV := (Fr.refl nob wr).drew.then hfr3; have hb3 := hfV.keep HLB.out (fun h => h); have hc3 := blk_cells hb3; have hlt3 := blk_lt hb3; have HFV := Lib.hid hfV; have HED3 := Lib.hid hed3; have HFS3 := Lib.hid hfs3; clear hed3 hfr3 hfs3 hfV)
        | (refine step_app rfl (.tmp 33) (.tmp 36) 113 113 rfl 67 i0 _ 1 24 Try.underlying113 hi0 hz0 hz1 hz2 rfl (by decide) _ k vs' rfl (by exact HXo.out _ (HFV.out.alloc _)) _ 1 _ rfl (by exact HSrc.out _ _ _ _) HB1.out HB2.out ?_; intro av c2 w2 hown2 hfr2 hrow2; have HO2 := Lib.hid hown2; have HF2 := Lib.hid hfr2; have HR2 := Lib.hid hrow2; have hb4 := HK.out _ _ (HFV.out.alloc _) hfr2; have hc4 := blk_cells hb4; have hz4 := blk_free hb4; have hlt4 := blk_lt hb4; clear hown2 hfr2 hrow2))
      all_goals go_wp2
      all_goals go_roundw
      all_goals first
        | (simp [intOf]; omega)
        | skip
      all_goals refine ⟨k + 1, av, c2, vs' ++ [.slice a3 g.length c3], by omega, by go_num, hb4.set0 _, ?_, ?_⟩
      all_goals first
        | exact hEnd.out _ _ _ _ _ _ _ HFV.out HED3.out HFS3.out HO2.out HF2.out HR2.out hb4
        | exact hFin.out _ _ _ _ _ HFV.out HF2.out
    · have hq : k = n := by omega
      subst hq
      have hV := HBO.out
      rw [List.take_of_length_le (by rw [HN1.out]; omega)] at hV
      have HV2 := Lib.hid hV
      clear hV HBO
      go_wp2
      go_ret
      exact ⟨_, rfl, Nat.le_refl _, ⟨⟨_, _, vs', HLB.out, HV2.out⟩, .inr (Nat.le_refl _)⟩, hfr⟩
end Go.Proofs.Ytbhklkolkclflaa
