/- Package editor: Replace, done. -/
import Derived.Test.YtbhklkolkclflaaE13
namespace Go.Proofs.Ytbhklkolkclflaa
open Go.RowKit

/-- A part of a command. -/
def EdStep (w : World) (κ : Col) (i e b r k tm um h bl : Nat) (was : Nat → Value) (S : EdState) (v : Int) (x : Ending) (w' : World) : Prop :=
  x = .returned (.int .i64 v) ∧ ∃ κ' putv', EdAt w' κ' i e b r k tm um h bl was putv' S ∧ (∀ y, y < w.heap.size → κ' y = κ y) ∧ Fr (edM w κ) w w'
theorem EdStep.done {w : World} {κ : Col} {i e b r k tm um h bl : Nat} {was : Nat → Value} {S : EdState} {v : Int} {x : Ending} {w' : World} (hs : EdStep w κ i e b r k tm um h bl was S v x w') : EdDone w κ e (.int .i64 v) S x w' := by
  obtain ⟨h1, κ', putv', h2, h3⟩ := hs
  exact ⟨h1, κ', h2.rep, h3⟩

theorem EdState.bufd_ok {S : EdState} (h : EdsOk S) (f t : Nat) (l : List Int) : EdsOk (S.bufd f t l) := ⟨h.lists, h.put, h.room, h.place⟩
theorem EdState.bufd_lst (S : EdState) (f t : Nat) (l : List Int) : (S.bufd f t l).lst = S.lst := rfl
theorem EdAt.bufd {w w1 : World} {κ : Col} {i e b r k tm um h bl : Nat} {was : Nat → Value} {putv : Value} {S : EdState} (x : EdAt w κ i e b r k tm um h bl was putv S) (f t : Nat) (l : List Int)
    (hb : BufRep w1 b (S.core.text.take f ++ l ++ S.core.text.drop t) (newPoint S.core.point f t l.length) (newMark S.core.mark f t l.length)) (hf : Fr (one b) w w1) : EdAt w1 κ i e b r k tm um h bl was putv (S.bufd f t l) :=
  x.setCore hf x.core.buf.nr (fun y hy _ => by cases hy; rw [x.core.cb]) (fun _ _ => rfl) (x.core.setBuf hf (fun _ _ => rfl) hb) rfl
theorem EdAt.frBuf {w w1 : World} {κ : Col} {i e b r k tm um h bl : Nat} {was : Nat → Value} {putv : Value} {S : EdState} (x : EdAt w κ i e b r k tm um h bl was putv S) (hf : Fr (one b) w w1) : Fr (edM w κ) w w1 :=
  edM.of hf x.core.buf.nr (fun y _ hy => by
    cases hy
    rw [x.core.cb]
    intro h0
    injection h0 with h0 _
    have := x.ci
    omega)

/-- The command's edits are changed. -/
theorem EdAt.setPut {V V' : World} {κ : Col} {i e b r k tm um h bl : Nat} {was : Nat → Value} {putv putv' : Value} {S : EdState} {es : List EditP} (x : EdAt V κ i e b r k tm um h bl was putv S) (hf : Fr (fun y => y = e ∨ rowOf putv y) V V')
    (hblk : EdBlk V' e b r k um S.core h bl S.f was putv') (hput : EdS V' putv' es) (hrow : ∀ y, rowOf putv' y → rowOf putv y ∨ V.heap.size ≤ y) :
    EdAt V' (paint κ V.heap.size (3, 3)) i e b r k tm um h bl was putv' { S with put := es } ∧ Fr (edM V κ) V V' := by
  have hpo := paint_old κ V.heap.size (3, 3)
  have hci := x.ci
  have hcol : ∀ y, (y = e ∨ rowOf putv y) → κ y = (3, 0) ∨ κ y = (3, 3) := fun y hy => hy.elim (fun h => .inl (h ▸ x.ce)) (fun h => .inr (x.rest.mp y h))
  have hnr : NR V (fun y => y = e ∨ rowOf putv y) := fun y c fr hb hy => by
    rcases hy with rfl | hy
    · rw [show V.heap[y]? = _ from x.blk] at hb
      injection hb with hb
      injection hb with _ hb _
      exact absurd hb (by decide)
    · obtain ⟨⟨xs, ho, _⟩, _⟩ := x.rest.put
      exact ho.nrRow (by decide) y c fr hb hy
  have hn : ∀ j, j ≠ 3 → ∀ y, (y = e ∨ rowOf putv y) → y < V.heap.size → (κ y).1 ≠ j := fun j hj y hy _ h0 => by
    rcases hcol y hy with h1 | h1 <;> (rw [h1] at h0; exact hj h0.symm)
  refine ⟨⟨hci, (hpo _ x.lt).trans x.ce, hblk, x.core.stay hf hnr (hn i (by omega)) hpo, ?_, x.wone, fun hi => ?_⟩, edM.of hf hnr (fun y _ hy h0 => by rcases hcol y hy with h1 | h1 <;> (rw [h1] at h0; cases h0))⟩
  · have hb := blk_lt x.rest.bells
    have h0 : ∀ y j, κ y = (3, j) → j ≠ 0 → j ≠ 3 → ¬ (y = e ∨ rowOf putv y) := fun y j hy h1 h2 hM => by
      rcases hcol y hM with h3 | h3
      · rw [h3] at hy; injection hy with _ hy; exact h1 hy.symm
      · rw [h3] at hy; injection hy with _ hy; exact h2 hy.symm
    refine ⟨(x.rest.hist.within.stay hf (fun y hy => h0 y 1 hy.1 (by omega) (by omega))).mono (fun y hy => (hpo y hy.2).trans hy.1), (hpo _ hb).trans x.rest.cb, hf.keep x.rest.bells (h0 _ 2 x.rest.cb (by omega) (by omega)), hput, fun y hy => ?_⟩
    rcases hrow y hy with h1 | h1
    · exact (hpo y (x.rest.put.lt y h1)).trans (x.rest.mp y h1)
    · exact paint_new _ _ _ _ h1
  · obtain ⟨b2, r2, k2, tm2, um2, h6, h7⟩ := x.inn hi
    exact ⟨b2, r2, k2, tm2, um2, h6, h7.stay hf hnr (hn (3 - i) (by omega)) hpo⟩
theorem EdAt.addPut {V V1 V5 : World} {κ : Col} {i e b r k tm um h bl : Nat} {was : Nat → Value} {pa av : Option Addr} {pl pc c2 : Nat} {S : EdState} {ed : EditP} {xs news : List Value} (x : EdAt V κ i e b r k tm um h bl was (.slice pa pl pc) S) (hpl : pl = S.put.length)
    (hxs : Own V 82 3 (.slice pa pl pc) pl xs) (hxe : edCells V xs S.put) (hV1 : Fr nob V V1) (hnew : edCells V1 news [ed])
    (ho : Own V5 82 3 (.slice av (pl + 1) c2) (pl + 1) (xs ++ news)) (hf : Fr (rowOf (.slice pa pl pc)) V1 V5) (hr : rowOf (.slice pa pl pc) = rowOf (.slice av (pl + 1) c2) ∨ ∀ y, rowOf (.slice av (pl + 1) c2) y → V1.heap.size ≤ y) :
    EdAt (V5.setCell ⟨e, 33, none⟩ (.slice av (pl + 1) c2)) (paint κ V.heap.size (3, 3)) i e b r k tm um h bl was (.slice av (pl + 1) c2) { S with put := S.put ++ [ed] } ∧ Fr (edM V κ) V (V5.setCell ⟨e, 33, none⟩ (.slice av (pl + 1) c2)) := by
  have hs := hV1.size
  have hfe : Fr (fun y => y = e ∨ rowOf (.slice pa pl pc) y) V V5 := (hV1.mono (M1 := fun y => y = e ∨ rowOf (.slice pa pl pc) y) (fun _ _ h => h.elim)).trans (hf.mono (M1 := fun y => y = e ∨ rowOf (.slice pa pl pc) y) (fun _ _ h => .inr h)) (fun _ _ h => h)
  have hfs := hfe.setIn e 33 (.slice av (pl + 1) c2) (.inl rfl)
  have hbe : V5.heap[e]? = _ := hf.keep (hV1.keep x.blk (fun h => h)) (fun hr => (hxs.stay hV1 (fun _ _ _ _ h => h)).rowNe hr (hV1.keep x.blk (fun h => h)) (by decide) rfl)
  refine x.setPut hfs (heap_setCell_same (o := 33) hbe _) ?_ (fun y hy => ?_)
  · refine EdS.stay (M := one e) ?_ ((Fr.refl _ _).setOne _ _) (NR.one hbe (by decide)) (fun y hy hM => ?_)
    · exact EdS.snoc (k := pl) hpl (hxs.stay hV1 (fun _ _ _ _ h => h)) (hxe.stay hV1 (NR.nob _)) hnew ho hf
    · obtain ⟨c, fr, hb⟩ := ho.rowTy hy
      cases hM
      rw [hbe] at hb
      injection hb with hb
      injection hb with _ hb _
      exact absurd hb (by decide)
  · rcases hr with hr | hr
    · rw [← hr] at hy
      exact .inl hy
    · have := hr y hy
      exact .inr (by omega)

set_option maxRecDepth 10000 in
set_option maxHeartbeats 2000000 in
theorem ed_replace_room (w : World) (κ : Col) (i e b r k tm um h bl : Nat) (was : Nat → Value) (putv : Value) (S : EdState) (x : EdAt w κ i e b r k tm um h bl was putv S) (hok : EdsOk S) (hin : S.f.inn = true) (f t : Nat) (l : List Int) (al : Option Addr) (cl : Nat)
    (hl : Sl w 1 al l.length cl (runes l)) (hft : f ≤ t) (ht : t ≤ S.core.text.length) (hlen : l.length + (S.core.text.length - (t - f)) ≤ 1024) (hroom : total S.lst.1 + S.put.length < 16384) :
    Calls Try.prog 30 #[.pointer (some ⟨e, 0, none⟩), .int .i64 f, .int .i64 t, .slice al l.length cl] w (EdStep w κ i e b r k tm um h bl was (S.replaced f t l) 0) := by
  have hpt := ed_part w e b r k um S.core h bl S.f was putv x.blk
  rw [if_pos hin] at hpt
  have HPT := Lib.hid hpt
  have HX := Lib.hid x
  have HOK := Lib.hid hok
  have HIN := Lib.hid hin
  have HB := Lib.hid (buf_replace_ok w b S.core.text S.core.point S.core.mark f t l al cl x.core.buf hl hft ht hlen)
  have hc0 : w.cell? ⟨e, 0, none⟩ = some (.pointer (some ⟨b, 0, none⟩)) := by rw [blk_cells x.blk]; rfl
  obtain ⟨pa, pc, hpv, _⟩ := x.rest.put.val
  have HPV := Lib.hid hpv
  have HR := Lib.hid hroom
  have hnd : ((S.core.text.drop f).take (t - f)).length = t - f := by rw [List.length_take, List.length_drop]; omega
  have HND := Lib.hid hnd
  have hpl4 : S.put.length ≤ 16384 := by omega
  generalize hndx : ((S.core.text.drop f).take (t - f)) = dl at *
  have HDL := Lib.hid hndx
  generalize hdn : dl.length = nd at *
  generalize hln : l.length = ni at *
  generalize hpn : S.put.length = pl at *
  have HDN := Lib.hid hdn
  have HLN := Lib.hid hln
  have HPN := Lib.hid hpn
  have hn1 : ni ≤ 1024 := by omega
  have hn2 : nd ≤ 1024 := by
    have := x.core.buf.len
    obtain ⟨_, _, _, _, _, _, _, _, _, _, _, _, _, _, h3, _⟩ := this
    omega
  clear x hok hin hpt hl hpv hroom hnd hndx hdn hln hpn
  by_cases hz : nd + ni = 0
  · have hz2 : IntKind.i64.wrap ((nd : Int) + ni) = nd + ni := IntWalk.i64_in _ (by omega)
    have hz3 : decide ((0 : Int) < nd + ni) = false := decide_eq_false (by omega)
    have HZ := Lib.hid hz
    clear hz
    go_enter Try.func30, Try.ntmps30
    go_wp2_with (first
      | (go_at_call 25; refine (HPT.out).mono ?_; rintro y w' ⟨rfl, rfl⟩)
      | (go_at_call 59; refine (HB.out).mono ?_; rintro y w1 ⟨v, rfl, ⟨d1, i1, cd, ci, rfl, hd1, hi1⟩, hb1, hf1⟩; rw [HDL.out] at hd1 ⊢; rw [HDN.out] at hd1 ⊢; rw [HLN.out] at hi1 hb1 ⊢; have HD1 := Lib.hid hd1; have HI1 := Lib.hid hi1; have HB1 := Lib.hid hb1; have HF1 := Lib.hid hf1; clear hd1 hi1 hb1 hf1))
    go_ret
    have hS : S.replaced f t l = S.bufd f t l := by
      unfold EdState.replaced
      rw [if_pos (by have := HZ.out; have := HND.out; have := HLN.out; omega)]
    refine ⟨rfl, κ, putv, ?_, fun _ _ => rfl, (HX.out.frBuf HF1.out).alloc _⟩
    rw [hS]
    exact (HX.out.bufd f t l (by rw [HLN.out]; exact HB1.out) HF1.out).stayN ((Fr.refl _ _).alloc _) (fun _ _ => rfl)
  · have hz1 : (0 : Int) < nd + ni := by omega
    have hz2 : IntKind.i64.wrap ((nd : Int) + ni) = nd + ni := IntWalk.i64_in _ (by omega)
    have hz3 : decide ((0 : Int) < nd + ni) = true := by simpa using hz1
    have HZ := Lib.hid hz
    clear hz
    go_enter Try.func30, Try.ntmps30
    go_wp2_with (first
      | (go_at_call 25; refine (HPT.out).mono ?_; rintro y w' ⟨rfl, rfl⟩)
      | (go_at_call 59; refine (HB.out).mono ?_; rintro y w1 ⟨v, rfl, ⟨d1, i1, cd, ci, rfl, hd1, hi1⟩, hb1, hf1⟩; rw [HDL.out] at hd1 ⊢; rw [HDN.out] at hd1 ⊢; rw [HLN.out] at hi1 hb1 ⊢; have HD1 := Lib.hid hd1; have HI1 := Lib.hid hi1; have HB1 := Lib.hid hb1; have HF1 := Lib.hid hf1; clear hd1 hi1 hb1 hf1))
    have hxw : EdAt (w1.alloc (.cells #[.int .i64 f, .slice d1 nd cd, .slice i1 ni ci] 82)) (paint κ w1.heap.size (0, 0)) i e b r k tm um h bl was putv (S.bufd f t l) :=
      (HX.out.bufd f t l (by rw [HLN.out]; exact HB1.out) HF1.out).stayN ((Fr.refl _ _).alloc _) (paint_old _ _ _)
    have hxc := heap_alloc_new w1 (.cells #[.int .i64 f, .slice d1 nd cd, .slice i1 ni ci] 82)
    have hfw : Fr (edM w' κ) w' (w1.alloc (.cells #[.int .i64 f, .slice d1 nd cd, .slice i1 ni ci] 82)) := (HX.out.frBuf HF1.out).alloc _
    have hev : EditV (w1.alloc (.cells #[.int .i64 f, .slice d1 nd cd, .slice i1 ni ci] 82)) (.agg #[.int .i64 f, .slice d1 nd cd, .slice i1 ni ci]) f dl l := by
      refine EditV.stay (w := w1) ⟨d1, i1, cd, ci, ?_, ?_, ?_⟩ ((Fr.refl nob _).alloc _) (NR.nob _)
      · rw [HDN.out, HLN.out]
      · rw [HDN.out]; exact HD1.out
      · rw [HLN.out]; exact HI1.out
    have hsw := HF1.out.size
    clear hc0
    refine forget (fun W => Hid (EdAt W (paint κ w1.heap.size (0, 0)) i e b r k tm um h bl was putv (S.bufd f t l)) ∧ Hid (W.heap[w1.heap.size]? = some (.cells #[.int .i64 f, .slice d1 nd cd, .slice i1 ni ci] 82 (0, 0))) ∧
      Hid (EditV W (.agg #[.int .i64 f, .slice d1 nd cd, .slice i1 ni ci]) f dl l) ∧ Fr (edM w' κ) w' W) ⟨hxw, hxc, hev, hfw⟩ ?_
    clear hxw hxc hev hfw
    rintro W ⟨HXW, HXC, HEV, hfW⟩
    have hκx : paint κ w1.heap.size (0, 0) w1.heap.size = (0, 0) := paint_new _ _ _ _ (Nat.le_refl _)
    have hκo : ∀ y, y < w'.heap.size → paint κ w1.heap.size (0, 0) y = κ y := fun y hy => paint_old _ _ _ _ (by omega)
    generalize paint κ w1.heap.size (0, 0) = κa at *
    have HKX := Lib.hid hκx
    have HKO := Lib.hid hκo
    have hplc := HOK.out.place
    have hli : ∀ V, Fr nob W V → Calls Try.prog 33 #[.pointer (some ⟨e, 0, none⟩)] V (Listed V κa i e b r k tm um h bl was putv (S.bufd f t l)) := fun V hV => ed_list V κa i e b r k tm um h bl was putv (S.bufd f t l) (HXW.out.stayN hV (fun _ _ => rfl)) hplc
    have HLI := Lib.hid hli
    have hS33 : ∀ (V : World) (κ2 : Col) (S2 : EdState), EdAt V κ2 i e b r k tm um h bl was putv S2 → V.cell? ⟨e, 33, none⟩ = some (.slice pa pl pc) := fun V κ2 S2 hx => by
      rw [blk_cells hx.blk, HPV.out]
      rfl
    have HS33 := Lib.hid hS33
    have hS0 := hS33 _ _ _ HXW.out
    have hcnt := HOK.out.lst.cnt
    have htn := HR.out
    generalize hE : (total S.lst.1 : Int) = E at *
    have HE := Lib.hid hE
    have hE0 : 0 ≤ E := by omega
    have hwr : IntKind.i64.wrap (E + pl) = E + pl := IntWalk.i64_in _ (by omega)
    have hge : decide (16384 ≤ E + (pl : Int)) = false := decide_eq_false (by omega)
    have HCNT := Lib.hid hcnt
    clear hκx hκo hli hS33 hplc hcnt htn hE
    go_region_held3 (fun V => V.cell? ⟨e, 33, none⟩ = some (.slice pa pl pc))
      ((first | (with_reducible assumption) | (go_keep; done) | exact HS33.out _ _ _ HX2.out))
      (first
        | (go_at_call 33; refine (HLI.out _ (by exact (Fr.refl _ _).drew)).mono ?_; rintro y V2 ⟨ls, κ2, rfl, hx2, hu2, hk2, hf2⟩; have hs33 := HS33.out _ _ _ hx2; have hlr := (hu2.list (EdState.listed_at _)).2; rw [show (S.bufd f t l).lst.2 = E from HCNT.out] at hlr; have HX2 := Lib.hid hx2; have HU2 := Lib.hid hu2; have HK2 := Lib.hid hk2; have HF2 := Lib.hid hf2; have HLR := Lib.hid hlr; clear hx2 hu2 hk2 hf2 hlr)
        | (go_at_call 60; refine (undo_edits _ _ _ _ _ _ _ HLR.out).mono ?_; rintro y V3 ⟨rfl, rfl⟩))
    have hfV : Fr (edM W κa) W V3 := Fr.ofDrew HF2.out
    have hkV : ∀ y, y < W.heap.size → κ2 y = κa y := HK2.out
    have hxk : ¬ edM W κa w1.heap.size := fun h => h.1 HKX.out
    have hxc3 := hfV.keep HXC.out hxk
    have HEV3 := Lib.hid (HEV.out.stay hfV (NR.wr _ _))
    have HFV := Lib.hid hfV
    have HKV := Lib.hid hkV
    have HXC3 := Lib.hid hxc3
    have hce3 := blk_free HX2.out.blk
    have hle3 := blk_lt HX2.out.blk
    have hcx3 := blk_cells hxc3
    obtain ⟨⟨xs, hxs, hxe⟩, _⟩ := HX2.out.rest.put
    have hpn2 : (S.bufd f t l).listed.put.length = pl := HPN.out
    rw [hpn2, HPV.out] at hxs
    have HXS := Lib.hid hxs
    have HXE := Lib.hid hxe
    obtain ⟨i0, hi0, hz0, hz1', hz2'⟩ := info_parts Try.info_edits
    have HXo : Hid (∀ V : World, Fr nob V3 V → Own V 82 3 (.slice pa pl pc) pl xs) := fun V hV => HXS.out.stay hV (fun _ _ _ _ h => h)
    have HSr : Hid (∀ (V : World) (da2 ia2 : Option Addr) (dc2 ic2 x y : Nat), Src Try.prog 3 67 (.slice (some ⟨V.heap.size, 0, none⟩) 1 1) 1 [.int .i64 f, .slice da2 x dc2, .slice ia2 y ic2] (V.alloc (.cells #[.int .i64 f, .slice da2 x dc2, .slice ia2 y ic2] 82)).drew) := fun V da2 ia2 dc2 ic2 x y =>
      ((Sl.ofRow V #[.int .i64 f, .slice da2 x dc2, .slice ia2 y ic2] 82 (by simp [Value.oneCell'])).oldN (Fr.refl nob _).drew).src (P := Try.prog) (tx := 67) (by simp) Try.underlying67
    have HB1' := Lib.hid (show pl + 1 ≤ maxLen from by unfold maxLen; omega)
    have HB2' := Lib.hid (show (pl + 1) * 56 ≤ 140737488355328 from by omega)
    have HKP : Hid (∀ V V2 : World, Fr nob V3 V → Fr (rowOf (.slice pa pl pc)) V V2 → (∃ v, V2.cell? ⟨e, 33, none⟩ = some v) ∧ V2.frozen? ⟨e, 33, none⟩ = false ∧ e < V2.heap.size) := fun V V2 h1 h2 => by
      have h3 := h1.keep HX2.out.blk (fun h => h)
      have h4 := h2.keep h3 (fun hr => (HXo.out V h1).rowNe hr h3 (by decide) rfl)
      exact ⟨⟨_, (blk_cells h4 33).trans rfl⟩, blk_free h4 33, blk_lt h4⟩
    clear hfV hkV hxk hxc3 hxs hxe hpn2 hS0
    go_wp2
    go_region_law (first
      | (refine step_app rfl (.tmp 65) (.tmp 67) 67 67 rfl 82 i0 _ 3 56 Try.underlying67 hi0 hz0 hz1' hz2' rfl (by decide) (.slice pa pl pc) pl xs rfl (by exact HXo.out _ ((Fr.refl _ _).alloc _).drew) _ 1 _ rfl (by exact HSr.out _ _ _ _ _ _ _) HB1'.out HB2'.out ?_; intro av c2 V5 hown5 hfr5 hrow5; obtain ⟨⟨v33, e33⟩, z33, l33⟩ := HKP.out _ _ ((Fr.refl _ _).alloc _).drew hfr5; have HO5 := Lib.hid hown5; have HF5 := Lib.hid hfr5; have HR5 := Lib.hid hrow5; clear hown5 hfr5 hrow5))
    all_goals go_wp2
    all_goals go_ret
    all_goals
      have hxp : EdAt V3 κ2 i e b r k tm um h bl was (.slice pa pl pc) (S.bufd f t l).listed := by
        have h0 := HX2.out
        rwa [HPV.out] at h0
      have hnew : edCells (V3.alloc (.cells #[.int .i64 f, .slice d1 nd cd, .slice i1 ni ci] 82)).drew [.int .i64 f, .slice d1 nd cd, .slice i1 ni ci] [((f : Int), dl, l)] :=
        (HEV3.out.stay ((Fr.refl nob V3).alloc (.cells #[.int .i64 f, .slice d1 nd cd, .slice i1 ni ci] 82)).drew (NR.nob _)).cells
      obtain ⟨hfin, hff⟩ := EdAt.addPut hxp HPN.out.symm HXS.out HXE.out ((Fr.refl nob V3).alloc (.cells #[.int .i64 f, .slice d1 nd cd, .slice i1 ni ci] 82)).drew hnew HO5.out HF5.out HR5.out
      have hS : S.replaced f t l = { (S.bufd f t l).listed with put := (S.bufd f t l).listed.put ++ [((f : Int), dl, l)] } := by
        unfold EdState.replaced
        rw [if_neg (by have := HZ.out; have := HND.out; have := HLN.out; omega), HDL.out]
        have hr : (S.bufd f t l).roomed = (S.bufd f t l).listed := by
          unfold EdState.roomed
          rw [if_neg]
          have h1 : (S.bufd f t l).lst.2 = E := HCNT.out
          have h2 : (S.bufd f t l).put.length = pl := HPN.out
          rw [h1, h2]
          have h3 := HR.out
          have h4 := HE.out
          omega
        rw [hr]
      refine ⟨rfl, _, _, by rw [hS]; exact hfin, fun y hy => ?_, ?_⟩
      · rw [paint_old _ _ _ y (Nat.lt_of_lt_of_le hy (Nat.le_trans hfW.size HFV.out.size)), HKV.out y (Nat.lt_of_lt_of_le hy hfW.size), HKO.out y hy]
      · exact edM.trans (edM.trans hfW HKO.out HFV.out) (fun y hy => (HKV.out y (Nat.lt_of_lt_of_le hy hfW.size)).trans (HKO.out y hy)) hff
end Go.Proofs.Ytbhklkolkclflaa
