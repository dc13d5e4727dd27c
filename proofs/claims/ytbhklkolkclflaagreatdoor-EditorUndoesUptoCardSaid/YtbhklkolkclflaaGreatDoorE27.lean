/- Package editor: Replace, where the list is full. -/
import Derived.Test.YtbhklkolkclflaaGreatDoorG5
namespace Go.Proofs.YtbhklkolkclflaaGreatDoor
open Go.RowKit

set_option maxRecDepth 10000 in
set_option maxHeartbeats 2000000 in
theorem ed_replace_full (w : World) (κ : Col) (i e b r k tm um h bl : Nat) (was : Nat → Value) (putv : Value) (S : EdState) (x : EdAt w κ i e b r k tm um h bl was putv S) (hok : EdsOk S) (hin : S.f.inn = true) (f t : Nat) (l : List Int) (al : Option Addr) (cl : Nat)
    (hl : Sl w 1 al l.length cl (runes l)) (hft : f ≤ t) (ht : t ≤ S.core.text.length) (hlen : l.length + (S.core.text.length - (t - f)) ≤ 1024) (hroom : 16384 ≤ total S.lst.1 + S.put.length) :
    Calls Tryz.prog 84 #[.pointer (some ⟨e, 0, none⟩), .int .i64 f, .int .i64 t, .slice al l.length cl] w (EdStep w κ i e b r k tm um h bl was (S.replaced f t l) 0) := by
  have hpt := ed_part w e b r k um S.core h bl S.f was putv x.blk
  rw [if_pos hin] at hpt
  have HPT := Lib.hid hpt
  have HX := Lib.hid x
  have HOK := Lib.hid hok
  have HIN := Lib.hid hin
  have HB := Lib.hid (buf_replace_ok w b S.core.text S.core.point S.core.mark f t l al cl x.core.buf hl hft ht hlen)
  have hc0 : w.cell? ⟨e, 0, none⟩ = some (.pointer (some ⟨b, 0, none⟩)) := by rw [blk_cells x.blk]; rfl
  obtain ⟨pa, pc, hpv, _⟩ := x.rest.put.val
  have HPV := Lib.hid hpv
  have HR := Lib.hid hroom
  have hnd : ((S.core.text.drop f).take (t - f)).length = t - f := by rw [List.length_take, List.length_drop]; omega
  have HND := Lib.hid hnd
  have hpl4 : S.put.length ≤ 16384 := Nat.le_trans (Nat.le_add_left _ _) hok.room
  generalize hndx : ((S.core.text.drop f).take (t - f)) = dl at *
  have HDL := Lib.hid hndx
  generalize hdn : dl.length = nd at *
  generalize hln : l.length = ni at *
  generalize hpn : S.put.length = pl at *
  have HDN := Lib.hid hdn
  have HLN := Lib.hid hln
  have HPN := Lib.hid hpn
  have hn1 : ni ≤ 1024 := by omega
  have hn2 : nd ≤ 1024 := by
    have := x.core.buf.len
    obtain ⟨_, _, _, _, _, _, _, _, _, _, _, _, _, _, h3, _⟩ := this
    omega
  clear x hok hin hpt hl hpv hroom hnd hndx hdn hln hpn
  by_cases hz : nd + ni = 0
  · have hz2 : IntKind.i64.wrap ((nd : Int) + ni) = nd + ni := IntWalk.i64_in _ (by omega)
    have hz3 : decide ((0 : Int) < nd + ni) = false := decide_eq_false (by omega)
    have HZ := Lib.hid hz
    clear hz
    go_enter Tryz.func84, Tryz.ntmps84
    go_wp2_with (first
      | (go_at_call 88; refine (HPT.out).mono ?_; rintro y w' ⟨rfl, rfl⟩)
      | (go_at_call 170; refine (HB.out).mono ?_; rintro y w1 ⟨v, rfl, ⟨d1, i1, cd, ci, rfl, hd1, hi1⟩, hb1, hf1⟩; rw [HDL.out] at hd1 ⊢; rw [HDN.out] at hd1 ⊢; rw [HLN.out] at hi1 hb1 ⊢; have HD1 := Lib.hid hd1; have HI1 := Lib.hid hi1; have HB1 := Lib.hid hb1; have HF1 := Lib.hid hf1; clear hd1 hi1 hb1 hf1))
    go_ret
    have hS : S.replaced f t l = S.bufd f t l := by
      unfold EdState.replaced
      rw [if_pos (by have := HZ.out; have := HND.out; have := HLN.out; omega)]
    refine ⟨rfl, κ, putv, ?_, fun _ _ => rfl, (HX.out.frBuf HF1.out).alloc _⟩
    rw [hS]
    exact (HX.out.bufd f t l (by rw [HLN.out]; exact HB1.out) HF1.out).stayN ((Fr.refl _ _).alloc _) (fun _ _ => rfl)
  · have hz1 : (0 : Int) < nd + ni := by omega
    have hz2 : IntKind.i64.wrap ((nd : Int) + ni) = nd + ni := IntWalk.i64_in _ (by omega)
    have hz3 : decide ((0 : Int) < nd + ni) = true := by simpa using hz1
    have HZ := Lib.hid hz
    clear hz
    go_enter Tryz.func84, Tryz.ntmps84
    go_wp2_with (first
      | (go_at_call 88; refine (HPT.out).mono ?_; rintro y w' ⟨rfl, rfl⟩)
      | (go_at_call 170; refine (HB.out).mono ?_; rintro y w1 ⟨v, rfl, ⟨d1, i1, cd, ci, rfl, hd1, hi1⟩, hb1, hf1⟩; rw [HDL.out] at hd1 ⊢; rw [HDN.out] at hd1 ⊢; rw [HLN.out] at hi1 hb1 ⊢; have HD1 := Lib.hid hd1; have HI1 := Lib.hid hi1; have HB1 := Lib.hid hb1; have HF1 := Lib.hid hf1; clear hd1 hi1 hb1 hf1))
    have hxw : EdAt (w1.alloc (.cells #[.int .i64 f, .slice d1 nd cd, .slice i1 ni ci] 168)) (paint κ w1.heap.size (0, 0)) i e b r k tm um h bl was putv (S.bufd f t l) :=
      (HX.out.bufd f t l (by rw [HLN.out]; exact HB1.out) HF1.out).stayN ((Fr.refl _ _).alloc _) (paint_old _ _ _)
    have hxc := heap_alloc_new w1 (.cells #[.int .i64 f, .slice d1 nd cd, .slice i1 ni ci] 168)
    have hfw : Fr (edM w' κ) w' (w1.alloc (.cells #[.int .i64 f, .slice d1 nd cd, .slice i1 ni ci] 168)) := (HX.out.frBuf HF1.out).alloc _
    have hev : EditV (w1.alloc (.cells #[.int .i64 f, .slice d1 nd cd, .slice i1 ni ci] 168)) (.agg #[.int .i64 f, .slice d1 nd cd, .slice i1 ni ci]) f dl l := by
      refine EditV.stay (w := w1) ⟨d1, i1, cd, ci, ?_, ?_, ?_⟩ ((Fr.refl nob _).alloc _) (NR.nob _)
      · rw [HDN.out, HLN.out]
      · rw [HDN.out]; exact HD1.out
      · rw [HLN.out]; exact HI1.out
    have hsw := HF1.out.size
    clear hc0
    refine forget (fun W => Hid (EdAt W (paint κ w1.heap.size (0, 0)) i e b r k tm um h bl was putv (S.bufd f t l)) ∧ Hid (W.heap[w1.heap.size]? = some (.cells #[.int .i64 f, .slice d1 nd cd, .slice i1 ni ci] 168 (0, 0))) ∧
      Hid (EditV W (.agg #[.int .i64 f, .slice d1 nd cd, .slice i1 ni ci]) f dl l) ∧ Fr (edM w' κ) w' W) ⟨hxw, hxc, hev, hfw⟩ ?_
    clear hxw hxc hev hfw
    rintro W ⟨HXW, HXC, HEV, hfW⟩
    have hκx : paint κ w1.heap.size (0, 0) w1.heap.size = (0, 0) := paint_new _ _ _ _ (Nat.le_refl _)
    have hκo : ∀ y, y < w'.heap.size → paint κ w1.heap.size (0, 0) y = κ y := fun y hy => paint_old _ _ _ _ (by omega)
    generalize paint κ w1.heap.size (0, 0) = κa at *
    have HKX := Lib.hid hκx
    have HKO := Lib.hid hκo
    have hplc := HOK.out.place
    have hli : ∀ V, Fr nob W V → Calls Tryz.prog 94 #[.pointer (some ⟨e, 0, none⟩)] V (Listed V κa i e b r k tm um h bl was putv (S.bufd f t l)) := fun V hV => ed_list V κa i e b r k tm um h bl was putv (S.bufd f t l) (HXW.out.stayN hV (fun _ _ => rfl)) hplc
    have HLI := Lib.hid hli
    have hS33 : ∀ (V : World) (κ2 : Col) (S2 : EdState), EdAt V κ2 i e b r k tm um h bl was putv S2 → V.cell? ⟨e, 33, none⟩ = some (.slice pa pl pc) := fun V κ2 S2 hx => by
      rw [blk_cells hx.blk, HPV.out]
      rfl
    have HS33 := Lib.hid hS33
    have hS0 := hS33 _ _ _ HXW.out
    have hcnt := HOK.out.lst.cnt
    have htn := HR.out
    generalize hE : (total S.lst.1 : Int) = E at *
    have HE := Lib.hid hE
    have hE0 : 0 ≤ E := by omega
    have hwr : IntKind.i64.wrap (E + pl) = E + pl := IntWalk.i64_in _ (by have := HOK.out.room; have := HPN.out; omega)
    have hge : decide (16384 ≤ E + (pl : Int)) = true := decide_eq_true (by omega)
    have HCNT := Lib.hid hcnt
    clear hκx hκo hli hS33 hplc hcnt htn hE
    go_region_held3 (fun V => V.cell? ⟨e, 33, none⟩ = some (.slice pa pl pc))
      ((first | (with_reducible assumption) | (go_keep; done) | exact HS33.out _ _ _ HX2.out))
      (first
        | (go_at_call 94; refine (HLI.out _ (by exact (Fr.refl _ _).drew)).mono ?_; rintro y V2 ⟨ls, κ2, rfl, hx2, hu2, hk2, hf2⟩; have hs33 := HS33.out _ _ _ hx2; have hlr := (hu2.list (EdState.listed_at _)).2; rw [show (S.bufd f t l).lst.2 = E from HCNT.out] at hlr; have HX2 := Lib.hid hx2; have HU2 := Lib.hid hu2; have HK2 := Lib.hid hk2; have HF2 := Lib.hid hf2; have HLR := Lib.hid hlr; clear hx2 hu2 hk2 hf2 hlr)
        | (go_at_call 171; refine (undo_edits _ _ _ _ _ _ _ HLR.out).mono ?_; rintro y V3 ⟨rfl, rfl⟩))
    have hfV : Fr (edM W κa) W V3 := Fr.ofDrew HF2.out
    have hkV : ∀ y, y < W.heap.size → κ2 y = κa y := HK2.out
    have hxk : ¬ edM W κa w1.heap.size := fun h => h.1 HKX.out
    have hxc3 := hfV.keep HXC.out hxk
    have HEV3 := Lib.hid (HEV.out.stay hfV (NR.wr _ _))
    have HFV := Lib.hid hfV
    have HKV := Lib.hid hkV
    have HXC3 := Lib.hid hxc3
    have hplc : 0 ≤ (S.bufd f t l).listed.core.place := HOK.out.place
    have HPLC := Lib.hid hplc
    have hκx3 : κ2 w1.heap.size = (0, 0) := (HK2.out _ (blk_lt HXC.out)).trans HKX.out
    have HKX3 := Lib.hid hκx3
    have hlw := blk_lt HXC.out
    clear hfV hkV hxk hxc3 hplc hκx3 hS0
    go_wp2_with (first
      | (go_at_call 94; refine (ed_list _ κ2 i e b r k tm um h bl was putv (S.bufd f t l).listed HX2.out HPLC.out).mono ?_; rintro y V4 ⟨l4, κ4, rfl, hx4, hu4, hk4, hf4⟩; have hlr := (hu4.list (EdState.listed_at _)).2; have HX4 := Lib.hid hx4; have HU4 := Lib.hid hu4; have HK4 := Lib.hid hk4; have HF4 := Lib.hid hf4; have HLR4 := Lib.hid hlr; clear hx4 hu4 hk4 hf4 hlr)
      | (go_at_call 172; refine (undo_clear _ _ _ _ _ _ _ HLR4.out).mono ?_; rintro y V5 ⟨rfl, hl5, hf5⟩; obtain ⟨hx5, hg5⟩ := EdAt.setList (g := ([], 0)) HX4.out HU4.out HPLC.out hf5 (hl5.mono (fun _ h => .inl h)); have c33 := blk_cells hx5.blk 33; have c10 := blk_cells hx5.blk 10; have z5 := blk_free hx5.blk; have l5 := blk_lt hx5.blk; have HX5 := Lib.hid hx5; have HG5 := Lib.hid hg5; clear hl5 hf5 hx5 hg5))
    have hsz4 : W.heap.size ≤ V3.heap.size := HFV.out.size
    have hsz5 := HF4.out.size
    have hx3 : w1.heap.size < V3.heap.size := blk_lt HXC3.out
    have hk4x : κ4 w1.heap.size = (0, 0) := (HK4.out _ hx3).trans HKX3.out
    have hxe : w1.heap.size ≠ e := fun h0 => by
      have h1 := HX5.out.ce
      rw [← h0, paint_old _ _ _ _ (by omega), hk4x] at h1
      cases h1
    have hk5 : ∀ y, y < w'.heap.size → paint κ4 V4.heap.size (i, 5 + (S.bufd f t l).listed.core.place.toNat) y = κ y := fun y hy => by
      have h1 := hfW.size
      rw [paint_old _ _ _ y (by omega), HK4.out y (by omega), HKV.out y (by omega), HKO.out y hy]
    have hfe : Fr (one e) V5 ((V5.setCell ⟨e, 33, none⟩ (.slice none 0 0)).setCell ⟨e, 10, none⟩ (.bool false)) := ((Fr.refl _ _).setOne _ _).setOne _ _
    have hne : NR V5 (one e) := NR.one HX5.out.blk (by decide)
    have hf3 : Fr (edM w' κ) w' V3 := edM.trans hfW HKO.out HFV.out
    have hk3 : ∀ y, y < w'.heap.size → κ2 y = κ y := fun y hy => (HKV.out y (Nat.lt_of_lt_of_le hy hfW.size)).trans (HKO.out y hy)
    have hf4' : Fr (edM w' κ) w' V4 := edM.trans hf3 hk3 HF4.out
    have hk4 : ∀ y, y < w'.heap.size → κ4 y = κ y := fun y hy => (HK4.out y (Nat.lt_of_lt_of_le hy hf3.size)).trans (hk3 y hy)
    have hf5' : Fr (edM w' κ) w' V5 := edM.trans hf4' hk4 HG5.out
    have hxc4 := HF4.out.keep HXC3.out (fun h => h.1 HKX3.out)
    have hxc5 := HG5.out.keep hxc4 (fun h => h.1 hk4x)
    have hxc6 := hfe.keep hxc5 (fun h => hxe h)
    have hev6 := ((HEV3.out.stay HF4.out (NR.wr _ _)).stay HG5.out (NR.wr _ _)).stay hfe hne
    have hx6 : EdAt ((V5.setCell ⟨e, 33, none⟩ (.slice none 0 0)).setCell ⟨e, 10, none⟩ (.bool false)) (paint κ4 V4.heap.size (i, 5 + (S.bufd f t l).listed.core.place.toNat)) i e b r k tm um h bl was (.slice none 0 0)
        { (S.bufd f t l).listed.setLst ([], 0) with core := { ((S.bufd f t l).listed.setLst ([], 0)).core with run := false }, put := [] } :=
      EdAt.setE HX5.out.ci HX5.out.ce HX5.out.blk hfe (heap_setCell_same (o := 10) (heap_setCell_same (o := 33) HX5.out.blk _) _)
        ⟨HX5.out.core.cb, HX5.out.core.buf, HX5.out.core.cr, HX5.out.core.ring, HX5.out.core.ck, HX5.out.core.walk, HX5.out.core.ct, HX5.out.core.texts, HX5.out.core.cu, HX5.out.core.undos⟩
        ⟨HX5.out.rest.hist, HX5.out.rest.cb, HX5.out.rest.bells, EdS.none _, fun z ⟨_, _, _, h, _⟩ => by cases h⟩ HX5.out.wone HX5.out.inn
    have hf6 : Fr (edM w' κ) w' ((V5.setCell ⟨e, 33, none⟩ (.slice none 0 0)).setCell ⟨e, 10, none⟩ (.bool false)) := edM.trans hf5' hk5 (edM.of hfe hne (fun y _ hy => by cases hy; rw [HX5.out.ce]; decide))
    refine forget (fun X => Hid (EdAt X (paint κ4 V4.heap.size (i, 5 + (S.bufd f t l).listed.core.place.toNat)) i e b r k tm um h bl was (.slice none 0 0) { (S.bufd f t l).listed.setLst ([], 0) with core := { ((S.bufd f t l).listed.setLst ([], 0)).core with run := false }, put := [] }) ∧
      Hid (X.heap[w1.heap.size]? = some (.cells #[.int .i64 f, .slice d1 nd cd, .slice i1 ni ci] 168 (0, 0))) ∧ Hid (EditV X (.agg #[.int .i64 f, .slice d1 nd cd, .slice i1 ni ci]) f dl l) ∧ Hid (Fr (edM w' κ) w' X)) ⟨hx6, hxc6, hev6, hf6⟩ ?_
    have HK5 := Lib.hid hk5
    generalize paint κ4 V4.heap.size (i, 5 + (S.bufd f t l).listed.core.place.toNat) = κ5 at *
    clear hsz4 hsz5 hx3 hk4x hxe hk5 hfe hne hf3 hk3 hf4' hk4 hf5' hxc4 hxc5 hxc6 hev6 hx6 hf6 HF4 HG5 HX4 HU4 HK4 HLR4 HX5 HX2 HU2 HLR HF2 HK2 HXW HEV3 HXC3 HKX3 HFV HKV HXC HEV hfW HKX HKO HLI HS33 c33 c10 z5 l5 hs33
    rintro X ⟨HX6, HXC6, HEV6, HF6⟩
    have c33 : X.cell? ⟨e, 33, none⟩ = some (.slice none 0 0) := by rw [blk_cells HX6.out.blk]; rfl
    have hce3 := blk_free HX6.out.blk
    have hle3 := blk_lt HX6.out.blk
    have hcx3 := blk_cells HXC6.out
    obtain ⟨i0, hi0, hz0, hz1', hz2'⟩ := info_parts Tryz.info_edits
    have HSr : Hid (∀ (V : World) (da2 ia2 : Option Addr) (dc2 ic2 x y : Nat), Src Tryz.prog 3 84 (.slice (some ⟨V.heap.size, 0, none⟩) 1 1) 1 [.int .i64 f, .slice da2 x dc2, .slice ia2 y ic2] (V.alloc (.cells #[.int .i64 f, .slice da2 x dc2, .slice ia2 y ic2] 168)).drew) := fun V da2 ia2 dc2 ic2 x y =>
      ((Sl.ofRow V #[.int .i64 f, .slice da2 x dc2, .slice ia2 y ic2] 168 (by simp [Value.oneCell'])).oldN (Fr.refl nob _).drew).src (P := Tryz.prog) (tx := 84) (by simp) Tryz.underlying84
    have HKP : Hid (∀ V V2 : World, Fr nob X V → Fr (rowOf (.slice none 0 0)) V V2 → (∃ v, V2.cell? ⟨e, 33, none⟩ = some v) ∧ V2.frozen? ⟨e, 33, none⟩ = false ∧ e < V2.heap.size) := fun V V2 h1 h2 => by
      have h3 := h1.keep HX6.out.blk (fun h => h)
      have h4 := h2.keep h3 (fun ⟨_, _, _, h, _⟩ => by cases h)
      exact ⟨⟨_, (blk_cells h4 33).trans rfl⟩, blk_free h4 33, blk_lt h4⟩
    go_region_law (first
      | (refine step_app rfl (.tmp 65) (.tmp 67) 84 84 rfl 168 i0 _ 3 56 Tryz.underlying84 hi0 hz0 hz1' hz2' rfl (by decide) (.slice none 0 0) 0 [] rfl (by exact Own.nil _ _ _) _ 1 _ rfl (by exact HSr.out _ _ _ _ _ _ _) (by unfold maxLen; omega) (by omega) ?_; intro av c2 V9 hown5 hfr5 hrow5; obtain ⟨⟨v33, e33⟩, z33, l33⟩ := HKP.out _ _ ((Fr.refl _ _).alloc _).drew hfr5; have HO5 := Lib.hid hown5; have HF5 := Lib.hid hfr5; have HR5 := Lib.hid hrow5; clear hown5 hfr5 hrow5))
    all_goals go_wp2
    all_goals go_ret
    all_goals
      have hnew : edCells (X.alloc (.cells #[.int .i64 f, .slice d1 nd cd, .slice i1 ni ci] 168)).drew [.int .i64 f, .slice d1 nd cd, .slice i1 ni ci] [((f : Int), dl, l)] :=
        (HEV6.out.stay ((Fr.refl nob X).alloc (.cells #[.int .i64 f, .slice d1 nd cd, .slice i1 ni ci] 168)).drew (NR.nob _)).cells
      obtain ⟨hfin, hff⟩ := EdAt.addPut HX6.out rfl (Own.nil X 168 3) (rfl : edCells X [] []) ((Fr.refl nob X).alloc (.cells #[.int .i64 f, .slice d1 nd cd, .slice i1 ni ci] 168)).drew hnew HO5.out HF5.out HR5.out
      have hS : S.replaced f t l = { { (S.bufd f t l).listed.setLst ([], 0) with core := { ((S.bufd f t l).listed.setLst ([], 0)).core with run := false }, put := [] } with put := [] ++ [((f : Int), dl, l)] } := by
        unfold EdState.replaced
        rw [if_neg (by have := HZ.out; have := HND.out; have := HLN.out; omega), HDL.out]
        have hr : (S.bufd f t l).roomed = { (S.bufd f t l).listed.setLst ([], 0) with core := { ((S.bufd f t l).listed.setLst ([], 0)).core with run := false }, put := [] } := by
          unfold EdState.roomed
          rw [if_pos]
          · have h1 : updU (S.bufd f t l).listed.core.undos (S.bufd f t l).core.place ([], 0) = updU (S.bufd f t l).core.undos (S.bufd f t l).core.place ([], 0) := updU_twice _ _ _ _
            show _ = ({ core := { (S.bufd f t l).core with undos := updU (S.bufd f t l).listed.core.undos (S.bufd f t l).core.place ([], 0), run := false }, f := _, hist := _, base := _, most := _, bells := _, was := _, put := [] } : EdState)
            rw [h1]
            rfl
          · have h1 : (S.bufd f t l).lst.2 = E := HCNT.out
            have h2 : (S.bufd f t l).put.length = pl := HPN.out
            rw [h1, h2]
            have h3 := HR.out
            have h4 := HE.out
            omega
        rw [hr]
      refine ⟨rfl, _, _, by rw [hS]; exact hfin, fun y hy => ?_, ?_⟩
      · rw [paint_old _ _ _ y (Nat.lt_of_lt_of_le hy HF6.out.size), HK5.out y hy]
      · exact edM.trans HF6.out HK5.out hff
end Go.Proofs.YtbhklkolkclflaaGreatDoor
