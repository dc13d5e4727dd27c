/- Package editor: Undo, whatever the list holds; Undo and Revert of nothing. -/
import Derived.Test.YtbhklkolkclflaaGreatDoorE32
namespace Go.Proofs.YtbhklkolkclflaaGreatDoor
open Go.RowKit

/-- An edit is tried: done, if it fits. -/
def AppliedAny (w : World) (b : Nat) (L : List Int) (p m : Int) (f : Nat) (del ins : List Int) (e : Ending) (w' : World) : Prop :=
  ∃ c L' p' m', e = .returned (.int .i64 c) ∧ BufRep w' b L' p' m' ∧ Fr (one b) w w' ∧ (FitsE L ((f : Int), del, ins) → L' = L.take f ++ ins ++ L.drop (f + del.length) ∧ p' = newPoint p f (f + del.length) ins.length ∧ m' = newMark m f (f + del.length) ins.length)
theorem buf_apply_any (w : World) (b : Nat) (L : List Int) (p m : Int) (f : Nat) (del ins : List Int) (d i : Option Addr) (cd ci : Nat) (h : BufRep w b L p m) (hd : Sl w 1 d del.length cd (runes del)) (hi : Sl w 1 i ins.length ci (runes ins)) :
    Calls Tryz.prog 96 #[.pointer (some ⟨b, 0, none⟩), .agg #[.int .i64 f, .slice d del.length cd, .slice i ins.length ci]] w (AppliedAny w b L p m f del ins) := by
  have hno : ∀ {e : Ending} {w' : World}, ¬ FitsE L ((f : Int), del, ins) → ApplyNo w b L p m e w' → AppliedAny w b L p m f del ins e w' := fun {e w'} hn ⟨c, _, h1, h2, h3⟩ => ⟨c, _, _, _, h1, h2, nobOne h3, fun hf => absurd hf hn⟩
  by_cases h1 : f ≤ L.length
  · by_cases h2 : f + del.length ≤ L.length
    · by_cases h3 : (L.drop f).take del.length = del
      · by_cases h4 : ins.length + (L.length - del.length) ≤ 1024
        · exact (buf_apply_ok w b L p m f del ins d i cd ci h hd hi h2 h3 h4).mono fun _ _ ⟨g1, g2, g3⟩ => ⟨0, _, _, _, g1, g2, g3, fun _ => ⟨rfl, rfl, rfl⟩⟩
        · exact (buf_apply_long w b L p m f del ins d i cd ci h hd h2 h3 (by omega)).mono fun _ _ g => hno (fun hf => h4 hf.2.2.2) g
      · exact (buf_apply_mis w b L p m f del ins d i cd ci h hd h2 h3).mono fun _ _ g => hno (fun hf => h3 (by have := hf.2.2.1; simpa using this)) g
    · exact (buf_apply_short w b L p m f del.length ins.length d i cd ci h h1 (by omega)).mono fun _ _ g => hno (fun hf => h2 (by have := hf.2.1; simpa using this)) g
  · exact (buf_apply_place w b L p m f del.length ins.length d i cd ci h (by omega)).mono fun _ _ g => hno (fun hf => h1 (by have := hf.2.1; simp at this; omega)) g
theorem EdAt.appliedAny {w w1 : World} {κ : Col} {i e b r k tm um h bl : Nat} {was : Nat → Value} {putv : Value} {S : EdState} {s : LineS} {f : Nat} {d ins : List Int} {x : Ending} (x0 : EdAt w κ i e b r k tm um h bl was putv (S.lined s)) (ha : AppliedAny w b s.text s.point s.mark f d ins x w1) :
    ∃ c s', x = .returned (.int .i64 c) ∧ (FitsE s.text ((f : Int), d, ins) → s' = s.edit ((f : Int), d, ins)) ∧ EdAt w1 κ i e b r k tm um h bl was putv (S.lined s') ∧ Fr (one b) w w1 := by
  obtain ⟨c, L', p', m', h1, h2, h3, h4⟩ := ha
  refine ⟨c, ⟨L', p', m'⟩, h1, fun hf => ?_, ?_, h3⟩
  · obtain ⟨rfl, rfl, rfl⟩ := h4 hf
    rfl
  · exact x0.setCore h3 x0.core.buf.nr (fun y hy _ => by cases hy; rw [x0.core.cb]) (fun _ _ => rfl) (x0.core.setBuf h3 (fun _ _ => rfl) h2) rfl

/-- The last group is let go, the line is another. -/
def EdState.undoneTo (S : EdState) (pre : List (List EditP)) (s : LineS) : EdState :=
  let S2 := (S.setLst (pre, (total pre : Nat))).lined s
  { S2 with core := { S2.core with run := false }, f := { S2.f with whole := false } }
def UndoTo (w : World) (κ : Col) (i e b r k tm um h bl : Nat) (was : Nat → Value) (S : EdState) (pre : List (List EditP)) (g : List EditP) (x : Ending) (w' : World) : Prop :=
  ∃ s, EdStep w κ i e b r k tm um h bl was (S.undoneTo pre s) 0 x w' ∧ (FitAll S.core.text (g.reverse.map inv) → s = S.line.edits (g.reverse.map inv))
theorem undoneTo_end {w w1 V : World} {κ κ1 : Col} {i e b r k tm um h bl : Nat} {was : Nat → Value} {putv : Value} {S : EdState} {pre : List (List EditP)} {g : List EditP} {s : LineS} (hf : Fr (edM w κ) w V) (hk : ∀ y, y < w.heap.size → κ1 y = κ y)
    (x : EdAt V κ1 i e b r k tm um h bl was putv ((S.setLst (pre, (total pre : Nat))).lined s)) (hs : FitAll S.core.text (g.reverse.map inv) → s = S.line.edits (g.reverse.map inv)) (hw : w1 = (V.setCell ⟨e, 32, none⟩ (.bool false)).setCell ⟨e, 10, none⟩ (.bool false)) :
    UndoTo w κ i e b r k tm um h bl was S pre g (.returned (.int .i64 0)) w1 := by
  subst hw
  have hfe : Fr (one e) V ((V.setCell ⟨e, 32, none⟩ (.bool false)).setCell ⟨e, 10, none⟩ (.bool false)) := ((Fr.refl _ _).setOne _ _).setOne _ _
  have hb := heap_setCell_same (o := 10) (heap_setCell_same (o := 32) x.blk (.bool false)) (.bool false)
  refine ⟨s, ⟨rfl, κ1, putv, EdAt.setE x.ci x.ce x.blk hfe (S' := S.undoneTo pre s) hb ⟨x.core.cb, x.core.buf, x.core.cr, x.core.ring, x.core.ck, x.core.walk, x.core.ct, x.core.texts, x.core.cu, x.core.undos⟩ ⟨x.rest.hist, x.rest.cb, x.rest.bells, x.rest.put, x.rest.mp⟩ x.wone x.inn, hk, ?_⟩, hs⟩
  exact edM.trans hf hk (edM.of hfe (NR.one x.blk (by decide)) (fun y _ hy => by cases hy; rw [x.ce]; decide))

set_option maxRecDepth 10000 in
set_option maxHeartbeats 2000000 in
theorem ed_undo_some (w : World) (κ : Col) (i e b r k tm um h bl : Nat) (was : Nat → Value) (putv : Value) (S : EdState) (x : EdAt w κ i e b r k tm um h bl was putv S) (hok : EdsOk S) (hin : S.f.inn = true) (pre : List (List EditP)) (g : List EditP) (hg : (S.flushed false).lst.1 = pre ++ [g])
    :
    Calls Tryz.prog 28 #[.pointer (some ⟨e, 0, none⟩)] w (UndoTo w κ i e b r k tm um h bl was (S.flushed false) pre g) := by
  have hpt := ed_part w e b r k um S.core h bl S.f was putv x.blk
  rw [if_pos hin] at hpt
  have HPT := Lib.hid hpt
  have HFL := Lib.hid (ed_flush w κ i e b r k tm um h bl was putv S false x hok (fun h => by cases h))
  have hok1 := hok.flushed false
  generalize hS1 : S.flushed false = S1 at *
  have HS1 := Lib.hid hS1
  have HOK := Lib.hid hok1
  have HG := Lib.hid hg
  have hgs : Small g := hok1.lst.small g (by rw [hg]; simp)
  have hcnt := hok1.lst.cnt
  rw [hg, total_append, total_one] at hcnt
  have hle := hok1.lst.le
  rw [hg, total_append, total_one] at hle
  have hpl : (pre ++ [g]).length ≤ 100000 := by rw [← hg]; exact hok1.lst.smalls.1
  have HGS := Lib.hid hgs
  have HCNT := Lib.hid hcnt
  have HLE := Lib.hid hle
  have HPL := Lib.hid hpl
  clear x hok hin hpt hok1 hS1 hg hgs hcnt hle hpl
  go_enter Tryz.func28, Tryz.ntmps28
  go_wp2_with (first
    | (go_at_call 88; refine (HPT.out).mono ?_; rintro y w' ⟨rfl, rfl⟩)
    | (go_at_call 90; refine (HFL.out).mono ?_; rintro y w1 ⟨rfl, κ1, putv1, hx1, hk1, hf1⟩; rw [HS1.out] at hx1; have HX1 := Lib.hid hx1; have HK1 := Lib.hid hk1; have HF1 := Lib.hid hf1; clear hx1 hk1 hf1)
    | (go_at_call 94; refine (ed_list _ κ1 i e b r k tm um h bl was putv1 S1 HX1.out HOK.out.place).mono ?_; rintro y w2 ⟨ls, κ2, rfl, hx2, hu2, hk2, hf2⟩; have hlr := (hu2.list S1.listed_at).2; rw [HG.out] at hlr; have HX2 := Lib.hid hx2; have HU2 := Lib.hid hu2; have HK2 := Lib.hid hk2; have HF2 := Lib.hid hf2; have HLR := Lib.hid hlr; clear hx2 hu2 hk2 hf2 hlr)
    | (go_at_call 95; refine (undo_undo _ _ _ _ [] 0 _ pre g HLR.out rfl HGS.out HPL.out (by simp) (by rw [HCNT.out]; omega) (by have := HLE.out; rw [HCNT.out]; omega)).mono ?_; rintro y w3 ⟨at', ct, rfl, he3, hr3, hl3, hf3⟩; have HE3 := Lib.hid he3; have HL3 := Lib.hid hl3; have HF3 := Lib.hid hf3; clear he3 hr3 hl3 hf3))
  have hgl : (g.reverse.map inv).length = g.length := by rw [List.length_map, List.length_reverse]
  have hsub : S1.lst.2 - (g.length : Nat) = (total pre : Nat) := by rw [HCNT.out]; omega
  have hl3 := HL3.out
  rw [hsub] at hl3
  obtain ⟨hx3, hf3⟩ := HX2.out.setList (g := (pre, (total pre : Nat))) HU2.out HOK.out.place HF3.out hl3
  have hk3 : ∀ y, y < w'.heap.size → paint κ2 w2.heap.size (i, 5 + S1.core.place.toNat) y = κ y := fun y hy => by
    have h1 := HF1.out.size
    have h2 := HF2.out.size
    rw [paint_old _ _ _ y (by omega), HK2.out y (by omega), HK1.out y hy]
  have hfr3 : Fr (edM w' κ) w' w3 := edM.trans (edM.trans HF1.out HK1.out HF2.out) (fun y hy => by
    have h1 := HF1.out.size
    rw [HK2.out y (by omega), HK1.out y hy]) hf3
  generalize paint κ2 w2.heap.size (i, 5 + S1.core.place.toNat) = κ3 at *
  have hsm3 : ∀ x ∈ g.reverse.map inv, 0 ≤ x.1 := fun x hx => by
    obtain ⟨y, hy, rfl⟩ := List.mem_map.1 hx
    exact (HOK.out.lst.ok g (by rw [HG.out]; simp) y (by simpa using hy)).1
  generalize hes : g.reverse.map inv = es at *
  have HES := Lib.hid hes
  generalize hgn : g.length = gn at *
  have HGN := Lib.hid hgn
  have HGL := Lib.hid hgl
  have HK3 := Lib.hid hk3
  have HS3 := Lib.hid hsm3
  have HX3 := Lib.hid hx3
  have HFR3 := Lib.hid hfr3
  have hgI : gn ≤ 16384 := by have := HLE.out; omega
  have hgI2 : (gn : Int) ≤ 16384 := by omega
  clear hes hgn hgl hsub hl3 hx3 hf3 hk3 hfr3 hsm3
  go_loopw [7, 26] (fun _ ki V => ∃ kk : Nat, ∃ s : LineS, kk ≤ gn ∧ ki = .int .i64 kk ∧ Hid (FitAll S1.core.text es → s = S1.line.edits (es.take kk)) ∧ Hid (EdAt V κ3 i e b r k tm um h bl was putv1 ((S1.setLst (pre, (total pre : Nat))).lined s)) ∧ Hid (EdS V (.slice at' gn ct) es) ∧ Hid (Fr (edM w' κ) w' V)) (fun _ ki _ => gn - (intOf ki).toNat)
  case atStart => exact ⟨0, _, Nat.zero_le _, rfl, fun _ => rfl, HX3.out, HE3.out, HFR3.out⟩
  case round =>
    obtain ⟨kk, s, hk, rfl, HSV, HXV, HEV, HFV⟩ := hrel
    by_cases hkt : kk < gn
    · have hke : kk < es.length := by have := HGL.out; omega
      obtain ⟨hgx, xs, hs1, hs2⟩ := HEV.out.sl
      clear hgx
      obtain ⟨gg, off, d, cd, ii, ci, rfl, c0, c1, c3, hE⟩ := edit_at hs1 hs2 kk hke
      have hf0 := HS3.out _ (List.getElem_mem hke)
      have hft : FitAll S1.core.text es → FitsE s.text es[kk] := fun hfa => by
        have h0 := FitAll.at kk hke hfa
        rw [HSV.out hfa]
        show FitsE (S1.line.edits (es.take kk)).text es[kk]
        rw [LineS.edits_text]
        exact h0
      have htk : es.take (kk + 1) = es.take kk ++ [es[kk]] := by rw [List.take_succ_eq_append_getElem hke]
      have HT := Lib.hid htk
      generalize hp : es[kk] = p at *
      obtain ⟨f, ds, is⟩ := p
      simp only at c0 c1 c3 hE hf0
      obtain ⟨fn, rfl⟩ := Int.eq_ofNat_of_zero_le hf0
      have HFT := Lib.hid hft
      obtain ⟨d', i', cd', ci', hv, ho1, ho2⟩ := hE
      injection hv with hv
      simp only [Array.mk.injEq, List.cons.injEq, true_and, and_true] at hv
      obtain ⟨hv1, hv2⟩ := hv
      injection hv1 with hv1 _ hv3
      injection hv2 with hv2 _ hv4
      subst hv1 hv2 hv3 hv4
      have hap := fun (V : World) (hV : Fr nob wr V) => buf_apply_any V b _ _ _ fn ds is d ii cd ci ((HXV.out.core.buf).stayN hV) (ho1.sl.oldN hV) (ho2.sl.oldN hV)
      have HAP := Lib.hid hap
      have hcb : wr.cell? ⟨e, 0, none⟩ = some (.pointer (some ⟨b, 0, none⟩)) := by rw [blk_cells HXV.out.blk]; rfl
      have hcb3 : ∀ o : Obj, (wr.alloc o).cell? ⟨e, 0, none⟩ = some (.pointer (some ⟨b, 0, none⟩)) := fun o => by rw [blk_cells (((Fr.refl nob wr).alloc o).keep HXV.out.blk (fun h => h))]; rfl
      have hle := HXV.out.lt
      generalize hx : ds.length = nd at *
      generalize hy : is.length = ni at *
      have HXL := Lib.hid hx
      have HYL := Lib.hid hy
      clear htk hp hx hy hs1 hs2 ho1 ho2 hap hf0 hft
      go_wp2
      have hxw := heap_alloc_new wr (.cells #[.int .i64 fn, .slice d nd cd, .slice ii ni ci] 168)
      refine forget (fun W => Hid (W.heap[wr.heap.size]? = some (.cells #[.int .i64 fn, .slice d nd cd, .slice ii ni ci] 168 (0, 0))) ∧ Fr nob wr W) ⟨hxw, (Fr.refl _ _).alloc _⟩ ?_
      clear hxw hcb hcb3 hle
      rintro W ⟨HXW, hfW⟩
      have hcx := blk_cells HXW.out
      have hcb : W.cell? ⟨e, 0, none⟩ = some (.pointer (some ⟨b, 0, none⟩)) := by
        rw [blk_cells (hfW.keep HXV.out.blk (fun h => h))]
        rfl
      go_still_tail 6, (by kernel_rfl)
      go_wp2_with fail
      refine (HAP.out _ (by first | exact hfW.drew | exact hfW)).mono ?_
      rintro y V3 ha
      obtain ⟨cc, s4, rfl, hs4, hx4, hf4⟩ := EdAt.appliedAny (HXV.out.stayN hfW.drew (fun _ _ => rfl)) ha
      have HS4 := Lib.hid hs4
      have HX4 := Lib.hid hx4
      have HF4 := Lib.hid hf4
      clear ha hx4 hf4 hcb hcx hs4
      go_wp2
      go_roundw
      case rel =>
        refine ⟨kk + 1, s4, by omega, by go_num, fun hfa => ?_, HX4.out, ?_, ?_⟩
        · have h1 : FitsE s.text ((fn : Int), ds, is) := HFT.out hfa
          rw [HS4.out h1, HSV.out hfa, HT.out]
          unfold LineS.edits
          rw [List.foldl_append]
          rfl
        · exact (HEV.out.stayN hfW.drew).stay HF4.out (HXV.out.core.buf.stayN hfW.drew).nr (fun y hy hM => by
            have h1 := HEV.out.stayN hfW.drew
            obtain ⟨cb, hcb2⟩ := (HXV.out.core.buf.stayN hfW.drew).blk
            exact h1.rowNe hy hcb2 (by decide) hM)
        · exact (HFV.out.then hfW.drew).trans HF4.out (fun y hy hM => by
            cases hM
            have h1 := HXV.out.core.cb
            have h2 := HK3.out b hy
            refine ⟨?_, fun c fr h => ?_⟩
            · show κ b ≠ (0, 0)
              rw [← h2, h1]
              intro h0
              injection h0 with h0 _
              have := HXV.out.ci
              omega
            · exact (HXV.out.core.buf.nr) b c fr (HFV.out.keep h (fun hx => hx.2 c fr h)) rfl)
      case measure => simp [intOf]; omega
    · have hq : kk = gn := by omega
      subst hq
      have hcv := HXV.out.blk
      have hz := blk_free hcv
      have hlt := blk_lt hcv
      have hc32 : ∃ v, wr.cell? ⟨e, 32, none⟩ = some v := ⟨_, (blk_cells hcv 32).trans rfl⟩
      have hc10 : ∃ v, wr.cell? ⟨e, 10, none⟩ = some v := ⟨_, (blk_cells hcv 10).trans rfl⟩
      obtain ⟨v32, hc32⟩ := hc32
      obtain ⟨v10, hc10⟩ := hc10
      have hxv := HXV.out
      have hsv := HSV.out
      rw [List.take_of_length_le (by have := HGL.out; omega)] at hsv
      have HSS := Lib.hid hsv
      have HX9 := Lib.hid hxv
      clear hcv hxv hsv
      go_wp2
      go_ret
      exact undoneTo_end HFV.out HK3.out HX9.out (by rw [HES.out]; exact HSS.out) rfl

set_option maxRecDepth 10000 in
theorem ed_undo_none (w : World) (κ : Col) (i e b r k tm um h bl : Nat) (was : Nat → Value) (putv : Value) (S : EdState) (x : EdAt w κ i e b r k tm um h bl was putv S) (hok : EdsOk S) (hin : S.f.inn = true) (hg : (S.flushed false).lst.1 = []) :
    Calls Tryz.prog 28 #[.pointer (some ⟨e, 0, none⟩)] w (EdStep w κ i e b r k tm um h bl was (S.flushed false).listed 6) := by
  have hpt := ed_part w e b r k um S.core h bl S.f was putv x.blk
  rw [if_pos hin] at hpt
  have HPT := Lib.hid hpt
  have HFL := Lib.hid (ed_flush w κ i e b r k tm um h bl was putv S false x hok (fun h => by cases h))
  have hok1 := hok.flushed false
  generalize hS1 : S.flushed false = S1 at *
  have HS1 := Lib.hid hS1
  have HOK := Lib.hid hok1
  have HG := Lib.hid hg
  clear x hok hin hpt hok1 hS1 hg
  go_enter Tryz.func28, Tryz.ntmps28
  go_wp2_with (first
    | (go_at_call 88; refine (HPT.out).mono ?_; rintro y w' ⟨rfl, rfl⟩)
    | (go_at_call 90; refine (HFL.out).mono ?_; rintro y w1 ⟨rfl, κ1, putv1, hx1, hk1, hf1⟩; rw [HS1.out] at hx1; have HX1 := Lib.hid hx1; have HK1 := Lib.hid hk1; have HF1 := Lib.hid hf1; clear hx1 hk1 hf1)
    | (go_at_call 94; refine (ed_list _ κ1 i e b r k tm um h bl was putv1 S1 HX1.out HOK.out.place).mono ?_; rintro y w2 ⟨ls, κ2, rfl, hx2, hu2, hk2, hf2⟩; have hlr := (hu2.list S1.listed_at).2; rw [HG.out] at hlr; have HX2 := Lib.hid hx2; have HK2 := Lib.hid hk2; have HF2 := Lib.hid hf2; have HLR := Lib.hid hlr; clear hx2 hu2 hk2 hf2 hlr)
    | (go_at_call 95; refine (undo_undo_none _ _ _ _ _ HLR.out).mono ?_; rintro y w3 ⟨rfl, q, rfl⟩))
  go_ret
  refine ⟨rfl, κ2, putv1, HX2.out.stayN ((Fr.refl _ _).drewN _) (fun _ _ => rfl), fun y hy => ?_, ?_⟩
  · rw [HK2.out y (Nat.lt_of_lt_of_le hy HF1.out.size), HK1.out y hy]
  · exact (edM.trans HF1.out HK1.out HF2.out).drewN _
set_option maxRecDepth 10000 in
theorem ed_revert_none (w : World) (κ : Col) (i e b r k tm um h bl : Nat) (was : Nat → Value) (putv : Value) (S : EdState) (x : EdAt w κ i e b r k tm um h bl was putv S) (hok : EdsOk S) (hin : S.f.inn = true) (hg : (S.flushed false).lst.1 = []) :
    Calls Tryz.prog 29 #[.pointer (some ⟨e, 0, none⟩)] w (EdStep w κ i e b r k tm um h bl was (S.flushed false).listed 6) := by
  have hpt := ed_part w e b r k um S.core h bl S.f was putv x.blk
  rw [if_pos hin] at hpt
  have HPT := Lib.hid hpt
  have HFL := Lib.hid (ed_flush w κ i e b r k tm um h bl was putv S false x hok (fun h => by cases h))
  have hok1 := hok.flushed false
  generalize hS1 : S.flushed false = S1 at *
  have HS1 := Lib.hid hS1
  have HOK := Lib.hid hok1
  have HG := Lib.hid hg
  clear x hok hin hpt hok1 hS1 hg
  go_enter Tryz.func29, Tryz.ntmps29
  go_wp2_with (first
    | (go_at_call 88; refine (HPT.out).mono ?_; rintro y w' ⟨rfl, rfl⟩)
    | (go_at_call 90; refine (HFL.out).mono ?_; rintro y w1 ⟨rfl, κ1, putv1, hx1, hk1, hf1⟩; rw [HS1.out] at hx1; have HX1 := Lib.hid hx1; have HK1 := Lib.hid hk1; have HF1 := Lib.hid hf1; clear hx1 hk1 hf1)
    | (go_at_call 94; refine (ed_list _ κ1 i e b r k tm um h bl was putv1 S1 HX1.out HOK.out.place).mono ?_; rintro y w2 ⟨ls, κ2, rfl, hx2, hu2, hk2, hf2⟩; have hlr := (hu2.list S1.listed_at).2; rw [HG.out] at hlr; have HX2 := Lib.hid hx2; have HK2 := Lib.hid hk2; have HF2 := Lib.hid hf2; have HLR := Lib.hid hlr; clear hx2 hu2 hk2 hf2 hlr)
    | (go_at_call 97; refine (undo_len _ _ _ _ _ _ _ HLR.out (by simp)).mono ?_; rintro y w3 ⟨rfl, q, rfl⟩))
  go_ret
  refine ⟨rfl, κ2, putv1, HX2.out.stayN ((Fr.refl _ _).drewN _) (fun _ _ => rfl), fun y hy => ?_, ?_⟩
  · rw [HK2.out y (Nat.lt_of_lt_of_le hy HF1.out.size), HK1.out y hy]
  · exact (edM.trans HF1.out HK1.out HF2.out).drewN _
end Go.Proofs.YtbhklkolkclflaaGreatDoor
