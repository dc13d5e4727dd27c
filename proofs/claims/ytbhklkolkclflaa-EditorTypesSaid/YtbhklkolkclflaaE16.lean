/- Package editor: Undo, done. -/
import Derived.Test.YtbhklkolkclflaaE15
namespace Go.Proofs.Ytbhklkolkclflaa
open Go.RowKit

/-- The list at the place is changed. -/
theorem EdAt.setList {w1 V : World} {κ1 : Col} {i e b r k tm um h bl l : Nat} {was : Nat → Value} {putv : Value} {S : EdState} {g : List (List EditP) × Int} (x1 : EdAt w1 κ1 i e b r k tm um h bl was putv S.listed) (u1 : UndosL w1 κ1 i um S.listed.core.undos S.core.place l) (hp : 0 ≤ S.core.place)
    (hV : Fr (wr w1 (fun y => κ1 y = (i, 5 + S.core.place.toNat))) w1 V) (hl : ListRep V (plus w1 (fun y => κ1 y = (i, 5 + S.core.place.toNat))) l g.1 [] 0 g.2) :
    EdAt V (paint κ1 w1.heap.size (i, 5 + S.core.place.toNat)) i e b r k tm um h bl was putv (S.setLst g) ∧ Fr (edM w1 κ1) w1 V := by
  have hu2 := u1.set (g := g) hp x1.core.cu hV hl
  have hci := x1.ci
  have hnr : NR w1 (wr w1 (fun y => κ1 y = (i, 5 + S.core.place.toNat))) := NR.wr _ _
  have hm4 : ∀ y, wr w1 (fun y => κ1 y = (i, 5 + S.core.place.toNat)) y → y < w1.heap.size → ∃ j, κ1 y = (i, 4 + j) := fun y hy _ => ⟨1 + S.core.place.toNat, by rw [hy.1]; congr 1; omega⟩
  have hmi : ∀ y, wr w1 (fun y => κ1 y = (i, 5 + S.core.place.toNat)) y → y < w1.heap.size → (κ1 y).1 = i := fun y hy _ => by rw [hy.1]
  have hpo := paint_old κ1 w1.heap.size (i, 5 + S.core.place.toNat)
  have hx2 := x1.setCore hV hnr hmi hpo (x1.core.setUndos hV hnr hm4 hpo hu2.at) rfl
  rw [show updU S.listed.core.undos S.core.place g = updU S.core.undos S.core.place g from updU_twice _ _ _ _] at hx2
  exact ⟨hx2, hV.wr (fun y _ hy => by rw [show κ1 y = _ from hy.1]; intro h0; injection h0 with h0 _; omega) hnr⟩

theorem EdsOk.flushed {S : EdState} (h : EdsOk S) (on : Bool) : EdsOk (S.flushed on) := by
  unfold EdState.flushed
  split
  · exact h
  · rename_i hne
    have hl := h.lst.flush (on := on) h.put h.room hne
    refine ⟨fun p g hp => ?_, fun e he => absurd he (by simp), ?_, h.place⟩
    · have hp' : updU S.core.undos S.core.place (flushG on S.lst S.put) p = some g := hp
      unfold updU at hp'
      split at hp'
      · injection hp' with hp'
        rw [← hp']
        exact hl
      · exact h.lists p g hp'
    · have h1 : EdState.lst { S.setLst (flushG on S.lst S.put) with put := [] } = flushG on S.lst S.put := EdState.lst_of (if_pos rfl)
      rw [h1]
      have := hl.le
      simpa using this

/-- Another line. -/
def EdState.lined (S : EdState) (s : LineS) : EdState := { S with core := { S.core with text := s.text, point := s.point, mark := s.mark } }
def EdState.line (S : EdState) : LineS := ⟨S.core.text, S.core.point, S.core.mark⟩
/-- The last group is taken back. -/
def EdState.undone (S : EdState) (pre : List (List EditP)) (g : List EditP) : EdState :=
  let S2 := (S.setLst (pre, (total pre : Nat))).lined (S.line.edits (g.reverse.map inv))
  { S2 with core := { S2.core with run := false }, f := { S2.f with whole := false } }

theorem FitAll.at {es : List EditP} : ∀ {L : List Int} (k : Nat) (hk : k < es.length), FitAll L es → FitsE (doAll L (es.take k)) es[k] := by
  induction es with
  | nil => intro L k hk; simp at hk
  | cons e es ih =>
    intro L k hk h
    cases k with
    | zero => exact h.1
    | succ k => exact ih k (by simpa using hk) h.2

/-- An edit is done to the editor's line. -/
theorem EdAt.applied {w w1 : World} {κ : Col} {i e b r k tm um h bl : Nat} {was : Nat → Value} {putv : Value} {S : EdState} {s : LineS} {f : Nat} {d ins : List Int} {x : Ending} (x0 : EdAt w κ i e b r k tm um h bl was putv (S.lined s)) (ha : Applied w b s.text s.point s.mark f d ins x w1) :
    x = .returned (.int .i64 0) ∧ EdAt w1 κ i e b r k tm um h bl was putv (S.lined (s.edit ((f : Int), d, ins))) ∧ Fr (one b) w w1 := by
  obtain ⟨h1, h2, h3⟩ := ha
  refine ⟨h1, ?_, h3⟩
  exact x0.setCore h3 x0.core.buf.nr (fun y hy _ => by cases hy; rw [x0.core.cb]) (fun _ _ => rfl) (x0.core.setBuf h3 (fun _ _ => rfl) h2) rfl
theorem undone_end {w w1 V : World} {κ κ1 : Col} {i e b r k tm um h bl : Nat} {was : Nat → Value} {putv : Value} {S : EdState} {pre : List (List EditP)} {g : List EditP} (hf : Fr (edM w κ) w V) (hk : ∀ y, y < w.heap.size → κ1 y = κ y)
    (x : EdAt V κ1 i e b r k tm um h bl was putv ((S.setLst (pre, (total pre : Nat))).lined (S.line.edits (g.reverse.map inv)))) (hw : w1 = (V.setCell ⟨e, 32, none⟩ (.bool false)).setCell ⟨e, 10, none⟩ (.bool false)) :
    EdStep w κ i e b r k tm um h bl was (S.undone pre g) 0 (.returned (.int .i64 0)) w1 := by
  subst hw
  have hfe : Fr (one e) V ((V.setCell ⟨e, 32, none⟩ (.bool false)).setCell ⟨e, 10, none⟩ (.bool false)) := ((Fr.refl _ _).setOne _ _).setOne _ _
  have hb := heap_setCell_same (o := 10) (heap_setCell_same (o := 32) x.blk (.bool false)) (.bool false)
  refine ⟨rfl, κ1, putv, EdAt.setE x.ci x.ce x.blk hfe (S' := S.undone pre g) hb ⟨x.core.cb, x.core.buf, x.core.cr, x.core.ring, x.core.ck, x.core.walk, x.core.ct, x.core.texts, x.core.cu, x.core.undos⟩ ⟨x.rest.hist, x.rest.cb, x.rest.bells, x.rest.put, x.rest.mp⟩ x.wone x.inn, hk, ?_⟩
  exact edM.trans hf hk (edM.of hfe (NR.one x.blk (by decide)) (fun y _ hy => by cases hy; rw [x.ce]; decide))

set_option maxRecDepth 10000 in
set_option maxHeartbeats 2000000 in
theorem ed_undo_ok (w : World) (κ : Col) (i e b r k tm um h bl : Nat) (was : Nat → Value) (putv : Value) (S : EdState) (x : EdAt w κ i e b r k tm um h bl was putv S) (hok : EdsOk S) (hin : S.f.inn = true) (pre : List (List EditP)) (g : List EditP) (hg : (S.flushed false).lst.1 = pre ++ [g])
    (hfit : FitAll S.core.text (g.reverse.map inv)) :
    Calls Try.prog 15 #[.pointer (some ⟨e, 0, none⟩)] w (EdStep w κ i e b r k tm um h bl was ((S.flushed false).undone pre g) 0) := by
  have hpt := ed_part w e b r k um S.core h bl S.f was putv x.blk
  rw [if_pos hin] at hpt
  have HPT := Lib.hid hpt
  have HFL := Lib.hid (ed_flush w κ i e b r k tm um h bl was putv S false x hok (fun h => by cases h))
  have hok1 := hok.flushed false
  have hln : (S.flushed false).line = S.line := by unfold EdState.flushed; split <;> rfl
  have htx : (S.flushed false).core.text = S.core.text := by unfold EdState.flushed; split <;> rfl
  rw [← htx] at hfit
  generalize hS1 : S.flushed false = S1 at *
  have HS1 := Lib.hid hS1
  have HOK := Lib.hid hok1
  have HG := Lib.hid hg
  have HFT := Lib.hid hfit
  have hgs : Small g := hok1.lst.small g (by rw [hg]; simp)
  have hcnt := hok1.lst.cnt
  rw [hg, total_append, total_one] at hcnt
  have hle := hok1.lst.le
  rw [hg, total_append, total_one] at hle
  have hpl : (pre ++ [g]).length ≤ 100000 := by rw [← hg]; exact hok1.lst.smalls.1
  have HGS := Lib.hid hgs
  have HCNT := Lib.hid hcnt
  have HLE := Lib.hid hle
  have HPL := Lib.hid hpl
  clear x hok hin hpt hok1 hln htx hS1 hfit hg hgs hcnt hle hpl
  go_enter Try.func15, Try.ntmps15
  go_wp2_with (first
    | (go_at_call 25; refine (HPT.out).mono ?_; rintro y w' ⟨rfl, rfl⟩)
    | (go_at_call 27; refine (HFL.out).mono ?_; rintro y w1 ⟨rfl, κ1, putv1, hx1, hk1, hf1⟩; rw [HS1.out] at hx1; have HX1 := Lib.hid hx1; have HK1 := Lib.hid hk1; have HF1 := Lib.hid hf1; clear hx1 hk1 hf1)
    | (go_at_call 33; refine (ed_list _ κ1 i e b r k tm um h bl was putv1 S1 HX1.out HOK.out.place).mono ?_; rintro y w2 ⟨ls, κ2, rfl, hx2, hu2, hk2, hf2⟩; have hlr := (hu2.list S1.listed_at).2; rw [HG.out] at hlr; have HX2 := Lib.hid hx2; have HU2 := Lib.hid hu2; have HK2 := Lib.hid hk2; have HF2 := Lib.hid hf2; have HLR := Lib.hid hlr; clear hx2 hu2 hk2 hf2 hlr)
    | (go_at_call 34; refine (undo_undo _ _ _ _ [] 0 _ pre g HLR.out rfl HGS.out HPL.out (by simp) (by rw [HCNT.out]; omega) (by have := HLE.out; rw [HCNT.out]; omega)).mono ?_; rintro y w3 ⟨at', ct, rfl, he3, hr3, hl3, hf3⟩; have HE3 := Lib.hid he3; have HL3 := Lib.hid hl3; have HF3 := Lib.hid hf3; clear he3 hr3 hl3 hf3))
  have hgl : (g.reverse.map inv).length = g.length := by rw [List.length_map, List.length_reverse]
  have hsub : S1.lst.2 - (g.length : Nat) = (total pre : Nat) := by rw [HCNT.out]; omega
  have hl3 := HL3.out
  rw [hsub] at hl3
  obtain ⟨hx3, hf3⟩ := HX2.out.setList (g := (pre, (total pre : Nat))) HU2.out HOK.out.place HF3.out hl3
  have hk3 : ∀ y, y < w'.heap.size → paint κ2 w2.heap.size (i, 5 + S1.core.place.toNat) y = κ y := fun y hy => by
    have h1 := HF1.out.size
    have h2 := HF2.out.size
    rw [paint_old _ _ _ y (by omega), HK2.out y (by omega), HK1.out y hy]
  have hfr3 : Fr (edM w' κ) w' w3 := edM.trans (edM.trans HF1.out HK1.out HF2.out) (fun y hy => by
    have h1 := HF1.out.size
    rw [HK2.out y (by omega), HK1.out y hy]) hf3
  generalize paint κ2 w2.heap.size (i, 5 + S1.core.place.toNat) = κ3 at *
  have hfall := HFT.out
  have hsm3 : ∀ x ∈ g.reverse.map inv, 0 ≤ x.1 := fun x hx => by
    obtain ⟨y, hy, rfl⟩ := List.mem_map.1 hx
    exact (HOK.out.lst.ok g (by rw [HG.out]; simp) y (by simpa using hy)).1
  generalize hes : g.reverse.map inv = es at *
  have HES := Lib.hid hes
  generalize hgn : g.length = gn at *
  have HGN := Lib.hid hgn
  have HGL := Lib.hid hgl
  have HK3 := Lib.hid hk3
  have HFA := Lib.hid hfall
  have HS3 := Lib.hid hsm3
  have HX3 := Lib.hid hx3
  have HFR3 := Lib.hid hfr3
  have hgI : gn ≤ 16384 := by have := HLE.out; omega
  have hgI2 : (gn : Int) ≤ 16384 := by omega
  clear hes hgn hgl hsub hl3 hx3 hf3 hk3 hfr3 hfall hsm3
  go_loopw [7, 26] (fun _ ki V => ∃ kk : Nat, kk ≤ gn ∧ ki = .int .i64 kk ∧ Hid (EdAt V κ3 i e b r k tm um h bl was putv1 ((S1.setLst (pre, (total pre : Nat))).lined (S1.line.edits (es.take kk)))) ∧ Hid (EdS V (.slice at' gn ct) es) ∧ Hid (Fr (edM w' κ) w' V)) (fun _ ki _ => gn - (intOf ki).toNat)
  case atStart => exact ⟨0, Nat.zero_le _, rfl, HX3.out, HE3.out, HFR3.out⟩
  case round =>
    obtain ⟨kk, hk, rfl, HXV, HEV, HFV⟩ := hrel
    by_cases hkt : kk < gn
    · have hke : kk < es.length := by have := HGL.out; omega
      obtain ⟨hgx, xs, hs1, hs2⟩ := HEV.out.sl
      clear hgx
      obtain ⟨gg, off, d, cd, ii, ci, rfl, c0, c1, c3, hE⟩ := edit_at hs1 hs2 kk hke
      have hf0 := HS3.out _ (List.getElem_mem hke)
      have hft := FitAll.at kk hke HFA.out
      have htk : es.take (kk + 1) = es.take kk ++ [es[kk]] := by rw [List.take_succ_eq_append_getElem hke]
      have HT := Lib.hid htk
      generalize hp : es[kk] = p at *
      obtain ⟨f, ds, is⟩ := p
      simp only at c0 c1 c3 hE hf0
      obtain ⟨fn, rfl⟩ := Int.eq_ofNat_of_zero_le hf0
      obtain ⟨ht0, ht1, ht2, ht3⟩ := hft
      simp only [Int.toNat_natCast] at ht1 ht2 ht3
      have htext : ((S1.setLst (pre, (total pre : Nat))).lined (S1.line.edits (es.take kk))).core.text = doAll S1.core.text (es.take kk) := LineS.edits_text _ _
      rw [← htext] at ht1 ht2 ht3
      obtain ⟨d', i', cd', ci', hv, ho1, ho2⟩ := hE
      injection hv with hv
      simp only [Array.mk.injEq, List.cons.injEq, true_and, and_true] at hv
      obtain ⟨hv1, hv2⟩ := hv
      injection hv1 with hv1 _ hv3
      injection hv2 with hv2 _ hv4
      subst hv1 hv2 hv3 hv4
      have hap := fun (V : World) (hV : Fr nob wr V) => buf_apply_ok V b _ _ _ fn ds is d ii cd ci ((HXV.out.core.buf).stayN hV) (ho1.sl.oldN hV) (ho2.sl.oldN hV) ht1 ht2 (by rw [Nat.add_comm] at *; omega)
      have HAP := Lib.hid hap
      have hcb : wr.cell? ⟨e, 0, none⟩ = some (.pointer (some ⟨b, 0, none⟩)) := by rw [blk_cells HXV.out.blk]; rfl
      have hcb3 : ∀ o : Obj, (wr.alloc o).cell? ⟨e, 0, none⟩ = some (.pointer (some ⟨b, 0, none⟩)) := fun o => by rw [blk_cells (((Fr.refl nob wr).alloc o).keep HXV.out.blk (fun h => h))]; rfl
      have hle := HXV.out.lt
      generalize hx : ds.length = nd at *
      generalize hy : is.length = ni at *
      have HXL := Lib.hid hx
      have HYL := Lib.hid hy
      clear htk hp hx hy hs1 hs2 ht0 ht1 ht2 ht3 htext ho1 ho2 hap hf0
      go_wp2
      have hxw := heap_alloc_new wr (.cells #[.int .i64 fn, .slice d nd cd, .slice ii ni ci] 82)
      refine forget (fun W => Hid (W.heap[wr.heap.size]? = some (.cells #[.int .i64 fn, .slice d nd cd, .slice ii ni ci] 82 (0, 0))) ∧ Fr nob wr W) ⟨hxw, (Fr.refl _ _).alloc _⟩ ?_
      clear hxw hcb hcb3 hle
      rintro W ⟨HXW, hfW⟩
      have hcx := blk_cells HXW.out
      have hcb : W.cell? ⟨e, 0, none⟩ = some (.pointer (some ⟨b, 0, none⟩)) := by
        rw [blk_cells (hfW.keep HXV.out.blk (fun h => h))]
        rfl
      go_still_tail 6, (by kernel_rfl)
      go_wp2_with fail
      refine (HAP.out _ (by first | exact hfW.drew | exact hfW)).mono ?_
      rintro y V3 ha
      obtain ⟨rfl, hx4, hf4⟩ := EdAt.applied (HXV.out.stayN hfW.drew (fun _ _ => rfl)) ha
      have HX4 := Lib.hid hx4
      have HF4 := Lib.hid hf4
      clear ha hx4 hf4 hcb hcx
      go_wp2
      go_roundw
      case rel =>
        refine ⟨kk + 1, by omega, by go_num, ?_, ?_, ?_⟩
        · show EdAt _ _ _ _ _ _ _ _ _ _ _ _ _ (EdState.lined _ (LineS.edits _ _))
          rw [HT.out]
          have := HX4.out
          unfold LineS.edits
          rw [List.foldl_append]
          exact this
        · exact (HEV.out.stayN hfW.drew).stay HF4.out (HXV.out.core.buf.stayN hfW.drew).nr (fun y hy hM => by
            have h1 := HEV.out.stayN hfW.drew
            obtain ⟨cb, hcb2⟩ := (HXV.out.core.buf.stayN hfW.drew).blk
            exact h1.rowNe hy hcb2 (by decide) hM)
        · exact (HFV.out.then hfW.drew).trans HF4.out (fun y hy hM => by
            cases hM
            have h1 := HXV.out.core.cb
            have h2 := HK3.out b hy
            refine ⟨?_, fun c fr h => ?_⟩
            · show κ b ≠ (0, 0)
              rw [← h2, h1]
              intro h0
              injection h0 with h0 _
              have := HXV.out.ci
              omega
            · exact (HXV.out.core.buf.nr) b c fr (HFV.out.keep h (fun hx => hx.2 c fr h)) rfl)
      case measure => simp [intOf]; omega
    · have hq : kk = gn := by omega
      subst hq
      have hcv := HXV.out.blk
      have hz := blk_free hcv
      have hlt := blk_lt hcv
      have hc32 : ∃ v, wr.cell? ⟨e, 32, none⟩ = some v := ⟨_, (blk_cells hcv 32).trans rfl⟩
      have hc10 : ∃ v, wr.cell? ⟨e, 10, none⟩ = some v := ⟨_, (blk_cells hcv 10).trans rfl⟩
      obtain ⟨v32, hc32⟩ := hc32
      obtain ⟨v10, hc10⟩ := hc10
      have hxv := HXV.out
      rw [List.take_of_length_le (by have := HGL.out; omega), ← HES.out] at hxv
      have HX9 := Lib.hid hxv
      clear hcv hxv
      go_wp2
      go_ret
      exact undone_end HFV.out HK3.out HX9.out rfl
end Go.Proofs.Ytbhklkolkclflaa
