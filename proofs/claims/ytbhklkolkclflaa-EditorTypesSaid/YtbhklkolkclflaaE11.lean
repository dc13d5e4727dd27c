/- Package editor: flush, not typed on. -/
import Derived.Test.YtbhklkolkclflaaE10
namespace Go.Proofs.Ytbhklkolkclflaa
open Go.RowKit

/-- What flush leaves. -/
def Flushed (w : World) (κ : Col) (i e b r k tm um h bl : Nat) (was : Nat → Value) (S : EdState) (on : Bool) (x : Ending) (w' : World) : Prop :=
  x = .returned (.tuple #[]) ∧ ∃ κ' putv', EdAt w' κ' i e b r k tm um h bl was putv' (S.flushed on) ∧ (∀ y, y < w.heap.size → κ' y = κ y) ∧ Fr (edM w κ) w w'

theorem updU_twice (u : Int → Option (List (List EditP) × Int)) (p : Int) (a b : List (List EditP) × Int) : updU (updU u p a) p b = updU u p b := by
  funext q
  unfold updU
  split <;> rfl

theorem flush_end {w w1 V : World} {κ κ1 : Col} {i e b r k tm um h bl l : Nat} {was : Nat → Value} {putv : Value} {S : EdState} {on : Bool} {N : Int} (x1 : EdAt w1 κ1 i e b r k tm um h bl was putv S.listed) (u1 : UndosL w1 κ1 i um S.listed.core.undos S.core.place l)
    (hk1 : ∀ y, y < w.heap.size → κ1 y = κ y) (f1 : Fr (edM w κ) w w1) (hok : EdsOk S) (hp : S.put ≠ []) (hV : Fr (wr w1 (fun y => κ1 y = (i, 5 + S.core.place.toNat))) w1 V)
    (hl : ListRep V (plus w1 (fun y => κ1 y = (i, 5 + S.core.place.toNat))) l (preG on S.lst.1 ++ [oldG on S.lst.1 ++ S.put]) [] 0 N) (hN : N = S.lst.2 + S.put.length) :
    Flushed w κ i e b r k tm um h bl was S on (.returned (.tuple #[])) (V.setCell ⟨e, 33, none⟩ (.slice none 0 0)) := by
  subst hN
  have hg : flushG on S.lst S.put = (preG on S.lst.1 ++ [oldG on S.lst.1 ++ S.put], S.lst.2 + S.put.length) := flushG_eq on S.lst S.put
  have hu2 := u1.set (g := flushG on S.lst S.put) hok.place x1.core.cu hV (by rw [hg]; exact hl)
  have hci := x1.ci
  have hnr : NR w1 (wr w1 (fun y => κ1 y = (i, 5 + S.core.place.toNat))) := NR.wr _ _
  have hm4 : ∀ y, wr w1 (fun y => κ1 y = (i, 5 + S.core.place.toNat)) y → y < w1.heap.size → ∃ j, κ1 y = (i, 4 + j) := fun y hy _ => ⟨1 + S.core.place.toNat, by rw [hy.1]; congr 1; omega⟩
  have hmi : ∀ y, wr w1 (fun y => κ1 y = (i, 5 + S.core.place.toNat)) y → y < w1.heap.size → (κ1 y).1 = i := fun y hy _ => by rw [hy.1]
  have hpo := paint_old κ1 w1.heap.size (i, 5 + S.core.place.toNat)
  have hx2 := x1.setCore hV hnr hmi hpo (x1.core.setUndos hV hnr hm4 hpo hu2.at) rfl
  generalize paint κ1 w1.heap.size (i, 5 + S.core.place.toNat) = κ2 at *
  rw [show updU S.listed.core.undos S.core.place (flushG on S.lst S.put) = updU S.core.undos S.core.place (flushG on S.lst S.put) from updU_twice _ _ _ _] at hx2
  have hS : S.flushed on = { S with core := { S.core with undos := updU S.core.undos S.core.place (flushG on S.lst S.put) }, put := [] } := by
    unfold EdState.flushed
    rw [if_neg hp]
    rfl
  have hblk := heap_setCell_same (o := 33) hx2.blk (.slice none 0 0)
  have hfe : Fr (one e) V (V.setCell ⟨e, 33, none⟩ (.slice none 0 0)) := (Fr.refl _ _).setOne _ _
  have hke : κ2 e ≠ (0, 0) := by rw [hx2.ce]; decide
  have hf2 : Fr (edM w1 κ1) w1 V := hV.wr (fun y _ hy => by rw [show κ1 y = _ from hy.1]; intro h0; injection h0 with h0 _; omega) hnr
  have hk2 : ∀ y, y < w.heap.size → κ2 y = κ y := fun y hy => (hpo y (Nat.lt_of_lt_of_le hy f1.size)).trans (hk1 y hy)
  refine ⟨rfl, κ2, .slice none 0 0, ?_, hk2, ?_⟩
  · rw [hS]
    refine EdAt.setE hci hx2.ce hx2.blk hfe ?_ hx2.core ⟨hx2.rest.hist, hx2.rest.cb, hx2.rest.bells, EdS.none _, fun y ⟨_, _, _, h, _⟩ => by cases h⟩ hx2.wone hx2.inn
    exact hblk
  · have h3 : Fr (edM V κ2) V (V.setCell ⟨e, 33, none⟩ (.slice none 0 0)) := edM.of hfe (NR.one hx2.blk (by decide)) (fun y _ hy => by cases hy; exact hke)
    exact edM.trans (edM.trans f1 hk1 hf2) hk2 h3

set_option maxRecDepth 10000 in
set_option maxHeartbeats 1000000 in
theorem ed_flush_nil (w : World) (κ : Col) (i e b r k tm um h bl : Nat) (was : Nat → Value) (putv : Value) (S : EdState) (on : Bool) (x : EdAt w κ i e b r k tm um h bl was putv S) (hp : S.put = []) :
    Calls Try.prog 27 #[.pointer (some ⟨e, 0, none⟩), .bool on] w (Flushed w κ i e b r k tm um h bl was S on) := by
  obtain ⟨a, c, hpv, _⟩ := x.rest.put.val
  rw [hp] at hpv
  have hc : w.cell? ⟨e, 33, none⟩ = some (.slice a 0 c) := by rw [blk_cells x.blk, hpv]; rfl
  have HX := Lib.hid x
  have HP := Lib.hid hp
  clear x hp hpv
  go_enter Try.func27, Try.ntmps27
  go_wp2
  refine bodyPost_ret (results_none rfl _ _ _) rfl ⟨rfl, κ, putv, ?_, fun _ _ => rfl, edM.nob (Fr.refl _ _)⟩
  unfold EdState.flushed
  rw [if_pos HP.out]
  exact HX.out

set_option maxRecDepth 10000 in
set_option maxHeartbeats 2000000 in
theorem ed_flush_off (w : World) (κ : Col) (i e b r k tm um h bl : Nat) (was : Nat → Value) (putv : Value) (S : EdState) (x : EdAt w κ i e b r k tm um h bl was putv S) (hp : S.put ≠ []) (hok : EdsOk S) :
    Calls Try.prog 27 #[.pointer (some ⟨e, 0, none⟩), .bool false] w (Flushed w κ i e b r k tm um h bl was S false) := by
  obtain ⟨a, c, hpv, _⟩ := x.rest.put.val
  have hc : w.cell? ⟨e, 33, none⟩ = some (.slice a S.put.length c) := by rw [blk_cells x.blk, hpv]; rfl
  have hpos : 0 < S.put.length := List.length_pos_iff.2 hp
  have HL := Lib.hid (ed_list w κ i e b r k tm um h bl was putv S x hok.place)
  have HOK := Lib.hid hok
  have HP := Lib.hid hp
  have hn1 : ((S.put.length : Int) == 0) = false := by rw [beq_eq_false_iff_ne]; omega
  have HPV := Lib.hid hpv
  generalize hpl : S.put.length = pl at *
  have HPL := Lib.hid hpl
  clear x hp hpv hok hpl
  go_enter Try.func27, Try.ntmps27
  go_wp2_with (first
    | (go_at_call 33; refine (HL.out).mono ?_; rintro y w1 ⟨l, κ1, rfl, hx1, hu1, hk1, hf1⟩; have HX1 := Lib.hid hx1; have HU1 := Lib.hid hu1; have HK1 := Lib.hid hk1; have HF1 := Lib.hid hf1; clear hx1 hu1 hk1 hf1))
  have hci1 := HX1.out.ci
  have hll := (HU1.out.list S.listed_at).2
  rw [HOK.out.lst.cnt] at hll
  have hs0 : FlSt w1 (fun y => κ1 y = (i, 5 + S.core.place.toNat)) l w1.heap.size (.slice none 0 0) [] S.lst.1 (total S.lst.1) 0 none (fun y => κ1 y = (i, 5 + S.core.place.toNat) ∧ y < w1.heap.size) 0 (w1.alloc (.cells #[.slice none 0 0] 67)) :=
    ⟨hll.within.stayN ((Fr.refl nob w1).alloc _), fun y hy => by have := hy.2; simp; omega, fun y hy => .inl hy.1, (Fr.refl _ _).alloc _, heap_alloc_new _ _, fun h => by have := h.2; omega, Nat.le_refl _, EdS.none _, fun y ⟨_, _, _, h, _⟩ => (by cases h), fun o ho => (by cases ho)⟩
  have HS0 := Lib.hid hs0
  clear hll hs0
  have HOL := Lib.hid (show ([] : List EditP).length ≤ 16384 from by simp)
  have HSUM := Lib.hid (show ([] : List EditP).length + pl + total (S.lst.1) ≤ 16384 from by have := HOK.out.room; have := HPL.out; simp; omega)
  have HGL := Lib.hid (show (S.lst.1).length ≤ 100000 from HOK.out.lst.smalls.1)
  have HTOT := Lib.hid (show total (S.lst.1) + ([] : List EditP).length = total S.lst.1 from by simp)
  have HALL0 := Lib.hid (show ∀ x ∈ ([] : List EditP) ++ S.put, EdOk x from fun x hx => HOK.out.put x (by simpa using hx))
  go_wp2_with (first
    | (go_at_call 55; refine (undo_begin _ _ l _ _ _ _ HS0.out.lst (by decide)).mono ?_; rintro y V1 ⟨rfl, hl1, hf1⟩; have HS1 := Lib.hid (HS0.out.call (show ListRep V1 _ l S.lst.1 [] 1 _ from hl1) hf1); clear hl1 hf1))
  have hcb := blk_cells HS1.out.box
  have HF0 := Lib.hid (HS1.out.fr)
  have hnE : ¬ wr w1 (fun y => κ1 y = (i, 5 + S.core.place.toNat)) e := fun hy => by
    have h1 : κ1 e = (i, 5 + S.core.place.toNat) := hy.1
    rw [HX1.out.ce] at h1
    injection h1 with h1 _
    omega
  have he33 : V1.cell? ⟨e, 33, none⟩ = some (.slice a pl c) := by
    rw [blk_cells (HF0.out.keep HX1.out.blk hnE), HPV.out]
    rfl
  have hputs : EdS V1 (.slice a pl c) S.put := by
    have h1 : EdS w1 putv S.put := HX1.out.rest.put
    have h2 := h1.stay HF0.out (NR.wr _ _) (fun y hy hM => by
      have h3 := HX1.out.rest.mp y hy
      have h4 : κ1 y = (i, 5 + S.core.place.toNat) := hM.1
      rw [h3] at h4
      injection h4 with h4 _
      omega)
    rwa [HPV.out] at h2
  obtain ⟨⟨xo, hxo1, hxo2⟩, _⟩ := HS1.out.old
  obtain ⟨hpn, xp, hxp1, hxp2⟩ := hputs.sl
  have HPN := Lib.hid hpn
  have HXO := Lib.hid hxo1
  have HXE := Lib.hid hxo2
  have HXP := Lib.hid hxp1
  have HXQ := Lib.hid hxp2
  have hput4 : S.put.length ≤ 16384 := Nat.le_trans (Nat.le_add_left _ _) HOK.out.room
  have hold4 : ([] : List EditP).length ≤ 16384 := HOL.out
  have hpl4 : pl ≤ 16384 := by have := HPL.out; omega
  have b1 : ([] : List EditP).length + pl ≤ maxLen := by unfold maxLen; omega
  have b2 : (([] : List EditP).length + pl) * 56 ≤ 140737488355328 := by omega
  have HB1 := Lib.hid b1
  have HB2 := Lib.hid b2
  obtain ⟨i0, hi0, hz0, hz1, hz2⟩ := info_parts Try.info_edits
  have hnE2 := Lib.hid hnE
  clear hputs hpn hxo1 hxo2 hxp1 hxp2 hput4 hold4 b1 b2 hnE
  have HKP : Hid (∀ V V2 : World, Fr nob V1 V → Fr (rowOf (.slice none 0 0)) V V2 → V2.cell? ⟨w1.heap.size, 0, none⟩ = some (.slice none 0 0) ∧ V2.cell? ⟨e, 33, none⟩ = some (.slice a pl c)) := fun V V2 h1 h2 => by
    have ho := HXO.out.stay h1 (fun _ _ _ _ h => h)
    have h3 := h1.keep HS1.out.box (fun h => h)
    have h4 := h1.keep (HF0.out.keep HX1.out.blk hnE2.out) (fun h => h)
    have h5 := blk_cells (h2.keep h3 (fun hr => ho.rowNe hr h3 (by decide) rfl))
    have h6 := blk_cells (h2.keep h4 (fun hr => ho.rowNe hr h4 (by decide) rfl))
    exact ⟨by rw [h5]; rfl, by rw [h6, HPV.out]; rfl⟩
  go_region_held3 (fun V => V.cell? ⟨w1.heap.size, 0, none⟩ = some (.slice none 0 0) ∧ V.cell? ⟨e, 33, none⟩ = some (.slice a pl c))
    ((first | (with_reducible assumption) | (go_keep; done)))
    ((refine step_app rfl (.tmp 27) (.tmp 31) 67 67 rfl 82 i0 _ 3 56 Try.underlying67 hi0 hz0 hz1 hz2 rfl (by decide) _ ([] : List EditP).length xo rfl (by exact HXO.out.stay (Fr.refl nob V1).drew (fun _ _ _ _ h => h)) _ pl xp rfl (by exact (HXP.out.oldN (Fr.refl nob V1).drew).src (P := Try.prog) (tx := 67) (by simp) Try.underlying67) HB1.out HB2.out ?_; intro av c2 V2 hown2 hfr2 hrow2; have hkp2 := HKP.out _ _ (Fr.refl nob V1).drew hfr2; have HO2 := Lib.hid hown2; have HFR2 := Lib.hid hfr2; have HRW2 := Lib.hid hrow2; clear hown2 hfr2 hrow2))
  have hlp := HS1.out.app (put := S.put) HXE.out HXQ.out (by rw [HPL.out]; exact HO2.out) HP.out (Fr.ofDrew HFR2.out) HRW2.out HXO.out
  have hml : (([] : List EditP) ++ S.put).length = ([] : List EditP).length + pl := by rw [List.length_append, HPL.out]
  have hmp : 0 < ([] : List EditP).length + pl := by omega
  have hmx : ([] : List EditP).length + pl + total (S.lst.1) ≤ 16384 := HSUM.out
  have hmm : ([] : List EditP).length + pl = pl := Nat.zero_add pl
  rw [hmm] at hlp hml hmp hmx
  rw [hmm]
  have HLP := Lib.hid hlp
  have HML := Lib.hid hml
  have HMM := Lib.hid hmm
  have hmI : (pl : Int) ≤ 16384 := by omega
  have HMX := Lib.hid hmx
  have HALL := Lib.hid (show ∀ x ∈ ([] : List EditP) ++ S.put, EdOk x from HALL0.out)
  generalize hes : ([] : List EditP) ++ S.put = es at *
  have HES := Lib.hid hes
  clear hkp2 HO2 HFR2 HRW2 HKP hlp hml hmm hmx hes he33 hcb HXO HXE HXP HXQ HS1 HS0 HB1 HB2 hpl4
  go_wp2
  go_loopw [8, 34] (fun _ ki V => ∃ (kk : Nat) (F : Nat → Prop), kk ≤ pl ∧ ki = .int .i64 kk ∧ Hid (FlLp w1 (fun y => κ1 y = (i, 5 + S.core.place.toNat)) l (.slice av pl c2) es (S.lst.1) ((total (S.lst.1) + kk : Nat) : Int) 0 none F kk V)) (fun _ ki _ => pl - (intOf ki).toNat)
  case atStart => exact ⟨0, _, Nat.zero_le _, rfl, (HLP.out.quiet (by first | exact Fr.refl _ _ | exact (Fr.refl nob V2).drew | exact (Fr.refl nob V2).drewN _))⟩
  case round =>
    obtain ⟨kk, F, hk, rfl, HF⟩ := hrel
    by_cases hkt : kk < pl
    · have hke : kk < es.length := by have := HML.out; omega
      obtain ⟨hmn, xs, hs1, hs2⟩ := HF.out.tmp.sl
      obtain ⟨g, off, d, cd, ii, ci, rfl, c0, c1, c3, hE⟩ := edit_at hs1 hs2 kk hke
      have hsm := HALL.out _ (List.getElem_mem hke)
      have htk : es.take (kk + 1) = es.take kk ++ [es[kk]] := by rw [List.take_succ_eq_append_getElem hke]
      have HT := Lib.hid htk
      generalize hp : es[kk] = p at *
      obtain ⟨f, ds, is⟩ := p
      simp only at c0 c1 c3 hE
      have HE := Lib.hid hE
      have HSM := Lib.hid hsm
      generalize hx : ds.length = nd at *
      generalize hy : is.length = ni at *
      have HX := Lib.hid hx
      have HY := Lib.hid hy
      have htl : (es.take kk).length ≤ 100000 := by
        have := HML.out
        have := HMX.out
        rw [List.length_take]
        omega
      have HTL := Lib.hid htl
      clear hE hsm htk hp hx hy hmn hs1 hs2 htl
      go_wp2_with fail
      refine (undo_add _ _ l _ _ (total (S.lst.1) + kk) _ f ds is (HF.out.lst.stayN ((Fr.refl _ _).alloc _)) (HE.out.stay ((Fr.refl _ _).alloc _) (NR.nob _)) HSM.out.1 (Nat.le_trans HSM.out.2.1 (by omega)) (Nat.le_trans HSM.out.2.2.1 (by omega)) HSM.out.2.2.2 (by have := HMX.out; omega) HTL.out).mono ?_
      rintro y V3 ⟨rfl, hl3, hf3⟩
      have HL3 := Lib.hid hl3
      have HF3 := Lib.hid hf3
      clear hl3 hf3
      go_wp2
      go_roundw
      case rel =>
        have h9 := HL3.out
        rw [show ((total (S.lst.1) + kk : Nat) : Int) + 1 = ((total (S.lst.1) + (kk + 1) : Nat) : Int) by omega, ← HT.out] at h9
        exact ⟨kk + 1, fun y => plus _ F y ∧ y < _, by omega, by go_num, FlLp.call (HF.out.quiet ((Fr.refl nob _).alloc _)) h9 HF3.out⟩
      case measure => simp [intOf]; omega
    · have hq : kk = pl := by omega
      subst hq
      have hfin : es.take kk = es := List.take_of_length_le (by have := HML.out; omega)
      have hlst := HF.out.lst
      rw [hfin] at hlst
      have hgl : (S.lst.1).length ≤ 100000 := HGL.out
      have HE4 := Lib.hid (undo_end _ _ l (S.lst.1) es 1 _ hlst hgl rfl)
      have HF9 := HF.out.f0
      have HF8 := Lib.hid HF9
      have HFR9 := Lib.hid HF.out.fr
      clear hlst hfin hgl HF HF9
      go_wp2_with fail
      refine (HE4.out).mono ?_
      rintro y V4 ⟨rfl, hl4, hf4⟩
      have hfr4 := wrSub HFR9.out hf4 HF8.out
      have hb4 := hfr4.keep HX1.out.blk hnE2.out
      have hz4 := blk_free hb4
      have hlt4 := blk_lt hb4
      have hc4 : V4.cell? ⟨e, 33, none⟩ = some putv := by
        rw [blk_cells hb4]
        rfl
      have HL4 := Lib.hid hl4
      have HFR4 := Lib.hid hfr4
      clear hl4 hf4 hfr4 hb4
      go_wp2
      refine bodyPost_end (results_none rfl _ _ _) rfl ?_
      have hcl : closed (S.lst.1) es = (S.lst.1) ++ [es] := by
        unfold closed
        rw [if_neg (by have := HML.out; omega)]
      have hl9 := HL4.out
      rw [hcl] at hl9
      have hs9 : w1.heap.size ≤ wr.heap.size := HFR9.out.size
      have hl10 := hl9.mono (G := plus w1 (fun y => κ1 y = (i, 5 + S.core.place.toNat))) (fun y hy => hy.elim (fun h => HF8.out y h) (fun h => .inr (by omega)))
      rw [← HES.out] at hl10
      exact flush_end HX1.out HU1.out HK1.out HF1.out HOK.out HP.out HFR4.out hl10 (by rw [HOK.out.lst.cnt]; have := HMM.out; have := HPL.out; have := HTOT.out; omega)
end Go.Proofs.Ytbhklkolkclflaa
