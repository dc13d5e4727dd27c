/- Package editor: Type, Move, Line. -/
import Derived.Test.YtbhklkolkclflaaE14
namespace Go.Proofs.Ytbhklkolkclflaa
open Go.RowKit

/-- Where what is typed ends. -/
def EdState.typeTo (S : EdState) (n : Nat) : Nat := if S.core.over = true then min (S.core.point.toNat + n) S.core.text.length else S.core.point.toNat
def EdState.classed (S : EdState) : EdState := if S.f.cls = 0 then { S with f := { S.f with cls := 3 } } else S
def EdState.typed (S : EdState) (l : List Int) : EdState := (S.replaced S.core.point.toNat (S.typeTo l.length) l).classed
theorem EdState.replaced_f (S : EdState) (f t : Nat) (l : List Int) : (S.replaced f t l).f = S.f := by
  unfold EdState.replaced EdState.roomed
  split
  · rfl
  · split <;> rfl

theorem EdAt.classed {w w' : World} {κ : Col} {i e b r k tm um h bl : Nat} {was : Nat → Value} {putv : Value} {S : EdState} (x : EdAt w κ i e b r k tm um h bl was putv S) (h0 : S.f.cls = 0) (hw : w' = w.setCell ⟨e, 28, none⟩ (.int .i64 3)) :
    EdAt w' κ i e b r k tm um h bl was putv S.classed ∧ Fr (edM w κ) w w' := by
  subst hw
  have hf : Fr (one e) w (w.setCell ⟨e, 28, none⟩ (.int .i64 3)) := (Fr.refl _ _).setOne _ _
  have hS : S.classed = { S with f := { S.f with cls := 3 } } := by unfold EdState.classed; rw [if_pos h0]
  rw [hS]
  refine ⟨EdAt.setE x.ci x.ce x.blk hf (heap_setCell_same (o := 28) x.blk _) x.core ⟨x.rest.hist, x.rest.cb, x.rest.bells, x.rest.put, x.rest.mp⟩ x.wone x.inn, edM.of hf (NR.one x.blk (by decide)) (fun y _ hy => by cases hy; rw [x.ce]; decide)⟩

set_option maxRecDepth 10000 in
set_option maxHeartbeats 2000000 in
theorem ed_type_room (w : World) (κ : Col) (i e b r k tm um h bl : Nat) (was : Nat → Value) (putv : Value) (S : EdState) (x : EdAt w κ i e b r k tm um h bl was putv S) (hok : EdsOk S) (hin : S.f.inn = true) (l : List Int) (al : Option Addr) (cl : Nat)
    (hl : Sl w 1 al l.length cl (runes l)) (hll : l.length ≤ 1024) (hlen : l.length + (S.core.text.length - (S.typeTo l.length - S.core.point.toNat)) ≤ 1024) (hroom : total S.lst.1 + S.put.length < 16384) (hover : S.core.over = false) :
    Calls Try.prog 10 #[.pointer (some ⟨e, 0, none⟩), .slice al l.length cl] w (EdStep w κ i e b r k tm um h bl was (S.typed l) 0) := by
  have hpt := ed_part w e b r k um S.core h bl S.f was putv x.blk
  rw [if_pos hin] at hpt
  have HPT := Lib.hid hpt
  have hbf := x.core.buf
  have hbd : 0 ≤ S.core.point ∧ S.core.point ≤ S.core.text.length ∧ S.core.text.length ≤ 1024 := by
    obtain ⟨_, _, _, _, _, _, _, _, _, _, _, _, h1, h2, h3, _⟩ := hbf
    exact ⟨h2, h3, h1⟩
  obtain ⟨p, hp⟩ := Int.eq_ofNat_of_zero_le hbd.1
  have htn : S.core.point.toNat = p := by rw [hp]; rfl
  have HX := Lib.hid x
  have hov : w.cell? ⟨e, 5, none⟩ = some (.bool S.core.over) := by rw [blk_cells x.blk]; rfl
  have hc0 : w.cell? ⟨e, 0, none⟩ = some (.pointer (some ⟨b, 0, none⟩)) := by rw [blk_cells x.blk]; rfl
  have hpn := fun (V : World) (hV : Fr nob w V) => buf_point V b _ _ _ (hbf.stayN hV)
  simp only [hp] at hpn
  have HPN := Lib.hid hpn
  have htp : S.core.point.toNat ≤ S.typeTo l.length ∧ S.typeTo l.length ≤ S.core.text.length := by
    unfold EdState.typeTo
    have := hbd.2.1
    split <;> omega
  have hrep := fun (V : World) (hV : Fr nob w V) => ed_replace_room V κ i e b r k tm um h bl was putv S (x.stayN hV (fun _ _ => rfl)) hok hin S.core.point.toNat (S.typeTo l.length) l al cl (hl.oldN hV) htp.1 htp.2 hlen hroom
  have HREP := Lib.hid hrep
  have hbl : S.core.text.length ≤ 1024 := hbd.2.2
  have hpl : p ≤ S.core.text.length := by have := hbd.2.1; omega
  have HTN := Lib.hid htn
  have HTY := Lib.hid (show S.typeTo l.length = if S.core.over = true then min (p + l.length) S.core.text.length else p from by unfold EdState.typeTo; rw [htn])
  clear x hok hin hpt hl hbf hbd hp htn hpn htp hrep hlen hroom
  have HTD := Lib.hid (show ∀ S' : EdState, S' = S.replaced S.core.point.toNat (S.typeTo l.length) l → S.typed l = S'.classed from fun S' h => by rw [h]; rfl)
  generalize hcx : S.typed l = ST at *
  clear hcx
  generalize hrx : S.replaced S.core.point.toNat (S.typeTo l.length) l = SR at *
  have HRX := Lib.hid hrx.symm
  have HSF := Lib.hid (show SR.f = S.f from by rw [← hrx, EdState.replaced_f])
  clear hrx
  generalize hn : S.core.text.length = n at *
  generalize hm : l.length = m at *
  have HSN := Lib.hid hn
  clear hn hm
  rw [hover] at hov
  have hty := HTY.out
  rw [hover] at hty
  have HO := Lib.hid hover
  clear hover HTY
  cases hcl : decide (S.f.cls = 0)
  all_goals have HC := Lib.hid hcl
  all_goals have hcb : (S.f.cls == 0) = decide (S.f.cls = 0) := rfl
  all_goals rw [hcl] at hcb
  all_goals clear hcl
  · have HT2 := Lib.hid (show S.typeTo m = p from hty)
    clear hty
    go_enter Try.func10, Try.ntmps10
    go_wp2_with (first
      | (go_at_call 25; refine (HPT.out).mono ?_; rintro y w' ⟨rfl, rfl⟩)
      | (go_at_call 28; refine (HPN.out _ (by first | exact Fr.refl nob _ | exact (Fr.refl nob _).drewN _)).mono ?_; rintro y w' ⟨rfl, rfl⟩)
      | (go_at_call 30; (have hq := HREP.out _ (by first | exact Fr.refl nob _ | exact (Fr.refl nob _).drewN _)); (rw [HTN.out, HT2.out] at hq); refine hq.mono ?_; clear hq; rintro y w2 ⟨rfl, κ2, putv2, hx2, hk2, hf2⟩; have d28 := (blk_cells hx2.blk 28).trans (show _ = some (Value.int .i64 S.f.cls) by (rw [← HSF.out]; rfl)); have z28 := blk_free hx2.blk 28; have l28 := blk_lt hx2.blk; have HX2 := Lib.hid hx2; have HK2 := Lib.hid hk2; have HF2 := Lib.hid hf2; clear hx2 hk2 hf2))
    all_goals go_ret
    all_goals first
      | (have hcl0 : SR.f.cls = 0 := by (rw [HSF.out]; exact (of_decide_eq_true HC.out))
         obtain ⟨h5, h6⟩ := EdAt.classed HX2.out hcl0 rfl
         rw [HTD.out SR rfl]
         exact ⟨rfl, κ2, putv2, h5, HK2.out, edM.trans (w := w') (w1 := w2) (by first | exact HF2.out | exact Fr.ofDrewN HF2.out) HK2.out h6⟩)
      | (have hcl0 : SR.classed = SR := by (unfold EdState.classed; rw [if_neg (by rw [HSF.out]; exact (of_decide_eq_false HC.out))])
         rw [HTD.out SR rfl, hcl0]
         exact ⟨rfl, κ2, putv2, HX2.out, HK2.out, (by first | exact HF2.out | exact Fr.ofDrewN HF2.out)⟩)
  · have HT2 := Lib.hid (show S.typeTo m = p from hty)
    clear hty
    go_enter Try.func10, Try.ntmps10
    go_wp2_with (first
      | (go_at_call 25; refine (HPT.out).mono ?_; rintro y w' ⟨rfl, rfl⟩)
      | (go_at_call 28; refine (HPN.out _ (by first | exact Fr.refl nob _ | exact (Fr.refl nob _).drewN _)).mono ?_; rintro y w' ⟨rfl, rfl⟩)
      | (go_at_call 30; (have hq := HREP.out _ (by first | exact Fr.refl nob _ | exact (Fr.refl nob _).drewN _)); (rw [HTN.out, HT2.out] at hq); refine hq.mono ?_; clear hq; rintro y w2 ⟨rfl, κ2, putv2, hx2, hk2, hf2⟩; have d28 := (blk_cells hx2.blk 28).trans (show _ = some (Value.int .i64 S.f.cls) by (rw [← HSF.out]; rfl)); have z28 := blk_free hx2.blk 28; have l28 := blk_lt hx2.blk; have HX2 := Lib.hid hx2; have HK2 := Lib.hid hk2; have HF2 := Lib.hid hf2; clear hx2 hk2 hf2))
    all_goals go_ret
    all_goals first
      | (have hcl0 : SR.f.cls = 0 := by (rw [HSF.out]; exact (of_decide_eq_true HC.out))
         obtain ⟨h5, h6⟩ := EdAt.classed HX2.out hcl0 rfl
         rw [HTD.out SR rfl]
         exact ⟨rfl, κ2, putv2, h5, HK2.out, edM.trans (w := w') (w1 := w2) (by first | exact HF2.out | exact Fr.ofDrewN HF2.out) HK2.out h6⟩)
      | (have hcl0 : SR.classed = SR := by (unfold EdState.classed; rw [if_neg (by rw [HSF.out]; exact (of_decide_eq_false HC.out))])
         rw [HTD.out SR rfl, hcl0]
         exact ⟨rfl, κ2, putv2, HX2.out, HK2.out, (by first | exact HF2.out | exact Fr.ofDrewN HF2.out)⟩)

set_option maxRecDepth 10000 in
theorem ed_move_ok (w : World) (κ : Col) (i e b r k tm um h bl : Nat) (was : Nat → Value) (putv : Value) (S : EdState) (x : EdAt w κ i e b r k tm um h bl was putv S) (hin : S.f.inn = true) (q : Int) (h0 : 0 ≤ q) (h1 : q ≤ S.core.text.length) :
    Calls Try.prog 11 #[.pointer (some ⟨e, 0, none⟩), .int .i64 q] w (EdStep w κ i e b r k tm um h bl was { S with core := { S.core with point := q } } 0) := by
  have hpt := ed_part w e b r k um S.core h bl S.f was putv x.blk
  rw [if_pos hin] at hpt
  have HPT := Lib.hid hpt
  have hmv := buf_move w b _ _ _ q x.core.buf
  rw [if_pos ⟨h0, h1⟩] at hmv
  have HMV := Lib.hid hmv
  have hc0 : w.cell? ⟨e, 0, none⟩ = some (.pointer (some ⟨b, 0, none⟩)) := by rw [blk_cells x.blk]; rfl
  have HX := Lib.hid x
  clear x hin hpt hmv h0 h1
  go_enter Try.func11, Try.ntmps11
  go_wp2_with (first
    | (go_at_call 25; refine (HPT.out).mono ?_; rintro y w' ⟨rfl, rfl⟩)
    | (go_at_call 31; refine (HMV.out).mono ?_; rintro y w2 ⟨rfl, hb2, hf2⟩; have HB2 := Lib.hid hb2; have HF2 := Lib.hid hf2; clear hb2 hf2))
  go_ret
  exact ⟨rfl, κ, putv, HX.out.setCore HF2.out HX.out.core.buf.nr (fun y hy _ => by cases hy; rw [HX.out.core.cb]) (fun _ _ => rfl) (HX.out.core.setBuf HF2.out (fun _ _ => rfl) HB2.out) rfl, fun _ _ => rfl, HX.out.frBuf HF2.out⟩

/-- What Line answers. -/
def EdLine (w : World) (L : List Int) (p m : Int) (x : Ending) (w' : World) : Prop :=
  ∃ a c, x = .returned (.agg #[.slice a L.length c, .int .i64 p, .int .i64 m]) ∧ Own w' 21 1 (.slice a L.length c) L.length (runes L) ∧ Fr nob w w'

set_option maxRecDepth 10000 in
theorem ed_line (w : World) (κ : Col) (e : Nat) (S : EdState) (x : EdRep w κ e S) :
    Calls Try.prog 14 #[.pointer (some ⟨e, 0, none⟩)] w (EdLine w S.core.text S.core.point S.core.mark) := by
  obtain ⟨i, b, r, k, tm, um, h, bl, was, putv, x⟩ := x
  have hW : Fr nob w (w.alloc (.cells #[.slice none 0 0, .int .i64 0, .int .i64 0] 38)) := (Fr.refl _ _).alloc _
  have HN := Lib.hid (ed_none _ e b r k um S.core h bl S.f was putv (hW.keep x.blk (fun h => h)))
  have hbl := buf_line _ b _ _ _ (x.core.buf.stayN hW)
  have HBL := Lib.hid hbl
  have hc0 := (blk_cells (hW.keep x.blk (fun h => h)) 0).trans (show _ = some (Value.pointer (some ⟨b, 0, none⟩)) from rfl)
  clear x hW hbl
  go_enter Try.func14, Try.ntmps14
  go_wp2_with (first
    | (go_at_call 23; refine (HN.out).mono ?_; rintro y w' ⟨rfl, rfl⟩)
    | (go_at_call 32; refine (HBL.out).mono ?_; rintro y w2 ⟨a, c, rfl, ho, hf, hr⟩; have hb2 := hf.keep (heap_alloc_new w _) (fun h => h); have hcb := blk_cells hb2; have hzb := blk_free hb2; have hlb := blk_lt hb2; have HB2 := Lib.hid hb2; have HO := Lib.hid ho; have HF := Lib.hid hf; clear ho hf hr hb2))
  refine bodyPost_ret (v := .agg #[.slice a S.core.text.length c, .int .i64 S.core.point, .int .i64 S.core.mark]) (by simp [results, Try.results14, go_sem, hcb]) rfl ⟨a, c, rfl, ?_, ?_⟩
  · exact HO.out.stay ((((Fr.refl (one w.heap.size) w2).setOne _ _).setOne _ _).setOne _ _) (NR.one HB2.out (by decide))
  · exact (((((Fr.refl nob w).alloc _).then HF.out).setNew _ _ _ (Nat.le_refl _)).setNew _ _ _ (Nat.le_refl _)).setNew _ _ _ (Nat.le_refl _)
end Go.Proofs.Ytbhklkolkclflaa
