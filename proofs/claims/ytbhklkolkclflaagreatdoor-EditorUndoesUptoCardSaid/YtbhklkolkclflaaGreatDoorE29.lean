/- Package editor: Type, Move, SetMark, Swap, SetMode: whatever comes. -/
import Derived.Test.YtbhklkolkclflaaGreatDoorE28
import Derived.Test.YtbhklkolkclflaaGreatDoorS1
namespace Go.Proofs.YtbhklkolkclflaaGreatDoor
open Go.RowKit

/-- Runes are typed, none is taken. -/
def EdState.typeR (S : EdState) (l : List Int) : EdState × Int :=
  if (S.replR S.core.point S.core.point l).2 = 0 then ((S.replR S.core.point S.core.point l).1.classed, 0) else S.replR S.core.point S.core.point l

theorem EdState.replR_f (S : EdState) (f t : Int) (l : List Int) : (S.replR f t l).1.f = S.f := by
  unfold EdState.replR
  split
  · split
    · rfl
    · exact EdState.replaced_f _ _ _ _
  · rfl

set_option maxRecDepth 10000 in
set_option maxHeartbeats 2000000 in
theorem ed_type (w : World) (κ : Col) (i e b r k tm um h bl : Nat) (was : Nat → Value) (putv : Value) (S : EdState) (x : EdAt w κ i e b r k tm um h bl was putv S) (hok : EdsOk S) (hin : S.f.inn = true) (hover : S.core.over = false) (l : List Int) (al : Option Addr) (n cl : Nat) (hn : l.length = n) (hl : Sl w 1 al n cl (runes l)) :
    Calls Tryz.prog 40 #[.pointer (some ⟨e, 0, none⟩), .slice al n cl] w (EdStep w κ i e b r k tm um h bl was (S.typeR l).1 (S.typeR l).2) := by
  have hpt := ed_part w e b r k um S.core h bl S.f was putv x.blk
  rw [if_pos hin] at hpt
  have HPT := Lib.hid hpt
  have hov : w.cell? ⟨e, 5, none⟩ = some (.bool S.core.over) := by rw [blk_cells x.blk]; rfl
  rw [hover] at hov
  have hc0 : w.cell? ⟨e, 0, none⟩ = some (.pointer (some ⟨b, 0, none⟩)) := by rw [blk_cells x.blk]; rfl
  have hpn := fun (V : World) (hV : Fr nob w V) => buf_point V b _ _ _ (x.core.buf.stayN hV)
  have HPN := Lib.hid hpn
  have hrep := fun (V : World) (hV : Fr nob w V) => ed_replace V κ i e b r k tm um h bl was putv S (x.stayN hV (fun _ _ => rfl)) hok hin S.core.point S.core.point l al n cl hn (hl.oldN hV)
  have HREP := Lib.hid hrep
  have HX := Lib.hid x
  have hR : ∃ R c, S.replR S.core.point S.core.point l = (R, c) := ⟨_, _, rfl⟩
  obtain ⟨R, c, hR⟩ := hR
  have hf := EdState.replR_f S S.core.point S.core.point l
  have hT : S.typeR l = if c = 0 then (R.classed, 0) else (R, c) := by unfold EdState.typeR; rw [hR]
  rw [hR] at HREP hf
  simp only at HREP hf
  rw [hT]
  have HF := Lib.hid hf
  generalize S.core.point = p at *
  clear x hok hpt hl hpn hrep hn hT hR hf hover hin
  by_cases hc : c = 0
  · subst hc
    simp only [if_true]
    cases hcl : decide (S.f.cls = 0)
    all_goals have HC := Lib.hid hcl
    all_goals have hcb : (S.f.cls == 0) = decide (S.f.cls = 0) := rfl
    all_goals rw [hcl] at hcb
    all_goals clear hcl
    all_goals go_enter Tryz.func40, Tryz.ntmps40
    all_goals go_wp2_with (first
      | (go_at_call 88; refine (HPT.out).mono ?_; rintro y w' ⟨rfl, rfl⟩)
      | (go_at_call 107; refine (HPN.out _ (by first | exact Fr.refl nob _ | exact (Fr.refl nob _).drewN _)).mono ?_; rintro y w' ⟨rfl, rfl⟩)
      | (go_at_call 84; refine (HREP.out _ (by first | exact Fr.refl nob _ | exact (Fr.refl nob _).drewN _)).mono ?_; rintro y w2 ⟨rfl, κ2, putv2, hx2, hk2, hf2⟩; have d28 := (blk_cells hx2.blk 28).trans (show _ = some (Value.int .i64 S.f.cls) by (rw [← HF.out]; rfl)); have z28 := blk_free hx2.blk 28; have l28 := blk_lt hx2.blk; have HX2 := Lib.hid hx2; have HK2 := Lib.hid hk2; have HF2 := Lib.hid hf2; clear hx2 hk2 hf2))
    all_goals go_ret
    all_goals first
      | (have hcl0 : R.f.cls = 0 := by (rw [HF.out]; exact (of_decide_eq_true HC.out))
         obtain ⟨h5, h6⟩ := EdAt.classed HX2.out hcl0 rfl
         exact ⟨rfl, κ2, putv2, h5, HK2.out, edM.trans (w := w') (w1 := w2) (by first | exact HF2.out | exact Fr.ofDrewN HF2.out) HK2.out h6⟩)
      | (have hcl0 : R.classed = R := by (unfold EdState.classed; rw [if_neg (by rw [HF.out]; exact (of_decide_eq_false HC.out))])
         rw [hcl0]
         exact ⟨rfl, κ2, putv2, HX2.out, HK2.out, (by first | exact HF2.out | exact Fr.ofDrewN HF2.out)⟩)
  · simp only [if_neg hc]
    have hcb : (c == 0) = false := by simp [hc]
    go_enter Tryz.func40, Tryz.ntmps40
    go_wp2_with (first
      | (go_at_call 88; refine (HPT.out).mono ?_; rintro y w' ⟨rfl, rfl⟩)
      | (go_at_call 107; refine (HPN.out _ (by first | exact Fr.refl nob _ | exact (Fr.refl nob _).drewN _)).mono ?_; rintro y w' ⟨rfl, rfl⟩)
      | (go_at_call 84; refine (HREP.out _ (by first | exact Fr.refl nob _ | exact (Fr.refl nob _).drewN _)).mono ?_; rintro y w2 ⟨rfl, κ2, putv2, hx2, hk2, hf2⟩; have HX2 := Lib.hid hx2; have HK2 := Lib.hid hk2; have HF2 := Lib.hid hf2; clear hx2 hk2 hf2))
    go_ret
    exact ⟨rfl, κ2, putv2, HX2.out, HK2.out, (by first | exact HF2.out | exact Fr.ofDrewN HF2.out)⟩

/-- A part that asks the buffer alone. -/
theorem bufStep {w w1 : World} {κ : Col} {i e b r k tm um h bl : Nat} {was : Nat → Value} {putv : Value} {S : EdState} (x : EdAt w κ i e b r k tm um h bl was putv S) {c : Int} {L : List Int} {p m : Int} {y : Ending} (hb : BufDone w b c L p m y w1) :
    EdStep w κ i e b r k tm um h bl was { S with core := { S.core with text := L, point := p, mark := m } } c y w1 := by
  obtain ⟨rfl, h1, h2⟩ := hb
  exact ⟨rfl, κ, putv, x.setCore h2 x.core.buf.nr (fun y hy _ => by cases hy; rw [x.core.cb]) (fun _ _ => rfl) (x.core.setBuf h2 (fun _ _ => rfl) h1) rfl, fun _ _ => rfl, x.frBuf h2⟩

def EdState.moveR (S : EdState) (q : Int) : EdState × Int := if 0 ≤ q ∧ q ≤ S.core.text.length then ({ S with core := { S.core with point := q } }, 0) else (S, 70)
def EdState.markR (S : EdState) (q : Int) : EdState × Int := if -1 ≤ q ∧ q ≤ S.core.text.length then ({ S with core := { S.core with mark := q } }, 0) else (S, 70)
def EdState.swapR (S : EdState) : EdState × Int := if 0 ≤ S.core.mark then ({ S with core := { S.core with point := S.core.mark, mark := S.core.point } }, 0) else (S, 6)
def EdState.modeR (S : EdState) (m : Int) : EdState × Int := if 0 ≤ m ∧ m ≤ 2 then ({ S with core := { S.core with mode := m } }, 0) else (S, 1)

section
variable (w : World) (κ : Col) (i e b r k tm um h bl : Nat) (was : Nat → Value) (putv : Value) (S : EdState) (x : EdAt w κ i e b r k tm um h bl was putv S) (hin : S.f.inn = true)
include x hin
set_option maxRecDepth 10000 in
theorem ed_move (q : Int) : Calls Tryz.prog 44 #[.pointer (some ⟨e, 0, none⟩), .int .i64 q] w (EdStep w κ i e b r k tm um h bl was (S.moveR q).1 (S.moveR q).2) := by
  have hpt := ed_part w e b r k um S.core h bl S.f was putv x.blk
  rw [if_pos hin] at hpt
  have HPT := Lib.hid hpt
  have HX := Lib.hid x
  have hm := buf_move w b S.core.text S.core.point S.core.mark q x.core.buf
  have hc0 : w.cell? ⟨e, 0, none⟩ = some (.pointer (some ⟨b, 0, none⟩)) := by rw [blk_cells x.blk]; rfl
  unfold EdState.moveR
  by_cases hq : 0 ≤ q ∧ q ≤ S.core.text.length
  all_goals first | rw [if_pos hq] at hm | rw [if_neg hq] at hm
  all_goals have HM := Lib.hid hm
  all_goals first | rw [if_pos hq] | rw [if_neg hq]
  all_goals clear hm hpt x hq
  all_goals go_enter Tryz.func44, Tryz.ntmps44
  all_goals go_wp2_with (first
    | (go_at_call 88; refine (HPT.out).mono ?_; rintro y w' ⟨rfl, rfl⟩)
    | (go_at_call 113; refine (HM.out).mono ?_; rintro y w1 hb; have hs := bufStep HX.out hb; obtain ⟨rfl, hs2⟩ := hs; have HS := Lib.hid hs2; clear hs2 hb))
  all_goals go_ret
  all_goals exact ⟨rfl, HS.out⟩
set_option maxRecDepth 10000 in
theorem ed_setMark (q : Int) : Calls Tryz.prog 86 #[.pointer (some ⟨e, 0, none⟩), .int .i64 q] w (EdStep w κ i e b r k tm um h bl was (S.markR q).1 (S.markR q).2) := by
  have hpt := ed_part w e b r k um S.core h bl S.f was putv x.blk
  rw [if_pos hin] at hpt
  have HPT := Lib.hid hpt
  have HX := Lib.hid x
  have hm := buf_setMark w b S.core.text S.core.point S.core.mark q x.core.buf
  have hc0 : w.cell? ⟨e, 0, none⟩ = some (.pointer (some ⟨b, 0, none⟩)) := by rw [blk_cells x.blk]; rfl
  unfold EdState.markR
  by_cases hq : -1 ≤ q ∧ q ≤ S.core.text.length
  all_goals first | rw [if_pos hq] at hm | rw [if_neg hq] at hm
  all_goals have HM := Lib.hid hm
  all_goals first | rw [if_pos hq] | rw [if_neg hq]
  all_goals clear hm hpt x hq
  all_goals go_enter Tryz.func86, Tryz.ntmps86
  all_goals go_wp2_with (first
    | (go_at_call 88; refine (HPT.out).mono ?_; rintro y w' ⟨rfl, rfl⟩)
    | (go_at_call 110; refine (HM.out).mono ?_; rintro y w1 hb; have hs := bufStep HX.out hb; obtain ⟨rfl, hs2⟩ := hs; have HS := Lib.hid hs2; clear hs2 hb))
  all_goals go_ret
  all_goals exact ⟨rfl, HS.out⟩
set_option maxRecDepth 10000 in
theorem ed_swap : Calls Tryz.prog 87 #[.pointer (some ⟨e, 0, none⟩)] w (EdStep w κ i e b r k tm um h bl was S.swapR.1 S.swapR.2) := by
  have hpt := ed_part w e b r k um S.core h bl S.f was putv x.blk
  rw [if_pos hin] at hpt
  have HPT := Lib.hid hpt
  have HX := Lib.hid x
  have hm := buf_swap w b S.core.text S.core.point S.core.mark x.core.buf
  have hc0 : w.cell? ⟨e, 0, none⟩ = some (.pointer (some ⟨b, 0, none⟩)) := by rw [blk_cells x.blk]; rfl
  unfold EdState.swapR
  by_cases hq : 0 ≤ S.core.mark
  all_goals first | rw [if_pos hq] at hm | rw [if_neg hq] at hm
  all_goals have HM := Lib.hid hm
  all_goals first | rw [if_pos hq] | rw [if_neg hq]
  all_goals clear hm hpt x hq
  all_goals go_enter Tryz.func87, Tryz.ntmps87
  all_goals go_wp2_with (first
    | (go_at_call 88; refine (HPT.out).mono ?_; rintro y w' ⟨rfl, rfl⟩)
    | (go_at_call 175; refine (HM.out).mono ?_; rintro y w1 hb; have hs := bufStep HX.out hb; obtain ⟨rfl, hs2⟩ := hs; have HS := Lib.hid hs2; clear hs2 hb))
  all_goals go_ret
  all_goals exact ⟨rfl, HS.out⟩
set_option maxRecDepth 10000 in
theorem ed_setMode (m : Int) : Calls Tryz.prog 47 #[.pointer (some ⟨e, 0, none⟩), .int .i64 m] w (EdStep w κ i e b r k tm um h bl was (S.modeR m).1 (S.modeR m).2) := by
  have hpt := ed_part w e b r k um S.core h bl S.f was putv x.blk
  rw [if_pos hin] at hpt
  have HPT := Lib.hid hpt
  have HX := Lib.hid x
  have hc4 : w.cell? ⟨e, 4, none⟩ = some (.int .i64 S.core.mode) := by rw [blk_cells x.blk]; rfl
  have hz := blk_free x.blk
  have hlt := blk_lt x.blk
  unfold EdState.modeR
  clear hpt x
  by_cases h0 : 0 ≤ m
  · by_cases h2 : m ≤ 2
    · have i1 : decide (m < 0) = false := decide_eq_false (by omega)
      have i2 : decide (2 < m) = false := decide_eq_false (by omega)
      rw [if_pos ⟨h0, h2⟩]
      go_enter Tryz.func47, Tryz.ntmps47
      go_wp2_with (go_at_call 88; refine (HPT.out).mono ?_; rintro y w' ⟨rfl, rfl⟩)
      go_ret
      have hf : Fr (one e) w' (w'.setCell ⟨e, 4, none⟩ (.int .i64 m)) := (Fr.refl _ _).setOne _ _
      exact ⟨rfl, κ, putv, EdAt.setE HX.out.ci HX.out.ce HX.out.blk hf (heap_setCell_same (o := 4) HX.out.blk _) ⟨HX.out.core.cb, HX.out.core.buf, HX.out.core.cr, HX.out.core.ring, HX.out.core.ck, HX.out.core.walk, HX.out.core.ct, HX.out.core.texts, HX.out.core.cu, HX.out.core.undos⟩
        ⟨HX.out.rest.hist, HX.out.rest.cb, HX.out.rest.bells, HX.out.rest.put, HX.out.rest.mp⟩ HX.out.wone HX.out.inn, fun _ _ => rfl, edM.of hf (NR.one HX.out.blk (by decide)) (fun y _ hy => by cases hy; rw [HX.out.ce]; decide)⟩
    · have i1 : decide (m < 0) = false := decide_eq_false (by omega)
      have i2 : decide (2 < m) = true := decide_eq_true (by omega)
      rw [if_neg (fun h => h2 h.2)]
      go_enter Tryz.func47, Tryz.ntmps47
      go_wp2_with (go_at_call 88; refine (HPT.out).mono ?_; rintro y w' ⟨rfl, rfl⟩)
      go_ret
      exact ⟨rfl, κ, putv, HX.out, fun _ _ => rfl, Fr.refl _ _⟩
  · have i1 : decide (m < 0) = true := decide_eq_true (by omega)
    rw [if_neg (fun h => h0 h.1)]
    go_enter Tryz.func47, Tryz.ntmps47
    go_wp2_with (go_at_call 88; refine (HPT.out).mono ?_; rintro y w' ⟨rfl, rfl⟩)
    go_ret
    exact ⟨rfl, κ, putv, HX.out, fun _ _ => rfl, Fr.refl _ _⟩
end
end Go.Proofs.YtbhklkolkclflaaGreatDoor
