/- Package editor: Pop: whatever comes. -/
import Derived.Test.YtbhklkolkclflaaGreatDoorE31
namespace Go.Proofs.YtbhklkolkclflaaGreatDoor
open Go.RowKit

/-- What is no editor's may have any colour. -/
theorem EdAt.recolor {w : World} {κ κ' : Col} {i e b r k tm um h bl : Nat} {was : Nat → Value} {putv : Value} {S : EdState} (x : EdAt w κ i e b r k tm um h bl was putv S) (hk : ∀ y, κ y ≠ (0, 0) → κ' y = κ y) : EdAt w κ' i e b r k tm um h bl was putv S := by
  have hci := x.ci
  have hc : ∀ {j y : Nat} {c : Nat × Nat}, c.1 = j → j ≠ 0 → κ y = c → κ' y = c := fun {j y c} h1 h2 h3 => by
    rw [hk y (fun h0 => h2 (by rw [h3] at h0; rw [← h1, h0])), h3]
  have hcore : ∀ {i2 b2 r2 k2 tm2 um2 : Nat} {C : CoreS}, i2 ≠ 0 → CoreAt w κ i2 b2 r2 k2 tm2 um2 C → CoreAt w κ' i2 b2 r2 k2 tm2 um2 C := fun {i2 b2 r2 k2 tm2 um2 C} h0 hx => by
    obtain ⟨f, h1, h2, h3⟩ := hx.undos
    refine ⟨hc rfl h0 hx.cb, hx.buf, hc rfl h0 hx.cr, hx.ring, hc rfl h0 hx.ck, hx.walk, hc rfl h0 hx.ct, hx.texts, hc rfl h0 hx.cu, f, h1, h2, fun p g hp => ?_⟩
    obtain ⟨h4, l, h5, h6⟩ := h3 p g hp
    exact ⟨h4, l, h5, h6.mono (fun y hy => hc rfl h0 hy)⟩
  refine ⟨x.ci, hc rfl (by decide) x.ce, x.blk, hcore (by omega) x.core, ⟨x.rest.hist.mono (fun y hy => hc rfl (by decide) hy), hc rfl (by decide) x.rest.cb, x.rest.bells, x.rest.put, fun y hy => hc rfl (by decide) (x.rest.mp y hy)⟩, x.wone, fun hi => ?_⟩
  obtain ⟨b2, r2, k2, tm2, um2, h6, h7⟩ := x.inn hi
  exact ⟨b2, r2, k2, tm2, um2, h6, hcore (by omega) h7⟩

/-- Another entry is put in the place of what was yanked: the editor behind it, and the answer. -/
def EdState.popS (S : EdState) (q : Nat) (l : List Int) : EdState :=
  let R := (S.replR S.core.yf S.core.yt l).1
  let C : CoreS := { R.core with rpl := q, yt := S.core.yf + l.length }
  let F : EdF := { R.f with yanked := true, cls := 2 }
  { R with core := C, f := F }
def EdState.popR (S : EdState) (n : Int) : EdState × Int :=
  if S.core.last = 2 ∧ S.f.yanked = false ∧ S.core.ents ≠ [] then
    (if (S.replR S.core.yf S.core.yt (S.core.ents.getD (rotP S.core.ents.length S.core.rpl n) [])).2 = 0 then (S.popS (rotP S.core.ents.length S.core.rpl n) (S.core.ents.getD (rotP S.core.ents.length S.core.rpl n) []), 0)
     else (S.replR S.core.yf S.core.yt (S.core.ents.getD (rotP S.core.ents.length S.core.rpl n) [])))
  else (S, 6)

theorem EdState.replR_yf (S : EdState) (f t : Int) (l : List Int) : (S.replR f t l).1.core.yf = S.core.yf ∧ (S.replR f t l).1.core.yt = S.core.yt ∧ (S.replR f t l).1.core.ents = S.core.ents ∧ (S.replR f t l).1.core.mode = S.core.mode ∧ (S.replR f t l).1.core.over = S.core.over ∧ (S.replR f t l).1.core.last = S.core.last ∧ (S.replR f t l).1.core.res = S.core.res := by
  unfold EdState.replR
  split
  · split
    · exact ⟨rfl, rfl, rfl, rfl, rfl, rfl, rfl⟩
    · unfold EdState.replaced EdState.roomed
      split
      · exact ⟨rfl, rfl, rfl, rfl, rfl, rfl, rfl⟩
      · split <;> exact ⟨rfl, rfl, rfl, rfl, rfl, rfl, rfl⟩
  · exact ⟨rfl, rfl, rfl, rfl, rfl, rfl, rfl⟩

set_option maxRecDepth 10000 in
theorem ed_pop_bell (w : World) (κ : Col) (i e b r k tm um h bl : Nat) (was : Nat → Value) (putv : Value) (S : EdState) (x : EdAt w κ i e b r k tm um h bl was putv S) (hin : S.f.inn = true) (n : Int) (hbad : ¬ (S.core.last = 2 ∧ S.f.yanked = false)) :
    Calls Tryz.prog 43 #[.pointer (some ⟨e, 0, none⟩), .int .i64 n] w (EdStep w κ i e b r k tm um h bl was S 6) := by
  have hpt := ed_part w e b r k um S.core h bl S.f was putv x.blk
  rw [if_pos hin] at hpt
  have HPT := Lib.hid hpt
  have HX := Lib.hid x
  have c6 : w.cell? ⟨e, 6, none⟩ = some (.int .i64 S.core.last) := by rw [blk_cells x.blk]; rfl
  have c30 : w.cell? ⟨e, 30, none⟩ = some (.bool S.f.yanked) := by rw [blk_cells x.blk]; rfl
  have hcs : (S.core.last != 2) = true ∨ (S.core.last != 2) = false ∧ S.f.yanked = true := by
    by_cases h1 : S.core.last = 2
    · right
      refine ⟨by simp [h1], ?_⟩
      cases h2 : S.f.yanked
      · exact absurd ⟨h1, h2⟩ hbad
      · rfl
    · left
      simp [h1]
  generalize S.core.last = last at *
  generalize S.f.yanked = yk at *
  clear x hpt hbad
  rcases hcs with i1 | ⟨i1, rfl⟩
  all_goals go_enter Tryz.func43, Tryz.ntmps43
  all_goals go_wp2_with (go_at_call 88; refine (HPT.out).mono ?_; rintro y w' ⟨rfl, rfl⟩)
  all_goals go_ret
  all_goals exact ⟨rfl, κ, putv, HX.out, fun _ _ => rfl, Fr.refl _ _⟩

set_option maxRecDepth 10000 in
theorem ed_pop_none (w : World) (κ : Col) (i e b r k tm um h bl : Nat) (was : Nat → Value) (putv : Value) (S : EdState) (x : EdAt w κ i e b r k tm um h bl was putv S) (hin : S.f.inn = true) (n : Int) (h1 : S.core.last = 2) (h2 : S.f.yanked = false) (h3 : S.core.ents = []) :
    Calls Tryz.prog 43 #[.pointer (some ⟨e, 0, none⟩), .int .i64 n] w (EdStep w κ i e b r k tm um h bl was S 6) := by
  have hpt := ed_part w e b r k um S.core h bl S.f was putv x.blk
  rw [if_pos hin] at hpt
  have HPT := Lib.hid hpt
  have HX := Lib.hid x
  have c6 : w.cell? ⟨e, 6, none⟩ = some (.int .i64 S.core.last) := by rw [blk_cells x.blk]; rfl
  have c30 : w.cell? ⟨e, 30, none⟩ = some (.bool S.f.yanked) := by rw [blk_cells x.blk]; rfl
  have c1 : w.cell? ⟨e, 1, none⟩ = some (.pointer (some ⟨r, 0, none⟩)) := by rw [blk_cells x.blk]; rfl
  have hrg := x.core.ring
  rw [h3] at hrg
  rw [h1] at c6
  rw [h2] at c30
  have HRC := Lib.hid (ring_clone w r [] _ hrg)
  clear x hpt hrg h1 h2 h3
  go_enter Tryz.func43, Tryz.ntmps43
  go_wp2_with (first
    | (go_at_call 88; refine (HPT.out).mono ?_; rintro y w' ⟨rfl, rfl⟩)
    | (go_at_call 111; refine (HRC.out).mono ?_; rintro y w1 ⟨rfl, hr1, hf1⟩; have HR1 := Lib.hid hr1; have HF1 := Lib.hid hf1; clear hr1 hf1)
    | (go_at_call 112; refine (ring_rotate_none _ _ _ HR1.out n).mono ?_; rintro y w2 ⟨rfl, rfl⟩))
  go_ret
  exact ⟨rfl, κ, putv, HX.out.stayN HF1.out (fun _ _ => rfl), fun _ _ => rfl, edM.nob HF1.out⟩

/-- The ring is another one, with what was yanked in its place. -/
theorem pop_end {w w2 w3 X : World} {κ κ3 : Col} {i e b r k tm um h bl r2 q m : Nat} {was : Nat → Value} {putv3 : Value} {S R : EdState} {l : List Int} (hR : (S.replR S.core.yf S.core.yt l).1 = R) (hm : l.length = m) (hw : w.heap.size ≤ r2) (hr2 : r2 < w2.heap.size) (hf2 : Fr nob w w2)
    (hk3 : ∀ y, y < w2.heap.size → κ3 y = paint κ w.heap.size (0, 0) y) (hf3 : Fr (edM w2 (paint κ w.heap.size (0, 0))) w2 w3) (hring : RingRep w2 r2 S.core.ents q) (x : EdAt w3 κ3 i e b r k tm um h bl was putv3 R)
    (hX : X = (((w3.setCell ⟨e, 1, none⟩ (.pointer (some ⟨r2, 0, none⟩))).setCell ⟨e, 30, none⟩ (.bool true)).setCell ⟨e, 28, none⟩ (.int .i64 2)).setCell ⟨e, 8, none⟩ (.int .i64 (S.core.yf + (m : Int)))) :
    ∃ κ' putv', EdAt X κ' i e b r2 k tm um h bl was putv' (S.popS q l) ∧ (∀ y, y < w.heap.size → κ' y = κ y) ∧ Fr (edM w κ) w X := by
  subst hX
  subst hm
  have hci := x.ci
  have hs2 := hf2.size
  have hs3 := hf3.size
  have hfe : Fr (one e) w3 ((((w3.setCell ⟨e, 1, none⟩ (.pointer (some ⟨r2, 0, none⟩))).setCell ⟨e, 30, none⟩ (.bool true)).setCell ⟨e, 28, none⟩ (.int .i64 2)).setCell ⟨e, 8, none⟩ (.int .i64 (S.core.yf + (l.length : Int)))) := ((((Fr.refl _ _).setOne _ _).setOne _ _).setOne _ _).setOne _ _
  have hkr : κ3 r2 = (0, 0) := (hk3 r2 hr2).trans (paint_new _ _ _ _ hw)
  have hr3 : RingRep w3 r2 S.core.ents q := hring.stay hf3 (NR.wr _ _) (fun hx => hx.1 (paint_new _ _ _ _ hw))
  have hκ : ∀ y, κ3 y ≠ (0, 0) → (fun y => if y = r2 then (i, 1) else κ3 y) y = κ3 y := fun y hy => if_neg (fun h0 => hy (by rw [h0, hkr]))
  have x' := x.recolor hκ
  have hne : e ≠ r2 := fun h0 => by
    have h1 := x.ce
    rw [h0, hkr] at h1
    cases h1
  have hyf := EdState.replR_yf S S.core.yf S.core.yt l
  rw [hR] at hyf
  have hS : S.popS q l = { core := { R.core with rpl := q, yt := S.core.yf + l.length }, f := { R.f with yanked := true, cls := 2 }, hist := R.hist, base := R.base, most := R.most, bells := R.bells, was := R.was, put := R.put } := by
    unfold EdState.popS
    rw [hR]
  rw [hS]
  refine ⟨fun y => if y = r2 then (i, 1) else κ3 y, putv3, EdAt.setE x.ci x'.ce x.blk hfe (heap_setCell_same (o := 8) (heap_setCell_same (o := 28) (heap_setCell_same (o := 30) (heap_setCell_same (o := 1) x.blk _) _) _) _)
    ⟨x'.core.cb, x'.core.buf, if_pos rfl, by rw [hyf.2.2.1]; exact hr3, x'.core.ck, x'.core.walk, x'.core.ct, x'.core.texts, x'.core.cu, x'.core.undos⟩ ⟨x'.rest.hist, x'.rest.cb, x'.rest.bells, x'.rest.put, x'.rest.mp⟩ x.wone x'.inn, fun y hy => ?_, ?_⟩
  · show (if y = r2 then (i, 1) else κ3 y) = κ y
    rw [if_neg (by omega), hk3 y (by omega), paint_old _ _ _ _ hy]
  · have hk : ∀ y, y < w.heap.size → κ3 y = κ y := fun y hy => (hk3 y (by omega)).trans (paint_old _ _ _ _ hy)
    have f3 : Fr (edM w κ) w w3 := edM.trans (edM.nob hf2) (fun y hy => paint_old _ _ _ _ hy) hf3
    exact edM.trans f3 hk (edM.of hfe (NR.one x.blk (by decide)) (fun y _ hy => by cases hy; rw [x.ce]; decide))

/-- What Pop leaves: a part of a command, the ring's block maybe another. -/
def EdPart (w : World) (κ : Col) (i e b k tm um h bl : Nat) (was : Nat → Value) (S : EdState) (v : Int) (x : Ending) (w' : World) : Prop :=
  x = .returned (.int .i64 v) ∧ ∃ κ' putv' r', EdAt w' κ' i e b r' k tm um h bl was putv' S ∧ (∀ y, y < w.heap.size → κ' y = κ y) ∧ Fr (edM w κ) w w'
theorem EdStep.part {w : World} {κ : Col} {i e b r k tm um h bl : Nat} {was : Nat → Value} {S : EdState} {v : Int} {x : Ending} {w' : World} (hs : EdStep w κ i e b r k tm um h bl was S v x w') : EdPart w κ i e b k tm um h bl was S v x w' := by
  obtain ⟨h1, κ', putv', h2, h3⟩ := hs
  exact ⟨h1, κ', putv', r, h2, h3⟩
theorem EdPart.done {w : World} {κ : Col} {i e b k tm um h bl : Nat} {was : Nat → Value} {S : EdState} {v : Int} {x : Ending} {w' : World} (hs : EdPart w κ i e b k tm um h bl was S v x w') : EdDone w κ e (.int .i64 v) S x w' := by
  obtain ⟨h1, κ', putv', r', h2, h3⟩ := hs
  exact ⟨h1, κ', h2.rep, h3⟩

set_option maxRecDepth 10000 in
set_option maxHeartbeats 2000000 in
theorem ed_pop_some (w : World) (κ : Col) (i e b r k tm um h bl : Nat) (was : Nat → Value) (putv : Value) (S : EdState) (x : EdAt w κ i e b r k tm um h bl was putv S) (hok : EdsOk S) (hin : S.f.inn = true) (hsm : ∀ y ∈ S.core.ents, y.length ≤ 1024) (n : Int) (h1 : S.core.last = 2) (h2 : S.f.yanked = false) (q : Nat) (hq : q < S.core.ents.length) (hqe : rotP S.core.ents.length S.core.rpl n = q) (l : List Int) (hl : S.core.ents[q] = l) :
    Calls Tryz.prog 43 #[.pointer (some ⟨e, 0, none⟩), .int .i64 n] w (EdPart w κ i e b k tm um h bl was (if (S.replR S.core.yf S.core.yt l).2 = 0 then S.popS q l else (S.replR S.core.yf S.core.yt l).1) (S.replR S.core.yf S.core.yt l).2) := by
  have hpt := ed_part w e b r k um S.core h bl S.f was putv x.blk
  rw [if_pos hin] at hpt
  have HPT := Lib.hid hpt
  have HX := Lib.hid x
  have c6 : w.cell? ⟨e, 6, none⟩ = some (.int .i64 S.core.last) := by rw [blk_cells x.blk]; rfl
  have c30 : w.cell? ⟨e, 30, none⟩ = some (.bool S.f.yanked) := by rw [blk_cells x.blk]; rfl
  have c1 : w.cell? ⟨e, 1, none⟩ = some (.pointer (some ⟨r, 0, none⟩)) := by rw [blk_cells x.blk]; rfl
  rw [h1] at c6
  rw [h2] at c30
  have HRC := Lib.hid (ring_clone w r _ _ x.core.ring)
  have hrot := fun V (hr : RingRep V w.heap.size S.core.ents S.core.rpl) => ring_rotate V w.heap.size S.core.ents S.core.rpl hr n (by omega) hsm q hq hqe
  rw [hl] at hrot
  have HROT := Lib.hid hrot
  have hlen : l.length ≤ 1024 := by rw [← hl]; exact hsm _ (List.getElem_mem hq)
  have hrep := fun (V : World) (hV : Fr nob w V) (a : Option Addr) (c : Nat) (ha : Sl V 1 a l.length c (runes l)) => ed_replace V (paint κ w.heap.size (0, 0)) i e b r k tm um h bl was putv S (x.stayN hV (paint_old _ _ _)) hok hin S.core.yf S.core.yt l a l.length c rfl ha
  have HREP := Lib.hid hrep
  have hcell : ∀ V, Fr nob w V → V.cell? ⟨e, 7, none⟩ = some (.int .i64 S.core.yf) ∧ V.cell? ⟨e, 8, none⟩ = some (.int .i64 S.core.yt) := fun V hV => by
    have g := blk_cells (hV.keep x.blk (fun h => h))
    exact ⟨by rw [g]; rfl, by rw [g]; rfl⟩
  have HCE := Lib.hid hcell
  have hyf := EdState.replR_yf S S.core.yf S.core.yt l
  have hcd : (S.replR S.core.yf S.core.yt l).2 = 0 → 0 ≤ S.core.yf ∧ S.core.yf ≤ 1024 := fun h0 => by
    have htl : S.core.text.length ≤ 1024 := by
      obtain ⟨_, _, _, _, _, _, _, _, _, _, _, _, g, _⟩ := x.core.buf
      exact g
    unfold EdState.replR at h0
    split at h0
    · rename_i g
      omega
    · cases h0
  have HCD := Lib.hid hcd
  obtain ⟨R, c, hR⟩ : ∃ R c, S.replR S.core.yf S.core.yt l = (R, c) := ⟨_, _, rfl⟩
  have HR1 := Lib.hid (show (S.replR S.core.yf S.core.yt l).1 = R by rw [hR])
  rw [hR] at HREP hyf HCD ⊢
  simp only at HREP hyf HCD ⊢
  have hce3 : ∀ V κ3 putv3, EdAt V κ3 i e b r k tm um h bl was putv3 R → V.cell? ⟨e, 7, none⟩ = some (.int .i64 S.core.yf) ∧ V.cell? ⟨e, 8, none⟩ = some (.int .i64 S.core.yt) := fun V κ3 putv3 hx => by
    have g := blk_cells hx.blk
    rw [← hyf.1, ← hyf.2.1]
    exact ⟨by rw [g]; rfl, by rw [g]; rfl⟩
  have HCE3 := Lib.hid hce3
  generalize hwz : w.heap.size = z at *
  have HWZ := Lib.hid hwz
  generalize hm : l.length = m at *
  have HM := Lib.hid hm
  clear x hpt hrot hrep hcell hcd hR hyf hce3 hok hin hsm h1 h2 hqe hl hwz hm
  generalize hyfe : S.core.yf = yf at *
  have HYF := Lib.hid hyfe
  generalize hyte : S.core.yt = yt at *
  have HYT := Lib.hid hyte
  clear hyfe hyte
  by_cases hc : c = 0
  · have hyb := HCD.out hc
    subst hc
    rw [if_pos rfl]
    have ww : IntKind.i64.wrap (yf + (m : Int)) = yf + (m : Int) := IntWalk.i64_in _ (by omega)
    go_enter Tryz.func43, Tryz.ntmps43
    go_wp2_with (first
      | (go_at_call 88; refine (HPT.out).mono ?_; rintro y w' ⟨rfl, rfl⟩)
      | (go_at_call 111; refine (HRC.out).mono ?_; rintro y w1 ⟨rfl, hr1, hf1⟩; have HRR := Lib.hid hr1; have HF1 := Lib.hid hf1; clear hr1 hf1)
      | (go_at_call 112; refine (HROT.out _ HRR.out).mono ?_; rintro y w2 ⟨a, ac, rfl, ho, hr2, hf2⟩; have HO := Lib.hid ho; have HR2 := Lib.hid hr2; have HF2 := Lib.hid hf2; clear ho hr2 hf2))
    have hF2 : Fr nob w' w2 := HF1.out.trans HF2.out (fun y hy hM => by cases hM; have := HWZ.out; omega)
    have HFF2 := Lib.hid hF2
    obtain ⟨c7, c8⟩ := HCE.out _ hF2
    clear hF2
    go_region_held3 (fun V => V.cell? ⟨e, 7, none⟩ = some (.int .i64 yf) ∧ V.cell? ⟨e, 8, none⟩ = some (.int .i64 yt))
      ((first | exact HCE.out _ HFF2.out.drew | exact HCE.out _ HFF2.out | exact HCE3.out _ _ _ hx3))
      (first
        | (go_at_call 84; refine (HREP.out _ HFF2.out.drew _ _ (HO.out.sl.oldN (Fr.refl nob _).drew)).mono ?_; rintro y w3 ⟨rfl, κ3, putv3, hx3, hk3, hf3⟩))
    obtain ⟨d7, _⟩ := HCE3.out _ _ _ hx3
    obtain ⟨v1, e1⟩ : ∃ v, w3.cell? ⟨e, 1, none⟩ = some v := ⟨_, by rw [blk_cells hx3.blk]; rfl⟩
    obtain ⟨v30, e30⟩ : ∃ v, w3.cell? ⟨e, 30, none⟩ = some v := ⟨_, by rw [blk_cells hx3.blk]; rfl⟩
    obtain ⟨v28, e28⟩ : ∃ v, w3.cell? ⟨e, 28, none⟩ = some v := ⟨_, by rw [blk_cells hx3.blk]; rfl⟩
    obtain ⟨v8, e8⟩ : ∃ v, w3.cell? ⟨e, 8, none⟩ = some v := ⟨_, by rw [blk_cells hx3.blk]; rfl⟩
    have z3 := blk_free hx3.blk
    have l3 := blk_lt hx3.blk
    have HX3 := Lib.hid hx3
    have HK3 := Lib.hid hk3
    have HF3 := Lib.hid hf3
    clear hx3 hk3 hf3 c6 c30 c1 c7 c8
    go_wp2
    go_ret
    refine ⟨rfl, ?_⟩
    rw [← HYF.out, ← HYT.out] at HR1
    obtain ⟨κ', putv', g1, g2, g3⟩ := pop_end (w := w') (w2 := w2.drew) (r2 := z) (q := q) (κ := κ) (κ3 := κ3) (putv3 := putv3) HR1.out HM.out (by rw [HWZ.out]; exact Nat.le_refl _) (HR2.out.stayN (Fr.refl nob _).drew).lt HFF2.out.drew (by rw [HWZ.out]; exact HK3.out) (by rw [HWZ.out]; exact HF3.out) (HR2.out.stayN (Fr.refl nob _).drew) HX3.out (by rw [HYF.out])
    exact ⟨κ', putv', z, g1, g2, g3⟩
  · rw [if_neg hc]
    have i1 : (c != 0) = true := by simp [hc]
    go_enter Tryz.func43, Tryz.ntmps43
    go_wp2_with (first
      | (go_at_call 88; refine (HPT.out).mono ?_; rintro y w' ⟨rfl, rfl⟩)
      | (go_at_call 111; refine (HRC.out).mono ?_; rintro y w1 ⟨rfl, hr1, hf1⟩; have HRR := Lib.hid hr1; have HF1 := Lib.hid hf1; clear hr1 hf1)
      | (go_at_call 112; refine (HROT.out _ HRR.out).mono ?_; rintro y w2 ⟨a, ac, rfl, ho, hr2, hf2⟩; have HO := Lib.hid ho; have HR2 := Lib.hid hr2; have HF2 := Lib.hid hf2; clear ho hr2 hf2))
    have hF2 : Fr nob w' w2 := HF1.out.trans HF2.out (fun y hy hM => by cases hM; have := HWZ.out; omega)
    have HFF2 := Lib.hid hF2
    obtain ⟨c7, c8⟩ := HCE.out _ hF2
    clear hF2
    go_region_held3 (fun V => V.cell? ⟨e, 7, none⟩ = some (.int .i64 yf) ∧ V.cell? ⟨e, 8, none⟩ = some (.int .i64 yt))
      ((first | exact HCE.out _ HFF2.out.drew | exact HCE.out _ HFF2.out | exact HCE3.out _ _ _ hx3))
      (first
        | (go_at_call 84; refine (HREP.out _ HFF2.out.drew _ _ (HO.out.sl.oldN (Fr.refl nob _).drew)).mono ?_; rintro y w3 ⟨rfl, κ3, putv3, hx3, hk3, hf3⟩))
    have HX3 := Lib.hid hx3
    have HK3 := Lib.hid hk3
    have HF3 := Lib.hid hf3
    clear hx3 hk3 hf3 c6 c30 c1 c7 c8
    go_wp2
    go_ret
    have hs := HFF2.out.size
    refine ⟨rfl, κ3, putv3, r, HX3.out, fun y hy => ?_, ?_⟩
    · rw [HK3.out y (Nat.lt_of_lt_of_le hy hs), paint_old _ _ _ _ (by rw [← HWZ.out]; exact hy)]
    · exact edM.trans (edM.nob HFF2.out.drew) (fun y hy => paint_old _ _ _ _ (by rw [← HWZ.out]; exact hy)) HF3.out

theorem ed_popG (w : World) (κ : Col) (i e b r k tm um h bl : Nat) (was : Nat → Value) (putv : Value) (S : EdState) (x : EdAt w κ i e b r k tm um h bl was putv S) (hok : EdsOk S) (hin : S.f.inn = true) (hsm : ∀ y ∈ S.core.ents, y.length ≤ 1024) (n : Int) :
    Calls Tryz.prog 43 #[.pointer (some ⟨e, 0, none⟩), .int .i64 n] w (EdPart w κ i e b k tm um h bl was (S.popR n).1 (S.popR n).2) := by
  unfold EdState.popR
  by_cases h1 : S.core.last = 2 ∧ S.f.yanked = false
  · by_cases h3 : S.core.ents = []
    · rw [if_neg (fun h => h.2.2 h3)]
      exact (ed_pop_none w κ i e b r k tm um h bl was putv S x hin n h1.1 h1.2 h3).mono fun _ _ h => h.part
    · rw [if_pos ⟨h1.1, h1.2, h3⟩]
      have hq : rotP S.core.ents.length S.core.rpl n < S.core.ents.length := rotP_lt (List.length_pos_iff.2 h3) n
      have hg : S.core.ents.getD (rotP S.core.ents.length S.core.rpl n) [] = S.core.ents[rotP S.core.ents.length S.core.rpl n] := by simp [List.getD, List.getElem?_eq_getElem hq]
      have := ed_pop_some w κ i e b r k tm um h bl was putv S x hok hin hsm n h1.1 h1.2 _ hq rfl _ hg.symm
      by_cases h4 : (S.replR S.core.yf S.core.yt (S.core.ents.getD (rotP S.core.ents.length S.core.rpl n) [])).2 = 0
      · rw [if_pos h4]
        rw [if_pos h4, h4] at this
        exact this
      · rw [if_neg h4]
        rw [if_neg h4] at this
        exact this
  · rw [if_neg (fun h => h1 ⟨h.1, h.2.1⟩)]
    exact (ed_pop_bell w κ i e b r k tm um h bl was putv S x hin n h1).mono fun _ _ h => h.part
end Go.Proofs.YtbhklkolkclflaaGreatDoor
