/- Package editor: Yank, Pop: whatever comes. -/
import Derived.Test.YtbhklkolkclflaaGreatDoorE30
namespace Go.Proofs.YtbhklkolkclflaaGreatDoor
open Go.RowKit

theorem EdState.replR_ok {S : EdState} {p : Nat} {l : List Int} (hp : p ≤ S.core.text.length) (hl : l.length + S.core.text.length ≤ 1024) : S.replR (p : Int) (p : Int) l = (S.replaced p p l, 0) := by
  unfold EdState.replR
  rw [if_pos ⟨by omega, by omega, by omega, by omega⟩, if_neg (by simp; omega)]
  rfl
theorem EdState.replR_long {S : EdState} {p : Nat} {l : List Int} (hp : p ≤ S.core.text.length) (hl : 1024 < l.length + S.core.text.length) : S.replR (p : Int) (p : Int) l = (S, 3) := by
  unfold EdState.replR
  rw [if_pos ⟨by omega, by omega, by omega, by omega⟩, if_pos (by simp; omega)]

set_option maxRecDepth 10000 in
set_option maxHeartbeats 2000000 in
theorem ed_yank_ok (w : World) (κ : Col) (i e b r k tm um h bl : Nat) (was : Nat → Value) (putv : Value) (S : EdState) (x : EdAt w κ i e b r k tm um h bl was putv S) (hok : EdsOk S) (hin : S.f.inn = true) (p : Nat) (hp : S.core.point = p) (hple : p ≤ S.core.text.length) (hq : S.core.rpl < S.core.ents.length) (hsm : ∀ x ∈ S.core.ents, x.length ≤ 1024)
    (l : List Int) (hl : S.core.ents[S.core.rpl] = l) (hlen : l.length + S.core.text.length ≤ 1024) :
    Calls Tryz.prog 42 #[.pointer (some ⟨e, 0, none⟩)] w (EdStep w κ i e b r k tm um h bl was (S.yankedTo p l) 0) := by
  have hpt := ed_part w e b r k um S.core h bl S.f was putv x.blk
  rw [if_pos hin] at hpt
  have HPT := Lib.hid hpt
  have hy := ring_yank w r _ _ x.core.ring hq hsm
  rw [hl] at hy
  have HY := Lib.hid hy
  have hc : w.cell? ⟨e, 0, none⟩ = some (.pointer (some ⟨b, 0, none⟩)) := by rw [blk_cells x.blk]; rfl
  have hc1 : w.cell? ⟨e, 1, none⟩ = some (.pointer (some ⟨r, 0, none⟩)) := by rw [blk_cells x.blk]; rfl
  have hins := fun (V : World) (x1 : EdAt V κ i e b r k tm um h bl was putv S) (a : Option Addr) (c : Nat) (ha : Sl V 1 a l.length c (runes l)) => by
    have h1 := ed_insert V κ i e b r k tm um h bl was putv S x1 hok hin l a l.length c rfl ha
    rw [hp, EdState.replR_ok hple hlen] at h1
    exact h1
  have HINS := Lib.hid hins
  have HX := Lib.hid x
  have HP := Lib.hid hp
  obtain ⟨htx, hpx⟩ := EdState.replaced_text S p p l
  have HTX := Lib.hid htx
  generalize hm : l.length = m at *
  have HM := Lib.hid hm
  have ww : IntKind.i64.wrap ((p : Int) + (m : Int)) = (p : Int) + (m : Int) := IntWalk.i64_in _ (by omega)
  clear x hok hin hpt hy hins hp hlen hsm hq hl htx hpx hm
  go_enter Tryz.func42, Tryz.ntmps42
  go_wp2_with (first
    | (go_at_call 88; refine (HPT.out).mono ?_; rintro y w' ⟨rfl, rfl⟩)
    | (go_at_call 109; refine (HY.out).mono ?_; rintro y w1 ⟨a, c, rfl, ho, hr1, hf1⟩; have hx1 : EdAt w1 κ i e b r k tm um h bl was putv S := HX.out.rung hr1 hf1; have hc2 : w1.cell? ⟨e, 0, none⟩ = some (.pointer (some ⟨b, 0, none⟩)) := (by rw [blk_cells hx1.blk]; rfl); have HX1 := Lib.hid hx1; have HF1 := Lib.hid (HX.out.frRing hf1); have HO := Lib.hid ho; clear hx1 hf1 ho hr1)
    | (go_at_call 107; have hpn := buf_point _ b _ _ _ HX1.out.core.buf; rw [HP.out] at hpn; refine hpn.mono ?_; clear hpn; rintro y w2 ⟨rfl, rfl⟩)
    | (go_at_call 68; refine (HINS.out _ HX1.out _ _ HO.out.sl).mono ?_; rintro y w3 ⟨rfl, κ3, putv3, hx3, hk3, hf3⟩; have hc3 : w3.cell? ⟨e, 0, none⟩ = some (.pointer (some ⟨b, 0, none⟩)) := (by rw [blk_cells hx3.blk]; rfl); have HX3 := Lib.hid hx3; have HK3 := Lib.hid hk3; have HF3 := Lib.hid hf3; clear hx3 hk3 hf3)
    | (go_at_call 110; have hsm := buf_setMark _ b _ _ _ (p : Int) HX3.out.core.buf; rw [if_pos (yank_in HTX.out hple)] at hsm; refine hsm.mono ?_; clear hsm; rintro y w4 ⟨rfl, hb4, hf4⟩; have hx4 := (HX3.out.setCore hf4 HX3.out.core.buf.nr (fun y hy _ => by cases hy; rw [HX3.out.core.cb]) (fun _ _ => rfl) (HX3.out.core.setBuf hf4 (fun _ _ => rfl) hb4) rfl); obtain ⟨v30, e30⟩ : ∃ v, w4.cell? ⟨e, 30, none⟩ = some v := ⟨_, by rw [blk_cells hx4.blk]; rfl⟩; obtain ⟨v28, e28⟩ : ∃ v, w4.cell? ⟨e, 28, none⟩ = some v := ⟨_, by rw [blk_cells hx4.blk]; rfl⟩; obtain ⟨v7, e7⟩ : ∃ v, w4.cell? ⟨e, 7, none⟩ = some v := ⟨_, by rw [blk_cells hx4.blk]; rfl⟩; obtain ⟨v8, e8⟩ : ∃ v, w4.cell? ⟨e, 8, none⟩ = some v := ⟨_, by rw [blk_cells hx4.blk]; rfl⟩; have z4 := blk_free hx4.blk; have l4 := blk_lt hx4.blk; have HX4 := Lib.hid hx4; have HF4 := Lib.hid (HX3.out.frBuf hf4); clear hx4 hf4 hb4))
  go_ret
  exact yank_end rfl HM.out HF1.out HK3.out HF3.out HF4.out HX4.out rfl

set_option maxRecDepth 10000 in
set_option maxHeartbeats 2000000 in
theorem ed_yank_long (w : World) (κ : Col) (i e b r k tm um h bl : Nat) (was : Nat → Value) (putv : Value) (S : EdState) (x : EdAt w κ i e b r k tm um h bl was putv S) (hok : EdsOk S) (hin : S.f.inn = true) (p : Nat) (hp : S.core.point = p) (hple : p ≤ S.core.text.length) (hq : S.core.rpl < S.core.ents.length) (hsm : ∀ x ∈ S.core.ents, x.length ≤ 1024)
    (l : List Int) (hl : S.core.ents[S.core.rpl] = l) (hlen : 1024 < l.length + S.core.text.length) :
    Calls Tryz.prog 42 #[.pointer (some ⟨e, 0, none⟩)] w (EdStep w κ i e b r k tm um h bl was S 3) := by
  have hpt := ed_part w e b r k um S.core h bl S.f was putv x.blk
  rw [if_pos hin] at hpt
  have HPT := Lib.hid hpt
  have hy := ring_yank w r _ _ x.core.ring hq hsm
  rw [hl] at hy
  have HY := Lib.hid hy
  have hc : w.cell? ⟨e, 0, none⟩ = some (.pointer (some ⟨b, 0, none⟩)) := by rw [blk_cells x.blk]; rfl
  have hc1 : w.cell? ⟨e, 1, none⟩ = some (.pointer (some ⟨r, 0, none⟩)) := by rw [blk_cells x.blk]; rfl
  have hins := fun (V : World) (x1 : EdAt V κ i e b r k tm um h bl was putv S) (a : Option Addr) (c : Nat) (ha : Sl V 1 a l.length c (runes l)) => by
    have h1 := ed_insert V κ i e b r k tm um h bl was putv S x1 hok hin l a l.length c rfl ha
    rw [hp, EdState.replR_long hple hlen] at h1
    exact h1
  have HINS := Lib.hid hins
  have HX := Lib.hid x
  have HP := Lib.hid hp
  generalize hm : l.length = m at *
  clear x hok hin hpt hy hins hp hlen hsm hq hl hm
  go_enter Tryz.func42, Tryz.ntmps42
  go_wp2_with (first
    | (go_at_call 88; refine (HPT.out).mono ?_; rintro y w' ⟨rfl, rfl⟩)
    | (go_at_call 109; refine (HY.out).mono ?_; rintro y w1 ⟨a, c, rfl, ho, hr1, hf1⟩; have hx1 : EdAt w1 κ i e b r k tm um h bl was putv S := HX.out.rung hr1 hf1; have hc2 : w1.cell? ⟨e, 0, none⟩ = some (.pointer (some ⟨b, 0, none⟩)) := (by rw [blk_cells hx1.blk]; rfl); have HX1 := Lib.hid hx1; have HF1 := Lib.hid (HX.out.frRing hf1); have HO := Lib.hid ho; clear hx1 hf1 ho hr1)
    | (go_at_call 107; have hpn := buf_point _ b _ _ _ HX1.out.core.buf; rw [HP.out] at hpn; refine hpn.mono ?_; clear hpn; rintro y w2 ⟨rfl, rfl⟩)
    | (go_at_call 68; refine (HINS.out _ HX1.out _ _ HO.out.sl).mono ?_; rintro y w3 ⟨rfl, κ3, putv3, hx3, hk3, hf3⟩; have HX3 := Lib.hid hx3; have HK3 := Lib.hid hk3; have HF3 := Lib.hid hf3; clear hx3 hk3 hf3))
  go_ret
  exact ⟨rfl, κ3, putv3, HX3.out, fun y hy => HK3.out y (Nat.lt_of_lt_of_le hy HF1.out.size), edM.trans HF1.out (fun _ _ => rfl) HF3.out⟩

/-- What was killed is put at the point: the editor behind it, and the answer. -/
def EdState.yankR (S : EdState) : EdState × Int :=
  if S.core.ents = [] then (S, 6) else if 1024 < (S.core.ents.getD S.core.rpl []).length + S.core.text.length then (S, 3) else (S.yankedTo S.core.point.toNat (S.core.ents.getD S.core.rpl []), 0)

theorem ed_yankG (w : World) (κ : Col) (i e b r k tm um h bl : Nat) (was : Nat → Value) (putv : Value) (S : EdState) (x : EdAt w κ i e b r k tm um h bl was putv S) (hok : EdsOk S) (hin : S.f.inn = true) (hsm : ∀ y ∈ S.core.ents, y.length ≤ 1024) :
    Calls Tryz.prog 42 #[.pointer (some ⟨e, 0, none⟩)] w (EdStep w κ i e b r k tm um h bl was S.yankR.1 S.yankR.2) := by
  have hbd : 0 ≤ S.core.point ∧ S.core.point ≤ S.core.text.length := by
    obtain ⟨_, _, _, _, _, _, _, _, _, _, _, _, _, h2, h3, _⟩ := x.core.buf
    exact ⟨h2, h3⟩
  obtain ⟨p, hp⟩ := Int.eq_ofNat_of_zero_le hbd.1
  have hple : p ≤ S.core.text.length := by have := hbd.2; omega
  unfold EdState.yankR
  by_cases h0 : S.core.ents = []
  · rw [if_pos h0]
    exact ed_yank_none w κ i e b r k tm um h bl was putv S x hin h0
  · rw [if_neg h0]
    have hq : S.core.rpl < S.core.ents.length := by
      obtain ⟨cells, _, hc⟩ := x.core.ring
      have h1 : 0 < S.core.ents.length := List.length_pos_iff.2 h0
      rcases hc.pl with h2 | h2
      · exact h2
      · omega
    have hg : S.core.ents.getD S.core.rpl [] = S.core.ents[S.core.rpl] := by simp [List.getD, List.getElem?_eq_getElem hq]
    rw [hg]
    by_cases hb : 1024 < (S.core.ents[S.core.rpl]).length + S.core.text.length
    · rw [if_pos hb]
      exact ed_yank_long w κ i e b r k tm um h bl was putv S x hok hin p hp hple hq hsm _ rfl hb
    · rw [if_neg hb, hp]
      exact ed_yank_ok w κ i e b r k tm um h bl was putv S x hok hin p hp hple hq hsm _ rfl (by omega)
end Go.Proofs.YtbhklkolkclflaaGreatDoor
