/- Package editor: Replace, Erase, Insert, Type: whatever comes. -/
import Derived.Test.YtbhklkolkclflaaGreatDoorE27
import Derived.Test.YtbhklkolkclflaaGreatDoorG7
namespace Go.Proofs.YtbhklkolkclflaaGreatDoor
open Go.RowKit

/-- Runes are put in the place of others: the editor behind it, and the answer. -/
def EdState.replR (S : EdState) (f t : Int) (l : List Int) : EdState × Int :=
  if 0 ≤ f ∧ f ≤ S.core.text.length ∧ f ≤ t ∧ t ≤ S.core.text.length then (if 1024 < l.length + (S.core.text.length - (t.toNat - f.toNat)) then (S, 3) else (S.replaced f.toNat t.toNat l, 0)) else (S, 70)

set_option maxRecDepth 10000 in
theorem ed_replace_no (w : World) (κ : Col) (i e b r k tm um h bl : Nat) (was : Nat → Value) (putv : Value) (S : EdState) (x : EdAt w κ i e b r k tm um h bl was putv S) (hin : S.f.inn = true) (f t : Int) (al : Option Addr) (n cl : Nat) (code : Int) (hcode : code ≠ 0)
    (hB : Calls Tryz.prog 170 #[.pointer (some ⟨b, 0, none⟩), .int .i64 f, .int .i64 t, .slice al n cl] w (Refused w code)) :
    Calls Tryz.prog 84 #[.pointer (some ⟨e, 0, none⟩), .int .i64 f, .int .i64 t, .slice al n cl] w (EdStep w κ i e b r k tm um h bl was S code) := by
  have hpt := ed_part w e b r k um S.core h bl S.f was putv x.blk
  rw [if_pos hin] at hpt
  have HPT := Lib.hid hpt
  have HX := Lib.hid x
  have HB := Lib.hid hB
  have hc0 : w.cell? ⟨e, 0, none⟩ = some (.pointer (some ⟨b, 0, none⟩)) := by rw [blk_cells x.blk]; rfl
  have hcb : (code == 0) = false := by simp [hcode]
  clear x hin hpt hB
  go_enter Tryz.func84, Tryz.ntmps84
  go_wp2_with (first
    | (go_at_call 88; refine (HPT.out).mono ?_; rintro y w' ⟨rfl, rfl⟩)
    | (go_at_call 170; refine (HB.out).mono ?_; rintro y w1 ⟨rfl, hf⟩; have HF := Lib.hid hf; clear hf))
  go_ret
  have hf : Fr nob w' (w1.alloc (.cells #[.int .i64 0, .slice none 0 0, .slice none 0 0] 168)) := HF.out.alloc _
  exact ⟨rfl, κ, putv, HX.out.stayN hf (fun _ _ => rfl), fun _ _ => rfl, edM.nob hf⟩

theorem ed_replace (w : World) (κ : Col) (i e b r k tm um h bl : Nat) (was : Nat → Value) (putv : Value) (S : EdState) (x : EdAt w κ i e b r k tm um h bl was putv S) (hok : EdsOk S) (hin : S.f.inn = true) (f t : Int) (l : List Int) (al : Option Addr) (n cl : Nat) (hn : l.length = n) (hl : Sl w 1 al n cl (runes l)) :
    Calls Tryz.prog 84 #[.pointer (some ⟨e, 0, none⟩), .int .i64 f, .int .i64 t, .slice al n cl] w (EdStep w κ i e b r k tm um h bl was (S.replR f t l).1 (S.replR f t l).2) := by
  subst hn
  unfold EdState.replR
  by_cases hp : 0 ≤ f ∧ f ≤ S.core.text.length ∧ f ≤ t ∧ t ≤ S.core.text.length
  · rw [if_pos hp]
    obtain ⟨h1, h2, h3, h4⟩ := hp
    obtain ⟨fn, rfl⟩ := Int.eq_ofNat_of_zero_le h1
    obtain ⟨tn, rfl⟩ := Int.eq_ofNat_of_zero_le (Int.le_trans h1 h3)
    simp only [Int.toNat_natCast]
    have hft : fn ≤ tn := by omega
    have htl : tn ≤ S.core.text.length := by omega
    by_cases hb : 1024 < l.length + (S.core.text.length - (tn - fn))
    · rw [if_pos hb]
      exact ed_replace_no w κ i e b r k tm um h bl was putv S x hin fn tn al l.length cl 3 (by decide) (buf_replace_long w b _ _ _ fn tn al l.length cl x.core.buf hft htl hb)
    · rw [if_neg hb]
      by_cases hr : total S.lst.1 + S.put.length < 16384
      · exact ed_replace_room w κ i e b r k tm um h bl was putv S x hok hin fn tn l al cl hl hft htl (by omega) hr
      · exact ed_replace_full w κ i e b r k tm um h bl was putv S x hok hin fn tn l al cl hl hft htl (by omega) (by omega)
  · rw [if_neg hp]
    exact ed_replace_no w κ i e b r k tm um h bl was putv S x hin f t al l.length cl 70 (by decide) (buf_replace_place w b _ _ _ f t al l.length cl x.core.buf hp)

set_option maxRecDepth 10000 in
theorem ed_erase (w : World) (κ : Col) (i e b r k tm um h bl : Nat) (was : Nat → Value) (putv : Value) (S : EdState) (x : EdAt w κ i e b r k tm um h bl was putv S) (hok : EdsOk S) (hin : S.f.inn = true) (f t : Int) :
    Calls Tryz.prog 83 #[.pointer (some ⟨e, 0, none⟩), .int .i64 f, .int .i64 t] w (EdStep w κ i e b r k tm um h bl was (S.replR f t []).1 (S.replR f t []).2) := by
  have HR := Lib.hid (ed_replace w κ i e b r k tm um h bl was putv S x hok hin f t [] none 0 0 rfl ⟨rfl, Nat.le_refl _, .inl rfl, by simp [runes]⟩)
  generalize S.replR f t [] = R at *
  clear x hok hin
  go_enter Tryz.func83, Tryz.ntmps83
  go_wp2_with (go_at_call 84; refine (HR.out).mono ?_; rintro y w1 ⟨rfl, hs⟩; have HS := Lib.hid hs; clear hs)
  go_ret
  exact ⟨rfl, HS.out⟩

set_option maxRecDepth 10000 in
set_option maxHeartbeats 2000000 in
theorem ed_insert (w : World) (κ : Col) (i e b r k tm um h bl : Nat) (was : Nat → Value) (putv : Value) (S : EdState) (x : EdAt w κ i e b r k tm um h bl was putv S) (hok : EdsOk S) (hin : S.f.inn = true) (l : List Int) (al : Option Addr) (n cl : Nat) (hn : l.length = n) (hl : Sl w 1 al n cl (runes l)) :
    Calls Tryz.prog 68 #[.pointer (some ⟨e, 0, none⟩), .slice al n cl] w (EdStep w κ i e b r k tm um h bl was (S.replR S.core.point S.core.point l).1 (S.replR S.core.point S.core.point l).2) := by
  have hpt := ed_part w e b r k um S.core h bl S.f was putv x.blk
  rw [if_pos hin] at hpt
  have HPT := Lib.hid hpt
  have hpn := fun (V : World) (hV : Fr nob w V) => buf_point V b _ _ _ (x.core.buf.stayN hV)
  have HPN := Lib.hid hpn
  have hrep := fun (V : World) (hV : Fr nob w V) => ed_replace V κ i e b r k tm um h bl was putv S (x.stayN hV (fun _ _ => rfl)) hok hin S.core.point S.core.point l al n cl hn (hl.oldN hV)
  have HREP := Lib.hid hrep
  have hc0 : w.cell? ⟨e, 0, none⟩ = some (.pointer (some ⟨b, 0, none⟩)) := by rw [blk_cells x.blk]; rfl
  generalize S.replR S.core.point S.core.point l = R at *
  generalize S.core.point = p at *
  clear x hok hin hpt hl hpn hrep hn
  go_enter Tryz.func68, Tryz.ntmps68
  go_wp2_with (go_at_call 88; refine (HPT.out).mono ?_; rintro y w' ⟨rfl, rfl⟩)
  go_region_held3 (fun V => V.cell? ⟨e, 0, none⟩ = some (.pointer (some ⟨b, 0, none⟩)))
    ((first | exact hc0 | exact step_buf HS.out))
    (first
      | (go_at_call 107; refine (HPN.out _ (by first | exact Fr.refl nob _ | exact (Fr.refl nob _).drew | exact (Fr.refl nob _).drewN _)).mono ?_; rintro y w' ⟨rfl, rfl⟩)
      | (go_at_call 84; refine (HREP.out _ (by first | exact Fr.refl nob _ | exact (Fr.refl nob _).drew | exact (Fr.refl nob _).drewN _)).mono ?_; rintro y w2 ⟨rfl, hs⟩; have HS := Lib.hid hs; clear hs))
  go_wp2
  go_ret
  obtain ⟨κ', putv', hx, hk, hf⟩ := HS.out
  exact ⟨rfl, κ', putv', hx, hk, by first | exact hf | exact Fr.ofDrew hf | exact Fr.ofDrewN hf⟩
end Go.Proofs.YtbhklkolkclflaaGreatDoor
