/- Package buffer: Swap. -/
import Derived.Test.YtbhklkolkclflaaGreatDoorG1
import Derived.BigRegion
namespace Go.Proofs.YtbhklkolkclflaaGreatDoor
open Go.RowKit

set_option maxRecDepth 10000 in
theorem buf_swap (w : World) (b : Nat) (L : List Int) (p m : Int) (h : BufRep w b L p m) :
    Calls Tryz.prog 175 #[.pointer (some ⟨b, 0, none⟩)] w (if 0 ≤ m then BufDone w b 0 L m p else BufDone w b 6 L p m) := by
  have H := Lib.hid h
  have hb := h.lt
  obtain ⟨a, n, c, f, t, h1⟩ := h.at
  have hpm : 0 ≤ p ∧ p ≤ L.length ∧ m ≤ L.length := by
    obtain ⟨_, _, _, _, _, _, _, _, _, _, _, _, _, h2, h3, _, h5⟩ := h
    exact ⟨h2, h3, h5⟩
  have HPM := Lib.hid hpm
  have HN := Lib.hid (buf_none _ _ h1)
  have h4 : w.cell? ⟨b, 4, none⟩ = some (.int .i64 p) := by rw [blk_cells h1]; rfl
  have h5 : w.cell? ⟨b, 5, none⟩ = some (.int .i64 m) := by rw [blk_cells h1]; rfl
  have hz := blk_free h1
  clear h h1 hpm
  by_cases hq : 0 ≤ m
  · rw [if_pos hq]
    go_enter Tryz.func175, Tryz.ntmps175
    go_wp2_with (go_at_call 187; refine (HN.out).mono ?_; rintro e w' ⟨rfl, rfl⟩)
    go_region
    go_wp2
    go_ret
    have hr := (H.out.setPoint m hq HPM.out.2.2).setMark p (by have := HPM.out.1; omega) HPM.out.2.1
    exact ⟨rfl, hr.stayN (Fr.drew (Fr.refl _ _)), (((Fr.refl _ _).setOne _ _).setOne _ _).drew⟩
  · rw [if_neg hq]
    go_enter Tryz.func175, Tryz.ntmps175
    go_wp2_with (go_at_call 187; refine (HN.out).mono ?_; rintro e w' ⟨rfl, rfl⟩)
    go_ret
    exact ⟨rfl, H.out, Fr.refl _ _⟩
end Go.Proofs.YtbhklkolkclflaaGreatDoor
