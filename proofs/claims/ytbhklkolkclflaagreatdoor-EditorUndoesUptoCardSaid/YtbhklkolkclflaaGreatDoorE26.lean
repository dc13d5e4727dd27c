/- Package editor: Start, where the line is too long. -/
import Derived.Test.YtbhklkolkclflaaGreatDoorE25
namespace Go.Proofs.YtbhklkolkclflaaGreatDoor
open Go.RowKit

set_option maxRecDepth 10000 in
theorem ed_start_long (w : World) (κ : Col) (i e b r k tm um h bl : Nat) (was : Nat → Value) (putv : Value) (S : EdState) (x : EdAt w κ i e b r k tm um h bl was putv S) (hin : S.f.inn = false) (F : Nat → Prop) (h2 : Nat) (hs : List (ByteArray × Int)) (base most : Int) (hh : HistRep w F h2 hs base most) (hhl : hs.length ≤ 100000)
    (a : Option Addr) (n c : Nat) (hL : 1024 < n) :
    Calls Tryz.prog 23 #[.pointer (some ⟨e, 0, none⟩), .pointer (some ⟨h2, 0, none⟩), .slice a n c] w (EdDone w κ e (.int .i64 3) S) := by
  have HN := Lib.hid (ed_none w e b r k um S.core h bl S.f was putv x.blk)
  have HC := Lib.hid (hist_clone w F h2 hs base most hh hhl)
  have c16 : ∀ V, Fr nob w V → V.cell? ⟨e, 16, none⟩ = some (.bool false) := fun V hV => by
    rw [blk_cells (hV.keep x.blk (fun h => h)), ← hin]
    rfl
  have HC16 := Lib.hid c16
  have HX := Lib.hid x
  have i1 : decide (1024 < (n : Int)) = true := decide_eq_true (by omega)
  clear x hin hh hhl c16 hL
  go_enter Tryz.func23, Tryz.ntmps23
  go_wp2_with (first
    | (go_at_call 81; refine (HN.out).mono ?_; rintro y w' ⟨rfl, rfl⟩)
    | (go_at_call 78; refine (HC.out).mono ?_; rintro y w1 ⟨h1, rfl, hh1, hr1, hf1⟩; have d16 := HC16.out _ hf1; have HF1 := Lib.hid hf1; clear hh1 hr1 hf1))
  go_ret
  exact ⟨rfl, κ, (HX.out.stayN HF1.out (fun _ _ => rfl)).rep, fun _ _ => rfl, edM.nob HF1.out⟩
end Go.Proofs.YtbhklkolkclflaaGreatDoor
