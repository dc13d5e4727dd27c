/- Package editor: undoes, Kills, saved at rest. -/
import Derived.Test.YtbhklkolkclflaaE16
namespace Go.Proofs.Ytbhklkolkclflaa
open Go.RowKit

set_option maxRecDepth 10000 in
set_option maxHeartbeats 1000000 in
theorem ed_undoes_rest (w : World) (κ : Col) (e : Nat) (S : EdState) (x : EdRep w κ e S) (hok : EdsOk S) (hin : S.f.inn = false) :
    Calls Try.prog 38 #[.pointer (some ⟨e, 0, none⟩)] w fun y w' => y = .returned (.int .i64 S.lst.1.length) ∧ Fr nob w w' := by
  obtain ⟨i, b, r, k, tm, um, h, bl, was, putv, x⟩ := x
  obtain ⟨f, hf1, hf2, hf3⟩ := x.core.undos
  have hce := blk_cells x.blk
  have hc3 : w.cell? ⟨e, 3, none⟩ = some (.map (some um)) := by rw [hce]; rfl
  have hc2 : w.cell? ⟨e, 2, none⟩ = some (.pointer (some ⟨k, 0, none⟩)) := by rw [hce]; rfl
  have hc16 : w.cell? ⟨e, 16, none⟩ = some (.bool false) := by rw [hce, ← hin]; rfl
  have hck : w.cell? ⟨k, 0, none⟩ = some (.int .i64 S.core.place) := by rw [blk_cells x.core.walk]; rfl
  have hsm := hok.lst.smalls.1
  cases hg : S.core.undos S.core.place with
  | none =>
    have hfl := hf2 _ hg
    have hlk : ∀ n, (Instr.lookup 64 (.map (some um)) (.int .i64 S.core.place) false).run Try.prog (w.drewN n) = .ok (.pointer none) (w.drewN n) := fun n => by
      have := run_mapget (P := Try.prog) (w.drewN n) 64 3 78 (.pointer none) um f S.core.place false Try.underlying64 Try.underlying3 (fun _ => rfl) (hf1.stay ((Fr.refl nob w).drewN n) (fun h => h))
      rw [this, hfl]
      rfl
    have HL := Lib.hid (EdState.lst_none hg)
    clear x hf1 hf2 hf3 hfl hce hg hin hok hsm
    go_enter Try.func38, Try.ntmps38
    go_wp2
    go_quiet (fail)
    go_wp2
    go_ret
    refine ⟨?_, (Fr.refl _ _).drewN _⟩
    rw [HL.out]
    rfl
  | some g =>
    obtain ⟨h0, l, hfl, hl⟩ := hf3 _ _ hg
    have hlk : ∀ n, (Instr.lookup 64 (.map (some um)) (.int .i64 S.core.place) false).run Try.prog (w.drewN n) = .ok (.pointer (some ⟨l, 0, none⟩)) (w.drewN n) := fun n => by
      have := run_mapget (P := Try.prog) (w.drewN n) 64 3 78 (.pointer none) um f S.core.place false Try.underlying64 Try.underlying3 (fun _ => rfl) (hf1.stay ((Fr.refl nob w).drewN n) (fun h => h))
      rw [this, hfl]
      rfl
    have hlst := EdState.lst_of hg
    rw [hlst] at hsm ⊢
    have hlen := fun (V : World) (hV : Fr nob w V) => undo_len V _ l _ _ _ _ (hl.stayN hV) (by omega)
    have HLEN := Lib.hid hlen
    clear x hf1 hf2 hf3 hfl hce hg hl hlst hlen h0 hin hok
    go_enter Try.func38, Try.ntmps38
    go_wp2
    go_quiet (fail)
    go_wp2_with (go_at_call 72; refine (HLEN.out _ ((Fr.refl _ _).drewN _)).mono ?_; rintro y w' ⟨rfl, kn, rfl⟩)
    go_ret
    refine ⟨?_, (Fr.refl _ _).drewN _⟩
    simp

set_option maxRecDepth 10000 in
theorem ed_kills_none (w : World) (κ : Col) (e : Nat) (S : EdState) (x : EdRep w κ e S) (hk : S.core.ents = []) :
    Calls Try.prog 36 #[.pointer (some ⟨e, 0, none⟩)] w fun y w' => y = .returned (.slice none 0 0) ∧ Fr nob w w' := by
  obtain ⟨i, b, r, k, tm, um, h, bl, was, putv, x⟩ := x
  have HN := Lib.hid (ed_none w e b r k um S.core h bl S.f was putv x.blk)
  have HC := Lib.hid (ring_clone w r _ _ x.core.ring)
  have hc1 : w.cell? ⟨e, 1, none⟩ = some (.pointer (some ⟨r, 0, none⟩)) := by rw [blk_cells x.blk]; rfl
  rw [hk] at HC
  clear x hk
  go_enter Try.func36, Try.ntmps36
  go_wp2_with (first
    | (go_at_call 23; refine (HN.out).mono ?_; rintro y w' ⟨rfl, rfl⟩)
    | (go_at_call 50; refine (HC.out).mono ?_; rintro y w2 ⟨rfl, hr2, hf2⟩; have HR2 := Lib.hid hr2; have HF2 := Lib.hid hf2; clear hr2 hf2)
    | (go_at_call 68; refine (ring_len _ _ _ _ HR2.out).mono ?_; rintro y w' ⟨rfl, rfl⟩))
  go_loop [3, 18] (fun v i => v = .slice none 0 0 ∧ i = .int .i64 0) (fun _ _ => 0)
  case atStart => exact ⟨rfl, rfl⟩
  case round =>
    obtain ⟨rfl, rfl⟩ := hrel
    go_wp2
    go_ret
    exact ⟨rfl, HF2.out⟩

set_option maxRecDepth 10000 in
theorem ed_saved_none (w : World) (κ : Col) (e : Nat) (S : EdState) (x : EdRep w κ e S) (hh : S.hist = []) (hp : S.core.place = 0) :
    Calls Try.prog 37 #[.pointer (some ⟨e, 0, none⟩)] w fun y w' => y = .returned (.slice none 0 0) ∧ Fr nob w w' := by
  obtain ⟨i, b, r, k, tm, um, h, bl, was, putv, x⟩ := x
  have hrp := x.rest.hist
  rw [hh] at hrp
  have HL := Lib.hid (hist_len w _ h _ _ _ hrp)
  have hce := blk_cells x.blk
  have hc11 : w.cell? ⟨e, 11, none⟩ = some (.pointer (some ⟨h, 0, none⟩)) := by rw [hce]; rfl
  have hc2 : w.cell? ⟨e, 2, none⟩ = some (.pointer (some ⟨k, 0, none⟩)) := by rw [hce]; rfl
  have hck : w.cell? ⟨k, 0, none⟩ = some (.int .i64 0) := by rw [blk_cells x.core.walk, hp]; rfl
  clear x hrp hh hp hce
  go_enter Try.func37, Try.ntmps37
  go_wp2_with (go_at_call 48; refine (HL.out).mono ?_; rintro y w' ⟨rfl, rfl⟩)
  go_loop [3, 12] (fun v i => v = .slice none 0 0 ∧ i = .int .i64 0) (fun _ _ => 0)
  case atStart => exact ⟨rfl, rfl⟩
  case round =>
    obtain ⟨rfl, rfl⟩ := hrel
    go_wp2
    go_ret
    exact ⟨rfl, Fr.refl _ _⟩
end Go.Proofs.Ytbhklkolkclflaa
