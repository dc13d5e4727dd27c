/- Package editor: list. -/
import Derived.Test.YtbhklkolkclflaaE8
namespace Go.Proofs.Ytbhklkolkclflaa
open Go.RowKit

theorem EdState.listed_eq {S : EdState} {g : List (List EditP) × Int} (h : S.core.undos S.core.place = some g) : S.listed = S := by
  have hu : updU S.core.undos S.core.place S.lst = S.core.undos := by
    funext q
    unfold updU EdState.lst
    split
    · rename_i e
      rw [e, h]
      rfl
    · rfl
  unfold EdState.listed EdState.setLst
  rw [hu]
theorem EdState.lst_of {S : EdState} {g : List (List EditP) × Int} (h : S.core.undos S.core.place = some g) : S.lst = g := by
  unfold EdState.lst
  rw [h]
  rfl
theorem EdState.lst_none {S : EdState} (h : S.core.undos S.core.place = none) : S.lst = ([], 0) := by
  unfold EdState.lst
  rw [h]
  rfl
theorem EdState.listed_at (S : EdState) : S.listed.core.undos S.core.place = some S.lst := if_pos rfl
theorem EdState.listed_lst (S : EdState) : S.listed.lst = S.lst := EdState.lst_of (S := S.listed) S.listed_at

/-- What list leaves. -/
def Listed (w : World) (κ : Col) (i e b r k tm um h bl : Nat) (was : Nat → Value) (putv : Value) (S : EdState) (x : Ending) (w' : World) : Prop :=
  ∃ l κ', x = .returned (.pointer (some ⟨l, 0, none⟩)) ∧ EdAt w' κ' i e b r k tm um h bl was putv S.listed ∧ UndosL w' κ' i um S.listed.core.undos S.core.place l ∧ (∀ y, y < w.heap.size → κ' y = κ y) ∧ Fr (edM w κ) w w'

set_option maxRecDepth 10000 in
set_option maxHeartbeats 1000000 in
theorem ed_list_some (w : World) (κ : Col) (i e b r k tm um h bl : Nat) (was : Nat → Value) (putv : Value) (S : EdState) (x : EdAt w κ i e b r k tm um h bl was putv S) (g : List (List EditP) × Int) (hg : S.core.undos S.core.place = some g) :
    Calls Try.prog 33 #[.pointer (some ⟨e, 0, none⟩)] w (Listed w κ i e b r k tm um h bl was putv S) := by
  obtain ⟨f, hf1, hf2, hf3⟩ := x.core.undos
  obtain ⟨h0, l, hfl, hl⟩ := hf3 _ _ hg
  have hu : UndosL w κ i um S.core.undos S.core.place l := ⟨f, hf1, hf2, hf3, hfl⟩
  have hlk : ∀ n, (Instr.lookup 64 (.map (some um)) (.int .i64 S.core.place) false).run Try.prog (w.drewN n) = .ok (.pointer (some ⟨l, 0, none⟩)) (w.drewN n) := fun n => by
    have := run_mapget (P := Try.prog) (w.drewN n) 64 3 78 (.pointer none) um f S.core.place false Try.underlying64 Try.underlying3 (fun _ => rfl) (hf1.stay ((Fr.refl nob w).drewN n) (fun h => h))
    rw [this, hfl]
    rfl
  have hce := blk_cells x.blk
  have hc3 : w.cell? ⟨e, 3, none⟩ = some (.map (some um)) := by rw [hce]; rfl
  have hc2 : w.cell? ⟨e, 2, none⟩ = some (.pointer (some ⟨k, 0, none⟩)) := by rw [hce]; rfl
  have hck : w.cell? ⟨k, 0, none⟩ = some (.int .i64 S.core.place) := by rw [blk_cells x.core.walk]; rfl
  have HX := Lib.hid x
  have HU := Lib.hid hu
  have HG := Lib.hid hg
  clear x hu hg hf1 hf2 hf3 hfl hl hce h0
  go_enter Try.func33, Try.ntmps33
  go_wp2
  go_quiet (fail)
  go_wp2
  go_ret
  unfold Listed
  rw [EdState.listed_eq HG.out]
  exact ⟨l, κ, rfl, HX.out.stayN ((Fr.refl nob w).drewN _) (fun _ _ => rfl), HU.out.stay ((Fr.refl nob w).drewN _) (NR.nob _) (fun _ h => h.elim) (fun h => h) (fun _ _ => rfl), fun _ _ => rfl, edM.nob ((Fr.refl nob w).drewN _)⟩

theorem UndosL.new {w w1 w2 : World} {κ : Col} {i um l : Nat} {u : Int → Option (List (List EditP) × Int)} {f : Int → Option Value} {p : Int} (h1 : MapRep w um f) (h2 : ∀ p, u p = none → f p = none)
    (h3 : ∀ p g, u p = some g → 0 ≤ p ∧ ∃ l, f p = some (.pointer (some ⟨l, 0, none⟩)) ∧ ListRep w (fun b => κ b = (i, 5 + p.toNat)) l g.1 [] 0 g.2) (hp : 0 ≤ p)
    (hf1 : Fr nob w w1) (hl : ListRep w1 (newIn w) l [] [] 0 0) (hf2 : Fr (one um) w1 w2) (hm : MapRep w2 um (upd f p (.pointer (some ⟨l, 0, none⟩)))) : UndosL w2 (paint κ w.heap.size (i, 5 + p.toNat)) i um (updU u p ([], 0)) p l := by
  obtain ⟨es, cl, hb, _⟩ := h1.stay hf1 (fun h => h)
  have hnr : NoRows w1 (one um) := fun x hx c T fr h => by
    cases hx
    rw [hb] at h
    cases h
  have hlu := h1.lt
  refine ⟨_, hm, fun q hq => ?_, fun q g hq => ?_, if_pos rfl⟩
  · unfold updU at hq
    split at hq
    · cases hq
    · rename_i hne
      unfold upd
      rw [if_neg hne]
      exact h2 q hq
  · unfold updU at hq
    split at hq
    · rename_i e
      subst e
      injection hq with hq
      subst hq
      refine ⟨hp, l, if_pos rfl, (hl.stayC hf2 hnr).mono (fun y hy => paint_new _ _ _ _ ?_)⟩
      exact hy.elim (fun h => h.elim) id
    · rename_i hne
      obtain ⟨h0, l', h5, h6⟩ := h3 q g hq
      refine ⟨h0, l', (if_neg hne).trans h5, ((h6.within.stayN hf1).stayC hf2 hnr).mono (fun y hy => by rw [paint_old _ _ _ _ hy.2]; exact hy.1)⟩

set_option maxRecDepth 10000 in
set_option maxHeartbeats 1000000 in
theorem ed_list_none (w : World) (κ : Col) (i e b r k tm um h bl : Nat) (was : Nat → Value) (putv : Value) (S : EdState) (x : EdAt w κ i e b r k tm um h bl was putv S) (hp : 0 ≤ S.core.place) (hg : S.core.undos S.core.place = none) :
    Calls Try.prog 33 #[.pointer (some ⟨e, 0, none⟩)] w (Listed w κ i e b r k tm um h bl was putv S) := by
  obtain ⟨f, hf1, hf2, hf3⟩ := x.core.undos
  have hfl := hf2 _ hg
  have hlk : ∀ n, (Instr.lookup 64 (.map (some um)) (.int .i64 S.core.place) false).run Try.prog (w.drewN n) = .ok (.pointer none) (w.drewN n) := fun n => by
    have := run_mapget (P := Try.prog) (w.drewN n) 64 3 78 (.pointer none) um f S.core.place false Try.underlying64 Try.underlying3 (fun _ => rfl) (hf1.stay ((Fr.refl nob w).drewN n) (fun h => h))
    rw [this, hfl]
    rfl
  have hce := blk_cells x.blk
  have hc3 : w.cell? ⟨e, 3, none⟩ = some (.map (some um)) := by rw [hce]; rfl
  have hc2 : w.cell? ⟨e, 2, none⟩ = some (.pointer (some ⟨k, 0, none⟩)) := by rw [hce]; rfl
  have hck : w.cell? ⟨k, 0, none⟩ = some (.int .i64 S.core.place) := by rw [blk_cells x.core.walk]; rfl
  have HCE : Hid (∀ V, Fr nob w V → V.cell? ⟨e, 3, none⟩ = some (.map (some um)) ∧ V.cell? ⟨e, 2, none⟩ = some (.pointer (some ⟨k, 0, none⟩)) ∧ V.cell? ⟨k, 0, none⟩ = some (.int .i64 S.core.place)) := fun V hV => by
    have h1 := blk_cells (hV.keep x.blk (fun h => h))
    have h2 := blk_cells (hV.keep x.core.walk (fun h => h))
    exact ⟨by rw [h1]; rfl, by rw [h1]; rfl, by rw [h2]; rfl⟩
  have HX := Lib.hid x
  have HG := Lib.hid hg
  have HM := Lib.hid hf1
  have HM2 := Lib.hid hf2
  have HM3 := Lib.hid hf3
  have HP := Lib.hid hp
  clear x hg hf1 hf2 hf3 hfl hce hp
  go_enter Try.func33, Try.ntmps33
  go_wp2
  go_quiet (fail)
  go_wp2_with (go_at_call 64; refine (undo_new _ nob).mono ?_; rintro y w1 ⟨rfl, hl1, hf1⟩; have hn1 := (Fr.ofDrewN hf1); obtain ⟨hc3', hc2', hck'⟩ := HCE.out _ hn1; have HL1 := Lib.hid (show ListRep w1 (newIn w) w.heap.size [] [] 0 0 from hl1); have HF1 := Lib.hid hn1; clear hl1 hf1 hn1)
  go_still_tail 14, (by kernel_rfl)
  refine wpList_mapset rfl 64 3 78 (.tmp 25) (.tmp 33) (.tmp 34) rfl um f S.core.place (.pointer (some ⟨w.heap.size, 0, none⟩)) rfl rfl rfl Try.underlying64 Try.underlying3 ((HM.out.stay HF1.out (fun h => h)).stay (by first | exact (Fr.refl nob w1).drew | exact (Fr.refl nob w1).drewN _) (fun h => h)) ?_
  intro w2 hm2 hf2
  simp only [Act.put]
  have hw2 : Fr (one um) w1 w2 := by first | exact Fr.ofDrew hf2 | exact Fr.ofDrewN hf2
  have HU := Lib.hid (UndosL.new HM.out HM2.out HM3.out HP.out HF1.out HL1.out hw2 hm2)
  have HF2 := Lib.hid (HF1.out.after hw2)
  clear hm2 hf2 hw2 hc3' hc2' hck' hc3 hc2 hck
  go_wp2
  go_ret
  have hlst := EdState.lst_none HG.out
  have hcu := HX.out.core.cu
  obtain ⟨es, cl, hb, _⟩ := HM.out
  have hnr : NR w (one um) := fun y c fr h hy => by
    cases hy
    rw [hb] at h
    cases h
  have hS : S.listed = { S with core := { S.core with undos := updU S.core.undos S.core.place ([], 0) } } := by
    unfold EdState.listed EdState.setLst
    rw [hlst]
  have hci := HX.out.ci
  refine ⟨w.heap.size, paint κ w.heap.size (i, 5 + S.core.place.toNat), rfl, ?_, ?_, paint_old _ _ _, edM.of HF2.out hnr (fun y hy hM => by cases hM; rw [hcu]; intro h0; injection h0 with h0 _; omega)⟩
  · rw [hS]
    refine HX.out.setCore HF2.out hnr (fun y hy _ => by cases hy; rw [hcu]) (paint_old _ _ _) (HX.out.core.setUndos HF2.out hnr (fun y hy _ => ⟨0, by cases hy; rw [hcu]⟩) (paint_old _ _ _) HU.out.at) rfl
  · rw [hS]
    exact HU.out

theorem ed_list (w : World) (κ : Col) (i e b r k tm um h bl : Nat) (was : Nat → Value) (putv : Value) (S : EdState) (x : EdAt w κ i e b r k tm um h bl was putv S) (hp : 0 ≤ S.core.place) :
    Calls Try.prog 33 #[.pointer (some ⟨e, 0, none⟩)] w (Listed w κ i e b r k tm um h bl was putv S) := by
  cases hg : S.core.undos S.core.place with
  | none => exact ed_list_none w κ i e b r k tm um h bl was putv S x hp hg
  | some g => exact ed_list_some w κ i e b r k tm um h bl was putv S x g hg
end Go.Proofs.Ytbhklkolkclflaa
