/- Slices of runes as a law's arguments: what they read as, and that they read so behind the call. -/
import Derived.Test.YtbhklkolkclflaaGreatDoorL1
import Derived.Test.YtbhklkolkclflaaGreatDoorRows
import Derived.WalkKit
import Derived.ProofKit
import Derived.OpenShut
import Derived.ChangeSlices
namespace Go.Proofs.YtbhklkolkclflaaGreatDoor
open Go.ChangeShapes Go.WideShapes Go.ChangeAt Go.RowKit

theorem cell_keep {W W' : World} (hf : Fr nob W W') {a : Addr} {v : Value} (h : W.cell? a = some v) : W'.cell? a = some v := by
  have hb : a.block < W.heap.size := by
    rcases Nat.lt_or_ge a.block W.heap.size with h1 | h1
    · exact h1
    · simp [World.cell?, Array.getElem?_eq_none h1] at h
  rw [World.cell?_of_block (w := W) (a := a) (hf.blk a.block hb (fun h => h))]
  exact h
theorem keptBut_fr {W W' : World} (hf : Fr nob W W') (may : MemPlace → Prop) : W.keptBut W' may := by
  refine ⟨hf.os, hf.output, fun i hi => ?_⟩
  rw [hf.blk i hi (fun h => h)]
  cases h : W.heap[i]? with
  | none => rfl
  | some o =>
    cases o with
    | cells c t fr => exact ⟨rfl, rfl, rfl, fun _ _ => rfl⟩
    | map es c => exact Or.inr ⟨rfl, rfl⟩
    | _ => rfl

set_option maxRecDepth 10000 in
/-- An argument of runes. -/
theorem arg_runes {H : Type} {enc : TypeId × Value → H} {W : World} {base : Nat} {v : Value} {d : DataW H} {p : List MemPlace} (hok : Value.okWide Tryz.prog W .any base 23 v)
    (h : DataW.Trod enc Tryz.prog W 0 (fun _ => true) true 23 v d p) :
    ∃ a l c, v = .slice a (l : List Int).length c ∧ Sl W 1 a l.length c (runes l) ∧ ∀ W' sp, Fr nob W W' → (∀ q ∈ p, sp q.block = true) → DataW.Trod enc Tryz.prog W' 0 sp true 23 v d p := by
  obtain ⟨a0, len, cap, rfl⟩ := okWide_slice Tryz.underlying23 hok
  obtain ⟨fuel, hf⟩ := h
  have hcells : Tryz.prog.cellsOf 21 = 1 := by kernel_rfl
  rcases open_ints Tryz.underlying23 Tryz.underlying21 hcells hf with ⟨hcs, hx⟩ | ⟨a, len', cap', zs, hcs, _, hl, hm, hz, hx, hcell, hwz⟩
  · simp [Value.cells] at hcs
    obtain ⟨rfl, rfl, rfl⟩ := hcs
    simp only [Prod.mk.injEq] at hx
    obtain ⟨rfl, rfl⟩ := hx
    exact ⟨none, [], 0, rfl, ⟨rfl, Nat.le_refl _, .inl rfl, by simp [runes]⟩, fun W' sp _ _ => shut_slice_nil Tryz.underlying23⟩
  · simp [Value.cells] at hcs
    obtain ⟨rfl, rfl, rfl⟩ := hcs
    simp only [Prod.mk.injEq] at hx
    obtain ⟨rfl, rfl⟩ := hx
    simp only [if_true] at hz
    have hlen : (zs.take len).length = len := by rw [List.length_take]; omega
    refine ⟨some a, zs.take len, cap, by rw [hlen], ⟨by rw [hlen]; simp [runes]; omega, by omega, ?_, fun u hu => by obtain ⟨n, _, rfl⟩ := List.mem_map.1 hu; rfl⟩, fun W' sp hW hsp => ?_⟩
    · by_cases hz0 : len = 0
      · left
        subst hz0
        rfl
      · right
        obtain ⟨b, off, spot⟩ := a
        have hspot : spot = none := by simpa [Addr.add] using World.cell?_spot (hcell 0 (by omega))
        subst hspot
        refine ⟨b, off, rfl, fun j u hu => ?_⟩
        have hj : j < len := by
          have := (List.getElem?_eq_some_iff.1 hu).1
          simp only [runes, List.length_map, hlen] at this
          exact this
        rw [← add_plain, hcell j (by omega), ← hu]
        simp [runes, hj, List.getD]
        rw [List.getElem?_eq_getElem (by omega)]
        rfl
    · by_cases hz0 : zs.length = 0
      · have hc0 : cap = 0 := by omega
        have hl0 : len = 0 := by omega
        subst hc0; subst hl0
        have t0 := shut_ints (enc := enc) (w := W') (base := 0) (spare := sp) (held := true) (a := a) (len := 0) (cap := 0) (zs := zs) 0 Tryz.underlying23 Tryz.underlying21 hcells (Nat.zero_le _) (Nat.le_refl _) hm (by simp [hz0]) (fun i hi => cell_keep hW (hcell i hi)) hwz
        exact ⟨2, by simpa [Value.cells] using t0⟩
      · have hspb : sp a.block = true := by
          have := hsp (.cell a.block a.off) (MemPlace.mem_row.2 ⟨0, by omega, by simp⟩)
          exact this
        have t0 := shut_ints (enc := enc) (w := W') (base := 0) (spare := sp) (held := true) (a := a) (len := len) (cap := cap) (zs := zs) 0 Tryz.underlying23 Tryz.underlying21 hcells (Nat.zero_le _) hl hm (by simp [hspb, hz]) (fun i hi => cell_keep hW (hcell i hi)) hwz
        exact ⟨2, by simpa [Value.cells] using t0⟩
end Go.Proofs.YtbhklkolkclflaaGreatDoor
