/- A script among a law's arguments: what it reads as. -/
import Derived.Test.YtbhklkolkclflaaGreatDoorL9
import Derived.Test.YtbhklkolkclflaaGreatDoorRows
import Derived.WalkKit
import Derived.ProofKit
import Derived.OpenShut
import Derived.ChangeSlices
namespace Go.Proofs.YtbhklkolkclflaaGreatDoor
open Go.ChangeShapes Go.WideShapes Go.ChangeAt Go.RowKit

theorem bulk_one {H : Type} (d : DataW H) : 1 ≤ Rows.uptoBulk d := by
  cases d with
  | lit l => cases l <;> simp [Rows.uptoBulk]
  | nil => simp [Rows.uptoBulk]
  | _ => simp only [Rows.uptoBulk]; omega
theorem bulk_len {H : Type} (l : List (DataW H)) : l.length ≤ Rows.uptoBulkAll l := by
  induction l with
  | nil => simp [Rows.uptoBulkAll]
  | cons x r ih => have := bulk_one x; simp only [Rows.uptoBulkAll, List.length_cons]; omega
theorem bulk_part {H : Type} {d : DataW H} {l : List (DataW H)} (h : d ∈ l) : Rows.uptoBulk d ≤ Rows.uptoBulkAll l := by
  induction l with
  | nil => cases h
  | cons x r ih =>
    simp only [Rows.uptoBulkAll]
    rcases List.mem_cons.1 h with rfl | h
    · omega
    · have := ih h; omega
theorem parts_bulk {H : Type} : ∀ (cs : List CmdP) (ds : List (DataW H)), cs.length = ds.length → (∀ (i : Nat) (h : i < cs.length) (h' : i < ds.length), cs[i].1.length ≤ Rows.uptoBulk ds[i]) → partsOf cs ≤ Rows.uptoBulkAll ds
  | [], _, _, _ => Nat.zero_le _
  | c :: cs, [], h, _ => by simp at h
  | c :: cs, d :: ds, hl, h => by
    have h1 := parts_bulk cs ds (by simpa using hl) (fun i hi hi' => h (i + 1) (by simpa using hi) (by simpa using hi'))
    have h2 := h 0 (by simp) (by simp)
    simp only [List.getElem_cons_zero] at h2
    have h3 : partsOf (c :: cs) = c.1.length + partsOf cs := by simp [partsOf]
    simp only [Rows.uptoBulkAll]
    omega
theorem add_none {a : Addr} {g off : Nat} (h : a.add (0 * 5) = ⟨g, off, none⟩ ∨ a.add (0 * 2) = ⟨g, off, none⟩) : a.spot = none := by
  have h1 : a = ⟨g, off, none⟩ := by
    rcases h with h | h <;> simpa [Addr.add] using h
  rw [h1]
theorem list_of {α : Type} {R : Nat → α → Prop} : ∀ (n : Nat), (∀ i, i < n → ∃ c, R i c) → ∃ l : List α, l.length = n ∧ ∀ i (h : i < l.length), R i l[i]
  | 0, _ => ⟨[], rfl, fun i h => absurd h (by simp)⟩
  | n + 1, h => by
    obtain ⟨l, h1, h2⟩ := list_of n (fun i hi => h i (by omega))
    obtain ⟨c, hc⟩ := h n (by omega)
    refine ⟨l ++ [c], by simp [h1], fun i hi => ?_⟩
    rcases Nat.lt_or_ge i l.length with h3 | h3
    · rw [List.getElem_append_left h3]
      exact h2 i h3
    · obtain rfl : i = l.length := by simp at hi; omega
      simp only [List.getElem_append_right (Nat.le_refl _), Nat.sub_self, List.getElem_cons_zero]
      rw [h1]
      exact hc

section
variable {H : Type} {enc : TypeId × Value → H} {W : World} {n : Nat}
theorem runes_of {v : Value} {x : DataW H × List MemPlace} (hf : DataW.trod enc Tryz.prog W 0 (fun _ => true) true n 23 [v] = some x) : ∃ a l c, v = .slice a (l : List Int).length c ∧ Sl W 1 a l.length c (runes l) := by
  have hcells : Tryz.prog.cellsOf 21 = 1 := by kernel_rfl
  rcases open_ints Tryz.underlying23 Tryz.underlying21 hcells hf with ⟨hcs, hx⟩ | ⟨a, len, cap, zs, hcs, _, hl, hm, hz, hx, hcell, hwz⟩
  · injection hcs with hcs
    exact ⟨none, [], 0, hcs, ⟨rfl, Nat.le_refl _, .inl rfl, by simp [runes]⟩⟩
  · injection hcs with hcs
    subst hcs
    simp only [if_true] at hz
    have hlen : (zs.take len).length = len := by rw [List.length_take]; omega
    refine ⟨some a, zs.take len, cap, by rw [hlen], ⟨by rw [hlen]; simp [runes]; omega, by omega, ?_, fun u hu => by obtain ⟨n, _, rfl⟩ := List.mem_map.1 hu; rfl⟩⟩
    by_cases hz0 : len = 0
    · left
      subst hz0
      rfl
    · right
      obtain ⟨b, off, spot⟩ := a
      have hspot : spot = none := by simpa [Addr.add] using World.cell?_spot (hcell 0 (by omega))
      subst hspot
      refine ⟨b, off, rfl, fun j u hu => ?_⟩
      have hj : j < len := by
        have := (List.getElem?_eq_some_iff.1 hu).1
        simp only [runes, List.length_map, hlen] at this
        exact this
      rw [← add_plain, hcell j (by omega), ← hu]
      simp [runes, hj, List.getD]
      rw [List.getElem?_eq_getElem (by omega)]
      rfl
set_option maxRecDepth 10000 in
theorem part_of {a : Addr} {cs : List Value} {x : DataW H × List MemPlace} (hcl : W.cells? 0 a 5 = some cs) (hf : DataW.trod enc Tryz.prog W 0 (fun _ => true) true n 53 cs = some x) : ∃ g off p, a = ⟨g, off, none⟩ ∧ PartR W g off p := by
  obtain ⟨_, hl5, hc⟩ := World.cells?_some hcl
  obtain ⟨xs, m, _, _, hl, hlen, hg⟩ := DataW.trod_struct Tryz.underlying53 hf
  have hlen5 : xs.length = 5 := hlen
  have hk : Tryz.prog.cellsOf 3 = 1 ∧ Tryz.prog.cellsOf 4 = 1 ∧ Tryz.prog.cellsOf 23 = 1 := ⟨by kernel_rfl, by kernel_rfl, by kernel_rfl⟩
  match xs, hlen5, cs, hl5 with
  | [x0, x1, x2, x3, x4], _, [c0, c1, c2, c3, c4], _ =>
    have q0 : DataW.trod enc Tryz.prog W 0 (fun _ => true) true m 3 (List.take (Tryz.prog.cellsOf 3) (List.drop 0 [c0, c1, c2, c3, c4])) = some x0 := hg 0 _ rfl
    have q1 : DataW.trod enc Tryz.prog W 0 (fun _ => true) true m 3 (List.take (Tryz.prog.cellsOf 3) (List.drop 1 [c0, c1, c2, c3, c4])) = some x1 := hg 1 _ rfl
    have q2 : DataW.trod enc Tryz.prog W 0 (fun _ => true) true m 3 (List.take (Tryz.prog.cellsOf 3) (List.drop 2 [c0, c1, c2, c3, c4])) = some x2 := hg 2 _ rfl
    have q3 : DataW.trod enc Tryz.prog W 0 (fun _ => true) true m 4 (List.take (Tryz.prog.cellsOf 4) (List.drop 3 [c0, c1, c2, c3, c4])) = some x3 := hg 3 _ rfl
    have q4 : DataW.trod enc Tryz.prog W 0 (fun _ => true) true m 23 (List.take (Tryz.prog.cellsOf 23) (List.drop 4 [c0, c1, c2, c3, c4])) = some x4 := hg 4 _ rfl
    rw [hk.1] at q0 q1 q2
    rw [hk.2.1] at q3
    rw [hk.2.2] at q4
    obtain ⟨k0, e0, _⟩ := DataW.trod_int Tryz.underlying3 q0
    obtain ⟨k1, e1, _⟩ := DataW.trod_int Tryz.underlying3 q1
    obtain ⟨k2, e2, _⟩ := DataW.trod_int Tryz.underlying3 q2
    obtain ⟨k3, e3, _⟩ := DataW.trod_bool Tryz.underlying4 q3
    obtain ⟨ta, tl, tc, e4, ht⟩ := runes_of (v := c4) q4
    simp at e0 e1 e2 e3
    obtain ⟨g, off, spot⟩ := a
    have h0 := hc 0 (by decide)
    have hspot : spot = none := by simpa [Addr.add] using World.cell?_spot h0
    subst hspot
    refine ⟨g, off, ⟨k0, k1, k2, k3, tl⟩, rfl, ?_, ?_, ?_, ?_, ta, tc, ?_, ht⟩
    · rw [add_plain] at h0; simpa [e0] using h0
    · have h := hc 1 (by decide); rw [add_plain] at h; simpa [e1] using h
    · have h := hc 2 (by decide); rw [add_plain] at h; simpa [e2] using h
    · have h := hc 3 (by decide); rw [add_plain] at h; simpa [e3] using h
    · have h := hc 4 (by decide); rw [add_plain] at h; simpa [e4] using h
theorem parts_of {v : Value} {x : DataW H × List MemPlace} (hf : DataW.trod enc Tryz.prog W 0 (fun _ => true) true n 48 [v] = some x) : ∃ a ps c, v = .slice a (ps : List PartP).length c ∧ PartsR W a ps ∧ ps.length ≤ Rows.uptoBulk x.1 := by
  have hk : Tryz.prog.cellsOf 53 = 5 := by kernel_rfl
  rcases DataW.trod_slice Tryz.underlying48 hf with ⟨e, _⟩ | ⟨a, len, cap, elems, rest, m, _, e, hx, _, hle, hm, hel, hget, _⟩
  · injection e with e
    exact ⟨none, [], 0, e, fun j hj => absurd hj (by simp), by simp⟩
  · injection e with e
    rw [hk] at hget
    obtain ⟨ps, hpl, hps⟩ := list_of (R := fun i p => ∃ g off, a.add (i * 5) = ⟨g, off, none⟩ ∧ PartR W g off p) len (fun i hi => by
      have h1 := hget i hi
      rw [List.getElem?_eq_getElem (by omega)] at h1
      obtain ⟨cs, hc1, hc2⟩ := Option.bind_eq_some_iff.1 h1
      obtain ⟨g, off, p, h2, h3⟩ := part_of hc1 hc2
      exact ⟨p, g, off, h2, h3⟩)
    refine ⟨some a, ps, cap, by rw [e, hpl], fun j hj => ?_, ?_⟩
    · obtain ⟨g0, off0, hz, _⟩ := hps 0 (by omega)
      obtain ⟨g, off, h2, h3⟩ := hps j hj
      obtain ⟨b, o, spot⟩ := a
      cases spot with
      | none =>
        rw [add_plain] at h2
        injection h2 with h2 h4
        subst h2 h4
        exact ⟨_, _, rfl, h3⟩
      | some s =>
        cases add_none (.inl hz)
    · rw [hx]
      simp only [Rows.uptoBulk]
      have := bulk_len (elems.map (·.1))
      rw [List.length_map] at this
      omega
set_option maxRecDepth 10000 in
theorem cmd_of {a : Addr} {cs : List Value} {x : DataW H × List MemPlace} (hcl : W.cells? 0 a 2 = some cs) (hf : DataW.trod enc Tryz.prog W 0 (fun _ => true) true n 50 cs = some x) : ∃ g off c, a = ⟨g, off, none⟩ ∧ CmdR W g off c ∧ c.1.length ≤ Rows.uptoBulk x.1 := by
  obtain ⟨_, hl5, hc⟩ := World.cells?_some hcl
  obtain ⟨xs, m, _, hx, hl, hlen, hg⟩ := DataW.trod_struct Tryz.underlying50 hf
  have hlen5 : xs.length = 2 := hlen
  have hk : Tryz.prog.cellsOf 48 = 1 ∧ Tryz.prog.cellsOf 42 = 1 := ⟨by kernel_rfl, by kernel_rfl⟩
  match xs, hlen5, cs, hl5 with
  | [x0, x1], _, [c0, c1], _ =>
    have q0 : DataW.trod enc Tryz.prog W 0 (fun _ => true) true m 48 (List.take (Tryz.prog.cellsOf 48) (List.drop 0 [c0, c1])) = some x0 := hg 0 _ rfl
    have q1 : DataW.trod enc Tryz.prog W 0 (fun _ => true) true m 42 (List.take (Tryz.prog.cellsOf 42) (List.drop 1 [c0, c1])) = some x1 := hg 1 _ rfl
    rw [hk.1] at q0
    rw [hk.2] at q1
    obtain ⟨pa, ps, pc, e0, hps, hb⟩ := parts_of (v := c0) q0
    obtain ⟨k1, e1, _⟩ := DataW.trod_int Tryz.underlying42 q1
    simp at e1
    obtain ⟨g, off, spot⟩ := a
    have h0 := hc 0 (by decide)
    have hspot : spot = none := by simpa [Addr.add] using World.cell?_spot h0
    subst hspot
    refine ⟨g, off, (ps, k1), rfl, ⟨pa, pc, ?_, hps, ?_⟩, ?_⟩
    · rw [add_plain] at h0; simpa [e0] using h0
    · have h := hc 1 (by decide); rw [add_plain] at h; simpa [e1] using h
    · rw [hx]
      simp only [List.map_cons, List.map_nil, Rows.uptoBulk, Rows.uptoBulkAll]
      show ps.length ≤ _
      omega
theorem script_of {v : Value} {x : DataW H × List MemPlace} (hf : DataW.trod enc Tryz.prog W 0 (fun _ => true) true n 40 [v] = some x) : ∃ a cs c, v = .slice a (cs : List CmdP).length c ∧ ScriptR W a cs ∧ cs.length ≤ Rows.uptoBulk x.1 ∧ partsOf cs ≤ Rows.uptoBulk x.1 := by
  have hk : Tryz.prog.cellsOf 50 = 2 := by kernel_rfl
  rcases DataW.trod_slice Tryz.underlying40 hf with ⟨e, _⟩ | ⟨a, len, cap, elems, rest, m, _, e, hx, _, hle, hm, hel, hget, _⟩
  · injection e with e
    exact ⟨none, [], 0, e, fun j hj => absurd hj (by simp), by simp, by simp [partsOf]⟩
  · injection e with e
    rw [hk] at hget
    obtain ⟨cs, hpl, hps⟩ := list_of (R := fun i (c : CmdP) => (∃ g off, a.add (i * 2) = ⟨g, off, none⟩ ∧ CmdR W g off c) ∧ ∀ h : i < elems.length, c.1.length ≤ Rows.uptoBulk elems[i].1) len (fun i hi => by
      have h1 := hget i hi
      rw [List.getElem?_eq_getElem (by omega)] at h1
      obtain ⟨cs, hc1, hc2⟩ := Option.bind_eq_some_iff.1 h1
      obtain ⟨g, off, c, h2, h3, h4⟩ := cmd_of hc1 hc2
      exact ⟨c, ⟨g, off, h2, h3⟩, fun _ => h4⟩)
    have hb := bulk_len (elems.map (·.1))
    rw [List.length_map] at hb
    have hpb := parts_bulk cs (elems.map (·.1)) (by rw [List.length_map]; omega) (fun i h h' => by
      rw [List.getElem_map]
      exact (hps i h).2 _)
    refine ⟨some a, cs, cap, by rw [e, hpl], fun j hj => ?_, ?_, ?_⟩
    · obtain ⟨⟨g0, off0, hz, _⟩, _⟩ := hps 0 (by omega)
      obtain ⟨⟨g, off, h2, h3⟩, _⟩ := hps j hj
      obtain ⟨b, o, spot⟩ := a
      cases spot with
      | none =>
        rw [add_plain] at h2
        injection h2 with h2 h4
        subst h2 h4
        exact ⟨_, _, rfl, h3⟩
      | some s =>
        cases add_none (.inr hz)
    · rw [hx]
      simp only [Rows.uptoBulk]
      omega
    · rw [hx]
      simp only [Rows.uptoBulk]
      omega
end
end Go.Proofs.YtbhklkolkclflaaGreatDoor
