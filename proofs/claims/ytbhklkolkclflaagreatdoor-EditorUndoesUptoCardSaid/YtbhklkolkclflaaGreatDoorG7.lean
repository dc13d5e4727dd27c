/- Package killring: at, push, Kill, Rotate, Yank. Package killring: Kill. Package killring: Rotate, Yank. Package editor: the kill ring of an editor. Package editor: Copy, Kill. Package editor: Erase, Kill. Package editor: Insert, Yank. Package editor: Yank. Package editor: Start. -/
import Derived.Test.YtbhklkolkclflaaGreatDoorG3
import Derived.Test.YtbhklkolkclflaaGreatDoorG1
import Derived.Test.YtbhklkolkclflaaGreatDoorG2
import Derived.Test.YtbhklkolkclflaaGreatDoorG6
/- K2: Package killring: at, push, Kill, Rotate, Yank. -/
namespace Go.Proofs.YtbhklkolkclflaaGreatDoor
open Go.RowKit

theorem tmod60 (h n : Nat) : Int.tmod ((h : Int) + (n : Int)) 60 = (((h + n) % 60 : Nat) : Int) := by
  rw [Int.tmod_eq_emod_of_nonneg (by omega)]
  omega

set_option maxRecDepth 10000 in
theorem ring_at (w : World) (r : Nat) (ents : List (List Int)) (p : Nat) (h : RingRep w r ents p) (i : Nat) (hi : i < ents.length) :
    Calls Tryz.prog 192 #[.pointer (some ⟨r, 0, none⟩), .int .i64 i] w fun e w' => ∃ a c, e = .returned (.slice a ents[i].length c) ∧ Own w' 21 1 (.slice a ents[i].length c) ents[i].length (runes ents[i]) ∧ Fr nob w w' := by
  obtain ⟨cells, h1, h2⟩ := h
  obtain ⟨hd, hlt, hc, hx⟩ := h2.ex
  obtain ⟨a, c, hs, ho⟩ := hx i hi
  have hle := h2.le
  have hi60 : i < 60 := by omega
  have c61 := (blk_cells h1 61).trans hc
  have cs := (blk_cells h1 (1 + (hd + i) % 60)).trans hs
  generalize hlen : ents[i].length = n at *
  have HO := Lib.hid ho
  have hm := tmod60 hd i
  generalize hk : (hd + i) % 60 = k at *
  have hk60 : k < 60 := by omega
  have w1 : IntKind.i64.wrap ((hd : Int) + (i : Int)) = (hd : Int) + (i : Int) := IntWalk.i64_in _ (by omega)
  clear h1 h2 hc hx hs ho
  go_enter Tryz.func192, Tryz.ntmps192
  go_wp2_with fail
  go_quiet (fail)
  go_wp2
  go_ret
  exact ⟨a, c, rfl, HO.out.stay ((Fr.refl nob _).drewN _) (fun _ _ _ _ h => h), (Fr.refl nob _).drewN _⟩

theorem set4 (cells : Array Value) (hs : cells.size = 64) (k : Nat) (hk : k < 60) (x y z u : Value) (j : Nat) :
    ((((cells.setIfInBounds 61 x).setIfInBounds (1 + k) y).setIfInBounds 62 z).setIfInBounds 63 u)[j]? = if j = 63 then some u else if j = 62 then some z else if j = 1 + k then some y else if j = 61 then some x else cells[j]? := by
  simp only [Array.getElem?_setIfInBounds, Array.size_setIfInBounds, hs]
  by_cases h1 : j = 63
  · subst h1; simp
  · by_cases h2 : j = 62
    · subst h2; simp
    · by_cases h3 : j = 1 + k
      · subst h3
        simp [show 1 + k < 64 by omega, show ¬ (62 = 1 + k) by omega, show ¬ (63 = 1 + k) by omega, show ¬ (1 + k = 62) by omega, show ¬ (1 + k = 63) by omega]
      · by_cases h4 : j = 61
        · subst h4; simp [show ¬ (1 + k = 61) by omega, show ¬ (61 = 1 + k) by omega]
        · simp [h1, h2, h3, h4, show ¬ (63 = j) by omega, show ¬ (62 = j) by omega, show ¬ (1 + k = j) by omega, show ¬ (61 = j) by omega]
theorem push_end {w V : World} {r hd k n c2 p : Nat} {cells cs1 : Array Value} {ents : List (List Int)} {l : List Int} {a2 : Option Addr} {M : Int} (h1 : w.heap[r]? = some (.cells cells 219 (0, 0))) (h2 : RingCells w cells ents p)
    (hx : ∀ i (hi : i < ents.length), ∃ a c, cells[1 + (hd + i) % 60]? = some (.slice a ents[i].length c) ∧ Own w 21 1 (.slice a ents[i].length c) ents[i].length (runes ents[i]))
    (hk : (hd + 59) % 60 = k) (hcs : cells.setIfInBounds 61 (.int .i64 (k : Nat)) = cs1) (hR : V.heap[r]? = some (.cells (cs1.setIfInBounds (1 + k) (.slice a2 n c2)) 219 (0, 0))) (ho : Own V 21 1 (.slice a2 n c2) n (runes l)) (hn : l.length = n)
    (hf : Fr (one r) w V) (hM : M = ((min (ents.length + 1) 60 : Nat) : Int)) {X : World} (hX : X = (V.setCell ⟨r, 62, none⟩ (.int .i64 M)).setCell ⟨r, 63, none⟩ (.int .i64 0)) : RingRep X r (l :: ents.take 59) 0 ∧ Fr (one r) w X := by
  subst hX
  subst hcs
  subst hn
  have hk60 : k < 60 := by omega
  have hfX : Fr (one r) V ((V.setCell ⟨r, 62, none⟩ (.int .i64 M)).setCell ⟨r, 63, none⟩ (.int .i64 0)) := ((Fr.refl _ _).setOne _ _).setOne _ _
  have hF : Fr (one r) w ((V.setCell ⟨r, 62, none⟩ (.int .i64 M)).setCell ⟨r, 63, none⟩ (.int .i64 0)) := (hf.setOne _ _).setOne _ _
  have hA := set4 cells h2.size k hk60 (.int .i64 (k : Nat)) (.slice a2 l.length c2) (.int .i64 M) (.int .i64 0)
  have hlen : (l :: ents.take 59).length = min (ents.length + 1) 60 := by rw [List.length_cons, List.length_take]; omega
  refine ⟨⟨_, heap_setCell_same (heap_setCell_same hR _) _, ?_⟩, hF⟩
  refine ⟨by simp [h2.size], ?_, ?_, ?_, by rw [hlen]; omega, .inr rfl, fun v hv => ?_, fun i hi => ?_, k, hk60, ?_, fun i hi => ?_⟩
  · rw [hA, if_neg (by omega), if_neg (by omega), if_neg (by omega), if_neg (by omega)]
    exact h2.made
  · rw [hA, if_neg (by omega), if_pos rfl, hlen, hM]
  · rw [hA, if_pos rfl]
    rfl
  · rcases Array.mem_or_eq_of_mem_setIfInBounds (Array.mem_toList_iff.1 hv) with hv | rfl
    · rcases Array.mem_or_eq_of_mem_setIfInBounds hv with hv | rfl
      · rcases Array.mem_or_eq_of_mem_setIfInBounds hv with hv | rfl
        · rcases Array.mem_or_eq_of_mem_setIfInBounds hv with hv | rfl
          · exact h2.one v (Array.mem_toList_iff.2 hv)
          · rfl
        · rfl
      · rfl
    · rfl
  · rw [hA, if_neg (by omega), if_neg (by omega)]
    by_cases hik : i = k
    · subst hik
      rw [if_pos rfl]
      exact ⟨_, _, _, rfl⟩
    · rw [if_neg (by omega), if_neg (by omega)]
      exact h2.slots i hi
  · rw [hA, if_neg (by omega), if_neg (by omega), if_neg (by omega), if_pos rfl]
  · rw [hlen] at hi
    cases i with
    | zero =>
      refine ⟨a2, c2, ?_, ho.stay hfX (NR.one hR (by decide))⟩
      have e : 1 + (k + 0) % 60 = 1 + k := by omega
      rw [e, hA, if_neg (by omega), if_neg (by omega), if_pos rfl]
      rfl
    | succ j =>
      have hj : j < ents.length := by omega
      obtain ⟨a, c, g1, g2⟩ := hx j hj
      have e : 1 + (k + (j + 1)) % 60 = 1 + (hd + j) % 60 := by omega
      have hg : (l :: ents.take 59)[j + 1]'(by rw [hlen]; omega) = ents[j] := by simp
      rw [hg]
      refine ⟨a, c, ?_, g2.stay hF (NR.one h1 (by decide))⟩
      rw [e, hA, if_neg (by omega), if_neg (by omega), if_neg (by omega), if_neg (by omega)]
      exact g1

set_option maxRecDepth 10000 in
theorem ring_push (w : World) (r : Nat) (ents : List (List Int)) (p : Nat) (h : RingRep w r ents p) (l : List Int) (a : Option Addr) (n c : Nat) (hn : l.length = n) (hl : ∀ V, Fr (one r) w V → Sl V 1 a n c (runes l)) (hb : n * 4 ≤ 140737488355328) :
    Calls Tryz.prog 227 #[.pointer (some ⟨r, 0, none⟩), .slice a n c] w fun e w' => e = .returned (.tuple #[]) ∧ RingRep w' r ((l :: ents).take 60) 0 ∧ Fr (one r) w w' := by
  obtain ⟨cells, h1, h2⟩ := h
  obtain ⟨hd, hlt, hc, hx⟩ := h2.ex
  have hle := h2.le
  have hlr := blk_lt h1
  have c61 := (blk_cells h1 61).trans hc
  have c62 := (blk_cells h1 62).trans h2.many
  have c63 := (blk_cells h1 63).trans h2.place
  have w1 : IntKind.i64.wrap ((hd : Int) + 60) = (hd : Int) + 60 := IntWalk.i64_in _ (by omega)
  have w2 : IntKind.i64.wrap ((hd : Int) + 60 - 1) = (hd : Int) + 60 - 1 := IntWalk.i64_in _ (by omega)
  have hm : Int.tmod ((hd : Int) + 60 - 1) 60 = (((hd + 59) % 60 : Nat) : Int) := by
    rw [Int.tmod_eq_emod_of_nonneg (by omega)]
    omega
  generalize hk : (hd + 59) % 60 = k at *
  have hk60 : k < 60 := by omega
  obtain ⟨a0, n0, k0, hs0⟩ := h2.slots k hk60
  have cs := (blk_cells h1 (1 + k)).trans hs0
  have HH1 := Lib.hid h1
  have HH2 := Lib.hid h2
  have HL := Lib.hid hl
  have HX := Lib.hid hx
  clear h1 h2 hl hx hc hs0
  have fz := blk_free HH1.out
  go_enter Tryz.func227, Tryz.ntmps227
  go_wp2_with fail
  have hW := heap_setCell_same (o := 61) HH1.out (.int .i64 (k : Nat))
  have hfW : Fr (one r) w (w.setCell ⟨r, 61, none⟩ (.int .i64 (k : Nat))) := (Fr.refl _ _).setOne _ _
  generalize w.setCell ⟨r, 61, none⟩ (.int .i64 (k : Nat)) = W at *
  have hcl := clone_runes W a n c _ (HL.out W hfW) hb
  have HCL := Lib.hid hcl
  have HWW := Lib.hid hW
  have hcW : (cells.setIfInBounds 61 (.int .i64 (k : Nat)))[61]? = some (.int .i64 (k : Nat)) := by
    rw [Array.getElem?_setIfInBounds_self_of_lt (by rw [HH2.out.size]; decide)]
  have hsW : (cells.setIfInBounds 61 (.int .i64 (k : Nat))).size = 64 := by rw [Array.size_setIfInBounds, HH2.out.size]
  generalize hcs : cells.setIfInBounds 61 (.int .i64 (k : Nat)) = cs1 at *
  clear c61 c62 c63 cs fz w1 w2 hm hcl hW
  have hS : ∀ V, (∃ c : Array Value, c.size = 64 ∧ c[61]? = some (.int .i64 (k : Nat)) ∧ V.heap[r]? = some (.cells c 219 (0, 0))) → (V.cell? ⟨r, 61, none⟩ = some (.int .i64 (k : Nat)) ∧ (∀ o, V.frozen? ⟨r, o, none⟩ = false) ∧ r < V.heap.size ∧ V.cell? ⟨r, 1 + k, none⟩ = some (cv V r (1 + k))) := fun V ⟨c, h1, h2, h3⟩ =>
    ⟨(blk_cells h3 61).trans h2, blk_free h3, blk_lt h3, cv_some h3 _ (by omega)⟩
  have HS := Lib.hid hS
  have HC1 := Lib.hid hcW
  have HZ1 := Lib.hid hsW
  have hne : 1 + k ≠ 61 := by omega
  have kb1 : (0 : Int) ≤ (k : Int) := by omega
  have kb2 : (k : Int) < 60 := by omega
  have HCS := Lib.hid hcs
  clear hS hcW hsW hcs
  go_region_held3 (fun V => V.cell? ⟨r, 61, none⟩ = some (.int .i64 (k : Nat)) ∧ (∀ o, V.frozen? ⟨r, o, none⟩ = false) ∧ r < V.heap.size ∧ V.cell? ⟨r, 1 + k, none⟩ = some (cv V r (1 + k)))
    ((go_split_ands; first
      | exact HS.out _ ⟨_, HZ1.out, HC1.out, (Fr.refl nob _).drew.keep HWW.out (fun h => h)⟩
      | exact HS.out _ ⟨_, HZ1.out, HC1.out, (Fr.then (Fr.refl nob _).drew hfr1).keep HWW.out (fun h => h)⟩
      | exact HS.out _ ⟨_, by rw [Array.size_setIfInBounds]; exact HZ1.out, (Array.getElem?_setIfInBounds_ne hne).trans HC1.out, heap_setCell_same ((Fr.then (Fr.refl nob _).drew hfr1).keep HWW.out (fun h => h)) _⟩))
    ((go_at_call 100; refine (clone_runes _ a n c _ (HL.out _ (by first | exact hfW.then (Fr.refl nob _).drew)) hb).mono ?_; rintro e w1 ⟨a2, c2, rfl, hown1, hfr1, hfresh1⟩; have HO1 := Lib.hid hown1; clear hown1))
  rename_i hSV
  clear hSV
  have hR := heap_setCell_same (o := 1 + k) ((Fr.then (Fr.refl nob W).drew hfr1).keep HWW.out (fun h => h)) (.slice a2 n c2)
  have hfV : Fr (one r) w (w1.setCell ⟨r, 1 + k, none⟩ (.slice a2 n c2)) := (hfW.then (Fr.then (Fr.refl nob W).drew hfr1)).setOne _ _
  have hf1 : Fr (one r) w1 (w1.setCell ⟨r, 1 + k, none⟩ (.slice a2 n c2)) := (Fr.refl _ _).setOne _ _
  have ho2 := HO1.out.stay hf1 (NR.one ((Fr.then (Fr.refl nob W).drew hfr1).keep HWW.out (fun h => h)) (by decide))
  generalize w1.setCell ⟨r, 1 + k, none⟩ (.slice a2 n c2) = V at *
  have HO2 := Lib.hid ho2
  have HR := Lib.hid hR
  have HFV := Lib.hid hfV
  have c62 : V.cell? ⟨r, 62, none⟩ = some (.int .i64 ents.length) := by
    rw [blk_cells hR, Array.getElem?_setIfInBounds_ne (by omega), ← HCS.out, Array.getElem?_setIfInBounds_ne (by omega)]
    exact HH2.out.many
  have c63 : V.cell? ⟨r, 63, none⟩ = some (.int .i64 p) := by
    rw [blk_cells hR, Array.getElem?_setIfInBounds_ne (by omega), ← HCS.out, Array.getElem?_setIfInBounds_ne (by omega)]
    exact HH2.out.place
  have hz2 := blk_free hR
  have hl2 := blk_lt hR
  have w3 : IntKind.i64.wrap ((ents.length : Int) + 1) = (ents.length : Int) + 1 := IntWalk.i64_in _ (by omega)
  clear ho2 hR hfV hf1 hfr1 hfresh1
  go_wp2
  all_goals refine bodyPost_end (results_none rfl _ _ _) rfl ?_
  · exact ⟨rfl, push_end HH1.out HH2.out HX.out hk HCS.out HR.out HO2.out hn HFV.out (by omega) rfl⟩
  · exact ⟨rfl, push_end HH1.out HH2.out HX.out hk HCS.out HR.out HO2.out hn HFV.out (by omega) rfl⟩
end Go.Proofs.YtbhklkolkclflaaGreatDoor
/- K3: Package killring: Kill. -/
namespace Go.Proofs.YtbhklkolkclflaaGreatDoor
open Go.RowKit

set_option maxRecDepth 10000 in
theorem ring_kill_nop (w : World) (r : Nat) (ents : List (List Int)) (p : Nat) (h : RingRep w r ents p) (a : Option Addr) (c : Nat) :
    Calls Tryz.prog 173 #[.pointer (some ⟨r, 0, none⟩), .int .i64 0, .slice a 0 c] w fun e w' => e = .returned (.int .i64 0) ∧ w' = w := by
  obtain ⟨cells, h1, h2⟩ := h
  have HN := Lib.hid (ring_none w r cells h1 h2.made)
  clear h1 h2
  go_enter Tryz.func173, Tryz.ntmps173
  go_wp2_with (go_at_call 191; refine (HN.out).mono ?_; rintro e w' ⟨rfl, rfl⟩)
  go_ret
  exact ⟨rfl, rfl⟩

set_option maxRecDepth 10000 in
theorem ring_kill_new (w : World) (r : Nat) (ents : List (List Int)) (p : Nat) (h : RingRep w r ents p) (l : List Int) (a : Option Addr) (n c : Nat) (hn : l.length = n) (hl : ∀ V, Fr (one r) w V → Sl V 1 a n c (runes l)) (hb : n ≤ 1024) (way : Int)
    (hw : way = 0 ∧ 0 < n ∨ (way = 1 ∨ way = 2) ∧ ents = []) :
    Calls Tryz.prog 173 #[.pointer (some ⟨r, 0, none⟩), .int .i64 way, .slice a n c] w fun e w' => e = .returned (.int .i64 0) ∧ RingRep w' r ((l :: ents).take 60) 0 ∧ Fr (one r) w w' := by
  have HP := Lib.hid (ring_push w r ents p h l a n c hn hl (by omega))
  obtain ⟨cells, h1, h2⟩ := h
  have HN := Lib.hid (ring_none w r cells h1 h2.made)
  have c62 := (blk_cells h1 62).trans h2.many
  have i1 : decide (1024 < (n : Int)) = false := decide_eq_false (by omega)
  have fin : ∀ V, RingRep V r ((l :: ents).take 60) 0 → Fr (one r) w V → RingRep (V.setCell ⟨r, 63, none⟩ (.int .i64 0)) r ((l :: ents).take 60) 0 ∧ Fr (one r) w (V.setCell ⟨r, 63, none⟩ (.int .i64 0)) := fun V hr hf => by
    refine ⟨?_, hf.setOne _ _⟩
    obtain ⟨cs, g1, g2⟩ := hr
    have hsame : cs.setIfInBounds 63 (.int .i64 0) = cs := by
      refine Array.ext (by simp) (fun i h1 h2 => ?_)
      rw [Array.getElem_setIfInBounds]
      split
      · rename_i e
        subst e
        have := g2.place
        rw [Array.getElem?_eq_getElem h2] at this
        injection this with this
        rw [this]
        rfl
      · rfl
    have g3 := heap_setCell_same (o := 63) g1 (.int .i64 0)
    rw [hsame] at g3
    exact ⟨cs, g3, g2.stay ((Fr.refl (one r) V).setOne _ _) (NR.one g1 (by decide))⟩
  have HFIN := Lib.hid fin
  clear h1 h2 hl fin
  rcases hw with ⟨rfl, hn0⟩ | ⟨hw, rfl⟩
  · have i2 : ((n : Int) == 0) = false := by simp; omega
    go_enter Tryz.func173, Tryz.ntmps173
    go_wp2_with (first
      | (go_at_call 191; refine (HN.out).mono ?_; rintro e w' ⟨rfl, rfl⟩)
      | (go_at_call 227; refine (HP.out).mono ?_; rintro e w1 ⟨rfl, hr1, hf1⟩; obtain ⟨cs, g1, g2⟩ := hr1; have HR1 := Lib.hid (show RingRep w1 r ((l :: ents).take 60) 0 from ⟨cs, g1, g2⟩); have c63 := (blk_cells g1 63).trans g2.place; have fz := blk_free g1; have lt1 := blk_lt g1; have HF1 := Lib.hid hf1; clear g1 g2 hf1))
    go_ret
    exact ⟨rfl, HFIN.out _ HR1.out HF1.out⟩
  · rcases hw with rfl | rfl
    · go_enter Tryz.func173, Tryz.ntmps173
      go_wp2_with (first
        | (go_at_call 191; refine (HN.out).mono ?_; rintro e w' ⟨rfl, rfl⟩)
        | (go_at_call 227; refine (HP.out).mono ?_; rintro e w1 ⟨rfl, hr1, hf1⟩; obtain ⟨cs, g1, g2⟩ := hr1; have HR1 := Lib.hid (show RingRep w1 r ((l :: []).take 60) 0 from ⟨cs, g1, g2⟩); have c63 := (blk_cells g1 63).trans g2.place; have fz := blk_free g1; have lt1 := blk_lt g1; have HF1 := Lib.hid hf1; clear g1 g2 hf1))
      go_ret
      exact ⟨rfl, HFIN.out _ HR1.out HF1.out⟩
    · go_enter Tryz.func173, Tryz.ntmps173
      go_wp2_with (first
        | (go_at_call 191; refine (HN.out).mono ?_; rintro e w' ⟨rfl, rfl⟩)
        | (go_at_call 227; refine (HP.out).mono ?_; rintro e w1 ⟨rfl, hr1, hf1⟩; obtain ⟨cs, g1, g2⟩ := hr1; have HR1 := Lib.hid (show RingRep w1 r ((l :: []).take 60) 0 from ⟨cs, g1, g2⟩); have c63 := (blk_cells g1 63).trans g2.place; have fz := blk_free g1; have lt1 := blk_lt g1; have HF1 := Lib.hid hf1; clear g1 g2 hf1))
      go_ret
      exact ⟨rfl, HFIN.out _ HR1.out HF1.out⟩

theorem join_end {w V : World} {r hd n c2 p : Nat} {cells : Array Value} {x m : List Int} {rest : List (List Int)} {a2 : Option Addr} (h1 : w.heap[r]? = some (.cells cells 219 (0, 0))) (h2 : RingCells w cells (x :: rest) p) (hlt : hd < 60)
    (hc : cells[61]? = some (.int .i64 (hd : Nat))) (hx : ∀ i (hi : i < (x :: rest).length), ∃ a c, cells[1 + (hd + i) % 60]? = some (.slice a (x :: rest)[i].length c) ∧ Own w 21 1 (.slice a (x :: rest)[i].length c) (x :: rest)[i].length (runes (x :: rest)[i]))
    (hR : V.heap[r]? = some (.cells (cells.setIfInBounds (1 + hd) (.slice a2 n c2)) 219 (0, 0))) (ho : Own V 21 1 (.slice a2 n c2) n (runes m)) (hn : m.length = n)
    (hf : Fr (one r) w V) {X : World} (hX : X = V.setCell ⟨r, 63, none⟩ (.int .i64 0)) : RingRep X r (m :: rest) 0 ∧ Fr (one r) w X := by
  subst hX
  subst hn
  have hfX : Fr (one r) V (V.setCell ⟨r, 63, none⟩ (.int .i64 0)) := (Fr.refl _ _).setOne _ _
  have hF : Fr (one r) w (V.setCell ⟨r, 63, none⟩ (.int .i64 0)) := hf.setOne _ _
  have hA : ∀ j, ((cells.setIfInBounds (1 + hd) (.slice a2 m.length c2)).setIfInBounds 63 (.int .i64 0))[j]? = if j = 63 then some (.int .i64 0) else if j = 1 + hd then some (.slice a2 m.length c2) else cells[j]? := fun j => by
    simp only [Array.getElem?_setIfInBounds, Array.size_setIfInBounds, h2.size]
    by_cases h1 : j = 63
    · subst h1; simp
    · by_cases h3 : j = 1 + hd
      · subst h3
        simp [show 1 + hd < 64 by omega, show ¬ (63 = 1 + hd) by omega, show ¬ (1 + hd = 63) by omega]
      · simp [h1, h3, show ¬ (63 = j) by omega, show ¬ (1 + hd = j) by omega]
  have hle := h2.le
  rw [List.length_cons] at hle
  refine ⟨⟨_, heap_setCell_same hR _, ?_⟩, hF⟩
  refine ⟨by simp [h2.size], ?_, ?_, ?_, by rw [List.length_cons]; omega, .inr rfl, fun v hv => ?_, fun i hi => ?_, hd, hlt, ?_, fun i hi => ?_⟩
  · rw [hA, if_neg (by omega), if_neg (by omega)]
    exact h2.made
  · rw [hA, if_neg (by omega), if_neg (by omega)]
    exact h2.many
  · rw [hA, if_pos rfl]
    rfl
  · rcases Array.mem_or_eq_of_mem_setIfInBounds (Array.mem_toList_iff.1 hv) with hv | rfl
    · rcases Array.mem_or_eq_of_mem_setIfInBounds hv with hv | rfl
      · exact h2.one v (Array.mem_toList_iff.2 hv)
      · rfl
    · rfl
  · rw [hA, if_neg (by omega)]
    by_cases hik : i = hd
    · subst hik
      rw [if_pos rfl]
      exact ⟨_, _, _, rfl⟩
    · rw [if_neg (by omega)]
      exact h2.slots i hi
  · rw [hA, if_neg (by omega), if_neg (by omega)]
    exact hc
  · rw [List.length_cons] at hi
    cases i with
    | zero =>
      refine ⟨a2, c2, ?_, ho.stay hfX (NR.one hR (by decide))⟩
      have e : 1 + (hd + 0) % 60 = 1 + hd := by omega
      rw [e, hA, if_neg (by omega), if_pos rfl]
      rfl
    | succ j =>
      obtain ⟨a, c, g1, g2⟩ := hx (j + 1) (by rw [List.length_cons]; omega)
      refine ⟨a, c, ?_, g2.stay hF (NR.one h1 (by decide))⟩
      rw [hA, if_neg (by omega), if_neg (by omega)]
      exact g1

theorem nobOne {r : Nat} {w V : World} (h : Fr nob w V) : Fr (one r) w V := h.mono (fun _ _ h => h.elim)
set_option maxRecDepth 10000 in
theorem ring_kill_join (w : World) (r : Nat) (x : List Int) (rest : List (List Int)) (p : Nat) (h : RingRep w r (x :: rest) p) (l : List Int) (a : Option Addr) (n c : Nat) (hn : l.length = n) (hl : ∀ V, Fr (one r) w V → Sl V 1 a n c (runes l)) (hb : n + x.length ≤ 1024) (way : Int)
    (hw : way = 1 ∨ way = 2) :
    Calls Tryz.prog 173 #[.pointer (some ⟨r, 0, none⟩), .int .i64 way, .slice a n c] w fun e w' => e = .returned (.int .i64 0) ∧ RingRep w' r ((if way = 1 then x ++ l else l ++ x) :: rest) 0 ∧ Fr (one r) w w' := by
  have hat : ∀ V, Fr nob w V → Calls Tryz.prog 192 #[.pointer (some ⟨r, 0, none⟩), .int .i64 0] V fun e w' => ∃ a c, e = .returned (.slice a x.length c) ∧ Own w' 21 1 (.slice a x.length c) x.length (runes x) ∧ Fr nob V w' := fun V hV => ring_at V r (x :: rest) p (h.stayN hV) 0 (by simp)
  obtain ⟨cells, h1, h2⟩ := h
  obtain ⟨hd, hlt, hc, hx⟩ := h2.ex
  have HN := Lib.hid (ring_none w r cells h1 h2.made)
  have HAT := Lib.hid hat
  have c61 := (blk_cells h1 61).trans hc
  have c62 := (blk_cells h1 62).trans h2.many
  generalize hm : (x :: rest).length = m at c62
  have hm0 : 0 < m := by rw [← hm]; simp
  have i1 : decide (1024 < (n : Int)) = false := decide_eq_false (by omega)
  have i3 : decide ((0 : Int) < (m : Int)) = true := decide_eq_true (by omega)
  generalize hxl : x.length = y at *
  have i2 : decide ((1024 : Int) - (y : Int) < (n : Int)) = false := decide_eq_false (by omega)
  have HX := Lib.hid hx
  have HH1 := Lib.hid h1
  have HH2 := Lib.hid h2
  have HCC := Lib.hid hc
  have HL := Lib.hid hl
  have HXL := Lib.hid hxl
  clear hat h1 h2 hl hx hc hxl hm
  have hS : ∀ V, (∃ c : Array Value, c.size = 64 ∧ c[61]? = some (.int .i64 (hd : Nat)) ∧ V.heap[r]? = some (.cells c 219 (0, 0))) → (V.cell? ⟨r, 61, none⟩ = some (.int .i64 (hd : Nat)) ∧ (∀ o, V.frozen? ⟨r, o, none⟩ = false) ∧ r < V.heap.size ∧ V.cell? ⟨r, 1 + hd, none⟩ = some (cv V r (1 + hd))) := fun V ⟨c, h1, h2, h3⟩ =>
    ⟨(blk_cells h3 61).trans h2, blk_free h3, blk_lt h3, cv_some h3 _ (by omega)⟩
  have HS := Lib.hid hS
  have hne : 1 + hd ≠ 61 := by omega
  have kb1 : (0 : Int) ≤ (hd : Int) := by omega
  have kb2 : (hd : Int) < 60 := by omega
  clear hS
  rcases hw with rfl | rfl
  · go_enter Tryz.func173, Tryz.ntmps173
    go_wp2_with (first
      | (go_at_call 191; refine (HN.out).mono ?_; rintro e w' ⟨rfl, rfl⟩)
      | (go_at_call 192; refine (HAT.out _ (Fr.refl _ _)).mono ?_; rintro e w1 ⟨xa, xc, rfl, ho, hf1⟩; have HF1 := Lib.hid hf1; clear ho hf1))
    go_region_held3 (fun V => V.cell? ⟨r, 61, none⟩ = some (.int .i64 (hd : Nat)) ∧ (∀ o, V.frozen? ⟨r, o, none⟩ = false) ∧ r < V.heap.size ∧ V.cell? ⟨r, 1 + hd, none⟩ = some (cv V r (1 + hd)))
      ((go_split_ands; first
        | exact HS.out _ ⟨_, HH2.out.size, HCC.out, (HF1.out.then (Fr.refl nob _).drew).keep HH1.out (fun h => h)⟩
        | exact HS.out _ ⟨_, HH2.out.size, HCC.out, ((HF1.out.then (Fr.refl nob _).drew).then hf2).keep HH1.out (fun h => h)⟩
        | exact HS.out _ ⟨_, HH2.out.size, HCC.out, (((HF1.out.then (Fr.refl nob _).drew).then hf2).alloc _).keep HH1.out (fun h => h)⟩
        | exact HS.out _ ⟨_, HH2.out.size, HCC.out, ((((HF1.out.then (Fr.refl nob _).drew).then hf2).alloc _).then hf3).keep HH1.out (fun h => h)⟩
        | exact HS.out _ ⟨_, by rw [Array.size_setIfInBounds]; exact HH2.out.size, (Array.getElem?_setIfInBounds_ne hne).trans HCC.out, heap_setCell_same (((((HF1.out.then (Fr.refl nob _).drew).then hf2).alloc _).then hf3).keep HH1.out (fun h => h)) _⟩))
      (first
        | (go_at_call 192; refine (HAT.out _ (HF1.out.then (Fr.refl nob _).drew)).mono ?_; rintro e w2 ⟨xa2, xc2, rfl, ho2, hf2⟩)
        | (go_at_call 103; refine (concat2 _ _ xa2 a y xc2 n c x l (heap_alloc_new _ _) (ho2.sl.oldN ((Fr.refl nob _).alloc _)) (HL.out _ (nobOne (((HF1.out.then (Fr.refl nob _).drew).then hf2).alloc _))) (by omega)).mono ?_; rintro e w3 ⟨ja, jc, rfl, ho3, hf3, _⟩))
    rename_i hSV
    clear hSV
    have hfr3 := (((HF1.out.then (Fr.refl nob _).drew).then hf2).alloc (.cells #[.slice xa2 y xc2, .slice a n c] 23)).then hf3
    have hR := heap_setCell_same (o := 1 + hd) (hfr3.keep HH1.out (fun h => h)) (.slice ja (y + n) jc)
    have hfV := (nobOne (r := r) hfr3).setOne (1 + hd) (.slice ja (y + n) jc)
    have ho := ho3.stay ((Fr.refl (one r) w3).setOne (1 + hd) (.slice ja (y + n) jc)) (NR.one (hfr3.keep HH1.out (fun h => h)) (by decide))
    generalize w3.setCell ⟨r, 1 + hd, none⟩ (.slice ja (y + n) jc) = V at *
    have HO := Lib.hid ho
    have HR := Lib.hid hR
    have HFV := Lib.hid hfV
    have c63 : V.cell? ⟨r, 63, none⟩ = some (.int .i64 p) := by
      rw [blk_cells hR, Array.getElem?_setIfInBounds_ne (by omega)]
      exact HH2.out.place
    have fz := blk_free hR
    have lt1 := blk_lt hR
    clear ho hR hfV hfr3 ho2 ho3 hf2 hf3
    go_wp2
    go_ret
    exact ⟨rfl, join_end HH1.out HH2.out hlt HCC.out HX.out HR.out HO.out (by rw [List.length_append, hn, HXL.out]) HFV.out rfl⟩
  · go_enter Tryz.func173, Tryz.ntmps173
    go_wp2_with (first
      | (go_at_call 191; refine (HN.out).mono ?_; rintro e w' ⟨rfl, rfl⟩)
      | (go_at_call 192; refine (HAT.out _ (Fr.refl _ _)).mono ?_; rintro e w1 ⟨xa, xc, rfl, ho, hf1⟩; have HF1 := Lib.hid hf1; clear ho hf1))
    go_region_held3 (fun V => V.cell? ⟨r, 61, none⟩ = some (.int .i64 (hd : Nat)) ∧ (∀ o, V.frozen? ⟨r, o, none⟩ = false) ∧ r < V.heap.size ∧ V.cell? ⟨r, 1 + hd, none⟩ = some (cv V r (1 + hd)))
      ((go_split_ands; first
        | exact HS.out _ ⟨_, HH2.out.size, HCC.out, (HF1.out.then (Fr.refl nob _).drew).keep HH1.out (fun h => h)⟩
        | exact HS.out _ ⟨_, HH2.out.size, HCC.out, ((HF1.out.then (Fr.refl nob _).drew).then hf2).keep HH1.out (fun h => h)⟩
        | exact HS.out _ ⟨_, HH2.out.size, HCC.out, (((HF1.out.then (Fr.refl nob _).drew).then hf2).alloc _).keep HH1.out (fun h => h)⟩
        | exact HS.out _ ⟨_, HH2.out.size, HCC.out, ((((HF1.out.then (Fr.refl nob _).drew).then hf2).alloc _).then hf3).keep HH1.out (fun h => h)⟩
        | exact HS.out _ ⟨_, by rw [Array.size_setIfInBounds]; exact HH2.out.size, (Array.getElem?_setIfInBounds_ne hne).trans HCC.out, heap_setCell_same (((((HF1.out.then (Fr.refl nob _).drew).then hf2).alloc _).then hf3).keep HH1.out (fun h => h)) _⟩))
      (first
        | (go_at_call 192; refine (HAT.out _ (HF1.out.then (Fr.refl nob _).drew)).mono ?_; rintro e w2 ⟨xa2, xc2, rfl, ho2, hf2⟩)
        | (go_at_call 103; refine (concat2 _ _ a xa2 n c y xc2 l x (heap_alloc_new _ _) (HL.out _ (nobOne (((HF1.out.then (Fr.refl nob _).drew).then hf2).alloc _))) (ho2.sl.oldN ((Fr.refl nob _).alloc _)) (by omega)).mono ?_; rintro e w3 ⟨ja, jc, rfl, ho3, hf3, _⟩))
    rename_i hSV
    clear hSV
    have hfr3 := (((HF1.out.then (Fr.refl nob _).drew).then hf2).alloc (.cells #[.slice a n c, .slice xa2 y xc2] 23)).then hf3
    have hR := heap_setCell_same (o := 1 + hd) (hfr3.keep HH1.out (fun h => h)) (.slice ja (n + y) jc)
    have hfV := (nobOne (r := r) hfr3).setOne (1 + hd) (.slice ja (n + y) jc)
    have ho := ho3.stay ((Fr.refl (one r) w3).setOne (1 + hd) (.slice ja (n + y) jc)) (NR.one (hfr3.keep HH1.out (fun h => h)) (by decide))
    generalize w3.setCell ⟨r, 1 + hd, none⟩ (.slice ja (n + y) jc) = V at *
    have HO := Lib.hid ho
    have HR := Lib.hid hR
    have HFV := Lib.hid hfV
    have c63 : V.cell? ⟨r, 63, none⟩ = some (.int .i64 p) := by
      rw [blk_cells hR, Array.getElem?_setIfInBounds_ne (by omega)]
      exact HH2.out.place
    have fz := blk_free hR
    have lt1 := blk_lt hR
    clear ho hR hfV hfr3 ho2 ho3 hf2 hf3
    go_wp2
    go_ret
    exact ⟨rfl, join_end HH1.out HH2.out hlt HCC.out HX.out HR.out HO.out (by rw [List.length_append, hn, HXL.out]) HFV.out rfl⟩
end Go.Proofs.YtbhklkolkclflaaGreatDoor
/- K4: Package killring: Rotate, Yank. -/
namespace Go.Proofs.YtbhklkolkclflaaGreatDoor
open Go.RowKit

/-- The place that a rotation leads to. -/
def rotI (m p : Nat) (n : Int) : Int := Int.tmod (Int.tmod ((p : Int) + Int.tmod n m) m + m) m
def rotP (m p : Nat) (n : Int) : Nat := (rotI m p n).toNat
theorem tmod_bounds (a : Int) {m : Nat} (hm : 0 < m) : -(m : Int) < Int.tmod a m ∧ Int.tmod a m < m := by
  have h1 := Int.tmod_lt_of_pos a (b := (m : Int)) (by omega)
  have h2 := Int.lt_tmod_of_pos a (b := (m : Int)) (by omega)
  omega
theorem rotI_bounds {m p : Nat} (hm : 0 < m) (n : Int) : 0 ≤ rotI m p n ∧ rotI m p n < m := by
  have h1 := tmod_bounds ((p : Int) + Int.tmod n m) hm
  have h2 := tmod_bounds (Int.tmod ((p : Int) + Int.tmod n m) m + m) hm
  exact ⟨Int.tmod_nonneg _ (by omega), h2.2⟩
theorem rotP_lt {m p : Nat} (hm : 0 < m) (n : Int) : rotP m p n < m := by
  have := rotI_bounds (p := p) hm n
  unfold rotP
  omega
theorem rotP_zero {m p : Nat} (hp : p < m) : rotP m p 0 = p := by
  have e1 : Int.tmod (p : Int) m = p := Int.tmod_eq_of_lt (by omega) (by omega)
  have e2 : Int.tmod ((p : Int) + m) m = p := by
    rw [Int.tmod_eq_emod_of_nonneg (by omega), Int.add_emod_right]
    exact Int.emod_eq_of_lt (by omega) (by omega)
  unfold rotP rotI
  rw [Int.zero_tmod, Int.add_zero, e1, e2]
  omega

theorem ring_place {w V : World} {r : Nat} {cells : Array Value} {ents : List (List Int)} {p q : Nat} (h1 : w.heap[r]? = some (.cells cells 219 (0, 0))) (h2 : RingCells w cells ents p) (hq : q < ents.length) (hV : V = w.setCell ⟨r, 63, none⟩ (.int .i64 q)) : RingRep V r ents q ∧ Fr (one r) w V := by
  subst hV
  have hf : Fr (one r) w (w.setCell ⟨r, 63, none⟩ (.int .i64 q)) := (Fr.refl _ _).setOne _ _
  have hA : ∀ j, (cells.setIfInBounds 63 (.int .i64 q))[j]? = if j = 63 then some (.int .i64 q) else cells[j]? := fun j => by
    simp only [Array.getElem?_setIfInBounds, h2.size]
    by_cases h1 : j = 63
    · subst h1; simp
    · simp [h1, show ¬ (63 = j) by omega]
  have hN : NR w (one r) := NR.one h1 (by decide)
  obtain ⟨hd, hlt, hc, hx⟩ := h2.ex
  refine ⟨⟨_, heap_setCell_same h1 _, ⟨by simp [h2.size], ?_, ?_, ?_, h2.le, .inl hq, fun v hv => ?_, fun i hi => ?_, hd, hlt, ?_, fun i hi => ?_⟩⟩, hf⟩
  · rw [hA, if_neg (by omega)]; exact h2.made
  · rw [hA, if_neg (by omega)]; exact h2.many
  · rw [hA, if_pos rfl]
  · rcases Array.mem_or_eq_of_mem_setIfInBounds (Array.mem_toList_iff.1 hv) with hv | rfl
    · exact h2.one v (Array.mem_toList_iff.2 hv)
    · rfl
  · rw [hA, if_neg (by omega)]; exact h2.slots i hi
  · rw [hA, if_neg (by omega)]; exact hc
  · obtain ⟨a, c, g1, g2⟩ := hx i hi
    refine ⟨a, c, ?_, g2.stay hf hN⟩
    rw [hA, if_neg (by omega)]
    exact g1

theorem ring_63 {w : World} {r : Nat} {ents : List (List Int)} {p : Nat} (h : RingRep w r ents p) : w.cell? ⟨r, 63, none⟩ = some (.int .i64 p) := by
  obtain ⟨cells, h1, h2⟩ := h
  exact (blk_cells h1 63).trans h2.place

set_option maxRecDepth 10000 in
theorem ring_rotate (w : World) (r : Nat) (ents : List (List Int)) (p : Nat) (h : RingRep w r ents p) (n : Int) (hne : 0 < ents.length) (hsm : ∀ x ∈ ents, x.length ≤ 1024) (q : Nat) (hq : q < ents.length) (hqe : rotP ents.length p n = q) :
    Calls Tryz.prog 112 #[.pointer (some ⟨r, 0, none⟩), .int .i64 n] w fun e w' => ∃ a c, e = .returned (.tuple #[.slice a ents[q].length c, .int .i64 0]) ∧
      Own w' 21 1 (.slice a ents[q].length c) ents[q].length (runes ents[q]) ∧ RingRep w' r ents q ∧ Fr (one r) w w' := by
  obtain ⟨cells, h1, h2⟩ := h
  have hfin : ∀ W, Fr nob w W → RingRep (W.setCell ⟨r, 63, none⟩ (.int .i64 q)) r ents q ∧ Fr (one r) w (W.setCell ⟨r, 63, none⟩ (.int .i64 q)) := fun W hW => by
    obtain ⟨g1, g2⟩ := ring_place (q := q) (hW.keep h1 (fun h => h)) (h2.stay hW (NR.nob _)) hq rfl
    exact ⟨g1, hW.after g2⟩
  have HFIN := Lib.hid hfin
  have HN := Lib.hid (ring_none w r cells h1 h2.made)
  have c62 := (blk_cells h1 62).trans h2.many
  have c63 := (blk_cells h1 63).trans h2.place
  have fz := blk_free h1
  have lt1 := blk_lt h1
  have hle := h2.le
  have hpl := h2.pl
  have hri := rotI_bounds (p := p) hne n
  have hrp : rotI ents.length p n = (q : Nat) := by rw [← hqe]; unfold rotP; omega
  unfold rotI at hrp
  have b1 := tmod_bounds n hne
  have b2 := tmod_bounds ((p : Int) + Int.tmod n ents.length) hne
  have hsq := hsm _ (List.getElem_mem hq)
  have HQ := Lib.hid hq
  have i0 : ((ents.length : Int) == 0) = false := beq_eq_false_iff_ne.2 (by omega)
  have i00 : (ents.length : Int) ≠ 0 := by omega
  have w1 : IntKind.i64.wrap ((p : Int) + Int.tmod n ents.length) = (p : Int) + Int.tmod n ents.length := IntWalk.i64_in _ (by omega)
  have w2 : IntKind.i64.wrap (Int.tmod ((p : Int) + Int.tmod n ents.length) ents.length + ents.length) = Int.tmod ((p : Int) + Int.tmod n ents.length) ents.length + ents.length := IntWalk.i64_in _ (by omega)
  generalize hlen : ents.length = m at c62 hrp b1 b2 w1 w2 i0 i00
  have HLEN := Lib.hid hlen
  have hm60 : m ≤ 60 := by omega
  have hm0 : (m = 0) = False := eq_false (by omega)
  have hm1 : ((m : Int) = 0) = False := eq_false i00
  clear h1 h2 hri hpl hfin hsm hqe hle hlen
  go_enter Tryz.func112, Tryz.ntmps112
  go_wp2_with (go_at_call 191; refine (HN.out).mono ?_; rintro e w' ⟨rfl, rfl⟩)
  go_still_tail 29, (by kernel_rfl)
  obtain ⟨hr1, hf1⟩ := HFIN.out _ (Fr.refl nob _).drew
  have HR1 := Lib.hid hr1
  have HF1 := Lib.hid hf1
  have hq0 := ring_63 hr1
  clear hr1 hf1
  go_wp2_with (first
    | (go_at_call 192; refine (ring_at _ r ents q HR1.out q HQ.out).mono ?_; rintro e w2 ⟨a2, c2, rfl, ho2, hf2⟩; have HO2 := Lib.hid ho2; have HF2 := Lib.hid hf2; clear ho2 hf2)
    | (go_at_call 100; refine (clone_runes _ _ _ _ _ HO2.out.sl (by omega)).mono ?_; rintro e w3 ⟨a3, c3, rfl, ho3, hf3, _⟩; have HO3 := Lib.hid ho3; have HF3 := Lib.hid hf3; clear ho3 hf3))
  refine bodyPost_ret (v := .tuple #[.slice a3 ents[q].length c3, .int .i64 0]) (by simp [results, Tryz.results112, go_sem]; rfl) rfl ⟨a3, c3, rfl, HO3.out, (HR1.out.stayN HF2.out).stayN HF3.out, (HF1.out.then HF2.out).then HF3.out⟩

set_option maxRecDepth 10000 in
theorem ring_rotate_none (w : World) (r : Nat) (p : Nat) (h : RingRep w r [] p) (n : Int) :
    Calls Tryz.prog 112 #[.pointer (some ⟨r, 0, none⟩), .int .i64 n] w fun e w' => e = .returned (.tuple #[.slice none 0 0, .int .i64 6]) ∧ w' = w := by
  obtain ⟨cells, h1, h2⟩ := h
  have HN := Lib.hid (ring_none w r cells h1 h2.made)
  have c62 : w.cell? ⟨r, 62, none⟩ = some (.int .i64 0) := (blk_cells h1 62).trans h2.many
  clear h1 h2
  go_enter Tryz.func112, Tryz.ntmps112
  go_wp2_with (go_at_call 191; refine (HN.out).mono ?_; rintro e w' ⟨rfl, rfl⟩)
  exact bodyPost_ret (v := .tuple #[.slice none 0 0, .int .i64 6]) (by simp [results, Tryz.results112, go_sem]) rfl ⟨rfl, rfl⟩

set_option maxRecDepth 10000 in
theorem ring_yank (w : World) (r : Nat) (ents : List (List Int)) (p : Nat) (h : RingRep w r ents p) (hp : p < ents.length) (hsm : ∀ x ∈ ents, x.length ≤ 1024) :
    Calls Tryz.prog 109 #[.pointer (some ⟨r, 0, none⟩)] w fun e w' => ∃ a c, e = .returned (.tuple #[.slice a ents[p].length c, .int .i64 0]) ∧
      Own w' 21 1 (.slice a ents[p].length c) ents[p].length (runes ents[p]) ∧ RingRep w' r ents p ∧ Fr (one r) w w' := by
  have HR := Lib.hid (ring_rotate w r ents p h 0 (by omega) hsm p hp (rotP_zero hp))
  clear h hsm
  go_enter Tryz.func109, Tryz.ntmps109
  go_wp2_with (go_at_call 112; refine (HR.out).mono ?_; rintro e w1 ⟨a, c, rfl, ho, hr, hf⟩; have HO := Lib.hid ho; have HR1 := Lib.hid hr; have HF := Lib.hid hf; clear ho hr hf)
  exact bodyPost_ret (v := .tuple #[.slice a ents[p].length c, .int .i64 0]) (by simp [results, Tryz.results109, go_sem]) rfl ⟨a, c, rfl, HO.out, HR1.out, HF.out⟩

set_option maxRecDepth 10000 in
theorem ring_yank_none (w : World) (r : Nat) (p : Nat) (h : RingRep w r [] p) :
    Calls Tryz.prog 109 #[.pointer (some ⟨r, 0, none⟩)] w fun e w' => e = .returned (.tuple #[.slice none 0 0, .int .i64 6]) ∧ w' = w := by
  have HR := Lib.hid (ring_rotate_none w r p h 0)
  clear h
  go_enter Tryz.func109, Tryz.ntmps109
  go_wp2_with (go_at_call 112; refine (HR.out).mono ?_; rintro e w1 ⟨rfl, rfl⟩)
  exact bodyPost_ret (v := .tuple #[.slice none 0 0, .int .i64 6]) (by simp [results, Tryz.results109, go_sem]) rfl ⟨rfl, rfl⟩
end Go.Proofs.YtbhklkolkclflaaGreatDoor
/- E19: Package editor: the kill ring of an editor. -/
namespace Go.Proofs.YtbhklkolkclflaaGreatDoor
open Go.RowKit

/-- What a kill makes of the entries. -/
def killE (way : Int) (E : List (List Int)) (q : Nat) (l : List Int) : List (List Int) × Nat :=
  if way = 0 ∧ l = [] then (E, q) else if way = 0 ∨ E = [] then ((l :: E).take 60, 0) else ((if way = 1 then E.headD [] ++ l else l ++ E.headD []) :: E.tail, 0)

theorem ring_kill (w : World) (r : Nat) (E : List (List Int)) (q : Nat) (h : RingRep w r E q) (l : List Int) (a : Option Addr) (n c : Nat) (hn : l.length = n) (hl : ∀ V, Fr (one r) w V → Sl V 1 a n c (runes l)) (way : Int) (hw : way = 0 ∨ way = 1 ∨ way = 2)
    (hb : n ≤ 1024) (hj : way ≠ 0 → n + (E.headD []).length ≤ 1024) :
    Calls Tryz.prog 173 #[.pointer (some ⟨r, 0, none⟩), .int .i64 way, .slice a n c] w fun e w' => e = .returned (.int .i64 0) ∧ RingRep w' r (killE way E q l).1 (killE way E q l).2 ∧ Fr (one r) w w' := by
  unfold killE
  by_cases h1 : way = 0 ∧ l = []
  · rw [if_pos h1]
    obtain ⟨rfl, rfl⟩ := h1
    obtain rfl : n = 0 := hn.symm
    refine (ring_kill_nop w r E q h a c).mono ?_
    rintro e w' ⟨rfl, rfl⟩
    exact ⟨rfl, h, Fr.refl _ _⟩
  rw [if_neg h1]
  by_cases h2 : way = 0 ∨ E = []
  · rw [if_pos h2]
    refine ring_kill_new w r E q h l a n c hn hl hb way ?_
    rcases hw with h3 | h3
    · left
      refine ⟨h3, ?_⟩
      rcases Nat.eq_zero_or_pos n with h4 | h4
      · exact absurd ⟨h3, List.length_eq_zero_iff.1 (hn.trans h4)⟩ h1
      · exact h4
    · exact .inr ⟨h3, h2.resolve_left (by omega)⟩
  · rw [if_neg h2]
    have h3 : way ≠ 0 := fun h => h2 (.inl h)
    cases E with
    | nil => exact absurd (.inr rfl) h2
    | cons x rest => exact ring_kill_join w r x rest q h l a n c hn hl (hj h3) way (hw.resolve_left h3)

section
variable {w w' : World} {κ κ' : Col} {i b r k tm um : Nat} {S : CoreS}
theorem RingRep.nr {E : List (List Int)} {q : Nat} (h : RingRep w r E q) : NR w (one r) := by
  obtain ⟨cells, h1, _⟩ := h
  exact NR.one h1 (by decide)
theorem CoreAt.setRing (h : CoreAt w κ i b r k tm um S) (hf : Fr (one r) w w') (hk : ∀ y, y < w.heap.size → κ' y = κ y) {E : List (List Int)} {q : Nat} (hb : RingRep w' r E q) :
    CoreAt w' κ' i b r k tm um { S with ents := E, rpl := q } := by
  have hr := h.ring.nr
  have hn : ∀ x j, j ≠ 1 → κ x = (i, j) → ¬ one r x := fun x j hj hx hM => by
    cases hM
    rw [h.cr] at hx
    injection hx with _ hx
    exact hj hx.symm
  have l1 := h.buf.lt
  have l2 := h.ring.lt
  have l3 := blk_lt h.walk
  have l4 := h.texts.lt
  obtain ⟨f, hu, h2, h3⟩ := h.undos
  have l5 := hu.lt
  refine ⟨(hk _ l1).trans h.cb, h.buf.stay hf (hn _ 0 (by omega) h.cb) hr, (hk _ l2).trans h.cr, hb, (hk _ l3).trans h.ck, hf.keep h.walk (hn _ 2 (by omega) h.ck), (hk _ l4).trans h.ct,
    h.texts.stay hf (hn _ 3 (by omega) h.ct), (hk _ l5).trans h.cu, f, hu.stay hf (hn _ 4 (by omega) h.cu), h2, fun p g hp => ?_⟩
  obtain ⟨h0, l, h4, h5⟩ := h3 p g hp
  refine ⟨h0, l, h4, (h5.within.stay hf hr (fun y hy hM => hn _ (5 + p.toNat) (by omega) hy.1 hM)).mono (fun y hy => by rw [hk y hy.2]; exact hy.1)⟩
end

/-- The ring is another. -/
def EdState.rung (S : EdState) (E : List (List Int)) (q : Nat) : EdState := { S with core := { S.core with ents := E, rpl := q } }
section
variable {w w1 : World} {κ : Col} {i e b r k tm um h bl : Nat} {was : Nat → Value} {putv : Value} {S : EdState}
theorem EdAt.rung (x : EdAt w κ i e b r k tm um h bl was putv S) {E : List (List Int)} {q : Nat} (hb : RingRep w1 r E q) (hf : Fr (one r) w w1) : EdAt w1 κ i e b r k tm um h bl was putv (S.rung E q) :=
  x.setCore hf x.core.ring.nr (fun y hy _ => by cases hy; rw [x.core.cr]) (fun _ _ => rfl) (x.core.setRing hf (fun _ _ => rfl) hb) rfl
theorem EdAt.frRing (x : EdAt w κ i e b r k tm um h bl was putv S) (hf : Fr (one r) w w1) : Fr (edM w κ) w w1 :=
  edM.of hf x.core.ring.nr (fun y _ hy => by
    cases hy
    rw [x.core.cr]
    intro h0
    injection h0 with h0 _
    have := x.ci
    omega)
end
end Go.Proofs.YtbhklkolkclflaaGreatDoor
/- E20: Package editor: Copy, Kill. -/
namespace Go.Proofs.YtbhklkolkclflaaGreatDoor
open Go.RowKit

def EdState.killWay (S : EdState) (back : Bool) : Int := if S.core.last = 1 ∨ S.f.killed = true then (if back = true then 2 else 1) else 0
def EdState.copied (S : EdState) (f t : Nat) (back : Bool) : EdState :=
  let K := killE (S.killWay back) S.core.ents S.core.rpl ((S.core.text.drop f).take (t - f))
  let F : EdF := { S.f with killed := true, cls := 1 }
  { S.rung K.1 K.2 with f := F }

theorem sl_cut {V : World} {a : Option Addr} {n c f t : Nat} {l : List Int} (h : Sl V 1 a n c (runes l)) (hn : l.length = n) (hft : f ≤ t) (ht : t ≤ n) : Sl V 1 (if c = f then a else Option.map (fun x => x.add f) a) (t - f) (c - f) (runes ((l.drop f).take (t - f))) := by
  have hle := h.le
  refine ⟨by simp only [runes, List.length_map, List.length_take, List.length_drop]; omega, by omega, ?_, fun u hu => by obtain ⟨m, _, rfl⟩ := List.mem_map.1 hu; rfl⟩
  by_cases hz : t - f = 0
  · left
    rw [hz]
    rfl
  · right
    rcases h.rd with h0 | ⟨g, off, rfl, hc⟩
    · have := congrArg List.length h0
      simp only [runes, List.length_map, List.length_nil] at this
      omega
    · refine ⟨g, off + f, ?_, fun j u hu => ?_⟩
      · rw [if_neg (by omega)]
        have : (⟨g, off, none⟩ : Addr).add f = ⟨g, off + f, none⟩ := by
          unfold Addr.add
          split <;> simp_all
        simp [this]
      · have hj : j < t - f := by
          have := (List.getElem?_eq_some_iff.1 hu).1
          simp only [runes, List.length_map, List.length_take, List.length_drop] at this
          omega
        have h2 := hc (f + j) u (by
          rw [← hu]
          simp [runes, List.getElem?_drop, hj])
        rwa [← Nat.add_assoc] at h2

theorem copied_end {w w3 X : World} {κ : Col} {i e b r k tm um h bl : Nat} {was : Nat → Value} {putv : Value} {S : EdState} {f t : Nat} {back : Bool} {E : List (List Int)} {q : Nat} (x : EdAt w3 κ i e b r k tm um h bl was putv (S.rung E q)) (hf : Fr (edM w κ) w w3)
    (hE : killE (S.killWay back) S.core.ents S.core.rpl ((S.core.text.drop f).take (t - f)) = (E, q)) (hX : X = (w3.setCell ⟨e, 29, none⟩ (.bool true)).setCell ⟨e, 28, none⟩ (.int .i64 1)) : EdStep w κ i e b r k tm um h bl was (S.copied f t back) 0 (.returned (.int .i64 0)) X := by
  subst hX
  have hfe : Fr (one e) w3 ((w3.setCell ⟨e, 29, none⟩ (.bool true)).setCell ⟨e, 28, none⟩ (.int .i64 1)) := ((Fr.refl _ _).setOne _ _).setOne _ _
  have hS : S.copied f t back = { S.rung E q with f := { S.f with killed := true, cls := 1 } } := by
    unfold EdState.copied
    rw [hE]
  rw [hS]
  refine ⟨rfl, κ, putv, EdAt.setE x.ci x.ce x.blk hfe (heap_setCell_same (o := 28) (heap_setCell_same (o := 29) x.blk _) _) x.core ⟨x.rest.hist, x.rest.cb, x.rest.bells, x.rest.put, x.rest.mp⟩ x.wone x.inn, fun _ _ => rfl,
    edM.trans hf (fun _ _ => rfl) (edM.of hfe (NR.one x.blk (by decide)) (fun y _ hy => by cases hy; rw [x.ce]; decide))⟩

set_option maxRecDepth 10000 in
set_option maxHeartbeats 4000000 in
theorem ed_copy (w : World) (κ : Col) (i e b r k tm um h bl : Nat) (was : Nat → Value) (putv : Value) (S : EdState) (x : EdAt w κ i e b r k tm um h bl was putv S) (hin : S.f.inn = true) (f t : Nat) (hft : f ≤ t) (ht : t ≤ S.core.text.length) (htl : S.core.text.length ≤ 1024) (back : Bool)
    (hj : S.killWay back ≠ 0 → (t - f) + (S.core.ents.headD []).length ≤ 1024) :
    Calls Tryz.prog 85 #[.pointer (some ⟨e, 0, none⟩), .int .i64 f, .int .i64 t, .bool back] w (EdStep w κ i e b r k tm um h bl was (S.copied f t back) 0) := by
  have hpt := ed_part w e b r k um S.core h bl S.f was putv x.blk
  rw [if_pos hin] at hpt
  have HPT := Lib.hid hpt
  have hlen := fun V (hV : Fr nob w V) => buf_len V b _ _ _ (x.core.buf.stayN hV)
  have htx := fun V (hV : Fr nob w V) => buf_text V b _ _ _ (x.core.buf.stayN hV)
  have hkl := fun V (hV : Fr nob w V) a n c => ring_kill V r S.core.ents S.core.rpl (x.core.ring.stayN hV) ((S.core.text.drop f).take (t - f)) a n c
  have HLN := Lib.hid hlen
  have HTX := Lib.hid htx
  have HKL := Lib.hid hkl
  have HRR := Lib.hid (fun V (hV : Fr nob w V) => x.core.ring.stayN hV)
  have hcell : ∀ V, Fr nob w V → V.cell? ⟨e, 0, none⟩ = some (.pointer (some ⟨b, 0, none⟩)) ∧ V.cell? ⟨e, 1, none⟩ = some (.pointer (some ⟨r, 0, none⟩)) ∧ V.cell? ⟨e, 6, none⟩ = some (.int .i64 S.core.last) ∧ V.cell? ⟨e, 29, none⟩ = some (.bool S.f.killed) := fun V hV => by
    have g := blk_cells (hV.keep x.blk (fun h => h))
    exact ⟨by rw [g]; rfl, by rw [g]; rfl, by rw [g]; rfl, by rw [g]; rfl⟩
  have hner : e ≠ r := fun h0 => by
    have h1 := x.ce
    have h2 := x.core.cr
    rw [← h0, h1] at h2
    injection h2 with h2 _
    have := x.ci
    omega
  have hcr : ∀ V, Fr (one r) w V → V.cell? ⟨e, 0, none⟩ = some (.pointer (some ⟨b, 0, none⟩)) ∧ V.cell? ⟨e, 1, none⟩ = some (.pointer (some ⟨r, 0, none⟩)) := fun V hV => by
    have g := blk_cells (hV.keep x.blk (fun h => hner h))
    exact ⟨by rw [g]; rfl, by rw [g]; rfl⟩
  have HCR := Lib.hid hcr
  have HCE := Lib.hid hcell
  obtain ⟨c0, c1, c6, c29⟩ := hcell w (Fr.refl _ _)
  have HX := Lib.hid x
  have HJ := Lib.hid hj
  generalize hn : S.core.text.length = n at *
  have HN := Lib.hid hn
  have i1 : decide ((f : Int) < 0) = false := decide_eq_false (by omega)
  have i2 : decide ((n : Int) < (f : Int)) = false := decide_eq_false (by omega)
  have i3 : decide ((t : Int) < (f : Int)) = false := decide_eq_false (by omega)
  have i4 : decide ((n : Int) < (t : Int)) = false := decide_eq_false (by omega)
  have j1 : (0 : Int) ≤ (f : Int) := by omega
  have j2 : (f : Int) ≤ (t : Int) := by omega
  have j3 : (t : Int) ≤ (n : Int) := by omega
  clear x hpt hlen htx hkl hcell hcr hj hn hin
  have hway : ∃ d1 d2 : Bool, (S.core.last == 1) = d1 ∧ S.f.killed = d2 ∧ S.killWay back = (if (d1 || d2) = true then (if back = true then 2 else 1) else 0) := by
    refine ⟨_, _, rfl, rfl, ?_⟩
    unfold EdState.killWay
    by_cases h1 : S.core.last = 1
    · simp [h1]
    · cases h2 : S.f.killed <;> simp [h1]
  obtain ⟨d1, d2, i5, hkd, hway⟩ := hway
  rw [hkd] at c29
  generalize S.core.last = last at i5 c6
  cases d1 <;> cases d2 <;> cases back
  all_goals first | have HW := Lib.hid (show S.killWay _ = 0 from hway) | have HW := Lib.hid (show S.killWay _ = 1 from hway) | have HW := Lib.hid (show S.killWay _ = 2 from hway)
  all_goals clear hway hkd
  all_goals go_enter Tryz.func85, Tryz.ntmps85
  all_goals go_wp2_with (first
    | (go_at_call 88; refine (HPT.out).mono ?_; rintro y w' ⟨rfl, rfl⟩)
    | (go_at_call 108; refine (HLN.out _ (by first | exact Fr.refl _ _ | exact (Fr.refl _ _).drewN _)).mono ?_; rintro y w2 ⟨rfl, q, rfl⟩))
  all_goals clear c0 c1 c6 c29 i1 i2 i3 i4 i5
  all_goals (
    go_region_held3 (fun V => V.cell? ⟨e, 0, none⟩ = some (.pointer (some ⟨b, 0, none⟩)) ∧ V.cell? ⟨e, 1, none⟩ = some (.pointer (some ⟨r, 0, none⟩)))
      ((go_split_ands; first
        | exact HCR.out _ (nobOne ((Fr.refl nob _).drewN _).drew)
        | exact HCR.out _ (nobOne (((Fr.refl nob _).drewN _).drew.then hf2))
        | exact HCR.out _ ((nobOne (((Fr.refl nob _).drewN _).drew.then hf2)).trans hf3 (fun _ _ h => h))))
      (first
        | (go_at_call 174; refine (HTX.out _ (((Fr.refl nob _).drewN _).drew)).mono ?_; rintro y w2 ⟨a2, c2, rfl, ho2, hf2, hr2⟩; have hc2 := ho2.sl.le; have hc2' : (t : Int) ≤ (c2 : Int) := by omega)
        | (go_at_call 173
           have g1 := (HRR.out _ (((Fr.refl nob _).drewN _).drew.then hf2)).nr
           have g2 : ((S.core.text.drop f).take (t - f)).length = t - f := by rw [List.length_take, List.length_drop, HN.out]; omega
           have g3 := fun V (hV : Fr (one r) w2 V) => sl_cut (f := f) (t := t) ((ho2.stay hV g1).sl) HN.out hft ht
           generalize (if c2 = f then a2 else Option.map (fun x => x.add f) a2) = z at *
           refine (HKL.out _ (((Fr.refl nob _).drewN _).drew.then hf2) _ (t - f) _ g2 g3 _ ?_ ?_ ?_).mono ?_
           · decide
           · omega
           · exact fun h0 => HJ.out (by rw [HW.out]; exact h0)
           rintro y w3 ⟨rfl, hr3, hf3⟩))
    have hx3 := (HX.out.stayN (((Fr.refl nob _).drewN _).drew.then hf2) (fun _ _ => rfl)).rung hr3 hf3
    have hF3 := (nobOne (r := r) (((Fr.refl nob _).drewN _).drew.then hf2)).trans hf3 (fun _ _ h => h)
    have hE3 := HX.out.frRing hF3
    have c29 := blk_cells hx3.blk 29
    have c28 := blk_cells hx3.blk 28
    have fz := blk_free hx3.blk
    have lt3 := blk_lt hx3.blk
    have HX3 := Lib.hid hx3
    have HE3 := Lib.hid hE3
    clear hx3 hE3 hF3 hr3 hf3 ho2 hf2
    go_wp2
    go_ret
    exact copied_end HX3.out HE3.out (by rw [HW.out]) rfl)
end Go.Proofs.YtbhklkolkclflaaGreatDoor
/- E21: Package editor: Erase, Kill. -/
namespace Go.Proofs.YtbhklkolkclflaaGreatDoor
open Go.RowKit

set_option maxRecDepth 10000 in
theorem ed_erase_room (w : World) (κ : Col) (i e b r k tm um h bl : Nat) (was : Nat → Value) (putv : Value) (S : EdState) (x : EdAt w κ i e b r k tm um h bl was putv S) (hok : EdsOk S) (hin : S.f.inn = true) (f t : Nat)
    (hft : f ≤ t) (ht : t ≤ S.core.text.length) (hlen : S.core.text.length ≤ 1024) (hroom : total S.lst.1 + S.put.length < 16384) :
    Calls Tryz.prog 83 #[.pointer (some ⟨e, 0, none⟩), .int .i64 f, .int .i64 t] w (EdStep w κ i e b r k tm um h bl was (S.replaced f t []) 0) := by
  have HR := Lib.hid (ed_replace_room w κ i e b r k tm um h bl was putv S x hok hin f t [] none 0 ⟨rfl, Nat.le_refl _, .inl rfl, by simp [runes]⟩ hft ht (by simp; omega) hroom)
  clear x hok hin hroom
  go_enter Tryz.func83, Tryz.ntmps83
  go_wp2_with (go_at_call 84; refine (HR.out).mono ?_; rintro y w1 ⟨rfl, hs⟩; have HS := Lib.hid hs; clear hs)
  go_ret
  exact ⟨rfl, HS.out⟩

theorem EdState.copied_ok {S : EdState} (h : EdsOk S) (f t : Nat) (back : Bool) : EdsOk (S.copied f t back) := ⟨h.lists, h.put, h.room, h.place⟩

set_option maxRecDepth 10000 in
theorem ed_kill (w : World) (κ : Col) (i e b r k tm um h bl : Nat) (was : Nat → Value) (putv : Value) (S : EdState) (x : EdAt w κ i e b r k tm um h bl was putv S) (hok : EdsOk S) (hin : S.f.inn = true) (f t : Nat) (hft : f ≤ t) (ht : t ≤ S.core.text.length) (htl : S.core.text.length ≤ 1024) (back : Bool)
    (hj : S.killWay back ≠ 0 → (t - f) + (S.core.ents.headD []).length ≤ 1024) (hroom : total S.lst.1 + S.put.length < 16384) :
    Calls Tryz.prog 41 #[.pointer (some ⟨e, 0, none⟩), .int .i64 f, .int .i64 t, .bool back] w (EdStep w κ i e b r k tm um h bl was ((S.copied f t back).replaced f t []) 0) := by
  have HC := Lib.hid (ed_copy w κ i e b r k tm um h bl was putv S x hin f t hft ht htl back hj)
  have her := fun V κ1 putv1 (x1 : EdAt V κ1 i e b r k tm um h bl was putv1 (S.copied f t back)) => ed_erase_room V κ1 i e b r k tm um h bl was putv1 (S.copied f t back) x1 (EdState.copied_ok hok f t back) hin f t hft ht htl hroom
  have HE := Lib.hid her
  clear x hok hin hj hroom her
  go_enter Tryz.func41, Tryz.ntmps41
  go_wp2_with (first
    | (go_at_call 85; refine (HC.out).mono ?_; rintro y w1 ⟨rfl, κ1, putv1, hx1, hk1, hf1⟩; have HX1 := Lib.hid hx1; have HK1 := Lib.hid hk1; have HF1 := Lib.hid hf1; clear hx1 hk1 hf1)
    | (go_at_call 83; refine (HE.out _ _ _ HX1.out).mono ?_; rintro y w2 ⟨rfl, κ2, putv2, hx2, hk2, hf2⟩; have HX2 := Lib.hid hx2; have HK2 := Lib.hid hk2; have HF2 := Lib.hid hf2; clear hx2 hk2 hf2))
  go_ret
  exact ⟨rfl, κ2, putv2, HX2.out, fun y hy => (HK2.out y (Nat.lt_of_lt_of_le hy HF1.out.size)).trans (HK1.out y hy), edM.trans HF1.out HK1.out HF2.out⟩
end Go.Proofs.YtbhklkolkclflaaGreatDoor
/- E22: Package editor: Insert, Yank. -/
namespace Go.Proofs.YtbhklkolkclflaaGreatDoor
open Go.RowKit

theorem step_buf {w w' : World} {κ : Col} {i e b r k tm um h bl : Nat} {was : Nat → Value} {S : EdState} (h : ∃ κ' putv', EdAt w' κ' i e b r k tm um h bl was putv' S ∧ (∀ y, y < w.heap.size → κ' y = κ y) ∧ Fr (edM w κ) w w') : w'.cell? ⟨e, 0, none⟩ = some (.pointer (some ⟨b, 0, none⟩)) := by
  obtain ⟨κ', putv', x, _⟩ := h
  rw [blk_cells x.blk]
  rfl

set_option maxRecDepth 10000 in
set_option maxHeartbeats 2000000 in
theorem ed_insert_room (w : World) (κ : Col) (i e b r k tm um h bl : Nat) (was : Nat → Value) (putv : Value) (S : EdState) (x : EdAt w κ i e b r k tm um h bl was putv S) (hok : EdsOk S) (hin : S.f.inn = true) (l : List Int) (al : Option Addr) (cl : Nat) (p m : Nat) (hp : S.core.point = p) (hm : l.length = m)
    (hl : Sl w 1 al m cl (runes l)) (hlen : m + S.core.text.length ≤ 1024) (hroom : total S.lst.1 + S.put.length < 16384) :
    Calls Tryz.prog 68 #[.pointer (some ⟨e, 0, none⟩), .slice al m cl] w (EdStep w κ i e b r k tm um h bl was (S.replaced p p l) 0) := by
  subst hm
  have hpt := ed_part w e b r k um S.core h bl S.f was putv x.blk
  rw [if_pos hin] at hpt
  have HPT := Lib.hid hpt
  have hbd : S.core.point ≤ S.core.text.length := by
    obtain ⟨_, _, _, _, _, _, _, _, _, _, _, _, h1, h2, h3, _⟩ := x.core.buf
    exact h3
  have hpn := fun (V : World) (hV : Fr nob w V) => buf_point V b _ _ _ (x.core.buf.stayN hV)
  rw [hp] at hpn hbd
  have HPN := Lib.hid hpn
  have hrep := fun (V : World) (hV : Fr nob w V) => ed_replace_room V κ i e b r k tm um h bl was putv S (x.stayN hV (fun _ _ => rfl)) hok hin p p l al cl (hl.oldN hV) (Nat.le_refl _) (by omega) (by omega) hroom
  have HREP := Lib.hid hrep
  have hc0 : w.cell? ⟨e, 0, none⟩ = some (.pointer (some ⟨b, 0, none⟩)) := by rw [blk_cells x.blk]; rfl
  generalize l.length = m at *
  clear x hok hin hpt hl hbd hpn hrep hlen hroom hp
  go_enter Tryz.func68, Tryz.ntmps68
  go_wp2_with (go_at_call 88; refine (HPT.out).mono ?_; rintro y w' ⟨rfl, rfl⟩)
  go_region_held3 (fun V => V.cell? ⟨e, 0, none⟩ = some (.pointer (some ⟨b, 0, none⟩)))
    ((first | exact hc0 | exact step_buf HS.out))
    (first
      | (go_at_call 107; refine (HPN.out _ (by first | exact Fr.refl nob _ | exact (Fr.refl nob _).drew | exact (Fr.refl nob _).drewN _)).mono ?_; rintro y w' ⟨rfl, rfl⟩)
      | (go_at_call 84; refine (HREP.out _ (by first | exact Fr.refl nob _ | exact (Fr.refl nob _).drew | exact (Fr.refl nob _).drewN _)).mono ?_; rintro y w2 ⟨rfl, hs⟩; have HS := Lib.hid hs; clear hs))
  go_wp2
  go_ret
  obtain ⟨κ', putv', hx, hk, hf⟩ := HS.out
  exact ⟨rfl, κ', putv', hx, hk, by first | exact hf | exact Fr.ofDrew hf | exact Fr.ofDrewN hf⟩
end Go.Proofs.YtbhklkolkclflaaGreatDoor
/- E23: Package editor: Yank. -/
namespace Go.Proofs.YtbhklkolkclflaaGreatDoor
open Go.RowKit

set_option maxRecDepth 10000 in
theorem ed_yank_none (w : World) (κ : Col) (i e b r k tm um h bl : Nat) (was : Nat → Value) (putv : Value) (S : EdState) (x : EdAt w κ i e b r k tm um h bl was putv S) (hin : S.f.inn = true) (he : S.core.ents = []) :
    Calls Tryz.prog 42 #[.pointer (some ⟨e, 0, none⟩)] w (EdStep w κ i e b r k tm um h bl was S 6) := by
  have hpt := ed_part w e b r k um S.core h bl S.f was putv x.blk
  rw [if_pos hin] at hpt
  have HPT := Lib.hid hpt
  have hrg := x.core.ring
  rw [he] at hrg
  have HY := Lib.hid (ring_yank_none w r _ hrg)
  have hc1 : w.cell? ⟨e, 1, none⟩ = some (.pointer (some ⟨r, 0, none⟩)) := by rw [blk_cells x.blk]; rfl
  have HX := Lib.hid x
  clear x hin hpt hrg he
  go_enter Tryz.func42, Tryz.ntmps42
  go_wp2_with (first
    | (go_at_call 88; refine (HPT.out).mono ?_; rintro y w' ⟨rfl, rfl⟩)
    | (go_at_call 109; refine (HY.out).mono ?_; rintro y w' ⟨rfl, rfl⟩))
  go_ret
  exact ⟨rfl, κ, putv, HX.out, fun _ _ => rfl, Fr.refl _ _⟩

/-- What was killed is put at the point. -/
def EdState.yankedTo (S : EdState) (p : Nat) (l : List Int) : EdState :=
  let R := S.replaced p p l
  let C : CoreS := { R.core with mark := p, yf := p, yt := p + l.length }
  let F : EdF := { R.f with yanked := true, cls := 2 }
  { R with core := C, f := F }

theorem EdState.replaced_text (S : EdState) (f t : Nat) (l : List Int) : (S.replaced f t l).core.text = S.core.text.take f ++ l ++ S.core.text.drop t ∧ (S.replaced f t l).core.point = newPoint S.core.point f t l.length := by
  unfold EdState.replaced EdState.roomed
  split
  · exact ⟨rfl, rfl⟩
  · split <;> exact ⟨rfl, rfl⟩

theorem yank_in {T L l : List Int} {p : Nat} (h : T = L.take p ++ l ++ L.drop p) (hp : p ≤ L.length) : -1 ≤ (p : Int) ∧ (p : Int) ≤ T.length := by
  subst h
  simp only [List.length_append, List.length_take, List.length_drop]
  omega

theorem yank_end {w w1 w3 w4 X : World} {κ κ3 : Col} {i e b r k tm um h bl : Nat} {was : Nat → Value} {putv3 : Value} {S R : EdState} {p m : Nat} {l : List Int} (hR : S.replaced p p l = R) (hm : l.length = m) (f1 : Fr (edM w κ) w w1) (hk3 : ∀ y, y < w1.heap.size → κ3 y = κ y) (f3 : Fr (edM w1 κ) w1 w3) (f4 : Fr (edM w3 κ3) w3 w4)
    (x : EdAt w4 κ3 i e b r k tm um h bl was putv3 { R with core := { R.core with mark := (p : Int) } }) (hX : X = (((w4.setCell ⟨e, 30, none⟩ (.bool true)).setCell ⟨e, 28, none⟩ (.int .i64 2)).setCell ⟨e, 7, none⟩ (.int .i64 p)).setCell ⟨e, 8, none⟩ (.int .i64 ((p : Int) + (m : Int)))) :
    EdStep w κ i e b r k tm um h bl was (S.yankedTo p l) 0 (.returned (.int .i64 0)) X := by
  subst hX
  subst hR
  subst hm
  have hfe : Fr (one e) w4 ((((w4.setCell ⟨e, 30, none⟩ (.bool true)).setCell ⟨e, 28, none⟩ (.int .i64 2)).setCell ⟨e, 7, none⟩ (.int .i64 p)).setCell ⟨e, 8, none⟩ (.int .i64 ((p : Int) + (l.length : Int)))) := ((((Fr.refl _ _).setOne _ _).setOne _ _).setOne _ _).setOne _ _
  refine ⟨rfl, κ3, putv3, EdAt.setE x.ci x.ce x.blk hfe (heap_setCell_same (o := 8) (heap_setCell_same (o := 7) (heap_setCell_same (o := 28) (heap_setCell_same (o := 30) x.blk _) _) _) _) ⟨x.core.cb, x.core.buf, x.core.cr, x.core.ring, x.core.ck, x.core.walk, x.core.ct, x.core.texts, x.core.cu, x.core.undos⟩
    ⟨x.rest.hist, x.rest.cb, x.rest.bells, x.rest.put, x.rest.mp⟩ x.wone x.inn, fun y hy => hk3 y (Nat.lt_of_lt_of_le hy f1.size), ?_⟩
  have f13 := edM.trans f1 (fun _ _ => rfl) f3
  have hk : ∀ y, y < w.heap.size → κ3 y = κ y := fun y hy => hk3 y (Nat.lt_of_lt_of_le hy f1.size)
  exact edM.trans (edM.trans f13 hk f4) hk (edM.of hfe (NR.one x.blk (by decide)) (fun y _ hy => by cases hy; rw [x.ce]; decide))

set_option maxRecDepth 10000 in
set_option maxHeartbeats 2000000 in
theorem ed_yank (w : World) (κ : Col) (i e b r k tm um h bl : Nat) (was : Nat → Value) (putv : Value) (S : EdState) (x : EdAt w κ i e b r k tm um h bl was putv S) (hok : EdsOk S) (hin : S.f.inn = true) (p : Nat) (hp : S.core.point = p) (hple : p ≤ S.core.text.length) (hq : S.core.rpl < S.core.ents.length) (hsm : ∀ x ∈ S.core.ents, x.length ≤ 1024)
    (l : List Int) (hl : S.core.ents[S.core.rpl] = l) (hlen : l.length + S.core.text.length ≤ 1024) (hroom : total S.lst.1 + S.put.length < 16384) :
    Calls Tryz.prog 42 #[.pointer (some ⟨e, 0, none⟩)] w (EdStep w κ i e b r k tm um h bl was (S.yankedTo p l) 0) := by
  have hpt := ed_part w e b r k um S.core h bl S.f was putv x.blk
  rw [if_pos hin] at hpt
  have HPT := Lib.hid hpt
  have hy := ring_yank w r _ _ x.core.ring hq hsm
  rw [hl] at hy
  have HY := Lib.hid hy
  have hc : w.cell? ⟨e, 0, none⟩ = some (.pointer (some ⟨b, 0, none⟩)) := by rw [blk_cells x.blk]; rfl
  have hc1 : w.cell? ⟨e, 1, none⟩ = some (.pointer (some ⟨r, 0, none⟩)) := by rw [blk_cells x.blk]; rfl
  have hins := fun (V : World) (x1 : EdAt V κ i e b r k tm um h bl was putv S) (a : Option Addr) (c : Nat) (ha : Sl V 1 a l.length c (runes l)) => ed_insert_room V κ i e b r k tm um h bl was putv S x1 hok hin l a c p l.length hp rfl ha hlen hroom
  have HINS := Lib.hid hins
  have HX := Lib.hid x
  have HP := Lib.hid hp
  obtain ⟨htx, hpx⟩ := EdState.replaced_text S p p l
  have HTX := Lib.hid htx
  generalize hm : l.length = m at *
  have HM := Lib.hid hm
  have ww : IntKind.i64.wrap ((p : Int) + (m : Int)) = (p : Int) + (m : Int) := IntWalk.i64_in _ (by omega)
  clear x hok hin hpt hy hins hp hlen hroom hsm hq hl htx hpx hm
  go_enter Tryz.func42, Tryz.ntmps42
  go_wp2_with (first
    | (go_at_call 88; refine (HPT.out).mono ?_; rintro y w' ⟨rfl, rfl⟩)
    | (go_at_call 109; refine (HY.out).mono ?_; rintro y w1 ⟨a, c, rfl, ho, hr1, hf1⟩; have hx1 : EdAt w1 κ i e b r k tm um h bl was putv S := HX.out.rung hr1 hf1; have hc2 : w1.cell? ⟨e, 0, none⟩ = some (.pointer (some ⟨b, 0, none⟩)) := (by rw [blk_cells hx1.blk]; rfl); have HX1 := Lib.hid hx1; have HF1 := Lib.hid (HX.out.frRing hf1); have HO := Lib.hid ho; clear hx1 hf1 ho hr1)
    | (go_at_call 107; have hpn := buf_point _ b _ _ _ HX1.out.core.buf; rw [HP.out] at hpn; refine hpn.mono ?_; clear hpn; rintro y w2 ⟨rfl, rfl⟩)
    | (go_at_call 68; refine (HINS.out _ HX1.out _ _ HO.out.sl).mono ?_; rintro y w3 ⟨rfl, κ3, putv3, hx3, hk3, hf3⟩; have hc3 : w3.cell? ⟨e, 0, none⟩ = some (.pointer (some ⟨b, 0, none⟩)) := (by rw [blk_cells hx3.blk]; rfl); have HX3 := Lib.hid hx3; have HK3 := Lib.hid hk3; have HF3 := Lib.hid hf3; clear hx3 hk3 hf3)
    | (go_at_call 110; have hsm := buf_setMark _ b _ _ _ (p : Int) HX3.out.core.buf; rw [if_pos (yank_in HTX.out hple)] at hsm; refine hsm.mono ?_; clear hsm; rintro y w4 ⟨rfl, hb4, hf4⟩; have hx4 := (HX3.out.setCore hf4 HX3.out.core.buf.nr (fun y hy _ => by cases hy; rw [HX3.out.core.cb]) (fun _ _ => rfl) (HX3.out.core.setBuf hf4 (fun _ _ => rfl) hb4) rfl); obtain ⟨v30, e30⟩ : ∃ v, w4.cell? ⟨e, 30, none⟩ = some v := ⟨_, by rw [blk_cells hx4.blk]; rfl⟩; obtain ⟨v28, e28⟩ : ∃ v, w4.cell? ⟨e, 28, none⟩ = some v := ⟨_, by rw [blk_cells hx4.blk]; rfl⟩; obtain ⟨v7, e7⟩ : ∃ v, w4.cell? ⟨e, 7, none⟩ = some v := ⟨_, by rw [blk_cells hx4.blk]; rfl⟩; obtain ⟨v8, e8⟩ : ∃ v, w4.cell? ⟨e, 8, none⟩ = some v := ⟨_, by rw [blk_cells hx4.blk]; rfl⟩; have z4 := blk_free hx4.blk; have l4 := blk_lt hx4.blk; have HX4 := Lib.hid hx4; have HF4 := Lib.hid (HX3.out.frBuf hf4); clear hx4 hf4 hb4))
  go_ret
  exact yank_end rfl HM.out HF1.out HK3.out HF3.out HF4.out HX4.out rfl
end Go.Proofs.YtbhklkolkclflaaGreatDoor
/- E24: Package editor: Start. -/
namespace Go.Proofs.YtbhklkolkclflaaGreatDoor
open Go.RowKit

/-- A line begins. -/
def EdState.started (S : EdState) (L : List Int) (hs : List (ByteArray × Int)) (base most : Int) : EdState :=
  { S with core := S.core.begun L hs.length, f := { S.f with given := false, minus := false, arg := -1 }, hist := hs, base := base, most := most }

/-- The cells of an editor, by number. -/
def edX (b r k um : Nat) (C : CoreS) (h bl : Nat) (f : EdF) (was : Nat → Value) (put : Value) (j : Nat) : Value := (edArr b r k um C h bl f was put).getD j (.bool false)
theorem edX_arr (b r k um : Nat) (C : CoreS) (h bl : Nat) (f : EdF) (was : Nat → Value) (put : Value) : arr34 (edX b r k um C h bl f was put) = edArr b r k um C h bl f was put := rfl
theorem start_arr (b r k um : Nat) (S : EdState) (h bl : Nat) (was : Nat → Value) (put : Value) (b2 k2 um2 h2 : Nat) (L : List Int) (hs : List (ByteArray × Int)) (base most : Int) :
    begArr2 (edX b r k um S.core h bl S.f was put) (.pointer (some ⟨h2, 0, none⟩)) (.pointer (some ⟨b2, 0, none⟩)) (.pointer (some ⟨r, 0, none⟩)) (.pointer (some ⟨k2, 0, none⟩)) (.map (some um2)) (.int .i64 S.core.mode)
      = edArr b2 r k2 um2 (S.started L hs base most).core h2 bl (S.started L hs base most).f was put := by
  simp [begArr2, arr34, edArr, edX, EdState.started, CoreS.begun]

theorem start_end {w w' : World} {κ : Col} {i e b r k tm um h bl : Nat} {was : Nat → Value} {putv : Value} {S : EdState} {L : List Int} {hs : List (ByteArray × Int)} {base most : Int} {y : Ending} (x : EdAt w κ i e b r k tm um h bl was putv S) (hin : S.f.inn = false)
    (hB : Begun w κ i e r (edX b r k um S.core h bl S.f was putv) S.core hs base most L y w') : EdDone w κ e (.int .i64 0) (S.started L hs base most) (.returned (.int .i64 0)) w' := by
  obtain ⟨_, b2, k2, tm2, um2, h2, κ2, hk, hc, hh, hb, hf⟩ := hB
  rw [start_arr b r k um S h bl was putv b2 k2 um2 h2 L hs base most] at hb
  have hne : NR w (one e) := NR.one x.blk (by decide)
  have hx : ∀ j, j ≠ 0 → ∀ z, κ z = (3, j) → ¬ one e z := fun j hj z hz hM => by
    cases hM
    rw [x.ce] at hz
    injection hz with _ hz
    exact hj hz.symm
  have lb := blk_lt x.rest.bells
  refine ⟨rfl, κ2, ⟨i, b2, r, k2, tm2, um2, h2, bl, was, putv, x.ci, (hk _ x.lt).trans x.ce, hb, hc, ⟨hh, (hk _ lb).trans x.rest.cb, hf.keep x.rest.bells (hx 2 (by decide) _ x.rest.cb), x.rest.put.stay hf hne (fun z hz hM => hx 3 (by decide) _ (x.rest.mp z hz) hM), fun z hz => (hk z (x.rest.put.lt z hz)).trans (x.rest.mp z hz)⟩, x.wone, fun h => ?_⟩, hk, edM.of hf hne (fun z _ hz => by cases hz; rw [x.ce]; decide)⟩
  have : S.f.inn = true := h
  rw [hin] at this
  cases this

set_option maxRecDepth 10000 in
set_option maxHeartbeats 1000000 in
theorem ed_start (w : World) (κ : Col) (i e b r k tm um h bl : Nat) (was : Nat → Value) (putv : Value) (S : EdState) (x : EdAt w κ i e b r k tm um h bl was putv S) (hin : S.f.inn = false) (F : Nat → Prop) (h2 : Nat) (hs : List (ByteArray × Int)) (base most : Int) (hh : HistRep w F h2 hs base most) (hhl : hs.length ≤ 100000) (heF : ¬ F e)
    (L : List Int) (a : Option Addr) (n c : Nat) (hn : L.length = n) (hl : Sl w 1 a n c (runes L)) (hL : n ≤ 1024) :
    Calls Tryz.prog 23 #[.pointer (some ⟨e, 0, none⟩), .pointer (some ⟨h2, 0, none⟩), .slice a n c] w (EdDone w κ e (.int .i64 0) (S.started L hs base most)) := by
  subst hn
  have HN := Lib.hid (ed_none w e b r k um S.core h bl S.f was putv x.blk)
  have HC := Lib.hid (hist_clone w F h2 hs base most hh hhl)
  have hbg := fun (V : World) (hV : Fr nob w V) => ed_begins V e r (edX b r k um S.core h bl S.f was putv) S.core (fun y => F y ∧ y < w.heap.size) h2 hs base most a c L (x.stayN hV (fun _ _ => rfl)).blk rfl rfl (hh.within.stayN hV) hhl (fun hx => heF hx.1) (hl.oldN hV) hL κ i (x.core.ring.stayN hV) x.core.cr (fun h0 => by
    have h1 := x.ce
    have h2 := x.core.cr
    rw [h0, h1] at h2
    injection h2 with h2 _
    have := x.ci
    omega)
  have HBG := Lib.hid hbg
  have c16 : ∀ V, Fr nob w V → V.cell? ⟨e, 16, none⟩ = some (.bool false) := fun V hV => by
    rw [blk_cells (hV.keep x.blk (fun h => h)), ← hin]
    rfl
  have HC16 := Lib.hid c16
  have hend := fun (V : World) (hV : Fr nob w V) y w' hB => start_end (L := L) (hs := hs) (base := base) (most := most) (y := y) (w' := w') (x.stayN (κ' := κ) hV (fun _ _ => rfl)) hin hB
  have HEND := Lib.hid hend
  have i1 : decide (1024 < (L.length : Int)) = false := decide_eq_false (by omega)
  generalize L.length = n at *
  clear x hin hh hhl heF hl hbg c16 hend
  go_enter Tryz.func23, Tryz.ntmps23
  go_wp2_with (first
    | (go_at_call 81; refine (HN.out).mono ?_; rintro y w' ⟨rfl, rfl⟩)
    | (go_at_call 78; refine (HC.out).mono ?_; rintro y w1 ⟨h1, rfl, hh1, hr1, hf1⟩; have d16 := HC16.out _ hf1; have HF1 := Lib.hid hf1; clear hh1 hr1 hf1)
    | (go_at_call 80; refine (HBG.out _ HF1.out).mono ?_; rintro y w2 hB; have hE := HEND.out _ HF1.out _ _ hB; obtain ⟨rfl, _⟩ := hB; have HE := Lib.hid hE; clear hE))
  go_ret
  obtain ⟨_, κ2, hx, hk, hf⟩ := HE.out
  exact ⟨rfl, κ2, hx, fun y hy => hk y (Nat.lt_of_lt_of_le hy HF1.out.size), edM.trans (edM.nob HF1.out) (fun _ _ => rfl) hf⟩
end Go.Proofs.YtbhklkolkclflaaGreatDoor
