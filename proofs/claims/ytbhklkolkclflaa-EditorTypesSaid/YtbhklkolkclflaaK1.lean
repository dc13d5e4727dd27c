/- Package killring, first part: what a ring is; New, none, Len, Clone. -/
import Derived.Test.YtbhklkolkclflaaU1
import Derived.Deep.MidRow
namespace Go.Proofs.Ytbhklkolkclflaa
open Go.RowKit

/-- Is a type a struct? -/
def isStruct (P : Program) (t : TypeId) : Bool := match P.underlying t with | some (.struct _) => true | _ => false
theorem isStruct_desc {P : Program} {t : TypeId} (h : isStruct P t = true) : ∃ fs, P.underlying t = some (.struct fs) := by
  unfold isStruct at h
  split at h
  · exact ⟨_, by assumption⟩
  · cases h
/-- A whole struct is read, or written. -/
theorem wpList_load_struct {P : Program} {ops : Array Oper} {rest : List Oper} {o : Oper} {a : Act} {w : World} {Q : Exit → Act → World → Prop} (hgd : o.guard = none) (ty : TypeId) (x : Operand) (ho : o.op = .load ty x)
    (g : Nat) (hx : a.eval x = .pointer (some ⟨g, 0, none⟩)) (t : TypeId) (cs : Array Value) (fr : Nat × Nat) (hg : w.heap[g]? = some (.cells cs t fr))
    (hu : isStruct P ty = true) (hi : (P.info? ty).map (·.size) = some cs.size)
    (h : wpList P ops Q rest (a.put o.dst (.agg cs)) w) : wpList P ops Q (o :: rest) a w := by
  obtain ⟨fs, hfs⟩ := isStruct_desc hu
  exact wpList_load_row hgd ty x ho g hx t cs fr _ hg hfs rfl hi h

theorem Try.struct_ring : isStruct Try.prog 98 = true ∧ (Try.prog.info? 98).map (·.size) = some 64 := ⟨by kernel_rfl, by kernel_rfl⟩

/-- The cells of a ring: its entries (the newest first), its place. -/
structure RingCells (w : World) (cells : Array Value) (ents : List (List Int)) (p : Nat) : Prop where
  size : cells.size = 64
  made : cells[0]? = some (.bool true)
  many : cells[62]? = some (.int .i64 ents.length)
  place : cells[63]? = some (.int .i64 p)
  le : ents.length ≤ 60
  pl : p < ents.length ∨ p = 0
  one : ∀ v ∈ cells.toList, v.oneCell' = true
  slots : ∀ i, i < 60 → ∃ a n c, cells[1 + i]? = some (.slice a n c)
  ex : ∃ h, h < 60 ∧ cells[61]? = some (.int .i64 (h : Nat)) ∧ ∀ i (hi : i < ents.length), ∃ a c, cells[1 + (h + i) % 60]? = some (.slice a ents[i].length c) ∧ Own w 21 1 (.slice a ents[i].length c) ents[i].length (runes ents[i])

theorem RingCells.stay {w w' : World} {M : Nat → Prop} {cells : Array Value} {ents : List (List Int)} {p : Nat} (h : RingCells w cells ents p) (hf : Fr M w w') (hr : NR w M) : RingCells w' cells ents p := by
  obtain ⟨k, hk, h1, h2⟩ := h.ex
  exact ⟨h.size, h.made, h.many, h.place, h.le, h.pl, h.one, h.slots, k, hk, h1, fun i hi => by obtain ⟨a, c, g1, g2⟩ := h2 i hi; exact ⟨a, c, g1, g2.stay hf hr⟩⟩

/-- The ring at r. -/
def RingRep (w : World) (r : Nat) (ents : List (List Int)) (p : Nat) : Prop := ∃ cells, w.heap[r]? = some (.cells cells 98 (0, 0)) ∧ RingCells w cells ents p

theorem RingRep.stay {w w' : World} {M : Nat → Prop} {r : Nat} {ents : List (List Int)} {p : Nat} (h : RingRep w r ents p) (hf : Fr M w w') (hr : NR w M) (hm : ¬ M r) : RingRep w' r ents p := by
  obtain ⟨cells, h1, h2⟩ := h
  exact ⟨cells, hf.keep h1 hm, h2.stay hf hr⟩
theorem RingRep.stayN {w w' : World} {r : Nat} {ents : List (List Int)} {p : Nat} (h : RingRep w r ents p) (hf : Fr nob w w') : RingRep w' r ents p := h.stay hf (NR.nob w) (fun h => h)
theorem RingRep.lt {w : World} {r : Nat} {ents : List (List Int)} {p : Nat} (h : RingRep w r ents p) : r < w.heap.size := by
  obtain ⟨cells, h1, _⟩ := h
  exact blk_lt h1

set_option maxRecDepth 100000 in
set_option maxHeartbeats 1000000 in
theorem ring_new (w : World) : Calls Try.prog 21 #[] w fun e w' => e = .returned (.pointer (some ⟨w.heap.size, 0, none⟩)) ∧ RingRep w' w.heap.size [] 0 ∧ Fr nob w w' := by
  go_enter Try.func21, Try.ntmps21
  go_wp2
  go_ret
  refine ⟨rfl, ⟨_, heap_alloc_new w _, rfl, rfl, rfl, rfl, by simp, .inr rfl, by simp [Value.oneCell'], fun i hi => ?_, 0, by omega, rfl, fun i hi => absurd hi (by simp)⟩, (Fr.refl _ _).alloc _⟩
  refine ⟨none, 0, 0, ?_⟩
  have h : (#[Value.bool true] ++ Array.replicate 60 (Value.slice none 0 0) ++ #[.int .i64 0, .int .i64 0, .int .i64 0])[1 + i]? = some (Value.slice none 0 0) := by
    rw [Array.getElem?_append_left (by simp; omega), Array.getElem?_append_right (by simp)]
    simp [hi]
  exact h

set_option maxRecDepth 10000 in
theorem ring_none (w : World) (r : Nat) (cells : Array Value) (h : w.heap[r]? = some (.cells cells 98 (0, 0))) (h0 : cells[0]? = some (.bool true)) :
    Calls Try.prog 75 #[.pointer (some ⟨r, 0, none⟩)] w fun e w' => e = .returned (.bool false) ∧ w' = w := by
  have hc := blk_cells h 0
  rw [h0] at hc
  clear h h0
  go_enter Try.func75, Try.ntmps75
  go_wp2
  go_ret
  exact ⟨rfl, rfl⟩

set_option maxRecDepth 10000 in
theorem ring_len (w : World) (r : Nat) (ents : List (List Int)) (p : Nat) (h : RingRep w r ents p) :
    Calls Try.prog 68 #[.pointer (some ⟨r, 0, none⟩)] w fun e w' => e = .returned (.int .i64 ents.length) ∧ w' = w := by
  obtain ⟨cells, h1, h2⟩ := h
  have hc := blk_cells h1 62
  rw [h2.many] at hc
  have hn := ring_none w r cells h1 h2.made
  have HN := Lib.hid hn
  clear h1 h2 hn
  go_enter Try.func68, Try.ntmps68
  go_wp2_with (go_at_call 75; refine (HN.out).mono ?_; rintro e w' ⟨rfl, rfl⟩)
  go_ret
  exact ⟨rfl, rfl⟩

theorem heap_setRow_same {w : World} {g : Nat} {c c' : Array Value} {T : TypeId} {fr : Nat × Nat} (h : w.heap[g]? = some (.cells c T fr)) : (w.setRow g c').heap[g]? = some (.cells c' T fr) := by
  simp [World.setRow, Array.getElem?_modify, h]

set_option maxRecDepth 100000 in
set_option maxHeartbeats 1000000 in
theorem ring_clone (w : World) (r : Nat) (ents : List (List Int)) (p : Nat) (h : RingRep w r ents p) :
    Calls Try.prog 50 #[.pointer (some ⟨r, 0, none⟩)] w fun e w' => e = .returned (.pointer (some ⟨w.heap.size, 0, none⟩)) ∧ RingRep w' w.heap.size ents p ∧ Fr nob w w' := by
  obtain ⟨cells, h1, h2⟩ := h
  have hn := ring_none w r cells h1 h2.made
  have HN := Lib.hid hn
  have H1 := Lib.hid h1
  have H2 := Lib.hid h2
  have hsz := Try.struct_ring.2
  rw [← h2.size] at hsz
  have HSZ := Lib.hid hsz
  have HD := Lib.hid Try.struct_ring.1
  have hone : cells.all (·.oneCell') = true := Array.all_eq_true_iff_forall_mem.2 (fun v hv => h2.one v (by simpa using hv))
  have HONE := Lib.hid hone
  clear h1 h2 hn hsz hone
  go_enter Try.func50, Try.ntmps50
  go_wp2_with (first
    | (go_at_call 75; refine (HN.out).mono ?_; rintro e w' ⟨rfl, rfl⟩)
    | (refine wpList_load_struct rfl 98 (.tmp 7) rfl r rfl 98 cells (0, 0) H1.out HD.out HSZ.out ?_)
    | (refine wpList_store_row rfl 98 (.tmp 3) (.tmp 8) rfl _ cells rfl rfl 98 _ (heap_alloc_new _ _) HSZ.out (by rw [H2.out.size]; rfl) HONE.out ?_))
  go_ret
  refine ⟨rfl, ⟨cells, heap_setRow_same (heap_alloc_new _ _), H2.out.stay (((Fr.refl nob _).alloc _).setRow _ _ (fun h => by omega)) (NR.nob _)⟩, ((Fr.refl nob _).alloc _).setRow _ _ (fun h => by omega)⟩
end Go.Proofs.Ytbhklkolkclflaa
