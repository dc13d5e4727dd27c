/- Package killring, first part: what a ring is; New, none, Len, Clone. Package histlist: what a list is; New, none, Len, Clone. Maps with keys of int, by what they hold: reading, writing, ranging. The walk's laws on maps with keys of int. -/
import Derived.Test.YtbhklkolkclflaaGreatDoorG2
import Derived.Deep.MidRow
import Derived.Laws.IdiomRangeMap
/- K1: Package killring, first part: what a ring is; New, none, Len, Clone. -/
namespace Go.Proofs.YtbhklkolkclflaaGreatDoor
open Go.RowKit

/-- Is a type a struct? -/
def isStruct (P : Program) (t : TypeId) : Bool := match P.underlying t with | some (.struct _) => true | _ => false
theorem isStruct_desc {P : Program} {t : TypeId} (h : isStruct P t = true) : ∃ fs, P.underlying t = some (.struct fs) := by
  unfold isStruct at h
  split at h
  · exact ⟨_, by assumption⟩
  · cases h
/-- A whole struct is read, or written. -/
theorem wpList_load_struct {P : Program} {ops : Array Oper} {rest : List Oper} {o : Oper} {a : Act} {w : World} {Q : Exit → Act → World → Prop} (hgd : o.guard = none) (ty : TypeId) (x : Operand) (ho : o.op = .load ty x)
    (g : Nat) (hx : a.eval x = .pointer (some ⟨g, 0, none⟩)) (t : TypeId) (cs : Array Value) (fr : Nat × Nat) (hg : w.heap[g]? = some (.cells cs t fr))
    (hu : isStruct P ty = true) (hi : (P.info? ty).map (·.size) = some cs.size)
    (h : wpList P ops Q rest (a.put o.dst (.agg cs)) w) : wpList P ops Q (o :: rest) a w := by
  obtain ⟨fs, hfs⟩ := isStruct_desc hu
  exact wpList_load_row hgd ty x ho g hx t cs fr _ hg hfs rfl hi h

theorem Tryz.struct_ring : isStruct Tryz.prog 219 = true ∧ (Tryz.prog.info? 219).map (·.size) = some 64 := ⟨by kernel_rfl, by kernel_rfl⟩

/-- The cells of a ring: its entries (the newest first), its place. -/
structure RingCells (w : World) (cells : Array Value) (ents : List (List Int)) (p : Nat) : Prop where
  size : cells.size = 64
  made : cells[0]? = some (.bool true)
  many : cells[62]? = some (.int .i64 ents.length)
  place : cells[63]? = some (.int .i64 p)
  le : ents.length ≤ 60
  pl : p < ents.length ∨ p = 0
  one : ∀ v ∈ cells.toList, v.oneCell' = true
  slots : ∀ i, i < 60 → ∃ a n c, cells[1 + i]? = some (.slice a n c)
  ex : ∃ h, h < 60 ∧ cells[61]? = some (.int .i64 (h : Nat)) ∧ ∀ i (hi : i < ents.length), ∃ a c, cells[1 + (h + i) % 60]? = some (.slice a ents[i].length c) ∧ Own w 21 1 (.slice a ents[i].length c) ents[i].length (runes ents[i])

theorem RingCells.stay {w w' : World} {M : Nat → Prop} {cells : Array Value} {ents : List (List Int)} {p : Nat} (h : RingCells w cells ents p) (hf : Fr M w w') (hr : NR w M) : RingCells w' cells ents p := by
  obtain ⟨k, hk, h1, h2⟩ := h.ex
  exact ⟨h.size, h.made, h.many, h.place, h.le, h.pl, h.one, h.slots, k, hk, h1, fun i hi => by obtain ⟨a, c, g1, g2⟩ := h2 i hi; exact ⟨a, c, g1, g2.stay hf hr⟩⟩

/-- The ring at r. -/
def RingRep (w : World) (r : Nat) (ents : List (List Int)) (p : Nat) : Prop := ∃ cells, w.heap[r]? = some (.cells cells 219 (0, 0)) ∧ RingCells w cells ents p

theorem RingRep.stay {w w' : World} {M : Nat → Prop} {r : Nat} {ents : List (List Int)} {p : Nat} (h : RingRep w r ents p) (hf : Fr M w w') (hr : NR w M) (hm : ¬ M r) : RingRep w' r ents p := by
  obtain ⟨cells, h1, h2⟩ := h
  exact ⟨cells, hf.keep h1 hm, h2.stay hf hr⟩
theorem RingRep.stayN {w w' : World} {r : Nat} {ents : List (List Int)} {p : Nat} (h : RingRep w r ents p) (hf : Fr nob w w') : RingRep w' r ents p := h.stay hf (NR.nob w) (fun h => h)
theorem RingRep.lt {w : World} {r : Nat} {ents : List (List Int)} {p : Nat} (h : RingRep w r ents p) : r < w.heap.size := by
  obtain ⟨cells, h1, _⟩ := h
  exact blk_lt h1

set_option maxRecDepth 100000 in
set_option maxHeartbeats 1000000 in
theorem ring_new (w : World) : Calls Tryz.prog 79 #[] w fun e w' => e = .returned (.pointer (some ⟨w.heap.size, 0, none⟩)) ∧ RingRep w' w.heap.size [] 0 ∧ Fr nob w w' := by
  go_enter Tryz.func79, Tryz.ntmps79
  go_wp2
  go_ret
  refine ⟨rfl, ⟨_, heap_alloc_new w _, rfl, rfl, rfl, rfl, by simp, .inr rfl, by simp [Value.oneCell'], fun i hi => ?_, 0, by omega, rfl, fun i hi => absurd hi (by simp)⟩, (Fr.refl _ _).alloc _⟩
  refine ⟨none, 0, 0, ?_⟩
  have h : (#[Value.bool true] ++ Array.replicate 60 (Value.slice none 0 0) ++ #[.int .i64 0, .int .i64 0, .int .i64 0])[1 + i]? = some (Value.slice none 0 0) := by
    rw [Array.getElem?_append_left (by simp; omega), Array.getElem?_append_right (by simp)]
    simp [hi]
  exact h

set_option maxRecDepth 10000 in
theorem ring_none (w : World) (r : Nat) (cells : Array Value) (h : w.heap[r]? = some (.cells cells 219 (0, 0))) (h0 : cells[0]? = some (.bool true)) :
    Calls Tryz.prog 191 #[.pointer (some ⟨r, 0, none⟩)] w fun e w' => e = .returned (.bool false) ∧ w' = w := by
  have hc := blk_cells h 0
  rw [h0] at hc
  clear h h0
  go_enter Tryz.func191, Tryz.ntmps191
  go_wp2
  go_ret
  exact ⟨rfl, rfl⟩

set_option maxRecDepth 10000 in
theorem ring_len (w : World) (r : Nat) (ents : List (List Int)) (p : Nat) (h : RingRep w r ents p) :
    Calls Tryz.prog 118 #[.pointer (some ⟨r, 0, none⟩)] w fun e w' => e = .returned (.int .i64 ents.length) ∧ w' = w := by
  obtain ⟨cells, h1, h2⟩ := h
  have hc := blk_cells h1 62
  rw [h2.many] at hc
  have hn := ring_none w r cells h1 h2.made
  have HN := Lib.hid hn
  clear h1 h2 hn
  go_enter Tryz.func118, Tryz.ntmps118
  go_wp2_with (go_at_call 191; refine (HN.out).mono ?_; rintro e w' ⟨rfl, rfl⟩)
  go_ret
  exact ⟨rfl, rfl⟩

theorem heap_setRow_same {w : World} {g : Nat} {c c' : Array Value} {T : TypeId} {fr : Nat × Nat} (h : w.heap[g]? = some (.cells c T fr)) : (w.setRow g c').heap[g]? = some (.cells c' T fr) := by
  simp [World.setRow, Array.getElem?_modify, h]

set_option maxRecDepth 100000 in
set_option maxHeartbeats 1000000 in
theorem ring_clone (w : World) (r : Nat) (ents : List (List Int)) (p : Nat) (h : RingRep w r ents p) :
    Calls Tryz.prog 111 #[.pointer (some ⟨r, 0, none⟩)] w fun e w' => e = .returned (.pointer (some ⟨w.heap.size, 0, none⟩)) ∧ RingRep w' w.heap.size ents p ∧ Fr nob w w' := by
  obtain ⟨cells, h1, h2⟩ := h
  have hn := ring_none w r cells h1 h2.made
  have HN := Lib.hid hn
  have H1 := Lib.hid h1
  have H2 := Lib.hid h2
  have hsz := Tryz.struct_ring.2
  rw [← h2.size] at hsz
  have HSZ := Lib.hid hsz
  have HD := Lib.hid Tryz.struct_ring.1
  have hone : cells.all (·.oneCell') = true := Array.all_eq_true_iff_forall_mem.2 (fun v hv => h2.one v (by simpa using hv))
  have HONE := Lib.hid hone
  clear h1 h2 hn hsz hone
  go_enter Tryz.func111, Tryz.ntmps111
  go_wp2_with (first
    | (go_at_call 191; refine (HN.out).mono ?_; rintro e w' ⟨rfl, rfl⟩)
    | (refine wpList_load_struct rfl 219 (.tmp 7) rfl r rfl 219 cells (0, 0) H1.out HD.out HSZ.out ?_)
    | (refine wpList_store_row rfl 219 (.tmp 3) (.tmp 8) rfl _ cells rfl rfl 219 _ (heap_alloc_new _ _) HSZ.out (by rw [H2.out.size]; rfl) HONE.out ?_))
  go_ret
  refine ⟨rfl, ⟨cells, heap_setRow_same (heap_alloc_new _ _), H2.out.stay (((Fr.refl nob _).alloc _).setRow _ _ (fun h => by omega)) (NR.nob _)⟩, ((Fr.refl nob _).alloc _).setRow _ _ (fun h => by omega)⟩
end Go.Proofs.YtbhklkolkclflaaGreatDoor
/- H1: Package histlist: what a list is; New, none, Len, Clone. -/
namespace Go.Proofs.YtbhklkolkclflaaGreatDoor
open Go.RowKit

/-- The cells of lines: text and time. -/
def hcells (hs : List (ByteArray × Int)) : List Value := hs.flatMap fun x => [.string x.1, .int .i64 x.2]
theorem hcells_length (hs : List (ByteArray × Int)) : (hcells hs).length = hs.length * 2 := by
  induction hs with
  | nil => rfl
  | cons x hs ih => simp [hcells, List.flatMap_cons] at ih ⊢; omega

/-- The history at h; it lies in F. -/
structure HistRep (w : World) (F : Nat → Prop) (h : Nat) (hs : List (ByteArray × Int)) (base most : Int) : Prop where
  mem : F h
  nz : base ≠ 0
  ex : ∃ a c, w.heap[h]? = some (.cells #[.slice a hs.length c, .int .i64 base, .int .i64 most] 145 (0, 0)) ∧ Sl w 2 a hs.length c (hcells hs) ∧ (0 < hs.length → ∀ ad, a = some ad → F ad.block)

section
variable {w w' : World} {F M : Nat → Prop} {h : Nat} {hs : List (ByteArray × Int)} {base most : Int}
theorem HistRep.stay (r : HistRep w F h hs base most) (hf : Fr M w w') (hm : ∀ b, F b → ¬ M b) : HistRep w' F h hs base most := by
  obtain ⟨a, c, h1, h2, h3⟩ := r.ex
  refine ⟨r.mem, r.nz, a, c, hf.keep h1 (hm _ r.mem), ?_, h3⟩
  by_cases hn : 0 < hs.length
  · exact h2.old hf (fun ad e => hm _ (h3 hn ad e))
  · have : hcells hs = [] := List.eq_nil_of_length_eq_zero (by rw [hcells_length]; omega)
    exact ⟨h2.len, h2.le, .inl this, h2.one⟩
theorem HistRep.stayN (r : HistRep w F h hs base most) (hf : Fr nob w w') : HistRep w' F h hs base most := r.stay hf (fun _ _ h => h)
theorem HistRep.mono {G : Nat → Prop} (r : HistRep w F h hs base most) (hFG : ∀ b, F b → G b) : HistRep w G h hs base most := by
  obtain ⟨a, c, h1, h2, h3⟩ := r.ex
  exact ⟨hFG _ r.mem, r.nz, a, c, h1, h2, fun hn ad e => hFG _ (h3 hn ad e)⟩
theorem HistRep.lt (r : HistRep w F h hs base most) : h < w.heap.size := by
  obtain ⟨a, c, h1, _⟩ := r.ex
  exact blk_lt h1
end

set_option maxRecDepth 10000 in
theorem hist_new (w : World) (most : Int) (h0 : 0 ≤ most) (h1 : most ≤ 4096) :
    Calls Tryz.prog 20 #[.int .i64 most] w fun e w' => e = .returned (.tuple #[.pointer (some ⟨w.heap.size, 0, none⟩), .int .i64 0]) ∧ HistRep w' (newIn w) w.heap.size [] 1 most ∧ Fr nob w w' := by
  have i1 : decide (most < 0) = false := decide_eq_false (by omega)
  have i2 : decide (4096 < most) = false := decide_eq_false (by omega)
  go_enter Tryz.func20, Tryz.ntmps20
  go_wp2
  go_ret2
  exact ⟨rfl, ⟨.inr (Nat.le_refl _), by decide, none, 0, heap_alloc_new w _, ⟨rfl, Nat.le_refl _, .inl rfl, by simp [hcells]⟩, fun h => absurd h (by simp)⟩, (Fr.refl _ _).alloc _⟩

set_option maxRecDepth 10000 in
theorem hist_none (w : World) (h : Nat) (v : Value) (base most : Int) (hb : w.heap[h]? = some (.cells #[v, .int .i64 base, .int .i64 most] 145 (0, 0))) (h0 : base ≠ 0) :
    Calls Tryz.prog 160 #[.pointer (some ⟨h, 0, none⟩)] w fun e w' => e = .returned (.bool false) ∧ w' = w := by
  have hc := blk_cells hb
  have i1 : (base == 0) = false := by rw [beq_eq_false_iff_ne]; exact h0
  clear hb h0
  go_enter Tryz.func160, Tryz.ntmps160
  go_wp2
  go_ret
  exact ⟨rfl, rfl⟩

set_option maxRecDepth 10000 in
theorem hist_len (w : World) (F : Nat → Prop) (h : Nat) (hs : List (ByteArray × Int)) (base most : Int) (r : HistRep w F h hs base most) :
    Calls Tryz.prog 114 #[.pointer (some ⟨h, 0, none⟩)] w fun e w' => e = .returned (.int .i64 hs.length) ∧ w' = w := by
  obtain ⟨a, c, h1, _, _⟩ := r.ex
  have hc := blk_cells h1
  have HN := Lib.hid (hist_none w h _ base most h1 r.nz)
  clear r h1
  go_enter Tryz.func114, Tryz.ntmps114
  go_wp2_with (go_at_call 160; refine (HN.out).mono ?_; rintro e w' ⟨rfl, rfl⟩)
  go_ret
  exact ⟨rfl, rfl⟩

set_option maxRecDepth 10000 in
theorem hist_clone (w : World) (F : Nat → Prop) (h : Nat) (hs : List (ByteArray × Int)) (base most : Int) (r : HistRep w F h hs base most) (hl : hs.length ≤ 100000) :
    Calls Tryz.prog 78 #[.pointer (some ⟨h, 0, none⟩)] w fun e w' => ∃ h', e = .returned (.pointer (some ⟨h', 0, none⟩)) ∧ w.heap.size ≤ h' ∧ HistRep w' (newIn w) h' hs base most ∧ Fr nob w w' := by
  obtain ⟨a, c, h1, h2, _⟩ := r.ex
  have hb0 := r.nz
  have HN := Lib.hid (hist_none w h _ base most h1 r.nz)
  have hC : ∀ V, Fr nob w V → Calls Tryz.prog 161 #[.slice a hs.length c] V (MadeS V 126 2 hs.length (hcells hs)) := fun V hV => clone_lines V a hs.length c _ (h2.oldN hV) (by omega)
  have HC := Lib.hid hC
  have H1 := Lib.hid h1
  have HB := Lib.hid hb0
  have hS : ∀ V, Fr nob w V → (V.cell? ⟨h, 0, none⟩ = some (.slice a hs.length c) ∧ V.cell? ⟨h, 1, none⟩ = some (.int .i64 base) ∧ V.cell? ⟨h, 2, none⟩ = some (.int .i64 most)) := fun V hV => by
    have h0 := blk_cells (hV.keep h1 (fun h => h))
    exact ⟨by rw [h0]; rfl, by rw [h0]; rfl, by rw [h0]; rfl⟩
  have HS := Lib.hid hS
  clear r h1 h2 hC hS hb0
  go_enter Tryz.func78, Tryz.ntmps78
  go_wp2_with (go_at_call 160; refine (HN.out).mono ?_; rintro e w' ⟨rfl, rfl⟩)
  go_region_held3 (fun V => V.cell? ⟨h, 0, none⟩ = some (.slice a hs.length c) ∧ V.cell? ⟨h, 1, none⟩ = some (.int .i64 base) ∧ V.cell? ⟨h, 2, none⟩ = some (.int .i64 most))
    ((go_split_ands; first
      | exact HS.out _ (Fr.refl _ _).drew
      | exact HS.out _ (Fr.then (Fr.refl _ _).drew hfr1)
      | exact HS.out _ ((Fr.then (Fr.refl _ _).drew hfr1).alloc _)))
    (first
      | (go_at_call 161; refine (HC.out _ (by exact (Fr.refl _ _).drew)).mono ?_; rintro e w1 ⟨a2, c2, rfl, hown1, hfr1, hfresh1⟩; have HO1 := Lib.hid hown1; have HF1 := Lib.hid hfresh1; clear hown1 hfresh1))
  rename_i hSV
  clear hSV
  go_wp2
  go_ret
  have hf1 := (Fr.refl nob _).drew.then hfr1
  refine ⟨w1.heap.size, rfl, hf1.size, ⟨.inr hf1.size, HB.out, a2, c2, heap_alloc_new w1 _, (HO1.out.stay ((Fr.refl nob _).alloc _) (fun _ _ _ _ h => h)).sl, fun hn ad e => .inr ?_⟩, hf1.alloc _⟩
  have hle := HO1.out.le
  exact HF1.out _ ⟨ad, _, c2, by rw [e], by omega, rfl⟩
end Go.Proofs.YtbhklkolkclflaaGreatDoor
/- M1: Maps with keys of int, by what they hold: reading, writing, ranging. -/
namespace Go.Proofs.YtbhklkolkclflaaGreatDoor
open Go.RowKit
open Go.MapKept

/-- The map at r holds f. -/
structure MapEs (es : Array MapEntry) (clock : Nat) (f : Int → Option Value) : Prop where
  st : Stamped es clock
  key : ∀ e ∈ es.toList, ∃ k, e.key = .int .i64 k ∧ f k = some e.val
  all : ∀ k v, f k = some v → ∃ e ∈ es.toList, e.key = .int .i64 k ∧ e.val = v
def MapRep (w : World) (r : Nat) (f : Int → Option Value) : Prop := ∃ es clock, w.heap[r]? = some (.map es clock) ∧ MapEs es clock f

theorem MapRep.stay {w w' : World} {M : Nat → Prop} {r : Nat} {f : Int → Option Value} (h : MapRep w r f) (hf : Fr M w w') (hm : ¬ M r) : MapRep w' r f := by
  obtain ⟨es, clock, h1, h2⟩ := h
  exact ⟨es, clock, hf.keep h1 hm, h2⟩
theorem MapRep.lt {w : World} {r : Nat} {f : Int → Option Value} (h : MapRep w r f) : r < w.heap.size := by
  obtain ⟨es, clock, h1, _⟩ := h
  exact blk_lt h1
theorem MapEs.isKey {es : Array MapEntry} {clock : Nat} {f : Int → Option Value} (h : MapEs es clock f) : ∀ x ∈ es.toList, IsKey (.int .i64) x.key := fun x hx => by
  obtain ⟨k, hk, _⟩ := h.key x hx
  rw [hk]
  rfl

/-- An empty map. -/
theorem MapRep.new (w : World) : MapRep (w.alloc (.map #[] 0)) w.heap.size (fun _ => none) :=
  ⟨#[], 0, Go.heap_alloc_new w _, stamped_empty 0, by simp, by simp⟩

def upd (f : Int → Option Value) (k : Int) (v : Value) : Int → Option Value := fun j => if j = k then some v else f j

theorem MapEs.push {es : Array MapEntry} {clock : Nat} {f : Int → Option Value} (h : MapEs es clock f) (k : Int) (v : Value) (hk : ∀ x ∈ es.toList, x.key ≠ .int .i64 k) :
    MapEs (es.push { key := .int .i64 k, val := v, born := clock }) (clock + 1) (upd f k v) := by
  refine ⟨stamped_push h.st hk, fun e he => ?_, fun j u hj => ?_⟩
  · simp only [Array.toList_push, List.mem_append, List.mem_singleton] at he
    rcases he with he | rfl
    · obtain ⟨j, h1, h2⟩ := h.key e he
      refine ⟨j, h1, ?_⟩
      have : j ≠ k := fun e1 => hk e he (by rw [h1, e1])
      simp [upd, this, h2]
    · exact ⟨k, rfl, by simp [upd]⟩
  · unfold upd at hj
    split at hj
    · injection hj with hj
      subst hj
      rename_i e1
      subst e1
      exact ⟨{ key := .int .i64 j, val := v, born := clock }, by simp, rfl, rfl⟩
    · obtain ⟨e, h1, h2⟩ := h.all j u hj
      exact ⟨e, by simp [h1], h2⟩

theorem MapEs.modify {es : Array MapEntry} {clock : Nat} {f : Int → Option Value} (h : MapEs es clock f) (k : Int) (v : Value) (i : Nat) (e : MapEntry) (hi : es[i]? = some e) (hk : e.key = .int .i64 k) :
    MapEs (es.modify i fun x => { x with key := .int .i64 k, val := v }) clock (upd f k v) := by
  have hlt : i < es.size := (Array.getElem?_eq_some_iff.1 hi).1
  have hei : es[i] = e := (Array.getElem?_eq_some_iff.1 hi).2
  have huniq : ∀ j (hj : j < es.size), es[j].key = .int .i64 k → j = i := fun j hj hjk => by
    have hn := h.st.2.2
    have hp := List.pairwise_iff_getElem.1 hn
    rcases Nat.lt_trichotomy j i with h1 | h1 | h1
    · have := hp j i (by simpa using hj) (by simpa using hlt) h1
      simp only [List.getElem_map, Array.getElem_toList] at this
      exact absurd (by rw [hjk, hei, hk]) this
    · exact h1
    · have := hp i j (by simpa using hlt) (by simpa using hj) h1
      simp only [List.getElem_map, Array.getElem_toList] at this
      exact absurd (by rw [hjk, hei, hk]) this
  refine ⟨stamped_modify h.st i _ (fun _ _ => rfl) (fun x _ hx => by rw [hi] at hx; injection hx with hx; subst hx; exact hk.symm), fun x hx => ?_, fun j u hj => ?_⟩
  · obtain ⟨j, hj, rfl⟩ := List.mem_iff_getElem.1 hx
    simp only [Array.length_toList, Array.size_modify] at hj
    rw [Array.getElem_toList, Array.getElem_modify]
    split
    · exact ⟨k, rfl, by simp [upd]⟩
    · rename_i hne
      obtain ⟨q, h1, h2⟩ := h.key es[j] (by simp)
      refine ⟨q, h1, ?_⟩
      have : q ≠ k := fun e1 => hne (huniq j hj (by rw [h1, e1])).symm
      simp [upd, this, h2]
  · unfold upd at hj
    split at hj
    · injection hj with hj
      subst hj
      rename_i e1
      subst e1
      refine ⟨_, List.mem_iff_getElem.2 ⟨i, by simpa using hlt, rfl⟩, ?_⟩
      rw [Array.getElem_toList, Array.getElem_modify]
      simp
    · rename_i hne
      obtain ⟨x, hx, h2, h3⟩ := h.all j u hj
      obtain ⟨q, hq, rfl⟩ := List.mem_iff_getElem.1 hx
      simp only [Array.length_toList] at hq
      rw [Array.getElem_toList] at h2 h3
      have hqi : i ≠ q := fun e1 => by
        subst e1
        rw [hei, hk] at h2
        injection h2 with _ h2
        exact hne h2.symm
      refine ⟨_, List.mem_iff_getElem.2 ⟨q, by simpa using hq, rfl⟩, ?_⟩
      rw [Array.getElem_toList, Array.getElem_modify, if_neg hqi]
      exact ⟨h2, h3⟩

section
variable {P : Program}

theorem run_mapset (w : World) (t kt et : TypeId) (r : Nat) (f : Int → Option Value) (k : Int) (v : Value) (hm : P.underlying t = some (.map kt et)) (hd : P.underlying kt = some (.int .i64)) (h : MapRep w r f) :
    ∃ w', (Instr.mapUpdate t (.map (some r)) (.int .i64 k) v).run P w = .ok () w' ∧ MapRep w' r (upd f k v) ∧ Fr (one r) w w' := by
  obtain ⟨es, clock, hb, he⟩ := h
  have hk : IsKey (.int .i64) (.int .i64 k) := rfl
  have hfr : ∀ o, Fr (one r) w (World.putObj w r o) := fun o => (Fr.refl _ _).putObj r o (fun _ => rfl)
  rcases findNow_spec hk es.toList 0 he.isKey with ⟨h1, h2⟩ | ⟨j, e, h1, h2, h3⟩
  · refine ⟨World.putObj w r (.map (es.push { key := .int .i64 k, val := v, born := clock }) (clock + 1)), ?_, ⟨_, _, (heap_set hb).1, he.push k v h2⟩, hfr _⟩
    simp [Instr.mapUpdate, run_underlying hm, MapKept.run_getObj_map hb, run_checkKey hd hk, run_findKey hd h1, run_setObj_map _ hb, Result.andThen, World.putObj]
  · have hj : es[j]? = some e := by simpa using h2
    refine ⟨World.putObj w r (.map (es.modify j fun x => { x with key := .int .i64 k, val := v }) clock), ?_, ⟨_, _, (heap_set hb).1, he.modify k v j e hj h3⟩, hfr _⟩
    simp [Instr.mapUpdate, run_underlying hm, MapKept.run_getObj_map hb, run_checkKey hd hk, run_findKey hd h1, hj, h3, run_keyThatStays hk, run_setObj_map _ hb, Result.andThen, World.putObj]

theorem run_mapget (w : World) (t kt et : TypeId) (z : Value) (r : Nat) (f : Int → Option Value) (k : Int) (c : Bool) (hm : P.underlying t = some (.map kt et)) (hd : P.underlying kt = some (.int .i64))
    (hz : ∀ w, (zeroValue et).run P w = .ok z w) (h : MapRep w r f) :
    (Instr.lookup t (.map (some r)) (.int .i64 k) c).run P w = .ok (if c then .tuple #[(f k).getD z, .bool (f k).isSome] else (f k).getD z) w := by
  obtain ⟨es, clock, hb, he⟩ := h
  have hk : IsKey (.int .i64) (.int .i64 k) := rfl
  rcases findNow_spec hk es.toList 0 he.isKey with ⟨h1, h2⟩ | ⟨j, e, h1, h2, h3⟩
  · have hn : f k = none := by
      cases hfk : f k with
      | none => rfl
      | some v =>
        obtain ⟨e, he1, he2, _⟩ := he.all k v hfk
        exact absurd he2 (h2 e he1)
    simp [Instr.lookup, run_underlying hm, MapKept.run_getObj_map hb, run_checkKey hd hk, run_findKey hd h1, hz, hn, Result.andThen]
  · have hj : f k = some e.val := by
      obtain ⟨q, g1, g2⟩ := he.key e (List.mem_of_getElem? h2)
      rw [h3] at g1
      injection g1 with _ g1
      rw [g1]
      exact g2
    simp [Instr.lookup, run_underlying hm, MapKept.run_getObj_map hb, run_checkKey hd hk, run_findKey hd h1, hj, Result.andThen]

/-- The iterator at it over the map at r: what was handed out. -/
def IterAt (w : World) (it r since : Nat) (seen : Array Nat) (c0 : Nat) : Prop := w.heap[it]? = some (.mapIter (some r) since seen c0)

theorem run_next_at (w : World) (ty : TypeId) (it r since c0 : Nat) (seen : Array Nat) (es : Array MapEntry) (clock : Nat) (hi : IterAt w it r since seen c0) (hb : w.heap[r]? = some (.map es clock))
    (hold : ∀ x ∈ es.toList, x.born < since) (hsc : since ≤ c0) :
    ((leftOf es seen).size = 0 ∧ (Instr.next (.pointer (some ⟨it, 0, none⟩)) false ty).run P w = .ok (.tuple #[.bool false]) w) ∨
    ∃ e ∈ (leftOf es seen).toList, ∃ w1 : World, (Instr.next (.pointer (some ⟨it, 0, none⟩)) false ty).run P w = .ok (.tuple #[.bool true, e.key, e.val]) w1 ∧ IterAt w1 it r since (seen.push e.born) clock ∧ Fr (one it) w w1 := by
  unfold IterAt at *
  simp only [Instr.next, getObj, Sem.run_bind, Sem.run, hi, hb, Result.andThen, next_test_false seen es since c0 hold hsc, Bool.false_eq_true, if_false]
  unfold leftOf
  have hmem : ∀ x ∈ (Array.filter (fun e => !seen.contains e.born) es).toList, x.born < since := fun x hx => hold x (by simp at hx ⊢; exact hx.1)
  generalize Array.filter (fun e => !seen.contains e.born) es = L at hmem ⊢
  have e1 : L.filter (fun x => decide (x.born < since)) = L := Array.filter_eq_self.2 (fun x hx => by simpa using hmem x (by simpa using hx))
  have e2 : L.filter (fun x => decide (x.born ≥ since)) = #[] := by
    rw [Array.filter_eq_empty_iff]
    intro x hx
    have := hmem x (by simpa using hx)
    simp
    omega
  simp only [e1, e2, Array.append_empty]
  by_cases h0 : L.size = 0
  · left
    have : L = #[] := Array.eq_empty_of_size_eq_zero h0
    subst this
    refine ⟨rfl, ?_⟩
    simp [choose, Sem.run, Question.forced]
  · right
    have hne : L.isEmpty = false := by simp [Array.isEmpty, h0]
    simp only [hne, Bool.false_eq_true, if_false, Array.empty_append, Array.size_map]
    have hch : ∃ (j : Nat) (w1 : World), j < L.size ∧ Fr nob w w1 ∧ w1.heap = w.heap ∧ (choose (Question.mapNext L.size)).run P w = .ok j w1 := by
      by_cases hf : L.size ≤ 1
      · exact ⟨0, w, by omega, Fr.refl _ _, rfl, by simp [choose, Sem.run, Question.forced, hf]⟩
      · exact ⟨_, w.drew, Nat.mod_lt _ (by omega), (Fr.refl _ _).drew, rfl, by
          simp only [choose, Sem.run, Question.forced, decide_eq_true_eq, hf, if_false, Question.cut]
          rfl⟩
    obtain ⟨j, w1, hj, hfr, hheap, hrun⟩ := hch
    have hi1 : w1.heap[it]? = some (.mapIter (some r) since seen c0) := by rw [hheap]; exact hi
    refine ⟨L[j], by simp, World.putObj w1 it (.mapIter (some r) since (seen.push L[j].born) clock), ?_, ?_, ?_⟩
    · simp only [hrun, Array.getElem?_map, Array.getElem?_eq_getElem hj, Option.map_some, Sem.run_bind, Result.andThen, setObj, Sem.run, hi1, World.putObj]
      rfl
    · exact putObj_same (blk_lt hi1) _ rfl
    · exact (hfr.mono (fun _ _ h => h.elim)).putObj it _ (fun _ => rfl)

theorem run_entry_at (w : World) (it r since : Nat) (seen : Array Nat) (es : Array MapEntry) (clock : Nat) (e : MapEntry) (hi : IterAt w it r since (seen.push e.born) clock) (hb : w.heap[r]? = some (.map es clock))
    (he : e ∈ es.toList) (hn : (es.toList.map (·.born)).Nodup) : (Instr.entry (.pointer (some ⟨it, 0, none⟩))).run P w = .ok (.tuple #[e.key, e.val]) w := by
  unfold IterAt at hi
  have hf : es.find? (·.born == e.born) = some e := by rw [← Array.find?_toList]; exact find_born e es.toList hn he
  simp only [Instr.entry, getObj, Sem.run_bind, Sem.run, hi, hb, Result.andThen, Array.back?_push, bne_self_eq_false, Bool.false_eq_true, if_false, hf]
  rfl
end
end Go.Proofs.YtbhklkolkclflaaGreatDoor
/- M2: The walk's laws on maps with keys of int. -/
namespace Go.Proofs.YtbhklkolkclflaaGreatDoor
open Go.RowKit
open Go.MapKept

section
variable {P : Program} {ops : Array Oper} {rest : List Oper} {o : Oper} {a : Act} {w : World} {Q : Exit → Act → World → Prop}

theorem wpList_mapset (hg : o.guard = none) (t kt et : TypeId) (m x v : Operand) (ho : o.op = .mapUpdate t m x v) (r : Nat) (f : Int → Option Value) (k : Int) (u : Value)
    (hm : a.eval m = .map (some r)) (hx : a.eval x = .int .i64 k) (hv : a.eval v = u) (h1 : P.underlying t = some (.map kt et)) (h2 : P.underlying kt = some (.int .i64)) (h : MapRep w r f)
    (hK : ∀ w', MapRep w' r (upd f k u) → Fr (one r) w w' → wpList P ops Q rest (a.put o.dst undef) w') : wpList P ops Q (o :: rest) a w := by
  refine wpList_plain hg fun K hK' => ?_
  obtain ⟨w', hr, h3, h4⟩ := run_mapset (P := P) w t kt et r f k u h1 h2 h
  unfold Oper.wp execOp
  simp only [ho, hm, hx, hv, Sem.run_bind, hr, Result.andThen_ok, Sem.run_pure]
  exact hK' _ _ (hK w' h3 h4)

theorem wpList_mapget (hg : o.guard = none) (t kt et : TypeId) (m x : Operand) (c : Bool) (ho : o.op = .lookup t m x c) (r : Nat) (f : Int → Option Value) (k : Int) (z : Value)
    (hm : a.eval m = .map (some r)) (hx : a.eval x = .int .i64 k) (h1 : P.underlying t = some (.map kt et)) (h2 : P.underlying kt = some (.int .i64)) (hz : ∀ w, (zeroValue et).run P w = .ok z w) (h : MapRep w r f)
    (hK : wpList P ops Q rest (a.put o.dst (if c then .tuple #[(f k).getD z, .bool (f k).isSome] else (f k).getD z)) w) : wpList P ops Q (o :: rest) a w := by
  refine wpList_plain hg fun K hK' => ?_
  have hr := run_mapget (P := P) w t kt et z r f k c h1 h2 hz h
  unfold Oper.wp execOp
  simp only [ho, hm, hx, Sem.run_bind, hr, Result.andThen_ok, Sem.run_pure]
  exact hK' _ _ hK

theorem wpList_range (hg : o.guard = none) (t kt et : TypeId) (m : Operand) (ho : o.op = .range t m) (r : Nat) (es : Array MapEntry) (clock : Nat)
    (hm : a.eval m = .map (some r)) (h1 : P.underlying t = some (.map kt et)) (h : w.heap[r]? = some (.map es clock))
    (hK : wpList P ops Q rest (a.put o.dst (.pointer (some ⟨w.heap.size, 0, none⟩))) (w.alloc (.mapIter (some r) clock #[] clock))) : wpList P ops Q (o :: rest) a w := by
  refine wpList_plain hg fun K hK' => ?_
  have hr := run_range_map (P := P) w t kt et r es clock h1 h
  unfold Oper.wp execOp
  simp only [ho, hm, Sem.run_bind, hr, Result.andThen_ok, Sem.run_pure]
  exact hK' _ _ hK

theorem wpList_next (hg : o.guard = none) (x : Operand) (ho : o.op = .next x false) (it r since c0 : Nat) (seen : Array Nat) (es : Array MapEntry) (clock : Nat) (hx : a.eval x = .pointer (some ⟨it, 0, none⟩))
    (hi : IterAt w it r since seen c0) (hb : w.heap[r]? = some (.map es clock)) (hold : ∀ x ∈ es.toList, x.born < since) (hsc : since ≤ c0)
    (h0 : (leftOf es seen).size = 0 → wpList P ops Q rest (a.put o.dst (.tuple #[.bool false])) w)
    (h1 : ∀ e w1, e ∈ (leftOf es seen).toList → IterAt w1 it r since (seen.push e.born) clock → Fr (one it) w w1 → wpList P ops Q rest (a.put o.dst (.tuple #[.bool true, e.key, e.val])) w1) : wpList P ops Q (o :: rest) a w := by
  refine wpList_plain hg fun K hK' => ?_
  unfold Oper.wp execOp
  rcases run_next_at (P := P) w o.type it r since c0 seen es clock hi hb hold hsc with ⟨h2, hr⟩ | ⟨e, h2, w1, hr, h3, h4⟩
  · simp only [ho, hx, Sem.run_bind, hr, Result.andThen_ok, Sem.run_pure]
    exact hK' _ _ (h0 h2)
  · simp only [ho, hx, Sem.run_bind, hr, Result.andThen_ok, Sem.run_pure]
    exact hK' _ _ (h1 e w1 h2 h3 h4)

theorem wpList_entry (hg : o.guard = none) (x : Operand) (ho : o.op = .entry x) (it r since : Nat) (seen : Array Nat) (es : Array MapEntry) (clock : Nat) (e : MapEntry) (hx : a.eval x = .pointer (some ⟨it, 0, none⟩))
    (hi : IterAt w it r since (seen.push e.born) clock) (hb : w.heap[r]? = some (.map es clock)) (he : e ∈ es.toList) (hn : (es.toList.map (·.born)).Nodup)
    (hK : wpList P ops Q rest (a.put o.dst (.tuple #[e.key, e.val])) w) : wpList P ops Q (o :: rest) a w := by
  refine wpList_plain hg fun K hK' => ?_
  have hr := run_entry_at (P := P) w it r since seen es clock e hi hb he hn
  unfold Oper.wp execOp
  simp only [ho, hx, Sem.run_bind, hr, Result.andThen_ok, Sem.run_pure]
  exact hK' _ _ hK

theorem IterAt.seen {it r since c0 : Nat} {seen : Array Nat} (h : IterAt w it r since seen c0) : w.iterSeen it = seen := by
  unfold IterAt at h
  simp only [World.iterSeen, h]
theorem IterAt.keep {w' : World} {M : Nat → Prop} {it r since c0 : Nat} {seen : Array Nat} (h : IterAt w it r since seen c0) (hf : Fr M w w') (hm : ¬ M it) : IterAt w' it r since seen c0 := hf.keep h hm
end
end Go.Proofs.YtbhklkolkclflaaGreatDoor
