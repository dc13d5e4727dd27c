/- Maps with keys of int, by what they hold: reading, writing, ranging. -/
import Derived.Test.YtbhklkolkclflaaR2
import Derived.Laws.IdiomRangeMap
namespace Go.Proofs.Ytbhklkolkclflaa
open Go.RowKit
open Go.MapKept

/-- The map at r holds f. -/
structure MapEs (es : Array MapEntry) (clock : Nat) (f : Int → Option Value) : Prop where
  st : Stamped es clock
  key : ∀ e ∈ es.toList, ∃ k, e.key = .int .i64 k ∧ f k = some e.val
  all : ∀ k v, f k = some v → ∃ e ∈ es.toList, e.key = .int .i64 k ∧ e.val = v
def MapRep (w : World) (r : Nat) (f : Int → Option Value) : Prop := ∃ es clock, w.heap[r]? = some (.map es clock) ∧ MapEs es clock f

theorem MapRep.stay {w w' : World} {M : Nat → Prop} {r : Nat} {f : Int → Option Value} (h : MapRep w r f) (hf : Fr M w w') (hm : ¬ M r) : MapRep w' r f := by
  obtain ⟨es, clock, h1, h2⟩ := h
  exact ⟨es, clock, hf.keep h1 hm, h2⟩
theorem MapRep.lt {w : World} {r : Nat} {f : Int → Option Value} (h : MapRep w r f) : r < w.heap.size := by
  obtain ⟨es, clock, h1, _⟩ := h
  exact blk_lt h1
theorem MapEs.isKey {es : Array MapEntry} {clock : Nat} {f : Int → Option Value} (h : MapEs es clock f) : ∀ x ∈ es.toList, IsKey (.int .i64) x.key := fun x hx => by
  obtain ⟨k, hk, _⟩ := h.key x hx
  rw [hk]
  rfl

/-- An empty map. -/
theorem MapRep.new (w : World) : MapRep (w.alloc (.map #[] 0)) w.heap.size (fun _ => none) :=
  ⟨#[], 0, Go.heap_alloc_new w _, stamped_empty 0, by simp, by simp⟩

def upd (f : Int → Option Value) (k : Int) (v : Value) : Int → Option Value := fun j => if j = k then some v else f j

theorem MapEs.push {es : Array MapEntry} {clock : Nat} {f : Int → Option Value} (h : MapEs es clock f) (k : Int) (v : Value) (hk : ∀ x ∈ es.toList, x.key ≠ .int .i64 k) :
    MapEs (es.push { key := .int .i64 k, val := v, born := clock }) (clock + 1) (upd f k v) := by
  refine ⟨stamped_push h.st hk, fun e he => ?_, fun j u hj => ?_⟩
  · simp only [Array.toList_push, List.mem_append, List.mem_singleton] at he
    rcases he with he | rfl
    · obtain ⟨j, h1, h2⟩ := h.key e he
      refine ⟨j, h1, ?_⟩
      have : j ≠ k := fun e1 => hk e he (by rw [h1, e1])
      simp [upd, this, h2]
    · exact ⟨k, rfl, by simp [upd]⟩
  · unfold upd at hj
    split at hj
    · injection hj with hj
      subst hj
      rename_i e1
      subst e1
      exact ⟨{ key := .int .i64 j, val := v, born := clock }, by simp, rfl, rfl⟩
    · obtain ⟨e, h1, h2⟩ := h.all j u hj
      exact ⟨e, by simp [h1], h2⟩

theorem MapEs.modify {es : Array MapEntry} {clock : Nat} {f : Int → Option Value} (h : MapEs es clock f) (k : Int) (v : Value) (i : Nat) (e : MapEntry) (hi : es[i]? = some e) (hk : e.key = .int .i64 k) :
    MapEs (es.modify i fun x => { x with key := .int .i64 k, val := v }) clock (upd f k v) := by
  have hlt : i < es.size := (Array.getElem?_eq_some_iff.1 hi).1
  have hei : es[i] = e := (Array.getElem?_eq_some_iff.1 hi).2
  have huniq : ∀ j (hj : j < es.size), es[j].key = .int .i64 k → j = i := fun j hj hjk => by
    have hn := h.st.2.2
    have hp := List.pairwise_iff_getElem.1 hn
    rcases Nat.lt_trichotomy j i with h1 | h1 | h1
    · have := hp j i (by simpa using hj) (by simpa using hlt) h1
      simp only [List.getElem_map, Array.getElem_toList] at this
      exact absurd (by rw [hjk, hei, hk]) this
    · exact h1
    · have := hp i j (by simpa using hlt) (by simpa using hj) h1
      simp only [List.getElem_map, Array.getElem_toList] at this
      exact absurd (by rw [hjk, hei, hk]) this
  refine ⟨stamped_modify h.st i _ (fun _ _ => rfl) (fun x _ hx => by rw [hi] at hx; injection hx with hx; subst hx; exact hk.symm), fun x hx => ?_, fun j u hj => ?_⟩
  · obtain ⟨j, hj, rfl⟩ := List.mem_iff_getElem.1 hx
    simp only [Array.length_toList, Array.size_modify] at hj
    rw [Array.getElem_toList, Array.getElem_modify]
    split
    · exact ⟨k, rfl, by simp [upd]⟩
    · rename_i hne
      obtain ⟨q, h1, h2⟩ := h.key es[j] (by simp)
      refine ⟨q, h1, ?_⟩
      have : q ≠ k := fun e1 => hne (huniq j hj (by rw [h1, e1])).symm
      simp [upd, this, h2]
  · unfold upd at hj
    split at hj
    · injection hj with hj
      subst hj
      rename_i e1
      subst e1
      refine ⟨_, List.mem_iff_getElem.2 ⟨i, by simpa using hlt, rfl⟩, ?_⟩
      rw [Array.getElem_toList, Array.getElem_modify]
      simp
    · rename_i hne
      obtain ⟨x, hx, h2, h3⟩ := h.all j u hj
      obtain ⟨q, hq, rfl⟩ := List.mem_iff_getElem.1 hx
      simp only [Array.length_toList] at hq
      rw [Array.getElem_toList] at h2 h3
      have hqi : i ≠ q := fun e1 => by
        subst e1
        rw [hei, hk] at h2
        injection h2 with _ h2
        exact hne h2.symm
      refine ⟨_, List.mem_iff_getElem.2 ⟨q, by simpa using hq, rfl⟩, ?_⟩
      rw [Array.getElem_toList, Array.getElem_modify, if_neg hqi]
      exact ⟨h2, h3⟩

section
variable {P : Program}

theorem run_mapset (w : World) (t kt et : TypeId) (r : Nat) (f : Int → Option Value) (k : Int) (v : Value) (hm : P.underlying t = some (.map kt et)) (hd : P.underlying kt = some (.int .i64)) (h : MapRep w r f) :
    ∃ w', (Instr.mapUpdate t (.map (some r)) (.int .i64 k) v).run P w = .ok () w' ∧ MapRep w' r (upd f k v) ∧ Fr (one r) w w' := by
  obtain ⟨es, clock, hb, he⟩ := h
  have hk : IsKey (.int .i64) (.int .i64 k) := rfl
  have hfr : ∀ o, Fr (one r) w (World.putObj w r o) := fun o => (Fr.refl _ _).putObj r o (fun _ => rfl)
  rcases findNow_spec hk es.toList 0 he.isKey with ⟨h1, h2⟩ | ⟨j, e, h1, h2, h3⟩
  · refine ⟨World.putObj w r (.map (es.push { key := .int .i64 k, val := v, born := clock }) (clock + 1)), ?_, ⟨_, _, (heap_set hb).1, he.push k v h2⟩, hfr _⟩
    simp [Instr.mapUpdate, run_underlying hm, MapKept.run_getObj_map hb, run_checkKey hd hk, run_findKey hd h1, run_setObj_map _ hb, Result.andThen, World.putObj]
  · have hj : es[j]? = some e := by simpa using h2
    refine ⟨World.putObj w r (.map (es.modify j fun x => { x with key := .int .i64 k, val := v }) clock), ?_, ⟨_, _, (heap_set hb).1, he.modify k v j e hj h3⟩, hfr _⟩
    simp [Instr.mapUpdate, run_underlying hm, MapKept.run_getObj_map hb, run_checkKey hd hk, run_findKey hd h1, hj, h3, run_keyThatStays hk, run_setObj_map _ hb, Result.andThen, World.putObj]

theorem run_mapget (w : World) (t kt et : TypeId) (z : Value) (r : Nat) (f : Int → Option Value) (k : Int) (c : Bool) (hm : P.underlying t = some (.map kt et)) (hd : P.underlying kt = some (.int .i64))
    (hz : ∀ w, (zeroValue et).run P w = .ok z w) (h : MapRep w r f) :
    (Instr.lookup t (.map (some r)) (.int .i64 k) c).run P w = .ok (if c then .tuple #[(f k).getD z, .bool (f k).isSome] else (f k).getD z) w := by
  obtain ⟨es, clock, hb, he⟩ := h
  have hk : IsKey (.int .i64) (.int .i64 k) := rfl
  rcases findNow_spec hk es.toList 0 he.isKey with ⟨h1, h2⟩ | ⟨j, e, h1, h2, h3⟩
  · have hn : f k = none := by
      cases hfk : f k with
      | none => rfl
      | some v =>
        obtain ⟨e, he1, he2, _⟩ := he.all k v hfk
        exact absurd he2 (h2 e he1)
    simp [Instr.lookup, run_underlying hm, MapKept.run_getObj_map hb, run_checkKey hd hk, run_findKey hd h1, hz, hn, Result.andThen]
  · have hj : f k = some e.val := by
      obtain ⟨q, g1, g2⟩ := he.key e (List.mem_of_getElem? h2)
      rw [h3] at g1
      injection g1 with _ g1
      rw [g1]
      exact g2
    simp [Instr.lookup, run_underlying hm, MapKept.run_getObj_map hb, run_checkKey hd hk, run_findKey hd h1, hj, Result.andThen]

/-- The iterator at it over the map at r: what was handed out. -/
def IterAt (w : World) (it r since : Nat) (seen : Array Nat) (c0 : Nat) : Prop := w.heap[it]? = some (.mapIter (some r) since seen c0)

theorem run_next_at (w : World) (ty : TypeId) (it r since c0 : Nat) (seen : Array Nat) (es : Array MapEntry) (clock : Nat) (hi : IterAt w it r since seen c0) (hb : w.heap[r]? = some (.map es clock))
    (hold : ∀ x ∈ es.toList, x.born < since) (hsc : since ≤ c0) :
    ((leftOf es seen).size = 0 ∧ (Instr.next (.pointer (some ⟨it, 0, none⟩)) false ty).run P w = .ok (.tuple #[.bool false]) w) ∨
    ∃ e ∈ (leftOf es seen).toList, ∃ w1 : World, (Instr.next (.pointer (some ⟨it, 0, none⟩)) false ty).run P w = .ok (.tuple #[.bool true, e.key, e.val]) w1 ∧ IterAt w1 it r since (seen.push e.born) clock ∧ Fr (one it) w w1 := by
  unfold IterAt at *
  simp only [Instr.next, getObj, Sem.run_bind, Sem.run, hi, hb, Result.andThen, next_test_false seen es since c0 hold hsc, Bool.false_eq_true, if_false]
  unfold leftOf
  have hmem : ∀ x ∈ (Array.filter (fun e => !seen.contains e.born) es).toList, x.born < since := fun x hx => hold x (by simp at hx ⊢; exact hx.1)
  generalize Array.filter (fun e => !seen.contains e.born) es = L at hmem ⊢
  have e1 : L.filter (fun x => decide (x.born < since)) = L := Array.filter_eq_self.2 (fun x hx => by simpa using hmem x (by simpa using hx))
  have e2 : L.filter (fun x => decide (x.born ≥ since)) = #[] := by
    rw [Array.filter_eq_empty_iff]
    intro x hx
    have := hmem x (by simpa using hx)
    simp
    omega
  simp only [e1, e2, Array.append_empty]
  by_cases h0 : L.size = 0
  · left
    have : L = #[] := Array.eq_empty_of_size_eq_zero h0
    subst this
    refine ⟨rfl, ?_⟩
    simp [choose, Sem.run, Question.forced]
  · right
    have hne : L.isEmpty = false := by simp [Array.isEmpty, h0]
    simp only [hne, Bool.false_eq_true, if_false, Array.empty_append, Array.size_map]
    have hch : ∃ (j : Nat) (w1 : World), j < L.size ∧ Fr nob w w1 ∧ w1.heap = w.heap ∧ (choose (Question.mapNext L.size)).run P w = .ok j w1 := by
      by_cases hf : L.size ≤ 1
      · exact ⟨0, w, by omega, Fr.refl _ _, rfl, by simp [choose, Sem.run, Question.forced, hf]⟩
      · exact ⟨_, w.drew, Nat.mod_lt _ (by omega), (Fr.refl _ _).drew, rfl, by
          simp only [choose, Sem.run, Question.forced, decide_eq_true_eq, hf, if_false, Question.cut]
          rfl⟩
    obtain ⟨j, w1, hj, hfr, hheap, hrun⟩ := hch
    have hi1 : w1.heap[it]? = some (.mapIter (some r) since seen c0) := by rw [hheap]; exact hi
    refine ⟨L[j], by simp, World.putObj w1 it (.mapIter (some r) since (seen.push L[j].born) clock), ?_, ?_, ?_⟩
    · simp only [hrun, Array.getElem?_map, Array.getElem?_eq_getElem hj, Option.map_some, Sem.run_bind, Result.andThen, setObj, Sem.run, hi1, World.putObj]
      rfl
    · exact putObj_same (blk_lt hi1) _ rfl
    · exact (hfr.mono (fun _ _ h => h.elim)).putObj it _ (fun _ => rfl)

theorem run_entry_at (w : World) (it r since : Nat) (seen : Array Nat) (es : Array MapEntry) (clock : Nat) (e : MapEntry) (hi : IterAt w it r since (seen.push e.born) clock) (hb : w.heap[r]? = some (.map es clock))
    (he : e ∈ es.toList) (hn : (es.toList.map (·.born)).Nodup) : (Instr.entry (.pointer (some ⟨it, 0, none⟩))).run P w = .ok (.tuple #[e.key, e.val]) w := by
  unfold IterAt at hi
  have hf : es.find? (·.born == e.born) = some e := by rw [← Array.find?_toList]; exact find_born e es.toList hn he
  simp only [Instr.entry, getObj, Sem.run_bind, Sem.run, hi, hb, Result.andThen, Array.back?_push, bne_self_eq_false, Bool.false_eq_true, if_false, hf]
  rfl
end
end Go.Proofs.Ytbhklkolkclflaa
