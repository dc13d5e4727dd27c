/- Package undo, first part: what a list is, and its small calls. -/
import Derived.Test.YtbhklkolkclflaaB7
import Derived.Test.YtbhklkolkclflaaR2
namespace Go.Proofs.Ytbhklkolkclflaa
open Go.RowKit

/-- An edit: where, what goes, what comes. -/
abbrev EditP := Int × List Int × List Int

/-- The cells of edits by value. -/
def edCells (w : World) : List Value → List EditP → Prop
  | xs, [] => xs = []
  | xs, e :: es => ∃ d cd i ci rest, xs = .int .i64 e.1 :: .slice d e.2.1.length cd :: .slice i e.2.2.length ci :: rest ∧
      Own w 21 1 (.slice d e.2.1.length cd) e.2.1.length (runes e.2.1) ∧ Own w 21 1 (.slice i e.2.2.length ci) e.2.2.length (runes e.2.2) ∧ edCells w rest es

theorem edCells.stay {w w' : World} {M : Nat → Prop} (hf : Fr M w w') (hr : NR w M) : ∀ {es : List EditP} {xs : List Value}, edCells w xs es → edCells w' xs es
  | [], _, h => h
  | _ :: _, _, ⟨d, cd, i, ci, rest, h1, h2, h3, h4⟩ => ⟨d, cd, i, ci, rest, h1, h2.stay hf hr, h3.stay hf hr, edCells.stay hf hr h4⟩

theorem edCells.length {w : World} : ∀ {es : List EditP} {xs : List Value}, edCells w xs es → xs.length = es.length * 3
  | [], _, h => by cases h; rfl
  | _ :: _, _, ⟨_, _, _, _, _, h1, _, _, h4⟩ => by
    rw [h1]
    simp only [List.length_cons, edCells.length h4]
    omega
theorem edCells.one {w : World} : ∀ {es : List EditP} {xs : List Value}, edCells w xs es → ∀ u ∈ xs, u.oneCell' = true
  | [], _, h => by cases h; simp
  | _ :: _, _, ⟨_, _, _, _, _, h1, _, _, h4⟩ => by
    intro u hu
    rw [h1] at hu
    simp only [List.mem_cons] at hu
    rcases hu with rfl | rfl | rfl | hu
    · rfl
    · rfl
    · rfl
    · exact edCells.one h4 u hu

theorem edCells.append {w : World} : ∀ {es fs : List EditP} {xs ys : List Value}, edCells w xs es → edCells w ys fs → edCells w (xs ++ ys) (es ++ fs)
  | [], _, _, _, h, h' => by cases h; exact h'
  | _ :: _, _, _, _, ⟨d, cd, i, ci, rest, h1, h2, h3, h4⟩, h' => ⟨d, cd, i, ci, _, by rw [h1]; rfl, h2, h3, edCells.append h4 h'⟩

theorem edCells.drop {w : World} : ∀ {es : List EditP} {xs : List Value} (k : Nat), edCells w xs es → edCells w (xs.drop (k * 3)) (es.drop k)
  | _, _, 0, h => by simpa using h
  | [], _, k + 1, h => by cases h; simp [edCells]
  | _ :: es, _, k + 1, ⟨d, cd, i, ci, rest, h1, _, _, h4⟩ => by
    rw [h1, show (k + 1) * 3 = k * 3 + 3 by omega]
    exact edCells.drop k h4
theorem edCells.take {w : World} : ∀ {es : List EditP} {xs : List Value} (k : Nat), edCells w xs es → edCells w (xs.take (k * 3)) (es.take k)
  | _, _, 0, _ => by simp [edCells]
  | [], _, k + 1, h => by cases h; simp [edCells]
  | _ :: es, _, k + 1, ⟨d, cd, i, ci, rest, h1, h2, h3, h4⟩ => by
    rw [h1, show (k + 1) * 3 = k * 3 + 3 by omega]
    exact ⟨d, cd, i, ci, _, rfl, h2, h3, edCells.take k h4⟩

/-- The k-th edit's cells. -/
theorem edCells.at {w : World} : ∀ {es : List EditP} {xs : List Value} (k : Nat) (hk : k < es.length), edCells w xs es →
    ∃ d cd i ci, xs[k * 3]? = some (.int .i64 es[k].1) ∧ xs[k * 3 + 1]? = some (.slice d es[k].2.1.length cd) ∧ xs[k * 3 + 2]? = some (.slice i es[k].2.2.length ci) ∧
      Own w 21 1 (.slice d es[k].2.1.length cd) es[k].2.1.length (runes es[k].2.1) ∧ Own w 21 1 (.slice i es[k].2.2.length ci) es[k].2.2.length (runes es[k].2.2)
  | [], _, _, hk, _ => absurd hk (by simp)
  | _ :: _, _, 0, _, ⟨d, cd, i, ci, _, h1, h2, h3, _⟩ => ⟨d, cd, i, ci, by rw [h1]; rfl, by rw [h1]; rfl, by rw [h1]; rfl, h2, h3⟩
  | _ :: es, _, k + 1, hk, ⟨_, _, _, _, rest, h1, _, _, h4⟩ => by
    obtain ⟨d, cd, i, ci, g1, g2, g3, g4, g5⟩ := edCells.at k (by simpa using hk) h4
    refine ⟨d, cd, i, ci, ?_, ?_, ?_, g4, g5⟩
    · rw [h1, show (k + 1) * 3 = k * 3 + 3 by omega]; exact g1
    · rw [h1, show (k + 1) * 3 + 1 = k * 3 + 1 + 3 by omega]; exact g2
    · rw [h1, show (k + 1) * 3 + 2 = k * 3 + 2 + 3 by omega]; exact g3

/-- One edit's cells. -/
theorem EditV.cells {w : World} {v : Value} {f : Int} {d i : List Int} (h : EditV w v f d i) : edCells w v.cells.toList [(f, d, i)] := by
  obtain ⟨a, b, ca, cb, rfl, h1, h2⟩ := h
  exact ⟨a, ca, b, cb, [], rfl, h1, h2, rfl⟩
theorem EditV.stay {w w' : World} {M : Nat → Prop} {v : Value} {f : Int} {d i : List Int} (h : EditV w v f d i) (hf : Fr M w w') (hr : NR w M) : EditV w' v f d i := by
  obtain ⟨a, b, ca, cb, rfl, h1, h2⟩ := h
  exact ⟨a, b, ca, cb, rfl, h1.stay hf hr, h2.stay hf hr⟩

/-- An owned slice that is nil, if it has no capacity. -/
structure OwnZ (w : World) (e size : Nat) (v : Value) (n : Nat) (xs : List Value) : Prop where
  own : Own w e size v n xs
  nil : ∀ a n, v = .slice a n 0 → a = none
theorem OwnZ.none (w : World) (e size : Nat) : OwnZ w e size (.slice none 0 0) 0 [] := ⟨Own.nil _ _ _, fun _ _ h => by injection h with h; exact h.symm⟩
theorem OwnZ.stay {w w' : World} {M : Nat → Prop} {e size : Nat} {v : Value} {n : Nat} {xs : List Value} (h : OwnZ w e size v n xs) (hf : Fr M w w') (hm : ∀ b, rowOf v b → ¬ M b) : OwnZ w' e size v n xs := by
  obtain ⟨a, c, rfl, _, _⟩ := h.own.val
  refine ⟨h.own.stayA hf (fun ad ea => ?_), h.nil⟩
  by_cases hc : c = 0
  · subst hc
    rw [h.nil _ _ rfl] at ea
    cases ea
  · exact hm _ ⟨ad, _, c, by rw [ea], by omega, rfl⟩
theorem OwnZ.of {w : World} {e size : Nat} {v : Value} {n : Nat} {xs : List Value} (h : Own w e size v n xs) (h0 : 0 < n) : OwnZ w e size v n xs := by
  refine ⟨h, fun a m ea => ?_⟩
  obtain ⟨a', c', e', h', _⟩ := h.val
  rw [ea] at e'
  injection e' with _ _ e3
  omega

/-- An owned slice of edits; without capacity it is nil. -/
structure EdS (w : World) (v : Value) (es : List EditP) : Prop where
  ex : ∃ xs, Own w 82 3 v es.length xs ∧ edCells w xs es
  nil : ∀ a n, v = .slice a n 0 → a = none

theorem EdS.none (w : World) : EdS w (.slice none 0 0) [] := ⟨⟨[], Own.nil _ _ _, rfl⟩, fun _ _ h => by injection h with h; exact h.symm⟩
theorem EdS.val {w : World} {v : Value} {es : List EditP} (h : EdS w v es) : ∃ a c, v = .slice a es.length c ∧ es.length ≤ c ∧ c ≤ maxLen := by
  obtain ⟨⟨xs, h, _⟩, _⟩ := h
  exact h.val

/-- What is written: neither outside of F nor a row of runes. -/
def wr (w : World) (F : Nat → Prop) : Nat → Prop := fun b => F b ∧ ∀ c fr, w.heap[b]? ≠ some (.cells c 21 fr)
/-- With what is new. -/
def plus (w : World) (F : Nat → Prop) : Nat → Prop := fun b => F b ∨ w.heap.size ≤ b

theorem NR.wr (w : World) (F : Nat → Prop) : NR w (wr w F) := fun _ c fr h hm => hm.2 c fr h
theorem Fr.wr {w w' : World} {M F : Nat → Prop} (h : Fr M w w') (hM : ∀ b, b < w.heap.size → M b → F b) (hr : NR w M) : Fr (wr w F) w w' :=
  h.mono (fun b hb hm => ⟨hM b hb hm, fun c fr e => hr b c fr e hm⟩)
theorem wr.trans {w w1 w2 : World} {F : Nat → Prop} (h : Fr (wr w F) w w1) (h1 : Fr (wr w1 (plus w F)) w1 w2) : Fr (wr w F) w w2 :=
  h.trans h1 (fun b hb hm => ⟨hm.1.elim id (fun hx => absurd hx (by omega)), fun c fr e => hm.2 c fr (h.keep e (fun hx => hx.2 c fr e))⟩)
theorem wr.then {w w1 w2 : World} {F : Nat → Prop} (h : Fr (wr w F) w w1) (h1 : Fr (wr w1 F) w1 w2) : Fr (wr w F) w w2 :=
  wr.trans h (h1.mono (fun _ _ hm => ⟨.inl hm.1, hm.2⟩))
theorem wr.nobAfter {w w1 w2 : World} {F : Nat → Prop} (h : Fr nob w w1) (h1 : Fr (wr w1 (plus w F)) w1 w2) : Fr (wr w F) w w2 :=
  wr.trans (h.wr (fun _ _ hx => hx.elim) (NR.nob w)) h1
theorem plus.mono {w : World} {F G : Nat → Prop} (h : ∀ b, F b → G b) : ∀ b, plus w F b → plus w G b := fun _ hb => hb.imp (h _) id
theorem plus.grow {w w1 : World} {F : Nat → Prop} (h : w.heap.size ≤ w1.heap.size) : ∀ b, plus w1 F b → plus w F b := fun _ hb => hb.imp id (fun hx => Nat.le_trans h hx)
theorem plus.idem {w w1 : World} {F : Nat → Prop} (h : w.heap.size ≤ w1.heap.size) : ∀ b, plus w1 (plus w F) b → plus w F b := fun _ hb => hb.elim id (fun hx => .inr (Nat.le_trans h hx))

theorem EdS.stay {w w' : World} {M : Nat → Prop} {v : Value} {es : List EditP} (h : EdS w v es) (hf : Fr M w w') (hr : NR w M) (hm : ∀ b, rowOf v b → ¬ M b) : EdS w' v es := by
  obtain ⟨⟨xs, h1, h2⟩, h3⟩ := h
  obtain ⟨a, c, rfl, _, _⟩ := h1.val
  refine ⟨⟨xs, h1.stayA hf (fun ad e => ?_), h2.stay hf hr⟩, h3⟩
  by_cases hc : c = 0
  · subst hc
    rw [h3 _ _ rfl] at e
    cases e
  · exact hm _ ⟨ad, _, c, by rw [e], by omega, rfl⟩
theorem EdS.stayN {w w' : World} {v : Value} {es : List EditP} (h : EdS w v es) (hf : Fr nob w w') : EdS w' v es := h.stay hf (NR.nob w) (fun _ _ h => h)
theorem EdS.lt {w : World} {v : Value} {es : List EditP} (h : EdS w v es) : ∀ b, rowOf v b → b < w.heap.size := by
  obtain ⟨⟨xs, h1, _⟩, _⟩ := h
  rintro b ⟨ad, n, c, rfl, _, rfl⟩
  obtain ⟨_, _, hv, _⟩ := h1.val
  injection hv with e1 e2 e3
  subst e1 e2 e3
  exact h1.lt _ rfl
theorem EdS.ofMade {w : World} {v : Value} {es : List EditP} {xs : List Value} (h : Own w 82 3 v es.length xs) (hc : edCells w xs es) (h0 : es ≠ []) : EdS w v es := by
  refine ⟨⟨xs, h, hc⟩, fun a n e => ?_⟩
  obtain ⟨a', c', e', h', _⟩ := h.val
  rw [e] at e'
  injection e' with _ _ e3
  have := List.length_pos_iff.2 h0
  omega

theorem Own.rowTy {w : World} {e size : Nat} {v : Value} {n : Nat} {xs : List Value} (h : Own w e size v n xs) {b : Nat} (hb : rowOf v b) : ∃ c fr, w.heap[b]? = some (.cells c e fr) := by
  obtain ⟨ad, n', c', rfl, hc, rfl⟩ := hb
  rcases h.2.2 with ⟨a', hv, _⟩ | ⟨g, cap, cur, hv, hg, _⟩
  · injection hv with _ _ hv
    omega
  · injection hv with hv
    injection hv with hv
    subst hv
    exact ⟨_, _, hg⟩
theorem Own.rowNe {w : World} {e size : Nat} {v : Value} {n : Nat} {xs : List Value} (h : Own w e size v n xs) {b l : Nat} (hb : rowOf v b) {c : Array Value} {T : TypeId} {fr : Nat × Nat}
    (hl : w.heap[l]? = some (.cells c T fr)) (hT : T ≠ e) : b ≠ l := by
  rintro rfl
  obtain ⟨c', fr', h'⟩ := h.rowTy hb
  rw [hl] at h'
  injection h' with h'
  injection h' with _ h'
  exact hT h'
theorem EdS.own {w : World} {v : Value} {es : List EditP} (h : EdS w v es) : ∃ xs, Own w 82 3 v es.length xs := by
  obtain ⟨⟨xs, h, _⟩, _⟩ := h
  exact ⟨xs, h⟩
theorem EdS.rowNe {w : World} {v : Value} {es : List EditP} (h : EdS w v es) {b l : Nat} (hb : rowOf v b) {c : Array Value} {T : TypeId} {fr : Nat × Nat}
    (hl : w.heap[l]? = some (.cells c T fr)) (hT : T ≠ 82) : b ≠ l := by
  obtain ⟨xs, h⟩ := h.own
  exact h.rowNe hb hl hT

/-- What a list's two slices hold; their rows lie in F. -/
structure ListBody (w : World) (F : Nat → Prop) (gv nv : Value) (vs : List Value) (gs : List (List EditP)) (now : List EditP) : Prop where
  grp : OwnZ w 67 1 gv gs.length vs
  now : EdS w nv now
  each : ∀ k (h : k < gs.length), ∃ v, vs[k]? = some v ∧ EdS w v gs[k] ∧ (∀ b, rowOf v b → F b ∧ ¬ rowOf nv b)
  mg : ∀ b, rowOf gv b → F b
  mn : ∀ b, rowOf nv b → F b

theorem ListBody.mono {w : World} {F G : Nat → Prop} {gv nv : Value} {vs : List Value} {gs : List (List EditP)} {now : List EditP} (h : ListBody w F gv nv vs gs now) (hFG : ∀ b, F b → G b) : ListBody w G gv nv vs gs now :=
  ⟨h.grp, h.now, fun k hk => by obtain ⟨v, g1, g2, g3⟩ := h.each k hk; exact ⟨v, g1, g2, fun b hb => ⟨hFG b (g3 b hb).1, (g3 b hb).2⟩⟩, fun b hb => hFG b (h.mg b hb), fun b hb => hFG b (h.mn b hb)⟩
theorem ListBody.stay {w w' : World} {F M : Nat → Prop} {gv nv : Value} {vs : List Value} {gs : List (List EditP)} {now : List EditP} (h : ListBody w F gv nv vs gs now)
    (hf : Fr M w w') (hr : NR w M) (hm : ∀ b, F b → (∃ c fr, w.heap[b]? = some (.cells c 67 fr) ∨ w.heap[b]? = some (.cells c 82 fr)) → ¬ M b) : ListBody w' F gv nv vs gs now := by
  have he : ∀ v es, EdS w v es → (∀ b, rowOf v b → F b) → ∀ b, rowOf v b → ¬ M b := fun v es hv hF b hb => by
    obtain ⟨xs, ho⟩ := hv.own
    obtain ⟨c, fr, hc⟩ := ho.rowTy hb
    exact hm b (hF b hb) ⟨c, fr, .inr hc⟩
  refine ⟨h.grp.stay hf (fun b hb => ?_), h.now.stay hf hr (he _ _ h.now h.mn), fun k hk => ?_, h.mg, h.mn⟩
  · obtain ⟨c, fr, hc⟩ := h.grp.own.rowTy hb
    exact hm b (h.mg b hb) ⟨c, fr, .inl hc⟩
  · obtain ⟨v, g1, g2, g3⟩ := h.each k hk
    exact ⟨v, g1, g2.stay hf hr (he _ _ g2 (fun b hb => (g3 b hb).1)), g3⟩

/-- The list's own block. -/
def ListBlk (w : World) (l : Nat) (gv nv : Value) (opn edits : Int) : Prop := w.heap[l]? = some (.cells #[gv, nv, .int .i64 opn, .int .i64 edits, .bool true] 117 (0, 0))
theorem ListBlk.nr {w : World} {l : Nat} {gv nv : Value} {opn edits : Int} (h : ListBlk w l gv nv opn edits) : NR w (one l) := NR.one h (by decide)
theorem ListBlk.body {w w' : World} {F : Nat → Prop} {l : Nat} {gv nv gv' nv' : Value} {opn edits : Int} {vs : List Value} {gs : List (List EditP)} {now : List EditP} (h : ListBlk w l gv' nv' opn edits)
    (hb : ListBody w F gv nv vs gs now) (hf : Fr (one l) w w') : ListBody w' F gv nv vs gs now :=
  hb.stay hf h.nr (fun b _ ⟨c, fr, hc⟩ e => by
    cases e
    rw [show w.heap[l]? = _ from h] at hc
    rcases hc with hc | hc
    · injection hc with hc
      injection hc with _ hc
      exact absurd hc (by decide)
    · injection hc with hc
      injection hc with _ hc
      exact absurd hc (by decide))
section
variable {w : World} {l : Nat} {gv nv : Value} {opn edits : Int}
theorem ListBlk.set0 (h : ListBlk w l gv nv opn edits) (u : Value) : ListBlk (w.setCell ⟨l, 0, none⟩ u) l u nv opn edits := by
  have h := heap_setCell_same (o := 0) h u
  simpa [ListBlk] using h
theorem ListBlk.set1 (h : ListBlk w l gv nv opn edits) (u : Value) : ListBlk (w.setCell ⟨l, 1, none⟩ u) l gv u opn edits := by
  have h := heap_setCell_same (o := 1) h u
  simpa [ListBlk] using h
theorem ListBlk.set2 (h : ListBlk w l gv nv opn edits) (u : Int) : ListBlk (w.setCell ⟨l, 2, none⟩ (.int .i64 u)) l gv nv u edits := by
  have h := heap_setCell_same (o := 2) h (.int .i64 u)
  simpa [ListBlk] using h
theorem ListBlk.set3 (h : ListBlk w l gv nv opn edits) (u : Int) : ListBlk (w.setCell ⟨l, 3, none⟩ (.int .i64 u)) l gv nv opn u := by
  have h := heap_setCell_same (o := 3) h (.int .i64 u)
  simpa [ListBlk] using h
end

/-- The list at l: groups, the one that is open, how many are open, how many edits there are; it lies in F. -/
structure ListRep (w : World) (F : Nat → Prop) (l : Nat) (gs : List (List EditP)) (now : List EditP) (opn edits : Int) : Prop where
  ex : ∃ (gv nv : Value) (vs : List Value), ListBlk w l gv nv opn edits ∧ ListBody w F gv nv vs gs now
  mem : F l
end Go.Proofs.Ytbhklkolkclflaa
