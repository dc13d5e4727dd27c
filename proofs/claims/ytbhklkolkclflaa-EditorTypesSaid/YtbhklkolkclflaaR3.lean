/- A region of six operations that draws its order, within a round: 'x = append(x, f(y))', x in memory. -/
import Derived.Test.YtbhklkolkclflaaR2
namespace Go.Proofs.Ytbhklkolkclflaa
open Go.RowKit
attribute [local go_sem] Oper.semAt_some

section
variable {F : Fence} {n : Nat} {P : Program} {ops : Array Oper} {Q : Exit → Act → World → Prop} {md : Region.Mode}

theorem anyIn_step {fuel : Nat} {listed : Array Bool} {a : Act} {w : World} (rs : List Nat) (hr : Region.ready md ops listed = rs) (hne : rs ≠ [])
    (h : ∀ i ∈ rs, wpOpIn F n P ops Q i (wpAnyIn F n P md ops Q fuel (listed.setIfInBounds i true)) a w) : wpAnyIn F n P md ops Q (fuel + 1) listed a w :=
  ⟨fun e => absurd (hr.symm.trans e) hne, hr ▸ h⟩

theorem region6 {id : Nat} {a : Act} {w : World} (hm : P.follows .mixedOrders = true) (hsz : ops.size = 6)
    (q0 : Region.ready .any ops #[false, false, false, false, false, false] = [0, 1]) (q1 : Region.ready .any ops #[true, false, false, false, false, false] = [1])
    (q2 : Region.ready .any ops #[true, true, false, false, false, false] = [2]) (q3 : Region.ready .any ops #[true, true, true, false, false, false] = [3])
    (q4 : Region.ready .any ops #[true, true, true, true, false, false] = [4]) (q5 : Region.ready .any ops #[true, true, true, true, true, false] = [5])
    (q6 : Region.ready .any ops #[true, true, true, true, true, true] = [])
    (p1 : Region.ready .any ops #[false, true, false, false, false, false] = [0, 2]) (p2 : Region.ready .any ops #[false, true, true, false, false, false] = [0, 3])
    (p3 : Region.ready .any ops #[false, true, true, true, false, false] = [0])
    (A1 A2 A3 A4 : Bool → Act → World → Prop) (B C : Act → World → Prop) (h0 : A1 false a w.drew)
    (l1 : ∀ a w K, A1 false a w → (∀ a w, A1 true a w → K a w) → wpOpIn F n P ops Q 0 K a w) (l2 : ∀ a w K, A2 false a w → (∀ a w, A2 true a w → K a w) → wpOpIn F n P ops Q 0 K a w)
    (l3 : ∀ a w K, A3 false a w → (∀ a w, A3 true a w → K a w) → wpOpIn F n P ops Q 0 K a w) (l4 : ∀ a w K, A4 false a w → (∀ a w, A4 true a w → K a w) → wpOpIn F n P ops Q 0 K a w)
    (m1 : ∀ ld a w K, A1 ld a w → (∀ a w, A2 ld a w → K a w) → wpOpIn F n P ops Q 1 K a w)
    (m2 : ∀ ld a w K, A2 ld a w → (∀ a w, A3 ld a w → K a w) → wpOpIn F n P ops Q 2 K a w)
    (m3 : ∀ ld a w K, A3 ld a w → (∀ a w, A4 ld a w → K a w) → wpOpIn F n P ops Q 3 K a w)
    (m4 : ∀ a w K, A4 true a w → (∀ a w, B a w → K a w) → wpOpIn F n P ops Q 4 K a w)
    (m5 : ∀ a w K, B a w → (∀ a w, C a w → K a w) → wpOpIn F n P ops Q 5 K a w)
    (hC : ∀ a w, C a w → Q .normal a w) : (Code.region id ops true).wpIn F n P Q a w := by
  refine wpIn_region_any hm ?_
  rw [hsz]
  change wpAnyIn F n P .any ops Q 6 #[false, false, false, false, false, false] a w.drew
  have t6 : ∀ a w, C a w → wpAnyIn F n P .any ops Q 0 #[true, true, true, true, true, true] a w := fun a w h => ⟨q6, hC a w h⟩
  have t5 : ∀ a w, B a w → wpAnyIn F n P .any ops Q 1 #[true, true, true, true, true, false] a w := fun a w h =>
    anyIn_step _ q5 (by simp) fun i hi => by obtain rfl : i = 5 := (by simpa using hi); exact m5 a w _ h t6
  have t4 : ∀ a w, A4 true a w → wpAnyIn F n P .any ops Q 2 #[true, true, true, true, false, false] a w := fun a w h =>
    anyIn_step _ q4 (by simp) fun i hi => by obtain rfl : i = 4 := (by simpa using hi); exact m4 a w _ h t5
  have t3 : ∀ a w, A3 true a w → wpAnyIn F n P .any ops Q 3 #[true, true, true, false, false, false] a w := fun a w h =>
    anyIn_step _ q3 (by simp) fun i hi => by obtain rfl : i = 3 := (by simpa using hi); exact m3 true a w _ h t4
  have t2 : ∀ a w, A2 true a w → wpAnyIn F n P .any ops Q 4 #[true, true, false, false, false, false] a w := fun a w h =>
    anyIn_step _ q2 (by simp) fun i hi => by obtain rfl : i = 2 := (by simpa using hi); exact m2 true a w _ h t3
  have t1 : ∀ a w, A1 true a w → wpAnyIn F n P .any ops Q 5 #[true, false, false, false, false, false] a w := fun a w h =>
    anyIn_step _ q1 (by simp) fun i hi => by obtain rfl : i = 1 := (by simpa using hi); exact m1 true a w _ h t2
  have s4 : ∀ a w, A4 false a w → wpAnyIn F n P .any ops Q 3 #[false, true, true, true, false, false] a w := fun a w h =>
    anyIn_step _ p3 (by simp) fun i hi => by obtain rfl : i = 0 := (by simpa using hi); exact l4 a w _ h t4
  have s3 : ∀ a w, A3 false a w → wpAnyIn F n P .any ops Q 4 #[false, true, true, false, false, false] a w := fun a w h =>
    anyIn_step _ p2 (by simp) fun i hi => by
      simp only [List.mem_cons, List.not_mem_nil, or_false] at hi
      rcases hi with rfl | rfl
      · exact l3 a w _ h t3
      · exact m3 false a w _ h s4
  have s2 : ∀ a w, A2 false a w → wpAnyIn F n P .any ops Q 5 #[false, true, false, false, false, false] a w := fun a w h =>
    anyIn_step _ p1 (by simp) fun i hi => by
      simp only [List.mem_cons, List.not_mem_nil, or_false] at hi
      rcases hi with rfl | rfl
      · exact l2 a w _ h t2
      · exact m2 false a w _ h s3
  exact anyIn_step _ q0 (by simp) fun i hi => by
    simp only [List.mem_cons, List.not_mem_nil, or_false] at hi
    rcases hi with rfl | rfl
    · exact l1 a _ _ h0 t1
    · exact m1 false a _ _ h0 s2
end

/-- An operation that is sure to be done, by its run. -/
theorem opIn_run {n l : Nat} {P : Program} {ops : Array Oper} {Q : Exit → Act → World → Prop} {i : Nat} {o : Oper} {a : Act} {w w' : World} {v : Value} {K : Act → World → Prop} (ho : ops[i]? = some o) (hg : o.guard = none)
    (hr : (o.semAt (some l) a.eval).run P w = .ok (.value v) w') (hK : K (a.put o.dst v) w') : wpOpIn (Fence.wide.inRound l) n P ops Q i K a w := by
  unfold wpOpIn
  simp only [ho]
  rw [if_pos (by simp [Region.wanted, hg])]
  refine ⟨fun _ _ => trivial, ?_⟩
  show o.uponIn _ _ _ _ _ _ ((o.semAt (some l) a.eval).run P w)
  rw [hr]
  exact hK
theorem opIn_skip {n l : Nat} {P : Program} {ops : Array Oper} {Q : Exit → Act → World → Prop} {i : Nat} {o : Oper} {a : Act} {w w' : World} {K : Act → World → Prop} (ho : ops[i]? = some o) (hg : o.guard = none)
    (hr : (o.semAt (some l) a.eval).run P w = .ok .skip w') (hK : K (a.put o.dst undef) w') : wpOpIn (Fence.wide.inRound l) n P ops Q i K a w := by
  unfold wpOpIn
  simp only [ho]
  rw [if_pos (by simp [Region.wanted, hg])]
  refine ⟨fun _ _ => trivial, ?_⟩
  show o.uponIn _ _ _ _ _ _ ((o.semAt (some l) a.eval).run P w)
  rw [hr]
  exact hK
theorem opIn_call {n l : Nat} {P : Program} {ops : Array Oper} {Q : Exit → Act → World → Prop} {i : Nat} {o : Oper} {a : Act} {w w' : World} {f : FuncId} {args : Array Value} {K : Act → World → Prop} (ho : ops[i]? = some o) (hg : o.guard = none)
    (hr : (o.semAt (some l) a.eval).run P w = .ok (.enter f args) w') {R : Ending → World → Prop} (hc : Calls P f args w' R) (hK : ∀ e w'', R e w'' → ∃ v, e = .returned v ∧ K (a.put o.dst v) w'') : wpOpIn (Fence.wide.inRound l) n P ops Q i K a w := by
  unfold wpOpIn
  simp only [ho]
  rw [if_pos (by simp [Region.wanted, hg])]
  refine ⟨fun _ _ => trivial, ?_⟩
  show o.uponIn _ _ _ _ _ _ ((o.semAt (some l) a.eval).run P w)
  rw [hr]
  refine ⟨fun h => by simp [Fence.wide, Fence.inRound] at h, CallsIn.mono (CallsIn.inRound l (callsIn_wide.2 hc)) ?_⟩
  intro e w'' h
  obtain ⟨v, rfl, h2⟩ := hK e w'' h
  exact h2
theorem opIn_app {n l : Nat} {P : Program} {ops : Array Oper} {Q : Exit → Act → World → Prop} {i0 : Nat} {o : Oper} {a : Act} {w : World} {K : Act → World → Prop} (hoi : ops[i0]? = some o) (hgd : o.guard = none) (s x : Operand) (t tx : TypeId)
    (ho : o.op = .call { callee := .builtin .append, args := #[s, x], argTypes := #[t, tx] })
    (e : TypeId) (i : TypeInfo) (z : Value) (size bytes : Nat) (ht : P.underlying t = some (.slice e)) (hi : P.info? e = some i) (hz : i.zero = some z)
    (hsize : i.size = size) (hby : i.bytes = bytes) (hzs : z.cells.size = size) (hsz : 0 < size)
    (v : Value) (k : Nat) (xs : List Value) (hv : a.eval s = v) (hown : Own w e size v k xs) (xv : Value) (m : Nat) (news : List Value) (hx : a.eval x = xv) (hs : Src P size tx xv m news w)
    (h63 : k + m ≤ maxLen) (hbytes : (k + m) * bytes ≤ 140737488355328)
    (h : ∀ av c w', Own w' e size (.slice av (k + m) c) (k + m) (xs ++ news) → Fr (rowOf v) w w' → (rowOf v = rowOf (.slice av (k + m) c) ∨ ∀ b, rowOf (.slice av (k + m) c) b → w.heap.size ≤ b) →
      K (a.put o.dst (.slice av (k + m) c)) w') : wpOpIn (Fence.wide.inRound l) n P ops Q i0 K a w := by
  obtain ⟨av, c, w', hr, h2, h3, h4⟩ := run_app (P := P) w t tx o.type e i z size bytes ht hi hz hsize hby hzs hsz v k xs hown xv m news hs h63 hbytes
  refine opIn_run (w' := w') hoi hgd ?_ (h av c w' h2 h3 h4)
  rw [Oper.semAt_some _ _ _ (by rw [ho]; intro c h; exact Op.noConfusion h)]
  unfold execOp
  simp only [ho, resolve, invoke, builtin, Sem.run_bind, Sem.run_pure, Result.andThen_ok, List.map_toArray, List.map_cons, List.map_nil, hv, hx, hr]
end Go.Proofs.Ytbhklkolkclflaa
