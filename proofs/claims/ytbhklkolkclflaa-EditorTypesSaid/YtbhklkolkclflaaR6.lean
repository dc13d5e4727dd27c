/- A region that draws its order: what stands whatever has come up. -/
import Derived.Test.YtbhklkolkclflaaR2
import Derived.Deep.RegionHeld3
namespace Go.Proofs.Ytbhklkolkclflaa
open Go.RowKit

theorem filter_le {α : Type} {p q : α → Bool} (l : List α) (h : ∀ x, q x = true → p x = true) : (l.filter q).length ≤ (l.filter p).length := by
  induction l with
  | nil => simp
  | cons y l ih =>
    cases hp : p y
    · cases hq : q y
      · simpa [List.filter_cons, hp, hq] using ih
      · rw [h y hq] at hp
        cases hp
    · cases hq : q y
      · simp [hp, hq]
        omega
      · simpa [List.filter_cons, hp, hq] using ih
theorem filter_lt {α : Type} {p q : α → Bool} : ∀ {l : List α}, (∀ x, q x = true → p x = true) → (∃ x ∈ l, p x = true ∧ q x = false) → (l.filter q).length < (l.filter p).length
  | [], _, ⟨_, hx, _⟩ => by cases hx
  | y :: l, h, ⟨x, hx, h1, h2⟩ => by
    rcases List.mem_cons.1 hx with rfl | hx
    · have := filter_le l h
      simp [h1, h2]
      omega
    · have ih := filter_lt (l := l) h ⟨x, hx, h1, h2⟩
      cases hp : p y
      · cases hq : q y
        · simpa [List.filter_cons, hp, hq] using ih
        · rw [h y hq] at hp
          cases hp
      · cases hq : q y
        · simp [hp, hq]
          omega
        · simpa [List.filter_cons, hp, hq] using ih

/-- How many have not come up. -/
def unlisted (ops : Array Oper) (listed : Array Bool) : Nat := ((List.range ops.size).filter fun i => !listed.getD i true).length

theorem anyH_inv {P : Program} {ops : Array Oper} {Q : Exit → Act → World → Prop} {S : World → Prop} (J : Array Bool → Act → World → Prop)
    (hstep : ∀ listed a w i o, J listed a w → ops[i]? = some o → listed.getD i true = false → (∀ e ∈ o.after, Region.binds .any e = true → listed.getD e.on false = true) →
      wpOp P ops Q i (fun a' w' => S w' ∧ J (listed.setIfInBounds i true) a' w') a w)
    (hdone : ∀ listed a w, J listed a w → Region.ready .any ops listed = [] → Q .normal a w) :
    ∀ fuel listed a w, unlisted ops listed ≤ fuel → J listed a w → wpAnyH P .any ops Q S fuel listed a w := by
  intro fuel
  induction fuel with
  | zero =>
    intro listed a w hu hJ
    have h0 : Region.ready .any ops listed = [] := by
      rw [List.eq_nil_iff_forall_not_mem]
      intro i hi
      obtain ⟨h1, o, h2, _⟩ := mem_ready.1 hi
      have h3 : i < ops.size := (Array.getElem?_eq_some_iff.1 h2).1
      have h4 : i ∈ (List.range ops.size).filter fun i => !listed.getD i true := List.mem_filter.2 ⟨List.mem_range.2 h3, by simp [h1]⟩
      have := List.length_pos_of_mem h4
      unfold unlisted at hu
      omega
    exact ⟨h0, hdone listed a w hJ h0⟩
  | succ fuel ih =>
    intro listed a w hu hJ
    refine ⟨fun h0 => hdone listed a w hJ h0, fun i hi => ?_⟩
    obtain ⟨h1, o, h2, h3⟩ := mem_ready.1 hi
    refine wpOp_mono (fun a' w' h => ⟨h.1, ih _ a' w' ?_ h.2⟩) (hstep listed a w i o hJ h2 h1 h3)
    have h4 : i < ops.size := (Array.getElem?_eq_some_iff.1 h2).1
    have h5 : i < listed.size := by
      rcases Nat.lt_or_ge i listed.size with h | h
      · exact h
      · rw [Array.getD_eq_getD_getElem?, Array.getElem?_eq_none h] at h1
        cases h1
    have hlt : unlisted ops (listed.setIfInBounds i true) < unlisted ops listed := by
      unfold unlisted
      refine filter_lt (fun x hx => ?_) ⟨i, List.mem_range.2 h4, by simp [h1], ?_⟩
      · cases hl : listed.getD x true with
        | false => rfl
        | true =>
          have : (listed.setIfInBounds i true).getD x true = true := by
            by_cases hxi : i = x
            · subst hxi
              simp [Array.getD_eq_getD_getElem?, h5]
            · rw [getD_set_ne true hxi]
              exact hl
          rw [this] at hx
          cases hx
      · simp [Array.getD_eq_getD_getElem?, h5]
    omega

/-- An operation without a guard. -/
theorem wpOp_of {P : Program} {ops : Array Oper} {Q : Exit → Act → World → Prop} {i : Nat} {o : Oper} {K : Act → World → Prop} {a : Act} {w : World} (hi : ops[i]? = some o) (hg : o.guard = none) (h : o.wp P a w K Q) : wpOp P ops Q i K a w := by
  unfold wpOp
  simp only [hi]
  have hw : Region.wanted o (yielded ops a.tmps) = true := by simp [Region.wanted, hg]
  rw [if_pos hw]
  exact .inl h
/-! What single operations yield. -/
section
variable {P : Program} {ρ : Operand → Value} {o : Oper} {w : World} {x : Operand} {b n : Nat}
theorem E_move {v : Value} (ho : o.op = .move x) (hx : ρ x = v) : (execOp ρ o).run P w = .ok (.value v) w := by
  unfold execOp
  rw [ho]
  simp [hx]
theorem E_nil (ho : o.op = .nilCheck x) (hx : ρ x = .pointer (some ⟨b, n, none⟩)) : (execOp ρ o).run P w = .ok (.value (.pointer (some ⟨b, n, none⟩))) w := by
  unfold execOp
  rw [ho]
  simp [hx]
/-- A type whose values lie in one cell. -/
def oneCellType (P : Program) (t : TypeId) : Bool := match P.underlying t with
  | some (.struct _) => false
  | some (.array _ _) => false
  | some _ => true
  | none => false
theorem E_load {t : TypeId} {v : Value} (ho : o.op = .load t x) (hx : ρ x = .pointer (some ⟨b, n, none⟩)) (ht : oneCellType P t = true) (hc : w.cell? ⟨b, n, none⟩ = some v) : (execOp ρ o).run P w = .ok (.value v) w := by
  have ha : (isAgg t).run P w = .ok false w := by
    unfold oneCellType at ht
    unfold isAgg
    cases hu : P.underlying t with
    | none => simp [hu] at ht
    | some d =>
      rw [Sem.run_bind, run_underlying hu w]
      cases d <;> simp_all
  unfold execOp
  rw [ho]
  simp [hx, Instr.loadAt, Instr.sureAddr, loadVar, ha, hc]
/-- Where a field lies. -/
def fieldOff (P : Program) (s : TypeId) (f : Nat) : Option Nat := match P.underlying s with
  | some (.struct fields) => match fields[f]? with
    | some fd => match P.info? fd.type with
      | some i => if i.size = 0 then none else some fd.offset
      | none => none
    | none => none
  | _ => none
theorem E_field {s : TypeId} {f k : Nat} (ho : o.op = .fieldAddr s x f) (hx : ρ x = .pointer (some ⟨b, n, none⟩)) (hk : fieldOff P s f = some k) : (execOp ρ o).run P w = .ok (.value (.pointer (some ⟨b, n + k, none⟩))) w := by
  unfold fieldOff at hk
  cases hu : P.underlying s with
  | none => simp [hu] at hk
  | some d =>
    cases d <;> simp only [hu] at hk <;> try (cases hk; done)
    rename_i fields
    cases hf : fields[f]? with
    | none => simp [hf] at hk
    | some fd =>
      simp only [hf] at hk
      cases hi : P.info? fd.type with
      | none => simp [hi] at hk
      | some i =>
        simp only [hi] at hk
        by_cases h0 : i.size = 0
        · simp [h0] at hk
        · simp only [if_neg h0, Option.some.injEq] at hk
          subst hk
          have hadd : (⟨b, n, none⟩ : Addr).add fd.offset = ⟨b, n + fd.offset, none⟩ := by
            unfold Addr.add
            split <;> simp_all
          unfold execOp
          rw [ho]
          simp [hx, Instr.fieldAt, Instr.sureAddr, run_underlying hu, hf, fieldPlace, sizeOf, typeInfo, hi, h0, hadd]
end

/-- Every operation's grounds lie ahead of it. -/
def backward (ops : Array Oper) : Bool := (List.range ops.size).all fun i => match ops[i]? with
  | some o => o.after.all fun e => decide (e.on < i)
  | none => true
theorem all_of_ready {ops : Array Oper} {listed : Array Bool} (hb : backward ops = true) (h : Region.ready .any ops listed = []) : ∀ i, i < ops.size → listed.getD i true = true := by
  intro i
  induction i using Nat.strongRecOn with
  | ind i ih =>
    intro hi
    cases hl : listed.getD i true with
    | true => rfl
    | false =>
      exfalso
      have ho : ops[i]? = some ops[i] := Array.getElem?_eq_getElem hi
      have hm : i ∈ Region.ready .any ops listed := mem_ready.2 ⟨hl, ops[i], ho, fun e he hbd => ?_⟩
      · rw [h] at hm
        cases hm
      · have h1 := List.all_eq_true.1 hb i (List.mem_range.2 hi)
        rw [ho] at h1
        have h2 : e.on < i := of_decide_eq_true (Array.all_eq_true_iff_forall_mem.1 h1 e he)
        have h3 := ih e.on h2 (by omega)
        rw [Array.getD_eq_getD_getElem?] at *
        cases hq : listed[e.on]? with
        | some c => rw [hq] at h3; exact h3
        | none =>
          exfalso
          rw [Array.getElem?_eq_none_iff] at hq
          rw [Array.getElem?_eq_none (by omega)] at hl
          cases hl
end Go.Proofs.Ytbhklkolkclflaa
