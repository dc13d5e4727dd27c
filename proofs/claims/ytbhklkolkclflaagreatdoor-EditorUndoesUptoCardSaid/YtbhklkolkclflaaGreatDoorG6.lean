/- A region that draws its order: what stands whatever has come up. Package editor: State at rest. -/
import Derived.Test.YtbhklkolkclflaaGreatDoorG2
import Derived.Deep.RegionHeld3
import Derived.Test.YtbhklkolkclflaaGreatDoorG5
/- R6: A region that draws its order: what stands whatever has come up. -/
namespace Go.Proofs.YtbhklkolkclflaaGreatDoor
open Go.RowKit

theorem filter_le {α : Type} {p q : α → Bool} (l : List α) (h : ∀ x, q x = true → p x = true) : (l.filter q).length ≤ (l.filter p).length := by
  induction l with
  | nil => simp
  | cons y l ih =>
    cases hp : p y
    · cases hq : q y
      · simpa [List.filter_cons, hp, hq] using ih
      · rw [h y hq] at hp
        cases hp
    · cases hq : q y
      · simp [hp, hq]
        omega
      · simpa [List.filter_cons, hp, hq] using ih
theorem filter_lt {α : Type} {p q : α → Bool} : ∀ {l : List α}, (∀ x, q x = true → p x = true) → (∃ x ∈ l, p x = true ∧ q x = false) → (l.filter q).length < (l.filter p).length
  | [], _, ⟨_, hx, _⟩ => by cases hx
  | y :: l, h, ⟨x, hx, h1, h2⟩ => by
    rcases List.mem_cons.1 hx with rfl | hx
    · have := filter_le l h
      simp [h1, h2]
      omega
    · have ih := filter_lt (l := l) h ⟨x, hx, h1, h2⟩
      cases hp : p y
      · cases hq : q y
        · simpa [List.filter_cons, hp, hq] using ih
        · rw [h y hq] at hp
          cases hp
      · cases hq : q y
        · simp [hp, hq]
          omega
        · simpa [List.filter_cons, hp, hq] using ih

/-- How many have not come up. -/
def unlisted (ops : Array Oper) (listed : Array Bool) : Nat := ((List.range ops.size).filter fun i => !listed.getD i true).length

theorem anyH_inv {P : Program} {ops : Array Oper} {Q : Exit → Act → World → Prop} {S : World → Prop} (J : Array Bool → Act → World → Prop)
    (hstep : ∀ listed a w i o, J listed a w → ops[i]? = some o → listed.getD i true = false → (∀ e ∈ o.after, Region.binds .any e = true → listed.getD e.on false = true) →
      wpOp P ops Q i (fun a' w' => S w' ∧ J (listed.setIfInBounds i true) a' w') a w)
    (hdone : ∀ listed a w, J listed a w → Region.ready .any ops listed = [] → Q .normal a w) :
    ∀ fuel listed a w, unlisted ops listed ≤ fuel → J listed a w → wpAnyH P .any ops Q S fuel listed a w := by
  intro fuel
  induction fuel with
  | zero =>
    intro listed a w hu hJ
    have h0 : Region.ready .any ops listed = [] := by
      rw [List.eq_nil_iff_forall_not_mem]
      intro i hi
      obtain ⟨h1, o, h2, _⟩ := mem_ready.1 hi
      have h3 : i < ops.size := (Array.getElem?_eq_some_iff.1 h2).1
      have h4 : i ∈ (List.range ops.size).filter fun i => !listed.getD i true := List.mem_filter.2 ⟨List.mem_range.2 h3, by simp [h1]⟩
      have := List.length_pos_of_mem h4
      unfold unlisted at hu
      omega
    exact ⟨h0, hdone listed a w hJ h0⟩
  | succ fuel ih =>
    intro listed a w hu hJ
    refine ⟨fun h0 => hdone listed a w hJ h0, fun i hi => ?_⟩
    obtain ⟨h1, o, h2, h3⟩ := mem_ready.1 hi
    refine wpOp_mono (fun a' w' h => ⟨h.1, ih _ a' w' ?_ h.2⟩) (hstep listed a w i o hJ h2 h1 h3)
    have h4 : i < ops.size := (Array.getElem?_eq_some_iff.1 h2).1
    have h5 : i < listed.size := by
      rcases Nat.lt_or_ge i listed.size with h | h
      · exact h
      · rw [Array.getD_eq_getD_getElem?, Array.getElem?_eq_none h] at h1
        cases h1
    have hlt : unlisted ops (listed.setIfInBounds i true) < unlisted ops listed := by
      unfold unlisted
      refine filter_lt (fun x hx => ?_) ⟨i, List.mem_range.2 h4, by simp [h1], ?_⟩
      · cases hl : listed.getD x true with
        | false => rfl
        | true =>
          have : (listed.setIfInBounds i true).getD x true = true := by
            by_cases hxi : i = x
            · subst hxi
              simp [Array.getD_eq_getD_getElem?, h5]
            · rw [getD_set_ne true hxi]
              exact hl
          rw [this] at hx
          cases hx
      · simp [Array.getD_eq_getD_getElem?, h5]
    omega

/-- An operation without a guard. -/
theorem wpOp_of {P : Program} {ops : Array Oper} {Q : Exit → Act → World → Prop} {i : Nat} {o : Oper} {K : Act → World → Prop} {a : Act} {w : World} (hi : ops[i]? = some o) (hg : o.guard = none) (h : o.wp P a w K Q) : wpOp P ops Q i K a w := by
  unfold wpOp
  simp only [hi]
  have hw : Region.wanted o (yielded ops a.tmps) = true := by simp [Region.wanted, hg]
  rw [if_pos hw]
  exact .inl h
/-! What single operations yield. -/
section
variable {P : Program} {ρ : Operand → Value} {o : Oper} {w : World} {x : Operand} {b n : Nat}
theorem E_move {v : Value} (ho : o.op = .move x) (hx : ρ x = v) : (execOp ρ o).run P w = .ok (.value v) w := by
  unfold execOp
  rw [ho]
  simp [hx]
theorem E_nil (ho : o.op = .nilCheck x) (hx : ρ x = .pointer (some ⟨b, n, none⟩)) : (execOp ρ o).run P w = .ok (.value (.pointer (some ⟨b, n, none⟩))) w := by
  unfold execOp
  rw [ho]
  simp [hx]
/-- A type whose values lie in one cell. -/
def oneCellType (P : Program) (t : TypeId) : Bool := match P.underlying t with
  | some (.struct _) => false
  | some (.array _ _) => false
  | some _ => true
  | none => false
theorem E_load {t : TypeId} {v : Value} (ho : o.op = .load t x) (hx : ρ x = .pointer (some ⟨b, n, none⟩)) (ht : oneCellType P t = true) (hc : w.cell? ⟨b, n, none⟩ = some v) : (execOp ρ o).run P w = .ok (.value v) w := by
  have ha : (isAgg t).run P w = .ok false w := by
    unfold oneCellType at ht
    unfold isAgg
    cases hu : P.underlying t with
    | none => simp [hu] at ht
    | some d =>
      rw [Sem.run_bind, run_underlying hu w]
      cases d <;> simp_all
  unfold execOp
  rw [ho]
  simp [hx, Instr.loadAt, Instr.sureAddr, loadVar, ha, hc]
/-- Where a field lies. -/
def fieldOff (P : Program) (s : TypeId) (f : Nat) : Option Nat := match P.underlying s with
  | some (.struct fields) => match fields[f]? with
    | some fd => match P.info? fd.type with
      | some i => if i.size = 0 then none else some fd.offset
      | none => none
    | none => none
  | _ => none
theorem E_field {s : TypeId} {f k : Nat} (ho : o.op = .fieldAddr s x f) (hx : ρ x = .pointer (some ⟨b, n, none⟩)) (hk : fieldOff P s f = some k) : (execOp ρ o).run P w = .ok (.value (.pointer (some ⟨b, n + k, none⟩))) w := by
  unfold fieldOff at hk
  cases hu : P.underlying s with
  | none => simp [hu] at hk
  | some d =>
    cases d <;> simp only [hu] at hk <;> try (cases hk; done)
    rename_i fields
    cases hf : fields[f]? with
    | none => simp [hf] at hk
    | some fd =>
      simp only [hf] at hk
      cases hi : P.info? fd.type with
      | none => simp [hi] at hk
      | some i =>
        simp only [hi] at hk
        by_cases h0 : i.size = 0
        · simp [h0] at hk
        · simp only [if_neg h0, Option.some.injEq] at hk
          subst hk
          have hadd : (⟨b, n, none⟩ : Addr).add fd.offset = ⟨b, n + fd.offset, none⟩ := by
            unfold Addr.add
            split <;> simp_all
          unfold execOp
          rw [ho]
          simp [hx, Instr.fieldAt, Instr.sureAddr, run_underlying hu, hf, fieldPlace, sizeOf, typeInfo, hi, h0, hadd]
end

/-- Every operation's grounds lie ahead of it. -/
def backward (ops : Array Oper) : Bool := (List.range ops.size).all fun i => match ops[i]? with
  | some o => o.after.all fun e => decide (e.on < i)
  | none => true
theorem all_of_ready {ops : Array Oper} {listed : Array Bool} (hb : backward ops = true) (h : Region.ready .any ops listed = []) : ∀ i, i < ops.size → listed.getD i true = true := by
  intro i
  induction i using Nat.strongRecOn with
  | ind i ih =>
    intro hi
    cases hl : listed.getD i true with
    | true => rfl
    | false =>
      exfalso
      have ho : ops[i]? = some ops[i] := Array.getElem?_eq_getElem hi
      have hm : i ∈ Region.ready .any ops listed := mem_ready.2 ⟨hl, ops[i], ho, fun e he hbd => ?_⟩
      · rw [h] at hm
        cases hm
      · have h1 := List.all_eq_true.1 hb i (List.mem_range.2 hi)
        rw [ho] at h1
        have h2 : e.on < i := of_decide_eq_true (Array.all_eq_true_iff_forall_mem.1 h1 e he)
        have h3 := ih e.on h2 (by omega)
        rw [Array.getD_eq_getD_getElem?] at *
        cases hq : listed[e.on]? with
        | some c => rw [hq] at h3; exact h3
        | none =>
          exfalso
          rw [Array.getElem?_eq_none_iff] at hq
          rw [Array.getElem?_eq_none (by omega)] at hl
          cases hl
end Go.Proofs.YtbhklkolkclflaaGreatDoor
/- E18: Package editor: State at rest. -/
namespace Go.Proofs.YtbhklkolkclflaaGreatDoor
open Go.RowKit

/-- What stays when only blocks of states are written. -/
def Mono (R : Value → World → Prop) : Prop := ∀ v w w' (M : Nat → Prop), R v w → Fr M w w' → (∀ b c T fr, M b → w.heap[b]? = some (.cells c T fr) → T = 60) → R v w'
theorem Mono.n {R : Value → World → Prop} (h : Mono R) {v : Value} {w w' : World} (hr : R v w) (hf : Fr nob w w') : R v w' := h v w w' nob hr hf (fun _ _ _ _ h => h.elim)
/-- The cells of what State answers. -/
def stateCells (S : EdState) (lv kv sv : Value) (u : Int) : Array Value :=
  #[lv, .int .i64 S.core.point, .int .i64 S.core.mark, .int .i64 S.core.mode, .bool S.core.over, .bool S.f.given, .bool S.f.minus, .int .i64 S.f.arg, .int .i64 S.core.last, .int .i64 S.core.yf, .int .i64 S.core.yt,
    kv, .int .i64 S.core.place, sv, .int .i64 u, .int .i64 S.core.res, .int .i64 S.bells]
def LineR (S : EdState) (v : Value) (w : World) : Prop := ∃ a c, v = .slice a S.core.text.length c ∧ Own w 21 1 (.slice a S.core.text.length c) S.core.text.length (runes S.core.text)
def StateIs (w : World) (S : EdState) (RK RS : Value → World → Prop) (u : Int) (x : Ending) (w' : World) : Prop :=
  ∃ lv kv sv, x = .returned (.agg (stateCells S lv kv sv u)) ∧ LineR S lv w' ∧ RK kv w' ∧ RS sv w' ∧ Fr nob w w'
theorem LineR.mono (S : EdState) : Mono (LineR S) := by
  rintro v w w' M ⟨a, c, rfl, h⟩ hf hM
  exact ⟨a, c, rfl, h.stay hf (fun b c fr hb hm => by have := hM b c _ fr hm hb; exact absurd this (by decide))⟩

theorem getD_tf {l : Array Bool} {i : Nat} (h : l.getD i false = true) : l.getD i true = true := by
  rw [Array.getD_eq_getD_getElem?] at *
  cases hi : l[i]? with
  | none => rfl
  | some b => rw [hi] at h; exact h
theorem arr_of (A : Array Value) (n : Nat) (h : A.size = n) : A = ((List.range n).map fun i => A.getD i undef).toArray := by
  refine Array.ext (by simp [h]) (fun i h1 h2 => ?_)
  simp [Array.getD_eq_getD_getElem?, h1]
theorem arr94 (A : Array Value) (h : A.size = 94) : A = (A.getD 0 undef :: A.getD 1 undef :: A.getD 2 undef :: A.getD 3 undef :: A.getD 4 undef :: A.getD 5 undef :: A.getD 6 undef :: A.getD 7 undef :: A.getD 8 undef :: A.getD 9 undef :: A.getD 10 undef :: A.getD 11 undef :: A.getD 12 undef :: A.getD 13 undef :: A.getD 14 undef :: A.getD 15 undef :: A.getD 16 undef :: A.getD 17 undef :: A.getD 18 undef :: A.getD 19 undef :: A.getD 20 undef :: A.getD 21 undef :: A.getD 22 undef :: A.getD 23 undef :: A.getD 24 undef :: A.getD 25 undef :: A.getD 26 undef :: A.getD 27 undef :: A.getD 28 undef :: A.getD 29 undef :: A.getD 30 undef :: A.getD 31 undef :: A.getD 32 undef :: A.getD 33 undef :: A.getD 34 undef :: A.getD 35 undef :: A.getD 36 undef :: A.getD 37 undef :: A.getD 38 undef :: A.getD 39 undef :: A.getD 40 undef :: A.getD 41 undef :: A.getD 42 undef :: A.getD 43 undef :: A.getD 44 undef :: A.getD 45 undef :: A.getD 46 undef :: A.getD 47 undef :: A.getD 48 undef :: A.getD 49 undef :: A.getD 50 undef :: A.getD 51 undef :: A.getD 52 undef :: A.getD 53 undef :: A.getD 54 undef :: A.getD 55 undef :: A.getD 56 undef :: A.getD 57 undef :: A.getD 58 undef :: A.getD 59 undef :: A.getD 60 undef :: A.getD 61 undef :: A.getD 62 undef :: A.getD 63 undef :: A.getD 64 undef :: A.getD 65 undef :: A.getD 66 undef :: A.getD 67 undef :: A.getD 68 undef :: A.getD 69 undef :: A.getD 70 undef :: A.getD 71 undef :: A.getD 72 undef :: A.getD 73 undef :: A.getD 74 undef :: A.getD 75 undef :: A.getD 76 undef :: A.getD 77 undef :: A.getD 78 undef :: A.getD 79 undef :: A.getD 80 undef :: A.getD 81 undef :: A.getD 82 undef :: A.getD 83 undef :: A.getD 84 undef :: A.getD 85 undef :: A.getD 86 undef :: A.getD 87 undef :: A.getD 88 undef :: A.getD 89 undef :: A.getD 90 undef :: A.getD 91 undef :: A.getD 92 undef :: A.getD 93 undef :: []).toArray := (arr_of A 94 h).trans rfl

theorem arr94' (A : Array Value) (h : A.size = 94) : ∃ x1 x4 x5 x6 x7 x8 x9 x10 x11 x12 x13 x14 x15 x16 x17 x18 x19 x20 x21 x22 x23 x24 x25 x26 x27 x28 x29 x30 x31 x32 x33 x34 x35 x36 x37 x38 x39 x40 x41 x42 x43 x44 x45 x46 x47 x48 x49 x50 x51 x52 x53 x54 x55 x56 x57 x58 x59 x60 x61 x62 x63 x64 x65 x66 x67 x68 x69 x70 x71 x72 x73 x74 x75 x76 x77 x78 x79 x80 x81 x82 x83 x84 x85 x86 x87 x88 x89 x90 x91 x92 x93, A = (A.getD 0 undef :: x1 :: A.getD 2 undef :: A.getD 3 undef :: x4 :: x5 :: x6 :: x7 :: x8 :: x9 :: x10 :: x11 :: x12 :: x13 :: x14 :: x15 :: x16 :: x17 :: x18 :: x19 :: x20 :: x21 :: x22 :: x23 :: x24 :: x25 :: x26 :: x27 :: x28 :: x29 :: x30 :: x31 :: x32 :: x33 :: x34 :: x35 :: x36 :: x37 :: x38 :: x39 :: x40 :: x41 :: x42 :: x43 :: x44 :: x45 :: x46 :: x47 :: x48 :: x49 :: x50 :: x51 :: x52 :: x53 :: x54 :: x55 :: x56 :: x57 :: x58 :: x59 :: x60 :: x61 :: x62 :: x63 :: x64 :: x65 :: x66 :: x67 :: x68 :: x69 :: x70 :: x71 :: x72 :: x73 :: x74 :: x75 :: x76 :: x77 :: x78 :: x79 :: x80 :: x81 :: x82 :: x83 :: x84 :: x85 :: x86 :: x87 :: x88 :: x89 :: x90 :: x91 :: x92 :: x93 :: []).toArray := ⟨_, _, _, _, _, _, _, _, _, _, _, _, _, _, _, _, _, _, _, _, _, _, _, _, _, _, _, _, _, _, _, _, _, _, _, _, _, _, _, _, _, _, _, _, _, _, _, _, _, _, _, _, _, _, _, _, _, _, _, _, _, _, _, _, _, _, _, _, _, _, _, _, _, _, _, _, _, _, _, _, _, _, _, _, _, _, _, _, _, _, _, arr94 A h⟩
theorem stateCells_one (S : EdState) (lv kv sv : Value) (u : Int) {w : World} (hl : LineR S lv w) (hk : ∃ a n c, kv = .slice a n c) (hs : ∃ a n c, sv = .slice a n c) : (stateCells S lv kv sv u).all (·.oneCell') = true := by
  obtain ⟨a, c, rfl, _⟩ := hl
  obtain ⟨_, _, _, rfl⟩ := hk
  obtain ⟨_, _, _, rfl⟩ := hs
  simp [stateCells, Value.oneCell']

theorem rep_no {n i : Nat} (hn : n = 66) (h : i < 66) (hl : (Array.replicate n false).getD i true = true) : False := by
  subst hn
  simp [Array.getD_eq_getD_getElem?, h] at hl

/-- An operation that yields a value. -/
theorem wpOp_run {P : Program} {ops : Array Oper} {Q : Exit → Act → World → Prop} {i : Nat} {o : Oper} {K : Act → World → Prop} {a : Act} {w : World} {v : Value} (hi : ops[i]? = some o) (hg : o.guard = none) (hr : (execOp a.eval o).run P w = .ok (.value v) w)
    (hK : K (a.put o.dst v) w) : wpOp P ops Q i K a w := by
  refine wpOp_of hi hg ?_
  unfold Oper.wp
  rw [hr]
  exact hK

/-- What the operations of State's region yield that only read. -/
def stPv (S : EdState) (e k bl : Nat) : Nat → Value
  | 0 => .pointer (some ⟨e, 0, none⟩)
  | 2 => .pointer (some ⟨e, 0, none⟩)
  | 3 => .pointer (some ⟨e, 0, none⟩)
  | 4 => .pointer (some ⟨e, 0, none⟩)
  | 5 => .pointer (some ⟨e, 4, none⟩)
  | 6 => .int .i64 S.core.mode
  | 7 => .pointer (some ⟨e, 0, none⟩)
  | 8 => .pointer (some ⟨e, 0, none⟩)
  | 9 => .pointer (some ⟨e, 0, none⟩)
  | 10 => .pointer (some ⟨e, 5, none⟩)
  | 11 => .bool S.core.over
  | 12 => .pointer (some ⟨e, 0, none⟩)
  | 13 => .pointer (some ⟨e, 0, none⟩)
  | 14 => .pointer (some ⟨e, 13, none⟩)
  | 15 => .bool S.f.given
  | 16 => .pointer (some ⟨e, 0, none⟩)
  | 17 => .pointer (some ⟨e, 0, none⟩)
  | 18 => .pointer (some ⟨e, 14, none⟩)
  | 19 => .bool S.f.minus
  | 20 => .pointer (some ⟨e, 0, none⟩)
  | 21 => .pointer (some ⟨e, 0, none⟩)
  | 22 => .pointer (some ⟨e, 15, none⟩)
  | 23 => .int .i64 S.f.arg
  | 24 => .pointer (some ⟨e, 0, none⟩)
  | 25 => .pointer (some ⟨e, 0, none⟩)
  | 26 => .pointer (some ⟨e, 0, none⟩)
  | 27 => .pointer (some ⟨e, 6, none⟩)
  | 28 => .int .i64 S.core.last
  | 29 => .pointer (some ⟨e, 0, none⟩)
  | 30 => .pointer (some ⟨e, 0, none⟩)
  | 31 => .pointer (some ⟨e, 0, none⟩)
  | 32 => .pointer (some ⟨e, 7, none⟩)
  | 33 => .int .i64 S.core.yf
  | 34 => .pointer (some ⟨e, 0, none⟩)
  | 35 => .pointer (some ⟨e, 0, none⟩)
  | 36 => .pointer (some ⟨e, 0, none⟩)
  | 37 => .pointer (some ⟨e, 8, none⟩)
  | 38 => .int .i64 S.core.yt
  | 39 => .pointer (some ⟨e, 0, none⟩)
  | 41 => .pointer (some ⟨e, 0, none⟩)
  | 42 => .pointer (some ⟨e, 0, none⟩)
  | 43 => .pointer (some ⟨e, 0, none⟩)
  | 44 => .pointer (some ⟨e, 2, none⟩)
  | 45 => .pointer (some ⟨k, 0, none⟩)
  | 46 => .pointer (some ⟨k, 0, none⟩)
  | 47 => .pointer (some ⟨k, 0, none⟩)
  | 48 => .int .i64 S.core.place
  | 49 => .pointer (some ⟨e, 0, none⟩)
  | 51 => .pointer (some ⟨e, 0, none⟩)
  | 53 => .pointer (some ⟨e, 0, none⟩)
  | 54 => .pointer (some ⟨e, 0, none⟩)
  | 55 => .pointer (some ⟨e, 0, none⟩)
  | 56 => .pointer (some ⟨e, 9, none⟩)
  | 57 => .int .i64 S.core.res
  | 58 => .pointer (some ⟨e, 0, none⟩)
  | 59 => .pointer (some ⟨e, 0, none⟩)
  | 60 => .pointer (some ⟨e, 12, none⟩)
  | 61 => .pointer (some ⟨bl, 0, none⟩)
  | _ => undef
def stDst (i : Nat) : Nat := if i = 64 then 3 else 7 + i
def stPure (i : Nat) : Bool := decide (i ≠ 1 ∧ i ≠ 40 ∧ i ≠ 50 ∧ i ≠ 52 ∧ i ≠ 62 ∧ i ≠ 63 ∧ i ≠ 64)

section
variable (S : EdState) (e k bl : Nat) (RK RS : Value → World → Prop) (u : Int) (n0 n2 : Nat)
def StR (i : Nat) (v : Value) (w : World) : Prop :=
  if i = 1 then ∃ lv, v = .agg #[lv, .int .i64 S.core.point, .int .i64 S.core.mark] ∧ LineR S lv w
  else if i = 40 then RK v w else if i = 50 then RS v w else if i = 52 then v = .int .i64 u else if i = 62 then v = .int .i64 S.bells
  else if i = 63 then ∃ lv kv sv, v = .agg (stateCells S lv kv sv u) ∧ LineR S lv w ∧ RK kv w ∧ RS sv w
  else if i = 64 then ∃ s, v = .pointer (some ⟨s, 0, none⟩) ∧ n0 ≤ s ∧ ∃ cs, w.heap[s]? = some (.cells cs 60 (0, 0)) ∧ cs.size = 17
  else v = stPv S e k bl i
theorem StR.pure {i : Nat} (h : stPure i = true) {v : Value} {w : World} : StR S e k bl RK RS u n0 i v w ↔ v = stPv S e k bl i := by
  unfold stPure at h
  have h' := of_decide_eq_true h
  unfold StR
  rw [if_neg h'.1, if_neg h'.2.1, if_neg h'.2.2.1, if_neg h'.2.2.2.1, if_neg h'.2.2.2.2.1, if_neg h'.2.2.2.2.2.1, if_neg h'.2.2.2.2.2.2]
theorem StR.mono (hk : Mono RK) (hs : Mono RS) (i : Nat) {v : Value} {w w' : World} (h : StR S e k bl RK RS u n0 i v w) (hf : Fr nob w w') : StR S e k bl RK RS u n0 i v w' := by
  unfold StR at *
  by_cases h1 : i = 1
  · rw [if_pos h1] at h ⊢
    obtain ⟨lv, h1, h2⟩ := h
    exact ⟨lv, h1, (LineR.mono S).n h2 hf⟩
  rw [if_neg h1] at h ⊢
  by_cases h1 : i = 40
  · rw [if_pos h1] at h ⊢
    exact hk.n h hf
  rw [if_neg h1] at h ⊢
  by_cases h1 : i = 50
  · rw [if_pos h1] at h ⊢
    exact hs.n h hf
  rw [if_neg h1] at h ⊢
  by_cases h1 : i = 52
  · rw [if_pos h1] at h ⊢
    exact h
  rw [if_neg h1] at h ⊢
  by_cases h1 : i = 62
  · rw [if_pos h1] at h ⊢
    exact h
  rw [if_neg h1] at h ⊢
  by_cases h1 : i = 63
  · rw [if_pos h1] at h ⊢
    obtain ⟨lv, kv, sv, h1, h2, h3, h4⟩ := h
    exact ⟨lv, kv, sv, h1, (LineR.mono S).n h2 hf, hk.n h3 hf, hs.n h4 hf⟩
  rw [if_neg h1] at h ⊢
  by_cases h1 : i = 64
  · rw [if_pos h1] at h ⊢
    obtain ⟨s, h1, h2, cs, h3, h4⟩ := h
    exact ⟨s, h1, h2, cs, hf.keep h3 (fun h => h), h4⟩
  rw [if_neg h1] at h ⊢
  exact h
/-- What stands whatever has come up. -/
structure StJ (w0 : World) (listed : Array Bool) (a : Act) (w : World) : Prop where
  fr : Fr nob w0 w
  df : a.defers = []
  sz : a.tmps.size = 94
  ls : listed.size = 66
  t0 : a.eval (.tmp 0) = .pointer (some ⟨e, 0, none⟩)
  t2 : a.eval (.tmp 2) = .pointer (some ⟨n2, 0, none⟩)
  vl : listed.getD 65 true = false → ∀ i, i < 65 → listed.getD i true = true → StR S e k bl RK RS u n0 i (a.eval (.tmp (stDst i))) w
  st : listed.getD 65 true = true → ∃ s lv kv sv, a.eval (.tmp 3) = .pointer (some ⟨s, 0, none⟩) ∧ n0 ≤ s ∧ w.heap[s]? = some (.cells (stateCells S lv kv sv u) 60 (0, 0)) ∧ LineR S lv w ∧ RK kv w ∧ RS sv w
  al : listed.getD 65 true = true → ∀ i, i < 65 → listed.getD i true = true
  sz0 : n0 ≤ w.heap.size
end

section
variable {S : EdState} {e k bl : Nat} {RK RS : Value → World → Prop} {u : Int} {n0 n2 : Nat} {w0 w w' : World} {listed : Array Bool} {a : Act}
theorem StJ.pv (h : StJ S e k bl RK RS u n0 n2 w0 listed a w) (h65 : listed.getD 65 true = false) (i : Nat) (hi : i < 65) (hp : stPure i = true) (hl : listed.getD i true = true) : a.eval (.tmp (stDst i)) = stPv S e k bl i :=
  (StR.pure S e k bl RK RS u n0 hp).1 (h.vl h65 i hi hl)
theorem StJ.open65 (h : StJ S e k bl RK RS u n0 n2 w0 listed a w) {i : Nat} (hi : i < 65) (hu : listed.getD i true = false) : listed.getD 65 true = false := by
  cases hl : listed.getD 65 true with
  | false => rfl
  | true =>
    rw [h.al hl i hi] at hu
    cases hu
theorem eval_tmp {a : Act} {n : Nat} {v : Value} (h : a.eval (.tmp n) = v) : a.tmps[n]?.getD undef = v := by
  simpa [Act.eval, Array.getD_eq_getD_getElem?] using h
theorem eval_put_same {a : Act} {d : Nat} {v : Value} (h : d < a.tmps.size) : (a.put (some d) v).eval (.tmp d) = v := by
  simp [Act.put, Act.eval, Array.getD_eq_getD_getElem?, h]
theorem eval_put_ne {a : Act} {d j : Nat} {v : Value} (h : d ≠ j) : (a.put (some d) v).eval (.tmp j) = a.eval (.tmp j) := by
  simp [Act.put, Act.eval, Array.getD_eq_getD_getElem?, Array.getElem?_setIfInBounds_ne h]
theorem StJ.step (h : StJ S e k bl RK RS u n0 n2 w0 listed a w) (hk : Mono RK) (hs : Mono RS) {i : Nat} {v : Value} (hi : i < 65) (hu : listed.getD i true = false) (hf : Fr nob w w') (hr : StR S e k bl RK RS u n0 i v w') :
    StJ S e k bl RK RS u n0 n2 w0 (listed.setIfInBounds i true) (a.put (some (stDst i)) v) w' := by
  have hd : stDst i ≠ 0 ∧ stDst i ≠ 2 ∧ stDst i < 94 := by unfold stDst; split <;> omega
  refine ⟨h.fr.then hf, h.df, ?_, by simpa using h.ls, ?_, ?_, fun _ j hj hl => ?_, fun hl => ?_, fun hl => ?_, Nat.le_trans h.sz0 hf.size⟩
  · simpa [Act.put] using h.sz
  · rw [eval_put_ne hd.1]; exact h.t0
  · rw [eval_put_ne hd.2.1]; exact h.t2
  · by_cases hij : i = j
    · subst hij
      rw [eval_put_same (by rw [h.sz]; exact hd.2.2)]
      exact hr
    · rw [getD_set_ne true hij] at hl
      have hne : stDst i ≠ stDst j := by unfold stDst; split <;> split <;> omega
      rw [eval_put_ne hne]
      exact (h.vl (h.open65 hi hu) j hj hl).mono S e k bl RK RS u n0 hk hs j hf
  · rw [getD_set_ne true (by omega)] at hl
    rw [h.al hl i hi] at hu
    cases hu
  · rw [getD_set_ne true (by omega)] at hl
    rw [h.al hl i hi] at hu
    cases hu
end

set_option maxRecDepth 100000 in
set_option maxHeartbeats 8000000 in
theorem ed_state_rest (w : World) (κ : Col) (e : Nat) (S : EdState) (x : EdRep w κ e S) (hin : S.f.inn = false) (RK RS : Value → World → Prop) (u : Int) (hmk : Mono RK) (hms : Mono RS) (hsk : ∀ v w, RK v w → ∃ a n c, v = .slice a n c) (hss : ∀ v w, RS v w → ∃ a n c, v = .slice a n c)
    (hK : ∀ V, Fr nob w V → Calls Tryz.prog 51 #[.pointer (some ⟨e, 0, none⟩)] V fun y w' => ∃ v, y = .returned v ∧ RK v w' ∧ Fr nob V w')
    (hS : ∀ V, Fr nob w V → Calls Tryz.prog 91 #[.pointer (some ⟨e, 0, none⟩)] V fun y w' => ∃ v, y = .returned v ∧ RS v w' ∧ Fr nob V w')
    (hU : ∀ V, Fr nob w V → Calls Tryz.prog 92 #[.pointer (some ⟨e, 0, none⟩)] V fun y w' => y = .returned (.int .i64 u) ∧ Fr nob V w') :
    Calls Tryz.prog 27 #[.pointer (some ⟨e, 0, none⟩)] w (StateIs w S RK RS u) := by
  have hL := fun (V : World) (hV : Fr nob w V) => ed_line V κ e S (x.stay hV (NR.nob _) (fun _ h _ => h.elim) (fun _ _ => rfl))
  obtain ⟨i, b, r, k, tm, um, h, bl, was, putv, x⟩ := x
  have hA := fun (V : World) (hV : Fr nob w V) => atomic_load V bl S.bells (hV.keep x.rest.bells (fun h => h))
  have hN := fun (V : World) (hV : Fr nob w V) => ed_none V e b r k um S.core h bl S.f was putv (hV.keep x.blk (fun h => h))
  have hC : ∀ V, Fr nob w V → V.cell? ⟨e, 4, none⟩ = some (.int .i64 S.core.mode) ∧ V.cell? ⟨e, 5, none⟩ = some (.bool S.core.over) ∧ V.cell? ⟨e, 13, none⟩ = some (.bool S.f.given) ∧ V.cell? ⟨e, 14, none⟩ = some (.bool S.f.minus) ∧ V.cell? ⟨e, 15, none⟩ = some (.int .i64 S.f.arg) ∧
      V.cell? ⟨e, 6, none⟩ = some (.int .i64 S.core.last) ∧ V.cell? ⟨e, 7, none⟩ = some (.int .i64 S.core.yf) ∧ V.cell? ⟨e, 8, none⟩ = some (.int .i64 S.core.yt) ∧ V.cell? ⟨e, 9, none⟩ = some (.int .i64 S.core.res) ∧ V.cell? ⟨e, 2, none⟩ = some (.pointer (some ⟨k, 0, none⟩)) ∧
      V.cell? ⟨e, 12, none⟩ = some (.pointer (some ⟨bl, 0, none⟩)) ∧ V.cell? ⟨k, 0, none⟩ = some (.int .i64 S.core.place) := fun V hV => by
    have h1 := blk_cells (hV.keep x.blk (fun h => h))
    have h2 := blk_cells (hV.keep x.core.walk (fun h => h))
    exact ⟨by rw [h1]; rfl, by rw [h1]; rfl, by rw [h1]; rfl, by rw [h1]; rfl, by rw [h1]; rfl, by rw [h1]; rfl, by rw [h1]; rfl, by rw [h1]; rfl, by rw [h1]; rfl, by rw [h1]; rfl, by rw [h1]; rfl, by rw [h2]; rfl⟩
  have hI : ∀ V, Fr nob w V → V.cell? ⟨e, 16, none⟩ = some (.bool false) := fun V hV => by
    rw [blk_cells (hV.keep x.blk (fun h => h)), ← hin]
    rfl
  have HL := Lib.hid hL
  have HA := Lib.hid hA
  have HN := Lib.hid hN
  have HC := Lib.hid hC
  have HI := Lib.hid hI
  have HK := Lib.hid hK
  have HS := Lib.hid hS
  have HU := Lib.hid hU
  have HMK := Lib.hid hmk
  have HMS := Lib.hid hms
  have HSK := Lib.hid hsk
  have HSS := Lib.hid hss
  clear hN hL hA hC hI x hin hK hS hU hmk hms hsk hss
  go_enter Tryz.func27, Tryz.ntmps27
  go_wp2_with (go_at_call 81; refine (HN.out _ (by exact (Fr.refl _ _).alloc _)).mono ?_; rintro y w' ⟨rfl, rfl⟩)
  rename_i K hK
  have hf0 : Fr nob w (w.alloc (.cells #[.slice none 0 0, .int .i64 0, .int .i64 0, .int .i64 0, .bool false, .bool false, .bool false, .int .i64 0, .int .i64 0, .int .i64 0, .int .i64 0, .slice none 0 0, .int .i64 0, .slice none 0 0, .int .i64 0, .int .i64 0, .int .i64 0] 60)) := (Fr.refl _ _).alloc _
  have hb0 := heap_alloc_new w (.cells #[.slice none 0 0, .int .i64 0, .int .i64 0, .int .i64 0, .bool false, .bool false, .bool false, .int .i64 0, .int .i64 0, .int .i64 0, .int .i64 0, .slice none 0 0, .int .i64 0, .slice none 0 0, .int .i64 0, .int .i64 0, .int .i64 0] 60)
  refine forget (fun W => Hid (W.heap[w.heap.size]? = some (.cells #[.slice none 0 0, .int .i64 0, .int .i64 0, .int .i64 0, .bool false, .bool false, .bool false, .int .i64 0, .int .i64 0, .int .i64 0, .int .i64 0, .slice none 0 0, .int .i64 0, .slice none 0 0, .int .i64 0, .int .i64 0, .int .i64 0] 60 (0, 0))) ∧ Fr nob w W) ⟨hb0, hf0⟩ ?_
  clear hb0 hf0
  rintro W ⟨HW, hfW⟩
  have HFW := Lib.hid hfW
  refine wp_region_noPanic ?_
  refine wp_region_held_drew (S := fun V => Fr nob w V) (by kernel_rfl) hfW.drew (fun _ => ?_)
  refine anyH_inv (StJ S e k bl RK RS u W.heap.size w.heap.size W) ?hstep ?hdone _ _ _ _ (Nat.le_of_eq (by kernel_rfl)) ⟨(Fr.refl nob W).drew, rfl, rfl, by rw [Array.size_replicate]; kernel_rfl, rfl, rfl, fun _ i hi hl => (rep_no (by kernel_rfl) (by omega) hl).elim, fun hl => (rep_no (by kernel_rfl) (by decide) hl).elim, fun hl => (rep_no (by kernel_rfl) (by decide) hl).elim, Nat.le_refl _⟩
  case hstep =>
    intro listed a w1 i o hJ ho hu hd
    have hi66 : i < 66 := (Array.getElem?_eq_some_iff.1 ho).1
    have hgw : ∀ V, Fr nob w1 V → Fr nob w V := fun V h => (HFW.out.then hJ.fr).then h
    rcases (by omega : i = 0 ∨ i = 1 ∨ i = 2 ∨ i = 3 ∨ i = 4 ∨ i = 5 ∨ i = 6 ∨ i = 7 ∨ i = 8 ∨ i = 9 ∨ i = 10 ∨ i = 11 ∨ i = 12 ∨ i = 13 ∨ i = 14 ∨ i = 15 ∨ i = 16 ∨ i = 17 ∨ i = 18 ∨ i = 19 ∨ i = 20 ∨ i = 21 ∨ i = 22 ∨ i = 23 ∨ i = 24 ∨ i = 25 ∨ i = 26 ∨ i = 27 ∨ i = 28 ∨ i = 29 ∨ i = 30 ∨ i = 31 ∨ i = 32 ∨ i = 33 ∨ i = 34 ∨ i = 35 ∨ i = 36 ∨ i = 37 ∨ i = 38 ∨ i = 39 ∨ i = 40 ∨ i = 41 ∨ i = 42 ∨ i = 43 ∨ i = 44 ∨ i = 45 ∨ i = 46 ∨ i = 47 ∨ i = 48 ∨ i = 49 ∨ i = 50 ∨ i = 51 ∨ i = 52 ∨ i = 53 ∨ i = 54 ∨ i = 55 ∨ i = 56 ∨ i = 57 ∨ i = 58 ∨ i = 59 ∨ i = 60 ∨ i = 61 ∨ i = 62 ∨ i = 63 ∨ i = 64 ∨ i = 65) with rfl | rfl | rfl | rfl | rfl | rfl | rfl | rfl | rfl | rfl | rfl | rfl | rfl | rfl | rfl | rfl | rfl | rfl | rfl | rfl | rfl | rfl | rfl | rfl | rfl | rfl | rfl | rfl | rfl | rfl | rfl | rfl | rfl | rfl | rfl | rfl | rfl | rfl | rfl | rfl | rfl | rfl | rfl | rfl | rfl | rfl | rfl | rfl | rfl | rfl | rfl | rfl | rfl | rfl | rfl | rfl | rfl | rfl | rfl | rfl | rfl | rfl | rfl | rfl | rfl | rfl
    · change some _ = some o at ho
      injection ho with ho
      subst ho
      have h65 := hJ.open65 (by decide) hu
      have q : a.eval (.tmp 0) = .pointer (some ⟨e, 0, none⟩) := hJ.t0
      obtain ⟨g4, g5, g13, g14, g15, g6, g7, g8, g9, g2, g12, gk⟩ := HC.out w1 (HFW.out.then hJ.fr)
      refine wpOp_run rfl rfl (v := .pointer (some ⟨e, 0, none⟩)) (E_move rfl q) ?_
      have hs := hJ.step HMK.out HMS.out (i := 0) (v := .pointer (some ⟨e, 0, none⟩)) (by decide) hu (Fr.refl nob w1) ((StR.pure _ _ _ _ _ _ _ _ rfl).2 rfl)
      exact ⟨HFW.out.then hs.fr, hs⟩
    · change some _ = some o at ho
      injection ho with ho
      subst ho
      have h65 := hJ.open65 (by decide) hu
      have q : a.eval (.tmp 7) = .pointer (some ⟨e, 0, none⟩) := hJ.pv h65 0 (by decide) rfl (getD_tf (hd ⟨0, .data⟩ (by simp) rfl))
      refine wpOp_of rfl rfl ?_
      go_simp
      rw [eval_tmp q]
      refine (HL.out w1 (hgw w1 (Fr.refl nob w1))).mono ?_
      rintro y w2 ⟨la, lc, rfl, hl, hf⟩
      have hs := hJ.step HMK.out HMS.out (i := 1) (v := .agg #[.slice la S.core.text.length lc, .int .i64 S.core.point, .int .i64 S.core.mark]) (by decide) hu hf (by unfold StR; rw [if_pos rfl]; exact ⟨_, rfl, la, lc, rfl, hl⟩)
      exact ⟨HFW.out.then hs.fr, hs⟩
    · change some _ = some o at ho
      injection ho with ho
      subst ho
      have h65 := hJ.open65 (by decide) hu
      have q : a.eval (.tmp 0) = .pointer (some ⟨e, 0, none⟩) := hJ.t0
      obtain ⟨g4, g5, g13, g14, g15, g6, g7, g8, g9, g2, g12, gk⟩ := HC.out w1 (HFW.out.then hJ.fr)
      refine wpOp_run rfl rfl (v := .pointer (some ⟨e, 0, none⟩)) (E_move rfl q) ?_
      have hs := hJ.step HMK.out HMS.out (i := 2) (v := .pointer (some ⟨e, 0, none⟩)) (by decide) hu (Fr.refl nob w1) ((StR.pure _ _ _ _ _ _ _ _ rfl).2 rfl)
      exact ⟨HFW.out.then hs.fr, hs⟩
    · change some _ = some o at ho
      injection ho with ho
      subst ho
      have h65 := hJ.open65 (by decide) hu
      have q : a.eval (.tmp 9) = .pointer (some ⟨e, 0, none⟩) := hJ.pv h65 2 (by decide) rfl (getD_tf (hd ⟨2, .data⟩ (by simp) rfl))
      obtain ⟨g4, g5, g13, g14, g15, g6, g7, g8, g9, g2, g12, gk⟩ := HC.out w1 (HFW.out.then hJ.fr)
      refine wpOp_run rfl rfl (v := .pointer (some ⟨e, 0, none⟩)) (E_nil rfl q) ?_
      have hs := hJ.step HMK.out HMS.out (i := 3) (v := .pointer (some ⟨e, 0, none⟩)) (by decide) hu (Fr.refl nob w1) ((StR.pure _ _ _ _ _ _ _ _ rfl).2 rfl)
      exact ⟨HFW.out.then hs.fr, hs⟩
    · change some _ = some o at ho
      injection ho with ho
      subst ho
      have h65 := hJ.open65 (by decide) hu
      have q : a.eval (.tmp 10) = .pointer (some ⟨e, 0, none⟩) := hJ.pv h65 3 (by decide) rfl (getD_tf (hd ⟨3, .data⟩ (by simp) rfl))
      obtain ⟨g4, g5, g13, g14, g15, g6, g7, g8, g9, g2, g12, gk⟩ := HC.out w1 (HFW.out.then hJ.fr)
      refine wpOp_run rfl rfl (v := .pointer (some ⟨e, 0, none⟩)) (E_field (k := 0) rfl q (by kernel_rfl)) ?_
      have hs := hJ.step HMK.out HMS.out (i := 4) (v := .pointer (some ⟨e, 0, none⟩)) (by decide) hu (Fr.refl nob w1) ((StR.pure _ _ _ _ _ _ _ _ rfl).2 rfl)
      exact ⟨HFW.out.then hs.fr, hs⟩
    · change some _ = some o at ho
      injection ho with ho
      subst ho
      have h65 := hJ.open65 (by decide) hu
      have q : a.eval (.tmp 11) = .pointer (some ⟨e, 0, none⟩) := hJ.pv h65 4 (by decide) rfl (getD_tf (hd ⟨4, .data⟩ (by simp) rfl))
      obtain ⟨g4, g5, g13, g14, g15, g6, g7, g8, g9, g2, g12, gk⟩ := HC.out w1 (HFW.out.then hJ.fr)
      refine wpOp_run rfl rfl (v := .pointer (some ⟨e, 4, none⟩)) (E_field (k := 4) rfl q (by kernel_rfl)) ?_
      have hs := hJ.step HMK.out HMS.out (i := 5) (v := .pointer (some ⟨e, 4, none⟩)) (by decide) hu (Fr.refl nob w1) ((StR.pure _ _ _ _ _ _ _ _ rfl).2 rfl)
      exact ⟨HFW.out.then hs.fr, hs⟩
    · change some _ = some o at ho
      injection ho with ho
      subst ho
      have h65 := hJ.open65 (by decide) hu
      have q : a.eval (.tmp 12) = .pointer (some ⟨e, 4, none⟩) := hJ.pv h65 5 (by decide) rfl (getD_tf (hd ⟨5, .data⟩ (by simp) rfl))
      obtain ⟨g4, g5, g13, g14, g15, g6, g7, g8, g9, g2, g12, gk⟩ := HC.out w1 (HFW.out.then hJ.fr)
      refine wpOp_run rfl rfl (v := .int .i64 S.core.mode) (E_load rfl q (by kernel_rfl) g4) ?_
      have hs := hJ.step HMK.out HMS.out (i := 6) (v := .int .i64 S.core.mode) (by decide) hu (Fr.refl nob w1) ((StR.pure _ _ _ _ _ _ _ _ rfl).2 rfl)
      exact ⟨HFW.out.then hs.fr, hs⟩
    · change some _ = some o at ho
      injection ho with ho
      subst ho
      have h65 := hJ.open65 (by decide) hu
      have q : a.eval (.tmp 0) = .pointer (some ⟨e, 0, none⟩) := hJ.t0
      obtain ⟨g4, g5, g13, g14, g15, g6, g7, g8, g9, g2, g12, gk⟩ := HC.out w1 (HFW.out.then hJ.fr)
      refine wpOp_run rfl rfl (v := .pointer (some ⟨e, 0, none⟩)) (E_move rfl q) ?_
      have hs := hJ.step HMK.out HMS.out (i := 7) (v := .pointer (some ⟨e, 0, none⟩)) (by decide) hu (Fr.refl nob w1) ((StR.pure _ _ _ _ _ _ _ _ rfl).2 rfl)
      exact ⟨HFW.out.then hs.fr, hs⟩
    · change some _ = some o at ho
      injection ho with ho
      subst ho
      have h65 := hJ.open65 (by decide) hu
      have q : a.eval (.tmp 14) = .pointer (some ⟨e, 0, none⟩) := hJ.pv h65 7 (by decide) rfl (getD_tf (hd ⟨7, .data⟩ (by simp) rfl))
      obtain ⟨g4, g5, g13, g14, g15, g6, g7, g8, g9, g2, g12, gk⟩ := HC.out w1 (HFW.out.then hJ.fr)
      refine wpOp_run rfl rfl (v := .pointer (some ⟨e, 0, none⟩)) (E_nil rfl q) ?_
      have hs := hJ.step HMK.out HMS.out (i := 8) (v := .pointer (some ⟨e, 0, none⟩)) (by decide) hu (Fr.refl nob w1) ((StR.pure _ _ _ _ _ _ _ _ rfl).2 rfl)
      exact ⟨HFW.out.then hs.fr, hs⟩
    · change some _ = some o at ho
      injection ho with ho
      subst ho
      have h65 := hJ.open65 (by decide) hu
      have q : a.eval (.tmp 15) = .pointer (some ⟨e, 0, none⟩) := hJ.pv h65 8 (by decide) rfl (getD_tf (hd ⟨8, .data⟩ (by simp) rfl))
      obtain ⟨g4, g5, g13, g14, g15, g6, g7, g8, g9, g2, g12, gk⟩ := HC.out w1 (HFW.out.then hJ.fr)
      refine wpOp_run rfl rfl (v := .pointer (some ⟨e, 0, none⟩)) (E_field (k := 0) rfl q (by kernel_rfl)) ?_
      have hs := hJ.step HMK.out HMS.out (i := 9) (v := .pointer (some ⟨e, 0, none⟩)) (by decide) hu (Fr.refl nob w1) ((StR.pure _ _ _ _ _ _ _ _ rfl).2 rfl)
      exact ⟨HFW.out.then hs.fr, hs⟩
    · change some _ = some o at ho
      injection ho with ho
      subst ho
      have h65 := hJ.open65 (by decide) hu
      have q : a.eval (.tmp 16) = .pointer (some ⟨e, 0, none⟩) := hJ.pv h65 9 (by decide) rfl (getD_tf (hd ⟨9, .data⟩ (by simp) rfl))
      obtain ⟨g4, g5, g13, g14, g15, g6, g7, g8, g9, g2, g12, gk⟩ := HC.out w1 (HFW.out.then hJ.fr)
      refine wpOp_run rfl rfl (v := .pointer (some ⟨e, 5, none⟩)) (E_field (k := 5) rfl q (by kernel_rfl)) ?_
      have hs := hJ.step HMK.out HMS.out (i := 10) (v := .pointer (some ⟨e, 5, none⟩)) (by decide) hu (Fr.refl nob w1) ((StR.pure _ _ _ _ _ _ _ _ rfl).2 rfl)
      exact ⟨HFW.out.then hs.fr, hs⟩
    · change some _ = some o at ho
      injection ho with ho
      subst ho
      have h65 := hJ.open65 (by decide) hu
      have q : a.eval (.tmp 17) = .pointer (some ⟨e, 5, none⟩) := hJ.pv h65 10 (by decide) rfl (getD_tf (hd ⟨10, .data⟩ (by simp) rfl))
      obtain ⟨g4, g5, g13, g14, g15, g6, g7, g8, g9, g2, g12, gk⟩ := HC.out w1 (HFW.out.then hJ.fr)
      refine wpOp_run rfl rfl (v := .bool S.core.over) (E_load rfl q (by kernel_rfl) g5) ?_
      have hs := hJ.step HMK.out HMS.out (i := 11) (v := .bool S.core.over) (by decide) hu (Fr.refl nob w1) ((StR.pure _ _ _ _ _ _ _ _ rfl).2 rfl)
      exact ⟨HFW.out.then hs.fr, hs⟩
    · change some _ = some o at ho
      injection ho with ho
      subst ho
      have h65 := hJ.open65 (by decide) hu
      have q : a.eval (.tmp 0) = .pointer (some ⟨e, 0, none⟩) := hJ.t0
      obtain ⟨g4, g5, g13, g14, g15, g6, g7, g8, g9, g2, g12, gk⟩ := HC.out w1 (HFW.out.then hJ.fr)
      refine wpOp_run rfl rfl (v := .pointer (some ⟨e, 0, none⟩)) (E_move rfl q) ?_
      have hs := hJ.step HMK.out HMS.out (i := 12) (v := .pointer (some ⟨e, 0, none⟩)) (by decide) hu (Fr.refl nob w1) ((StR.pure _ _ _ _ _ _ _ _ rfl).2 rfl)
      exact ⟨HFW.out.then hs.fr, hs⟩
    · change some _ = some o at ho
      injection ho with ho
      subst ho
      have h65 := hJ.open65 (by decide) hu
      have q : a.eval (.tmp 19) = .pointer (some ⟨e, 0, none⟩) := hJ.pv h65 12 (by decide) rfl (getD_tf (hd ⟨12, .data⟩ (by simp) rfl))
      obtain ⟨g4, g5, g13, g14, g15, g6, g7, g8, g9, g2, g12, gk⟩ := HC.out w1 (HFW.out.then hJ.fr)
      refine wpOp_run rfl rfl (v := .pointer (some ⟨e, 0, none⟩)) (E_nil rfl q) ?_
      have hs := hJ.step HMK.out HMS.out (i := 13) (v := .pointer (some ⟨e, 0, none⟩)) (by decide) hu (Fr.refl nob w1) ((StR.pure _ _ _ _ _ _ _ _ rfl).2 rfl)
      exact ⟨HFW.out.then hs.fr, hs⟩
    · change some _ = some o at ho
      injection ho with ho
      subst ho
      have h65 := hJ.open65 (by decide) hu
      have q : a.eval (.tmp 20) = .pointer (some ⟨e, 0, none⟩) := hJ.pv h65 13 (by decide) rfl (getD_tf (hd ⟨13, .data⟩ (by simp) rfl))
      obtain ⟨g4, g5, g13, g14, g15, g6, g7, g8, g9, g2, g12, gk⟩ := HC.out w1 (HFW.out.then hJ.fr)
      refine wpOp_run rfl rfl (v := .pointer (some ⟨e, 13, none⟩)) (E_field (k := 13) rfl q (by kernel_rfl)) ?_
      have hs := hJ.step HMK.out HMS.out (i := 14) (v := .pointer (some ⟨e, 13, none⟩)) (by decide) hu (Fr.refl nob w1) ((StR.pure _ _ _ _ _ _ _ _ rfl).2 rfl)
      exact ⟨HFW.out.then hs.fr, hs⟩
    · change some _ = some o at ho
      injection ho with ho
      subst ho
      have h65 := hJ.open65 (by decide) hu
      have q : a.eval (.tmp 21) = .pointer (some ⟨e, 13, none⟩) := hJ.pv h65 14 (by decide) rfl (getD_tf (hd ⟨14, .data⟩ (by simp) rfl))
      obtain ⟨g4, g5, g13, g14, g15, g6, g7, g8, g9, g2, g12, gk⟩ := HC.out w1 (HFW.out.then hJ.fr)
      refine wpOp_run rfl rfl (v := .bool S.f.given) (E_load rfl q (by kernel_rfl) g13) ?_
      have hs := hJ.step HMK.out HMS.out (i := 15) (v := .bool S.f.given) (by decide) hu (Fr.refl nob w1) ((StR.pure _ _ _ _ _ _ _ _ rfl).2 rfl)
      exact ⟨HFW.out.then hs.fr, hs⟩
    · change some _ = some o at ho
      injection ho with ho
      subst ho
      have h65 := hJ.open65 (by decide) hu
      have q : a.eval (.tmp 0) = .pointer (some ⟨e, 0, none⟩) := hJ.t0
      obtain ⟨g4, g5, g13, g14, g15, g6, g7, g8, g9, g2, g12, gk⟩ := HC.out w1 (HFW.out.then hJ.fr)
      refine wpOp_run rfl rfl (v := .pointer (some ⟨e, 0, none⟩)) (E_move rfl q) ?_
      have hs := hJ.step HMK.out HMS.out (i := 16) (v := .pointer (some ⟨e, 0, none⟩)) (by decide) hu (Fr.refl nob w1) ((StR.pure _ _ _ _ _ _ _ _ rfl).2 rfl)
      exact ⟨HFW.out.then hs.fr, hs⟩
    · change some _ = some o at ho
      injection ho with ho
      subst ho
      have h65 := hJ.open65 (by decide) hu
      have q : a.eval (.tmp 23) = .pointer (some ⟨e, 0, none⟩) := hJ.pv h65 16 (by decide) rfl (getD_tf (hd ⟨16, .data⟩ (by simp) rfl))
      obtain ⟨g4, g5, g13, g14, g15, g6, g7, g8, g9, g2, g12, gk⟩ := HC.out w1 (HFW.out.then hJ.fr)
      refine wpOp_run rfl rfl (v := .pointer (some ⟨e, 0, none⟩)) (E_nil rfl q) ?_
      have hs := hJ.step HMK.out HMS.out (i := 17) (v := .pointer (some ⟨e, 0, none⟩)) (by decide) hu (Fr.refl nob w1) ((StR.pure _ _ _ _ _ _ _ _ rfl).2 rfl)
      exact ⟨HFW.out.then hs.fr, hs⟩
    · change some _ = some o at ho
      injection ho with ho
      subst ho
      have h65 := hJ.open65 (by decide) hu
      have q : a.eval (.tmp 24) = .pointer (some ⟨e, 0, none⟩) := hJ.pv h65 17 (by decide) rfl (getD_tf (hd ⟨17, .data⟩ (by simp) rfl))
      obtain ⟨g4, g5, g13, g14, g15, g6, g7, g8, g9, g2, g12, gk⟩ := HC.out w1 (HFW.out.then hJ.fr)
      refine wpOp_run rfl rfl (v := .pointer (some ⟨e, 14, none⟩)) (E_field (k := 14) rfl q (by kernel_rfl)) ?_
      have hs := hJ.step HMK.out HMS.out (i := 18) (v := .pointer (some ⟨e, 14, none⟩)) (by decide) hu (Fr.refl nob w1) ((StR.pure _ _ _ _ _ _ _ _ rfl).2 rfl)
      exact ⟨HFW.out.then hs.fr, hs⟩
    · change some _ = some o at ho
      injection ho with ho
      subst ho
      have h65 := hJ.open65 (by decide) hu
      have q : a.eval (.tmp 25) = .pointer (some ⟨e, 14, none⟩) := hJ.pv h65 18 (by decide) rfl (getD_tf (hd ⟨18, .data⟩ (by simp) rfl))
      obtain ⟨g4, g5, g13, g14, g15, g6, g7, g8, g9, g2, g12, gk⟩ := HC.out w1 (HFW.out.then hJ.fr)
      refine wpOp_run rfl rfl (v := .bool S.f.minus) (E_load rfl q (by kernel_rfl) g14) ?_
      have hs := hJ.step HMK.out HMS.out (i := 19) (v := .bool S.f.minus) (by decide) hu (Fr.refl nob w1) ((StR.pure _ _ _ _ _ _ _ _ rfl).2 rfl)
      exact ⟨HFW.out.then hs.fr, hs⟩
    · change some _ = some o at ho
      injection ho with ho
      subst ho
      have h65 := hJ.open65 (by decide) hu
      have q : a.eval (.tmp 0) = .pointer (some ⟨e, 0, none⟩) := hJ.t0
      obtain ⟨g4, g5, g13, g14, g15, g6, g7, g8, g9, g2, g12, gk⟩ := HC.out w1 (HFW.out.then hJ.fr)
      refine wpOp_run rfl rfl (v := .pointer (some ⟨e, 0, none⟩)) (E_move rfl q) ?_
      have hs := hJ.step HMK.out HMS.out (i := 20) (v := .pointer (some ⟨e, 0, none⟩)) (by decide) hu (Fr.refl nob w1) ((StR.pure _ _ _ _ _ _ _ _ rfl).2 rfl)
      exact ⟨HFW.out.then hs.fr, hs⟩
    · change some _ = some o at ho
      injection ho with ho
      subst ho
      have h65 := hJ.open65 (by decide) hu
      have q : a.eval (.tmp 27) = .pointer (some ⟨e, 0, none⟩) := hJ.pv h65 20 (by decide) rfl (getD_tf (hd ⟨20, .data⟩ (by simp) rfl))
      obtain ⟨g4, g5, g13, g14, g15, g6, g7, g8, g9, g2, g12, gk⟩ := HC.out w1 (HFW.out.then hJ.fr)
      refine wpOp_run rfl rfl (v := .pointer (some ⟨e, 0, none⟩)) (E_nil rfl q) ?_
      have hs := hJ.step HMK.out HMS.out (i := 21) (v := .pointer (some ⟨e, 0, none⟩)) (by decide) hu (Fr.refl nob w1) ((StR.pure _ _ _ _ _ _ _ _ rfl).2 rfl)
      exact ⟨HFW.out.then hs.fr, hs⟩
    · change some _ = some o at ho
      injection ho with ho
      subst ho
      have h65 := hJ.open65 (by decide) hu
      have q : a.eval (.tmp 28) = .pointer (some ⟨e, 0, none⟩) := hJ.pv h65 21 (by decide) rfl (getD_tf (hd ⟨21, .data⟩ (by simp) rfl))
      obtain ⟨g4, g5, g13, g14, g15, g6, g7, g8, g9, g2, g12, gk⟩ := HC.out w1 (HFW.out.then hJ.fr)
      refine wpOp_run rfl rfl (v := .pointer (some ⟨e, 15, none⟩)) (E_field (k := 15) rfl q (by kernel_rfl)) ?_
      have hs := hJ.step HMK.out HMS.out (i := 22) (v := .pointer (some ⟨e, 15, none⟩)) (by decide) hu (Fr.refl nob w1) ((StR.pure _ _ _ _ _ _ _ _ rfl).2 rfl)
      exact ⟨HFW.out.then hs.fr, hs⟩
    · change some _ = some o at ho
      injection ho with ho
      subst ho
      have h65 := hJ.open65 (by decide) hu
      have q : a.eval (.tmp 29) = .pointer (some ⟨e, 15, none⟩) := hJ.pv h65 22 (by decide) rfl (getD_tf (hd ⟨22, .data⟩ (by simp) rfl))
      obtain ⟨g4, g5, g13, g14, g15, g6, g7, g8, g9, g2, g12, gk⟩ := HC.out w1 (HFW.out.then hJ.fr)
      refine wpOp_run rfl rfl (v := .int .i64 S.f.arg) (E_load rfl q (by kernel_rfl) g15) ?_
      have hs := hJ.step HMK.out HMS.out (i := 23) (v := .int .i64 S.f.arg) (by decide) hu (Fr.refl nob w1) ((StR.pure _ _ _ _ _ _ _ _ rfl).2 rfl)
      exact ⟨HFW.out.then hs.fr, hs⟩
    · change some _ = some o at ho
      injection ho with ho
      subst ho
      have h65 := hJ.open65 (by decide) hu
      have q : a.eval (.tmp 0) = .pointer (some ⟨e, 0, none⟩) := hJ.t0
      obtain ⟨g4, g5, g13, g14, g15, g6, g7, g8, g9, g2, g12, gk⟩ := HC.out w1 (HFW.out.then hJ.fr)
      refine wpOp_run rfl rfl (v := .pointer (some ⟨e, 0, none⟩)) (E_move rfl q) ?_
      have hs := hJ.step HMK.out HMS.out (i := 24) (v := .pointer (some ⟨e, 0, none⟩)) (by decide) hu (Fr.refl nob w1) ((StR.pure _ _ _ _ _ _ _ _ rfl).2 rfl)
      exact ⟨HFW.out.then hs.fr, hs⟩
    · change some _ = some o at ho
      injection ho with ho
      subst ho
      have h65 := hJ.open65 (by decide) hu
      have q : a.eval (.tmp 31) = .pointer (some ⟨e, 0, none⟩) := hJ.pv h65 24 (by decide) rfl (getD_tf (hd ⟨24, .data⟩ (by simp) rfl))
      obtain ⟨g4, g5, g13, g14, g15, g6, g7, g8, g9, g2, g12, gk⟩ := HC.out w1 (HFW.out.then hJ.fr)
      refine wpOp_run rfl rfl (v := .pointer (some ⟨e, 0, none⟩)) (E_nil rfl q) ?_
      have hs := hJ.step HMK.out HMS.out (i := 25) (v := .pointer (some ⟨e, 0, none⟩)) (by decide) hu (Fr.refl nob w1) ((StR.pure _ _ _ _ _ _ _ _ rfl).2 rfl)
      exact ⟨HFW.out.then hs.fr, hs⟩
    · change some _ = some o at ho
      injection ho with ho
      subst ho
      have h65 := hJ.open65 (by decide) hu
      have q : a.eval (.tmp 32) = .pointer (some ⟨e, 0, none⟩) := hJ.pv h65 25 (by decide) rfl (getD_tf (hd ⟨25, .data⟩ (by simp) rfl))
      obtain ⟨g4, g5, g13, g14, g15, g6, g7, g8, g9, g2, g12, gk⟩ := HC.out w1 (HFW.out.then hJ.fr)
      refine wpOp_run rfl rfl (v := .pointer (some ⟨e, 0, none⟩)) (E_field (k := 0) rfl q (by kernel_rfl)) ?_
      have hs := hJ.step HMK.out HMS.out (i := 26) (v := .pointer (some ⟨e, 0, none⟩)) (by decide) hu (Fr.refl nob w1) ((StR.pure _ _ _ _ _ _ _ _ rfl).2 rfl)
      exact ⟨HFW.out.then hs.fr, hs⟩
    · change some _ = some o at ho
      injection ho with ho
      subst ho
      have h65 := hJ.open65 (by decide) hu
      have q : a.eval (.tmp 33) = .pointer (some ⟨e, 0, none⟩) := hJ.pv h65 26 (by decide) rfl (getD_tf (hd ⟨26, .data⟩ (by simp) rfl))
      obtain ⟨g4, g5, g13, g14, g15, g6, g7, g8, g9, g2, g12, gk⟩ := HC.out w1 (HFW.out.then hJ.fr)
      refine wpOp_run rfl rfl (v := .pointer (some ⟨e, 6, none⟩)) (E_field (k := 6) rfl q (by kernel_rfl)) ?_
      have hs := hJ.step HMK.out HMS.out (i := 27) (v := .pointer (some ⟨e, 6, none⟩)) (by decide) hu (Fr.refl nob w1) ((StR.pure _ _ _ _ _ _ _ _ rfl).2 rfl)
      exact ⟨HFW.out.then hs.fr, hs⟩
    · change some _ = some o at ho
      injection ho with ho
      subst ho
      have h65 := hJ.open65 (by decide) hu
      have q : a.eval (.tmp 34) = .pointer (some ⟨e, 6, none⟩) := hJ.pv h65 27 (by decide) rfl (getD_tf (hd ⟨27, .data⟩ (by simp) rfl))
      obtain ⟨g4, g5, g13, g14, g15, g6, g7, g8, g9, g2, g12, gk⟩ := HC.out w1 (HFW.out.then hJ.fr)
      refine wpOp_run rfl rfl (v := .int .i64 S.core.last) (E_load rfl q (by kernel_rfl) g6) ?_
      have hs := hJ.step HMK.out HMS.out (i := 28) (v := .int .i64 S.core.last) (by decide) hu (Fr.refl nob w1) ((StR.pure _ _ _ _ _ _ _ _ rfl).2 rfl)
      exact ⟨HFW.out.then hs.fr, hs⟩
    · change some _ = some o at ho
      injection ho with ho
      subst ho
      have h65 := hJ.open65 (by decide) hu
      have q : a.eval (.tmp 0) = .pointer (some ⟨e, 0, none⟩) := hJ.t0
      obtain ⟨g4, g5, g13, g14, g15, g6, g7, g8, g9, g2, g12, gk⟩ := HC.out w1 (HFW.out.then hJ.fr)
      refine wpOp_run rfl rfl (v := .pointer (some ⟨e, 0, none⟩)) (E_move rfl q) ?_
      have hs := hJ.step HMK.out HMS.out (i := 29) (v := .pointer (some ⟨e, 0, none⟩)) (by decide) hu (Fr.refl nob w1) ((StR.pure _ _ _ _ _ _ _ _ rfl).2 rfl)
      exact ⟨HFW.out.then hs.fr, hs⟩
    · change some _ = some o at ho
      injection ho with ho
      subst ho
      have h65 := hJ.open65 (by decide) hu
      have q : a.eval (.tmp 36) = .pointer (some ⟨e, 0, none⟩) := hJ.pv h65 29 (by decide) rfl (getD_tf (hd ⟨29, .data⟩ (by simp) rfl))
      obtain ⟨g4, g5, g13, g14, g15, g6, g7, g8, g9, g2, g12, gk⟩ := HC.out w1 (HFW.out.then hJ.fr)
      refine wpOp_run rfl rfl (v := .pointer (some ⟨e, 0, none⟩)) (E_nil rfl q) ?_
      have hs := hJ.step HMK.out HMS.out (i := 30) (v := .pointer (some ⟨e, 0, none⟩)) (by decide) hu (Fr.refl nob w1) ((StR.pure _ _ _ _ _ _ _ _ rfl).2 rfl)
      exact ⟨HFW.out.then hs.fr, hs⟩
    · change some _ = some o at ho
      injection ho with ho
      subst ho
      have h65 := hJ.open65 (by decide) hu
      have q : a.eval (.tmp 37) = .pointer (some ⟨e, 0, none⟩) := hJ.pv h65 30 (by decide) rfl (getD_tf (hd ⟨30, .data⟩ (by simp) rfl))
      obtain ⟨g4, g5, g13, g14, g15, g6, g7, g8, g9, g2, g12, gk⟩ := HC.out w1 (HFW.out.then hJ.fr)
      refine wpOp_run rfl rfl (v := .pointer (some ⟨e, 0, none⟩)) (E_field (k := 0) rfl q (by kernel_rfl)) ?_
      have hs := hJ.step HMK.out HMS.out (i := 31) (v := .pointer (some ⟨e, 0, none⟩)) (by decide) hu (Fr.refl nob w1) ((StR.pure _ _ _ _ _ _ _ _ rfl).2 rfl)
      exact ⟨HFW.out.then hs.fr, hs⟩
    · change some _ = some o at ho
      injection ho with ho
      subst ho
      have h65 := hJ.open65 (by decide) hu
      have q : a.eval (.tmp 38) = .pointer (some ⟨e, 0, none⟩) := hJ.pv h65 31 (by decide) rfl (getD_tf (hd ⟨31, .data⟩ (by simp) rfl))
      obtain ⟨g4, g5, g13, g14, g15, g6, g7, g8, g9, g2, g12, gk⟩ := HC.out w1 (HFW.out.then hJ.fr)
      refine wpOp_run rfl rfl (v := .pointer (some ⟨e, 7, none⟩)) (E_field (k := 7) rfl q (by kernel_rfl)) ?_
      have hs := hJ.step HMK.out HMS.out (i := 32) (v := .pointer (some ⟨e, 7, none⟩)) (by decide) hu (Fr.refl nob w1) ((StR.pure _ _ _ _ _ _ _ _ rfl).2 rfl)
      exact ⟨HFW.out.then hs.fr, hs⟩
    · change some _ = some o at ho
      injection ho with ho
      subst ho
      have h65 := hJ.open65 (by decide) hu
      have q : a.eval (.tmp 39) = .pointer (some ⟨e, 7, none⟩) := hJ.pv h65 32 (by decide) rfl (getD_tf (hd ⟨32, .data⟩ (by simp) rfl))
      obtain ⟨g4, g5, g13, g14, g15, g6, g7, g8, g9, g2, g12, gk⟩ := HC.out w1 (HFW.out.then hJ.fr)
      refine wpOp_run rfl rfl (v := .int .i64 S.core.yf) (E_load rfl q (by kernel_rfl) g7) ?_
      have hs := hJ.step HMK.out HMS.out (i := 33) (v := .int .i64 S.core.yf) (by decide) hu (Fr.refl nob w1) ((StR.pure _ _ _ _ _ _ _ _ rfl).2 rfl)
      exact ⟨HFW.out.then hs.fr, hs⟩
    · change some _ = some o at ho
      injection ho with ho
      subst ho
      have h65 := hJ.open65 (by decide) hu
      have q : a.eval (.tmp 0) = .pointer (some ⟨e, 0, none⟩) := hJ.t0
      obtain ⟨g4, g5, g13, g14, g15, g6, g7, g8, g9, g2, g12, gk⟩ := HC.out w1 (HFW.out.then hJ.fr)
      refine wpOp_run rfl rfl (v := .pointer (some ⟨e, 0, none⟩)) (E_move rfl q) ?_
      have hs := hJ.step HMK.out HMS.out (i := 34) (v := .pointer (some ⟨e, 0, none⟩)) (by decide) hu (Fr.refl nob w1) ((StR.pure _ _ _ _ _ _ _ _ rfl).2 rfl)
      exact ⟨HFW.out.then hs.fr, hs⟩
    · change some _ = some o at ho
      injection ho with ho
      subst ho
      have h65 := hJ.open65 (by decide) hu
      have q : a.eval (.tmp 41) = .pointer (some ⟨e, 0, none⟩) := hJ.pv h65 34 (by decide) rfl (getD_tf (hd ⟨34, .data⟩ (by simp) rfl))
      obtain ⟨g4, g5, g13, g14, g15, g6, g7, g8, g9, g2, g12, gk⟩ := HC.out w1 (HFW.out.then hJ.fr)
      refine wpOp_run rfl rfl (v := .pointer (some ⟨e, 0, none⟩)) (E_nil rfl q) ?_
      have hs := hJ.step HMK.out HMS.out (i := 35) (v := .pointer (some ⟨e, 0, none⟩)) (by decide) hu (Fr.refl nob w1) ((StR.pure _ _ _ _ _ _ _ _ rfl).2 rfl)
      exact ⟨HFW.out.then hs.fr, hs⟩
    · change some _ = some o at ho
      injection ho with ho
      subst ho
      have h65 := hJ.open65 (by decide) hu
      have q : a.eval (.tmp 42) = .pointer (some ⟨e, 0, none⟩) := hJ.pv h65 35 (by decide) rfl (getD_tf (hd ⟨35, .data⟩ (by simp) rfl))
      obtain ⟨g4, g5, g13, g14, g15, g6, g7, g8, g9, g2, g12, gk⟩ := HC.out w1 (HFW.out.then hJ.fr)
      refine wpOp_run rfl rfl (v := .pointer (some ⟨e, 0, none⟩)) (E_field (k := 0) rfl q (by kernel_rfl)) ?_
      have hs := hJ.step HMK.out HMS.out (i := 36) (v := .pointer (some ⟨e, 0, none⟩)) (by decide) hu (Fr.refl nob w1) ((StR.pure _ _ _ _ _ _ _ _ rfl).2 rfl)
      exact ⟨HFW.out.then hs.fr, hs⟩
    · change some _ = some o at ho
      injection ho with ho
      subst ho
      have h65 := hJ.open65 (by decide) hu
      have q : a.eval (.tmp 43) = .pointer (some ⟨e, 0, none⟩) := hJ.pv h65 36 (by decide) rfl (getD_tf (hd ⟨36, .data⟩ (by simp) rfl))
      obtain ⟨g4, g5, g13, g14, g15, g6, g7, g8, g9, g2, g12, gk⟩ := HC.out w1 (HFW.out.then hJ.fr)
      refine wpOp_run rfl rfl (v := .pointer (some ⟨e, 8, none⟩)) (E_field (k := 8) rfl q (by kernel_rfl)) ?_
      have hs := hJ.step HMK.out HMS.out (i := 37) (v := .pointer (some ⟨e, 8, none⟩)) (by decide) hu (Fr.refl nob w1) ((StR.pure _ _ _ _ _ _ _ _ rfl).2 rfl)
      exact ⟨HFW.out.then hs.fr, hs⟩
    · change some _ = some o at ho
      injection ho with ho
      subst ho
      have h65 := hJ.open65 (by decide) hu
      have q : a.eval (.tmp 44) = .pointer (some ⟨e, 8, none⟩) := hJ.pv h65 37 (by decide) rfl (getD_tf (hd ⟨37, .data⟩ (by simp) rfl))
      obtain ⟨g4, g5, g13, g14, g15, g6, g7, g8, g9, g2, g12, gk⟩ := HC.out w1 (HFW.out.then hJ.fr)
      refine wpOp_run rfl rfl (v := .int .i64 S.core.yt) (E_load rfl q (by kernel_rfl) g8) ?_
      have hs := hJ.step HMK.out HMS.out (i := 38) (v := .int .i64 S.core.yt) (by decide) hu (Fr.refl nob w1) ((StR.pure _ _ _ _ _ _ _ _ rfl).2 rfl)
      exact ⟨HFW.out.then hs.fr, hs⟩
    · change some _ = some o at ho
      injection ho with ho
      subst ho
      have h65 := hJ.open65 (by decide) hu
      have q : a.eval (.tmp 0) = .pointer (some ⟨e, 0, none⟩) := hJ.t0
      obtain ⟨g4, g5, g13, g14, g15, g6, g7, g8, g9, g2, g12, gk⟩ := HC.out w1 (HFW.out.then hJ.fr)
      refine wpOp_run rfl rfl (v := .pointer (some ⟨e, 0, none⟩)) (E_move rfl q) ?_
      have hs := hJ.step HMK.out HMS.out (i := 39) (v := .pointer (some ⟨e, 0, none⟩)) (by decide) hu (Fr.refl nob w1) ((StR.pure _ _ _ _ _ _ _ _ rfl).2 rfl)
      exact ⟨HFW.out.then hs.fr, hs⟩
    · change some _ = some o at ho
      injection ho with ho
      subst ho
      have h65 := hJ.open65 (by decide) hu
      have q : a.eval (.tmp 46) = .pointer (some ⟨e, 0, none⟩) := hJ.pv h65 39 (by decide) rfl (getD_tf (hd ⟨39, .data⟩ (by simp) rfl))
      refine wpOp_of rfl rfl ?_
      go_simp
      rw [eval_tmp q]
      refine (HK.out w1 (hgw w1 (Fr.refl nob w1))).mono ?_
      rintro y w2 ⟨v, rfl, hv, hf⟩
      have hs := hJ.step HMK.out HMS.out (i := 40) (v := v) (by decide) hu hf (by unfold StR; simpa using hv)
      exact ⟨HFW.out.then hs.fr, hs⟩
    · change some _ = some o at ho
      injection ho with ho
      subst ho
      have h65 := hJ.open65 (by decide) hu
      have q : a.eval (.tmp 0) = .pointer (some ⟨e, 0, none⟩) := hJ.t0
      obtain ⟨g4, g5, g13, g14, g15, g6, g7, g8, g9, g2, g12, gk⟩ := HC.out w1 (HFW.out.then hJ.fr)
      refine wpOp_run rfl rfl (v := .pointer (some ⟨e, 0, none⟩)) (E_move rfl q) ?_
      have hs := hJ.step HMK.out HMS.out (i := 41) (v := .pointer (some ⟨e, 0, none⟩)) (by decide) hu (Fr.refl nob w1) ((StR.pure _ _ _ _ _ _ _ _ rfl).2 rfl)
      exact ⟨HFW.out.then hs.fr, hs⟩
    · change some _ = some o at ho
      injection ho with ho
      subst ho
      have h65 := hJ.open65 (by decide) hu
      have q : a.eval (.tmp 48) = .pointer (some ⟨e, 0, none⟩) := hJ.pv h65 41 (by decide) rfl (getD_tf (hd ⟨41, .data⟩ (by simp) rfl))
      obtain ⟨g4, g5, g13, g14, g15, g6, g7, g8, g9, g2, g12, gk⟩ := HC.out w1 (HFW.out.then hJ.fr)
      refine wpOp_run rfl rfl (v := .pointer (some ⟨e, 0, none⟩)) (E_nil rfl q) ?_
      have hs := hJ.step HMK.out HMS.out (i := 42) (v := .pointer (some ⟨e, 0, none⟩)) (by decide) hu (Fr.refl nob w1) ((StR.pure _ _ _ _ _ _ _ _ rfl).2 rfl)
      exact ⟨HFW.out.then hs.fr, hs⟩
    · change some _ = some o at ho
      injection ho with ho
      subst ho
      have h65 := hJ.open65 (by decide) hu
      have q : a.eval (.tmp 49) = .pointer (some ⟨e, 0, none⟩) := hJ.pv h65 42 (by decide) rfl (getD_tf (hd ⟨42, .data⟩ (by simp) rfl))
      obtain ⟨g4, g5, g13, g14, g15, g6, g7, g8, g9, g2, g12, gk⟩ := HC.out w1 (HFW.out.then hJ.fr)
      refine wpOp_run rfl rfl (v := .pointer (some ⟨e, 0, none⟩)) (E_field (k := 0) rfl q (by kernel_rfl)) ?_
      have hs := hJ.step HMK.out HMS.out (i := 43) (v := .pointer (some ⟨e, 0, none⟩)) (by decide) hu (Fr.refl nob w1) ((StR.pure _ _ _ _ _ _ _ _ rfl).2 rfl)
      exact ⟨HFW.out.then hs.fr, hs⟩
    · change some _ = some o at ho
      injection ho with ho
      subst ho
      have h65 := hJ.open65 (by decide) hu
      have q : a.eval (.tmp 50) = .pointer (some ⟨e, 0, none⟩) := hJ.pv h65 43 (by decide) rfl (getD_tf (hd ⟨43, .data⟩ (by simp) rfl))
      obtain ⟨g4, g5, g13, g14, g15, g6, g7, g8, g9, g2, g12, gk⟩ := HC.out w1 (HFW.out.then hJ.fr)
      refine wpOp_run rfl rfl (v := .pointer (some ⟨e, 2, none⟩)) (E_field (k := 2) rfl q (by kernel_rfl)) ?_
      have hs := hJ.step HMK.out HMS.out (i := 44) (v := .pointer (some ⟨e, 2, none⟩)) (by decide) hu (Fr.refl nob w1) ((StR.pure _ _ _ _ _ _ _ _ rfl).2 rfl)
      exact ⟨HFW.out.then hs.fr, hs⟩
    · change some _ = some o at ho
      injection ho with ho
      subst ho
      have h65 := hJ.open65 (by decide) hu
      have q : a.eval (.tmp 51) = .pointer (some ⟨e, 2, none⟩) := hJ.pv h65 44 (by decide) rfl (getD_tf (hd ⟨44, .data⟩ (by simp) rfl))
      obtain ⟨g4, g5, g13, g14, g15, g6, g7, g8, g9, g2, g12, gk⟩ := HC.out w1 (HFW.out.then hJ.fr)
      refine wpOp_run rfl rfl (v := .pointer (some ⟨k, 0, none⟩)) (E_load rfl q (by kernel_rfl) g2) ?_
      have hs := hJ.step HMK.out HMS.out (i := 45) (v := .pointer (some ⟨k, 0, none⟩)) (by decide) hu (Fr.refl nob w1) ((StR.pure _ _ _ _ _ _ _ _ rfl).2 rfl)
      exact ⟨HFW.out.then hs.fr, hs⟩
    · change some _ = some o at ho
      injection ho with ho
      subst ho
      have h65 := hJ.open65 (by decide) hu
      have q : a.eval (.tmp 52) = .pointer (some ⟨k, 0, none⟩) := hJ.pv h65 45 (by decide) rfl (getD_tf (hd ⟨45, .data⟩ (by simp) rfl))
      obtain ⟨g4, g5, g13, g14, g15, g6, g7, g8, g9, g2, g12, gk⟩ := HC.out w1 (HFW.out.then hJ.fr)
      refine wpOp_run rfl rfl (v := .pointer (some ⟨k, 0, none⟩)) (E_nil rfl q) ?_
      have hs := hJ.step HMK.out HMS.out (i := 46) (v := .pointer (some ⟨k, 0, none⟩)) (by decide) hu (Fr.refl nob w1) ((StR.pure _ _ _ _ _ _ _ _ rfl).2 rfl)
      exact ⟨HFW.out.then hs.fr, hs⟩
    · change some _ = some o at ho
      injection ho with ho
      subst ho
      have h65 := hJ.open65 (by decide) hu
      have q : a.eval (.tmp 53) = .pointer (some ⟨k, 0, none⟩) := hJ.pv h65 46 (by decide) rfl (getD_tf (hd ⟨46, .data⟩ (by simp) rfl))
      obtain ⟨g4, g5, g13, g14, g15, g6, g7, g8, g9, g2, g12, gk⟩ := HC.out w1 (HFW.out.then hJ.fr)
      refine wpOp_run rfl rfl (v := .pointer (some ⟨k, 0, none⟩)) (E_field (k := 0) rfl q (by kernel_rfl)) ?_
      have hs := hJ.step HMK.out HMS.out (i := 47) (v := .pointer (some ⟨k, 0, none⟩)) (by decide) hu (Fr.refl nob w1) ((StR.pure _ _ _ _ _ _ _ _ rfl).2 rfl)
      exact ⟨HFW.out.then hs.fr, hs⟩
    · change some _ = some o at ho
      injection ho with ho
      subst ho
      have h65 := hJ.open65 (by decide) hu
      have q : a.eval (.tmp 54) = .pointer (some ⟨k, 0, none⟩) := hJ.pv h65 47 (by decide) rfl (getD_tf (hd ⟨47, .data⟩ (by simp) rfl))
      obtain ⟨g4, g5, g13, g14, g15, g6, g7, g8, g9, g2, g12, gk⟩ := HC.out w1 (HFW.out.then hJ.fr)
      refine wpOp_run rfl rfl (v := .int .i64 S.core.place) (E_load rfl q (by kernel_rfl) gk) ?_
      have hs := hJ.step HMK.out HMS.out (i := 48) (v := .int .i64 S.core.place) (by decide) hu (Fr.refl nob w1) ((StR.pure _ _ _ _ _ _ _ _ rfl).2 rfl)
      exact ⟨HFW.out.then hs.fr, hs⟩
    · change some _ = some o at ho
      injection ho with ho
      subst ho
      have h65 := hJ.open65 (by decide) hu
      have q : a.eval (.tmp 0) = .pointer (some ⟨e, 0, none⟩) := hJ.t0
      obtain ⟨g4, g5, g13, g14, g15, g6, g7, g8, g9, g2, g12, gk⟩ := HC.out w1 (HFW.out.then hJ.fr)
      refine wpOp_run rfl rfl (v := .pointer (some ⟨e, 0, none⟩)) (E_move rfl q) ?_
      have hs := hJ.step HMK.out HMS.out (i := 49) (v := .pointer (some ⟨e, 0, none⟩)) (by decide) hu (Fr.refl nob w1) ((StR.pure _ _ _ _ _ _ _ _ rfl).2 rfl)
      exact ⟨HFW.out.then hs.fr, hs⟩
    · change some _ = some o at ho
      injection ho with ho
      subst ho
      have h65 := hJ.open65 (by decide) hu
      have q : a.eval (.tmp 56) = .pointer (some ⟨e, 0, none⟩) := hJ.pv h65 49 (by decide) rfl (getD_tf (hd ⟨49, .data⟩ (by simp) rfl))
      refine wpOp_of rfl rfl ?_
      go_simp
      rw [eval_tmp q]
      refine (HS.out w1 (hgw w1 (Fr.refl nob w1))).mono ?_
      rintro y w2 ⟨v, rfl, hv, hf⟩
      have hs := hJ.step HMK.out HMS.out (i := 50) (v := v) (by decide) hu hf (by unfold StR; simpa using hv)
      exact ⟨HFW.out.then hs.fr, hs⟩
    · change some _ = some o at ho
      injection ho with ho
      subst ho
      have h65 := hJ.open65 (by decide) hu
      have q : a.eval (.tmp 0) = .pointer (some ⟨e, 0, none⟩) := hJ.t0
      obtain ⟨g4, g5, g13, g14, g15, g6, g7, g8, g9, g2, g12, gk⟩ := HC.out w1 (HFW.out.then hJ.fr)
      refine wpOp_run rfl rfl (v := .pointer (some ⟨e, 0, none⟩)) (E_move rfl q) ?_
      have hs := hJ.step HMK.out HMS.out (i := 51) (v := .pointer (some ⟨e, 0, none⟩)) (by decide) hu (Fr.refl nob w1) ((StR.pure _ _ _ _ _ _ _ _ rfl).2 rfl)
      exact ⟨HFW.out.then hs.fr, hs⟩
    · change some _ = some o at ho
      injection ho with ho
      subst ho
      have h65 := hJ.open65 (by decide) hu
      have q : a.eval (.tmp 58) = .pointer (some ⟨e, 0, none⟩) := hJ.pv h65 51 (by decide) rfl (getD_tf (hd ⟨51, .data⟩ (by simp) rfl))
      refine wpOp_of rfl rfl ?_
      go_simp
      rw [eval_tmp q]
      refine (HU.out w1 (hgw w1 (Fr.refl nob w1))).mono ?_
      rintro y w2 ⟨rfl, hf⟩
      have hs := hJ.step HMK.out HMS.out (i := 52) (v := .int .i64 u) (by decide) hu hf (by unfold StR; simp)
      exact ⟨HFW.out.then hs.fr, hs⟩
    · change some _ = some o at ho
      injection ho with ho
      subst ho
      have h65 := hJ.open65 (by decide) hu
      have q : a.eval (.tmp 0) = .pointer (some ⟨e, 0, none⟩) := hJ.t0
      obtain ⟨g4, g5, g13, g14, g15, g6, g7, g8, g9, g2, g12, gk⟩ := HC.out w1 (HFW.out.then hJ.fr)
      refine wpOp_run rfl rfl (v := .pointer (some ⟨e, 0, none⟩)) (E_move rfl q) ?_
      have hs := hJ.step HMK.out HMS.out (i := 53) (v := .pointer (some ⟨e, 0, none⟩)) (by decide) hu (Fr.refl nob w1) ((StR.pure _ _ _ _ _ _ _ _ rfl).2 rfl)
      exact ⟨HFW.out.then hs.fr, hs⟩
    · change some _ = some o at ho
      injection ho with ho
      subst ho
      have h65 := hJ.open65 (by decide) hu
      have q : a.eval (.tmp 60) = .pointer (some ⟨e, 0, none⟩) := hJ.pv h65 53 (by decide) rfl (getD_tf (hd ⟨53, .data⟩ (by simp) rfl))
      obtain ⟨g4, g5, g13, g14, g15, g6, g7, g8, g9, g2, g12, gk⟩ := HC.out w1 (HFW.out.then hJ.fr)
      refine wpOp_run rfl rfl (v := .pointer (some ⟨e, 0, none⟩)) (E_nil rfl q) ?_
      have hs := hJ.step HMK.out HMS.out (i := 54) (v := .pointer (some ⟨e, 0, none⟩)) (by decide) hu (Fr.refl nob w1) ((StR.pure _ _ _ _ _ _ _ _ rfl).2 rfl)
      exact ⟨HFW.out.then hs.fr, hs⟩
    · change some _ = some o at ho
      injection ho with ho
      subst ho
      have h65 := hJ.open65 (by decide) hu
      have q : a.eval (.tmp 61) = .pointer (some ⟨e, 0, none⟩) := hJ.pv h65 54 (by decide) rfl (getD_tf (hd ⟨54, .data⟩ (by simp) rfl))
      obtain ⟨g4, g5, g13, g14, g15, g6, g7, g8, g9, g2, g12, gk⟩ := HC.out w1 (HFW.out.then hJ.fr)
      refine wpOp_run rfl rfl (v := .pointer (some ⟨e, 0, none⟩)) (E_field (k := 0) rfl q (by kernel_rfl)) ?_
      have hs := hJ.step HMK.out HMS.out (i := 55) (v := .pointer (some ⟨e, 0, none⟩)) (by decide) hu (Fr.refl nob w1) ((StR.pure _ _ _ _ _ _ _ _ rfl).2 rfl)
      exact ⟨HFW.out.then hs.fr, hs⟩
    · change some _ = some o at ho
      injection ho with ho
      subst ho
      have h65 := hJ.open65 (by decide) hu
      have q : a.eval (.tmp 62) = .pointer (some ⟨e, 0, none⟩) := hJ.pv h65 55 (by decide) rfl (getD_tf (hd ⟨55, .data⟩ (by simp) rfl))
      obtain ⟨g4, g5, g13, g14, g15, g6, g7, g8, g9, g2, g12, gk⟩ := HC.out w1 (HFW.out.then hJ.fr)
      refine wpOp_run rfl rfl (v := .pointer (some ⟨e, 9, none⟩)) (E_field (k := 9) rfl q (by kernel_rfl)) ?_
      have hs := hJ.step HMK.out HMS.out (i := 56) (v := .pointer (some ⟨e, 9, none⟩)) (by decide) hu (Fr.refl nob w1) ((StR.pure _ _ _ _ _ _ _ _ rfl).2 rfl)
      exact ⟨HFW.out.then hs.fr, hs⟩
    · change some _ = some o at ho
      injection ho with ho
      subst ho
      have h65 := hJ.open65 (by decide) hu
      have q : a.eval (.tmp 63) = .pointer (some ⟨e, 9, none⟩) := hJ.pv h65 56 (by decide) rfl (getD_tf (hd ⟨56, .data⟩ (by simp) rfl))
      obtain ⟨g4, g5, g13, g14, g15, g6, g7, g8, g9, g2, g12, gk⟩ := HC.out w1 (HFW.out.then hJ.fr)
      refine wpOp_run rfl rfl (v := .int .i64 S.core.res) (E_load rfl q (by kernel_rfl) g9) ?_
      have hs := hJ.step HMK.out HMS.out (i := 57) (v := .int .i64 S.core.res) (by decide) hu (Fr.refl nob w1) ((StR.pure _ _ _ _ _ _ _ _ rfl).2 rfl)
      exact ⟨HFW.out.then hs.fr, hs⟩
    · change some _ = some o at ho
      injection ho with ho
      subst ho
      have h65 := hJ.open65 (by decide) hu
      have q : a.eval (.tmp 0) = .pointer (some ⟨e, 0, none⟩) := hJ.t0
      obtain ⟨g4, g5, g13, g14, g15, g6, g7, g8, g9, g2, g12, gk⟩ := HC.out w1 (HFW.out.then hJ.fr)
      refine wpOp_run rfl rfl (v := .pointer (some ⟨e, 0, none⟩)) (E_move rfl q) ?_
      have hs := hJ.step HMK.out HMS.out (i := 58) (v := .pointer (some ⟨e, 0, none⟩)) (by decide) hu (Fr.refl nob w1) ((StR.pure _ _ _ _ _ _ _ _ rfl).2 rfl)
      exact ⟨HFW.out.then hs.fr, hs⟩
    · change some _ = some o at ho
      injection ho with ho
      subst ho
      have h65 := hJ.open65 (by decide) hu
      have q : a.eval (.tmp 65) = .pointer (some ⟨e, 0, none⟩) := hJ.pv h65 58 (by decide) rfl (getD_tf (hd ⟨58, .data⟩ (by simp) rfl))
      obtain ⟨g4, g5, g13, g14, g15, g6, g7, g8, g9, g2, g12, gk⟩ := HC.out w1 (HFW.out.then hJ.fr)
      refine wpOp_run rfl rfl (v := .pointer (some ⟨e, 0, none⟩)) (E_nil rfl q) ?_
      have hs := hJ.step HMK.out HMS.out (i := 59) (v := .pointer (some ⟨e, 0, none⟩)) (by decide) hu (Fr.refl nob w1) ((StR.pure _ _ _ _ _ _ _ _ rfl).2 rfl)
      exact ⟨HFW.out.then hs.fr, hs⟩
    · change some _ = some o at ho
      injection ho with ho
      subst ho
      have h65 := hJ.open65 (by decide) hu
      have q : a.eval (.tmp 66) = .pointer (some ⟨e, 0, none⟩) := hJ.pv h65 59 (by decide) rfl (getD_tf (hd ⟨59, .data⟩ (by simp) rfl))
      obtain ⟨g4, g5, g13, g14, g15, g6, g7, g8, g9, g2, g12, gk⟩ := HC.out w1 (HFW.out.then hJ.fr)
      refine wpOp_run rfl rfl (v := .pointer (some ⟨e, 12, none⟩)) (E_field (k := 12) rfl q (by kernel_rfl)) ?_
      have hs := hJ.step HMK.out HMS.out (i := 60) (v := .pointer (some ⟨e, 12, none⟩)) (by decide) hu (Fr.refl nob w1) ((StR.pure _ _ _ _ _ _ _ _ rfl).2 rfl)
      exact ⟨HFW.out.then hs.fr, hs⟩
    · change some _ = some o at ho
      injection ho with ho
      subst ho
      have h65 := hJ.open65 (by decide) hu
      have q : a.eval (.tmp 67) = .pointer (some ⟨e, 12, none⟩) := hJ.pv h65 60 (by decide) rfl (getD_tf (hd ⟨60, .data⟩ (by simp) rfl))
      obtain ⟨g4, g5, g13, g14, g15, g6, g7, g8, g9, g2, g12, gk⟩ := HC.out w1 (HFW.out.then hJ.fr)
      refine wpOp_run rfl rfl (v := .pointer (some ⟨bl, 0, none⟩)) (E_load rfl q (by kernel_rfl) g12) ?_
      have hs := hJ.step HMK.out HMS.out (i := 61) (v := .pointer (some ⟨bl, 0, none⟩)) (by decide) hu (Fr.refl nob w1) ((StR.pure _ _ _ _ _ _ _ _ rfl).2 rfl)
      exact ⟨HFW.out.then hs.fr, hs⟩
    · change some _ = some o at ho
      injection ho with ho
      subst ho
      have h65 := hJ.open65 (by decide) hu
      have q : a.eval (.tmp 68) = .pointer (some ⟨bl, 0, none⟩) := hJ.pv h65 61 (by decide) rfl (getD_tf (hd ⟨61, .data⟩ (by simp) rfl))
      refine wpOp_of rfl rfl ?_
      go_simp
      rw [eval_tmp q]
      refine (HA.out w1 (hgw w1 (Fr.refl nob w1))).mono ?_
      rintro y w2 ⟨rfl, rfl⟩
      have hs := hJ.step HMK.out HMS.out (i := 62) (v := .int .i64 S.bells) (by decide) hu (Fr.refl nob _) (by unfold StR; simp)
      exact ⟨HFW.out.then hs.fr, hs⟩
    · change some _ = some o at ho
      injection ho with ho
      subst ho
      have h65 := hJ.open65 (by decide) hu
      obtain ⟨lv, q1, hlv⟩ : ∃ lv, a.eval (.tmp 8) = .agg #[lv, .int .i64 S.core.point, .int .i64 S.core.mark] ∧ LineR S lv w1 := hJ.vl h65 1 (by decide) (getD_tf (hd ⟨1, .data⟩ (by simp) rfl))
      have hkv : RK (a.eval (.tmp 47)) w1 := hJ.vl h65 40 (by decide) (getD_tf (hd ⟨40, .data⟩ (by simp) rfl))
      have hsv : RS (a.eval (.tmp 57)) w1 := hJ.vl h65 50 (by decide) (getD_tf (hd ⟨50, .data⟩ (by simp) rfl))
      have q52 : a.eval (.tmp 59) = .int .i64 u := hJ.vl h65 52 (by decide) (getD_tf (hd ⟨52, .data⟩ (by simp) rfl))
      have q62 : a.eval (.tmp 69) = .int .i64 S.bells := hJ.vl h65 62 (by decide) (getD_tf (hd ⟨62, .data⟩ (by simp) rfl))
      obtain ⟨ka, kn, kc, q40⟩ := HSK.out _ _ hkv
      obtain ⟨sa, sn, sc, q50⟩ := HSS.out _ _ hsv
      rw [q40] at hkv
      rw [q50] at hsv
      obtain ⟨la, lc, rfl, hlw⟩ := hlv
      have q6 : a.eval (.tmp 13) = .int .i64 S.core.mode := hJ.pv h65 6 (by decide) rfl (getD_tf (hd ⟨6, .data⟩ (by simp) rfl))
      have q11 : a.eval (.tmp 18) = .bool S.core.over := hJ.pv h65 11 (by decide) rfl (getD_tf (hd ⟨11, .data⟩ (by simp) rfl))
      have q15 : a.eval (.tmp 22) = .bool S.f.given := hJ.pv h65 15 (by decide) rfl (getD_tf (hd ⟨15, .data⟩ (by simp) rfl))
      have q19 : a.eval (.tmp 26) = .bool S.f.minus := hJ.pv h65 19 (by decide) rfl (getD_tf (hd ⟨19, .data⟩ (by simp) rfl))
      have q23 : a.eval (.tmp 30) = .int .i64 S.f.arg := hJ.pv h65 23 (by decide) rfl (getD_tf (hd ⟨23, .data⟩ (by simp) rfl))
      have q28 : a.eval (.tmp 35) = .int .i64 S.core.last := hJ.pv h65 28 (by decide) rfl (getD_tf (hd ⟨28, .data⟩ (by simp) rfl))
      have q33 : a.eval (.tmp 40) = .int .i64 S.core.yf := hJ.pv h65 33 (by decide) rfl (getD_tf (hd ⟨33, .data⟩ (by simp) rfl))
      have q38 : a.eval (.tmp 45) = .int .i64 S.core.yt := hJ.pv h65 38 (by decide) rfl (getD_tf (hd ⟨38, .data⟩ (by simp) rfl))
      have q48 : a.eval (.tmp 55) = .int .i64 S.core.place := hJ.pv h65 48 (by decide) rfl (getD_tf (hd ⟨48, .data⟩ (by simp) rfl))
      have q57 : a.eval (.tmp 64) = .int .i64 S.core.res := hJ.pv h65 57 (by decide) rfl (getD_tf (hd ⟨57, .data⟩ (by simp) rfl))
      refine wpOp_of rfl rfl ?_
      refine wp_build 60 _ rfl ?_ ?_
      · simp only [q1, q40, q50, q52, q62, q6, q11, q15, q19, q23, q28, q33, q38, q48, q57, List.map_toArray, List.map_cons, List.map_nil]
        kernel_rfl
      · simp only [q1, q40, q50, q52, q62, q6, q11, q15, q19, q23, q28, q33, q38, q48, q57, List.map_toArray, List.map_cons, List.map_nil]
        generalize hcs : (Program.built _ _ _).getD _ = cs
        have hq : cs = stateCells S (.slice la S.core.text.length lc) (.slice ka kn kc) (.slice sa sn sc) u := by
          rw [← hcs]
          kernel_rfl
        have hs := hJ.step HMK.out HMS.out (i := 63) (v := .agg cs) (by decide) hu (Fr.refl nob w1) (by
          unfold StR
          rw [if_neg (by decide), if_neg (by decide), if_neg (by decide), if_neg (by decide), if_neg (by decide), if_pos rfl, hq]
          exact ⟨_, _, _, rfl, ⟨la, lc, rfl, hlw⟩, hkv, hsv⟩)
        exact ⟨HFW.out.then hs.fr, hs⟩
    · change some _ = some o at ho
      injection ho with ho
      subst ho
      have h65 := hJ.open65 (by decide) hu
      refine wpOp_of rfl rfl ?_
      go_simp
      have hs := hJ.step HMK.out HMS.out (i := 64) (v := .pointer (some ⟨w1.heap.size, 0, none⟩)) (by decide) hu ((Fr.refl nob w1).alloc (.cells #[.slice none 0 0, .int .i64 0, .int .i64 0, .int .i64 0, .bool false, .bool false, .bool false, .int .i64 0, .int .i64 0, .int .i64 0, .int .i64 0, .slice none 0 0, .int .i64 0, .slice none 0 0, .int .i64 0, .int .i64 0, .int .i64 0] 60)) (by
        unfold StR
        rw [if_neg (by decide), if_neg (by decide), if_neg (by decide), if_neg (by decide), if_neg (by decide), if_neg (by decide), if_pos rfl]
        exact ⟨w1.heap.size, rfl, hJ.sz0, _, heap_alloc_new _ _, rfl⟩)
      exact ⟨HFW.out.then hs.fr, hs⟩
    · change some _ = some o at ho
      injection ho with ho
      have hb : ((List.range 65).all fun i => o.after.any fun e => (e.on == i && Region.binds .any e)) = true := by
        rw [← ho]
        kernel_rfl
      have hall : ∀ i, i < 65 → listed.getD i true = true := fun i hi => by
        obtain ⟨e1, he1, hc⟩ := Array.any_eq_true'.1 (List.all_eq_true.1 hb i (List.mem_range.2 hi))
        simp only [Bool.and_eq_true, beq_iff_eq] at hc
        rw [← hc.1]
        exact getD_tf (hd e1 he1 hc.2)
      subst ho
      obtain ⟨s, q64, hs0, cs, hcs, hsz⟩ : ∃ s, a.eval (.tmp 3) = .pointer (some ⟨s, 0, none⟩) ∧ W.heap.size ≤ s ∧ ∃ cs, w1.heap[s]? = some (.cells cs 60 (0, 0)) ∧ cs.size = 17 := hJ.vl hu 64 (by decide) (hall 64 (by decide))
      obtain ⟨lv, kv, sv, q63, hlv, hkv, hsv⟩ : ∃ lv kv sv, a.eval (.tmp 70) = .agg (stateCells S lv kv sv u) ∧ LineR S lv w1 ∧ RK kv w1 ∧ RS sv w1 := hJ.vl hu 63 (by decide) (hall 63 (by decide))
      refine wpOp_of rfl rfl ?_
      refine wp_store_row 60 (.tmp 3) (.tmp 70) rfl s (stateCells S lv kv sv u) q64 q63 60 cs hcs (by kernel_rfl) hsz (stateCells_one S lv kv sv u hlv (HSK.out _ _ hkv) (HSS.out _ _ hsv)) ?_
      have hF : Fr (one s) w1 (w1.setRow s (stateCells S lv kv sv u)) := (Fr.refl _ _).setRow _ _ (fun _ => rfl)
      have hT : ∀ b c T fr, one s b → w1.heap[b]? = some (.cells c T fr) → T = 60 := by
        rintro b c T fr rfl hb
        rw [hcs] at hb
        injection hb with hb
        injection hb with _ hb
        exact hb.symm
      have hG : Fr nob W (w1.setRow s (stateCells S lv kv sv u)) := hJ.fr.setRow _ _ (fun h => by omega)
      refine ⟨HFW.out.then hG, hG, hJ.df, hJ.sz, by simpa using hJ.ls, hJ.t0, hJ.t2, fun h => ?_, fun _ => ⟨s, lv, kv, sv, q64, hs0, heap_setRow_same hcs, LineR.mono S _ _ _ _ hlv hF hT, HMK.out _ _ _ _ hkv hF hT, HMS.out _ _ _ _ hsv hF hT⟩, fun _ i hi => ?_, Nat.le_trans hJ.sz0 hF.size⟩
      · rw [Array.getD_eq_getD_getElem?, Array.getElem?_setIfInBounds_self_of_lt (by rw [hJ.ls]; decide)] at h
        cases h
      · rw [getD_set_ne true (by omega)]
        exact hall i hi
  case hdone =>
    intro listed a w2 hJ hr
    obtain ⟨s, lv, kv, sv, q3, hs0, hrow, hlv, hkv, hsv⟩ := hJ.st (all_of_ready (by kernel_rfl) hr 65 (Nat.le_of_eq (by kernel_rfl)))
    obtain ⟨T, D⟩ := a
    obtain rfl : D = [] := hJ.df
    have q0 : T.getD 0 undef = .pointer (some ⟨e, 0, none⟩) := hJ.t0
    have q2 : T.getD 2 undef = .pointer (some ⟨w.heap.size, 0, none⟩) := hJ.t2
    have q3 : T.getD 3 undef = .pointer (some ⟨s, 0, none⟩) := q3
    obtain ⟨x1, x4, x5, x6, x7, x8, x9, x10, x11, x12, x13, x14, x15, x16, x17, x18, x19, x20, x21, x22, x23, x24, x25, x26, x27, x28, x29, x30, x31, x32, x33, x34, x35, x36, x37, x38, x39, x40, x41, x42, x43, x44, x45, x46, x47, x48, x49, x50, x51, x52, x53, x54, x55, x56, x57, x58, x59, x60, x61, x62, x63, x64, x65, x66, x67, x68, x69, x70, x71, x72, x73, x74, x75, x76, x77, x78, x79, x80, x81, x82, x83, x84, x85, x86, x87, x88, x89, x90, x91, x92, x93, hT⟩ := arr94' T hJ.sz
    rw [q0, q2, q3] at hT
    have hI2 := HI.out w2 (HFW.out.then hJ.fr)
    have hX := hJ.fr.keep HW.out (fun h => h)
    have hlt : w.heap.size < W.heap.size := (Array.getElem?_eq_some_iff.1 HW.out).1
    have hne : w.heap.size ≠ s := by omega
    have hG := HFW.out.then hJ.fr
    clear hJ hr q0 q2 q3
    subst hT
    show K _ _
    refine hK _ _ ?_
    clear hK
    have HD := Lib.hid (show isStruct Tryz.prog 60 = true from by kernel_rfl)
    have HSZ := Lib.hid (show (Tryz.prog.info? 60).map (·.size) = some (stateCells S lv kv sv u).size from by kernel_rfl)
    have HONE := Lib.hid (stateCells_one S lv kv sv u hlv (HSK.out _ _ hkv) (HSS.out _ _ hsv))
    have HR := Lib.hid hrow
    have HX := Lib.hid hX
    have HLV := Lib.hid hlv
    have HKV := Lib.hid hkv
    have HSV := Lib.hid hsv
    have HG := Lib.hid hG
    clear hrow hX hlv hkv hsv hG
    go_wp2_with (first
      | (refine wpList_load_struct rfl 60 (.tmp 3) rfl s rfl 60 (stateCells S lv kv sv u) (0, 0) HR.out HD.out HSZ.out ?_; simp only [Act.put, List.setIfInBounds_toArray, List.set_cons_zero, List.set_cons_succ])
      | (refine wpList_store_row rfl 60 (.tmp 2) (.tmp 93) rfl w.heap.size (stateCells S lv kv sv u) rfl rfl 60 _ HX.out HSZ.out rfl HONE.out ?_; simp only [Act.put]))
    obtain ⟨fs, hfs⟩ := isStruct_desc HD.out
    have hfin : Fr (one w.heap.size) w2 (w2.setRow w.heap.size (stateCells S lv kv sv u)) := (Fr.refl _ _).setRow _ _ (fun _ => rfl)
    have hT : ∀ b c T fr, one w.heap.size b → w2.heap[b]? = some (.cells c T fr) → T = 60 := by
      rintro b c T fr rfl hb
      rw [HX.out] at hb
      injection hb with hb
      injection hb with _ hb
      exact hb.symm
    refine bodyPost_ret (results_cell_row rfl _ _ w.heap.size 60 (stateCells S lv kv sv u) (0, 0) (.struct fs) rfl (heap_setRow_same HX.out) hfs rfl HSZ.out) rfl
      ⟨lv, kv, sv, rfl, LineR.mono S _ _ _ _ HLV.out hfin hT, HMK.out _ _ _ _ HKV.out hfin hT, HMS.out _ _ _ _ HSV.out hfin hT, HG.out.setRow _ _ (fun h => by omega)⟩
end Go.Proofs.YtbhklkolkclflaaGreatDoor
