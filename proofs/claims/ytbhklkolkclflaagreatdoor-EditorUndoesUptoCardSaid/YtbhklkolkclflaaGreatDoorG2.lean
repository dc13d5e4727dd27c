/- The iterators of package slices over edits: a contract in which the caller's invariant carries all. A range over a function, its body never leaving: one rule in which the caller's invariant carries all. A region of six operations that draws its order, within a round: 'x = append(x, f(y))', x in memory. The iterators of package slices over groups: a contract in which the caller's invariant carries all. A range over a function whose body leaves in the first round. Package undo, first part: what a list is, and its small calls. Package undo, second part: New, none, own, Inverse, Begin. Package undo, third part: close, End. Package undo, fourth part: Add. Package undo, fifth part: copied. Package undo, sixth part: inverses. Package undo, seventh part: Undo. Package undo, eighth part: Clone. Package undo, ninth part: Groups. Package undo, tenth part: the first round of a range over Groups. -/
import Derived.Test.YtbhklkolkclflaaGreatDoorG1
import Derived.RangeFuncNested
import Derived.RangeFuncBound
import Derived.RangeFuncCalls
import Derived.RangeFuncLeaves
import Derived.Shelf.Abstract
import Derived.Shelf.RegionOpen
import Derived.OwnWalkIn
import Derived.TacticsInMore
import Derived.LoopNIn
import Derived.LoopIn
import Derived.Deep.RegionLaw
/- R1: The iterators of package slices over edits: a contract in which the caller's invariant carries all. -/
namespace Go.Proofs.YtbhklkolkclflaaGreatDoor
open Go.RowKit
attribute [local go_sem] Oper.semAt_some

set_option maxRecDepth 100000 in
set_option maxHeartbeats 2000000 in
/-- slices.Backward's closure over edits. -/
theorem back1_edits (m l box g off n cap : Nat) (a : Option Addr) (ha : 0 < n → a = some ⟨g, off, none⟩) (el : Nat → Int × Value × Value) (hm : 1 ≤ m) (hn : n * 56 ≤ 140737488355328) (J : Nat → World → Prop)
    (hJ : ∀ k W, J k W → W.cell? ⟨box, 0, none⟩ = some (.slice a n cap) ∧ ∀ j, j < n → W.cell? ⟨g, off + j * 3, none⟩ = some (.int .i64 (el j).1) ∧ W.cell? ⟨g, off + j * 3 + 1, none⟩ = some (el j).2.1 ∧ W.cell? ⟨g, off + j * 3 + 2, none⟩ = some (el j).2.2)
    (hY : ∀ k i W, J k W → i + k + 1 = n → YieldAt Fence.wide (m - 1) Tryz.prog l #[.int .i64 i, .agg #[.int .i64 (el i).1, (el i).2.1, (el i).2.2]] W fun e W' => e = .returned (.bool true) ∧ J (k + 1) W')
    (W : World) (h0 : J 0 W) :
    CallsIn Fence.wide m Tryz.prog 245 #[.func (.yield l) #[] #[], .pointer (some ⟨box, 0, none⟩)] W fun e W' => (∃ v, e = .returned v) ∧ J n W' := by
  have HJ := Lib.hid hJ
  have HY := Lib.hid hY
  have hb0 := (hJ 0 W h0).1
  clear hJ hY
  refine callsIn_of_wp Tryz.func245 rfl trivial ?_ rfl
  simp only [Tryz.ntmps245, List.size_toArray, List.length_cons, List.length_nil, Nat.reduceAdd, Nat.reduceSub, Array.replicate_succ, Array.replicate_zero, List.push_toArray, List.append_toArray, List.nil_append, List.cons_append]
  gi_wp2
  gi_loopw [3] (fun i wr => ∃ k : Nat, ∃ i' : Int, i = .int .i64 i' ∧ i' + k + 1 = n ∧ k ≤ n ∧ J k wr) (fun i _ => (intOf i + 1).toNat)
  case atStart => exact ⟨0, _, rfl, by omega, Nat.zero_le _, h0⟩
  case round =>
    obtain ⟨k, i', rfl, hik, hkn, hJk⟩ := hrel
    have HIK := Lib.hid hik
    by_cases hlt : k < n
    · obtain ⟨i, rfl⟩ : ∃ i : Nat, i' = i := ⟨i'.toNat, by omega⟩
      have hin : i < n := by omega
      have hk1 : i + k + 1 = n := by omega
      obtain ⟨hb, hcs⟩ := HJ.out k wr hJk
      obtain rfl := ha (by omega)
      obtain ⟨c0, c1, c2⟩ := hcs i hin
      obtain ⟨fn, tmps, assign, body, hy, hR⟩ := HY.out k i wr hJk hk1
      clear hcs hik hk1
      generalize (el i).1 = x0 at *
      generalize (el i).2.1 = x1 at *
      generalize (el i).2.2 = x2 at *
      gi_wp2
      refine hR.mono ?_
      rintro e W3 ⟨rfl, hJ3⟩
      gi_wp2
      go_roundw
      case rel => exact ⟨k + 1, _, rfl, by have := HIK.out; omega, by omega, hJ3⟩
      case measure =>
        have := HIK.out
        simp only [intOf]
        omega
    · have hi : i' = -1 := by omega
      subst hi
      obtain rfl : k = n := by omega
      gi_wp2
      go_end0
      exact ⟨⟨_, rfl⟩, hJk⟩

/-- slices.Backward over edits. -/
theorem back_edits (m : Nat) (a : Option Addr) (n c : Nat) (w : World) :
    CallsIn Fence.wide m Tryz.prog 232 #[.slice a n c] w fun e w' => e = .returned (.func (.func 245) #[] #[.pointer (some ⟨w.heap.size, 0, none⟩)]) ∧ w' = w.alloc (.cells #[.slice a n c] 84) := by
  refine callsIn_of_wp Tryz.func232 rfl trivial ?_ rfl
  simp only [Tryz.ntmps232, List.size_toArray, List.length_cons, List.length_nil, Nat.reduceAdd, Nat.reduceSub, Array.replicate_succ, Array.replicate_zero, List.push_toArray, List.append_toArray, List.nil_append, List.cons_append]
  gi_wp2
  go_ret
  exact ⟨rfl, rfl⟩
end Go.Proofs.YtbhklkolkclflaaGreatDoor
/- R2: A range over a function, its body never leaving: one rule in which the caller's invariant carries all. -/
namespace Go.Proofs.YtbhklkolkclflaaGreatDoor
open Go.RowKit

/-- The record of a loop. -/
abbrev loopRec (fn : FuncId) (a : Act) (ps : Array Tmp) (assign body : Code) (D : Nat) (st : LoopState) (pend : Option Code) : Obj :=
  .loop { state := st, pending := pend, fn, tmps := a.tmps, params := ps, assign, body, defers := D }

theorem run_getLoop {P : Program} {w : World} {l : Nat} {r : Loop} (h : w.heap[l]? = some (.loop r)) : (Instr.getLoop l).run P w = .ok r w := by
  simp [Instr.getLoop, getObj, Sem.run, h]
theorem run_setLoop {P : Program} {w : World} {l : Nat} {r : Loop} (h : w.heap[l]? = some (.loop r)) (o : Obj) : (setObj l o).run P w = .ok () (World.putObj w l o) := by
  simp [setObj, Sem.run, h, World.putObj]
theorem putObj_same {w : World} {l : Nat} {o : Obj} (h : l < w.heap.size) (o' : Obj) (_ : o = o') : (World.putObj w l o).heap[l]? = some o := by
  simp [World.putObj, h]
theorem putObj_ne {w : World} {l b : Nat} {o : Obj} (h : b ≠ l) : (World.putObj w l o).heap[b]? = w.heap[b]? := by
  simp only [World.putObj]
  rw [Array.getElem?_setIfInBounds_ne (fun e => h e.symm)]

theorem zip2 {β : Type} (T : Array β) (p q : Nat) (x y : β) : (#[p, q].zip #[x, y]).foldl (fun tmps (t, x) => tmps.setIfInBounds t x) T = (T.setIfInBounds p x).setIfInBounds q y := by
  simp [List.zip_toArray]
theorem zip1 {β : Type} (T : Array β) (p : Nat) (x : β) : (#[p].zip #[x]).foldl (fun tmps (t, x) => tmps.setIfInBounds t x) T = T.setIfInBounds p x := by
  simp [List.zip_toArray]

/-- What a contract of an iterator is: it yields 'args 0', .., 'args (N - 1)', and returns. -/
def Yields (P : Program) (m : Nat) (f0 : FuncId) (lb : Array Value) (N : Nat) (args : Nat → Array Value) (K : World → Prop) : Prop :=
  ∀ (l : Nat) (J : Nat → World → Prop) (W : World), (∀ k W, J k W → K W) →
    (∀ k W, J k W → k < N → YieldAt Fence.wide (m - 1) P l (args k) W fun e W' => e = .returned (.bool true) ∧ J (k + 1) W') → J 0 W →
    CallsIn Fence.wide m P f0 (#[.func (.yield l) #[] #[]] ++ lb) W fun e W' => (∃ v, e = .returned v) ∧ J N W'

theorem range_all {P : Program} {n : Nat} {g : Operand} {ps : Array Tmp} {assign body : Code} {Q : Exit → Act → World → Prop} {a : Act} {w : World}
    (f0 : FuncId) (lb : Array Value) (hg : a.eval g = .func (.func f0) #[] lb)
    (hinv : ∀ l W, (invoke (.fn (.func f0) lb) #[.func (.yield l) #[] #[]]).run P W = .ok (.enter f0 (#[.func (.yield l) #[] #[]] ++ lb)) W)
    (N : Nat) (args : Nat → Array Value) (hsz : ∀ k, (args k).size = ps.size) (T : Nat → Array Value) (hT : ∀ k, (ps.zip (args k)).foldl (fun tmps (t, x) => tmps.setIfInBounds t x) a.tmps = T k) (K : World → Prop) (hit : Yields P (n - 1) f0 lb N args K)
    (U : Nat → World → Prop) (h0 : U 0 w) (hK : ∀ k W, U k W → K W)
    (hU : ∀ k W W', U k W → Fr (fun b => b = w.heap.size ∨ b = w.heap.size + 1) W W' → (∀ b, b = w.heap.size ∨ b = w.heap.size + 1 → ∀ c T fr, W.heap[b]? ≠ some (.cells c T fr)) → U k W')
    (hround : ∀ k W, k < N → U k W → w.heap.size + 1 < W.heap.size → assign.wpIn (Fence.wide.inRound (w.heap.size + 1)) (n - 1 - 1) P
      (Exit.then (fun a1 W1 => U k W1 ∧ W1.heap[w.heap.size]? = W.heap[w.heap.size]? ∧ W1.heap[w.heap.size + 1]? = W.heap[w.heap.size + 1]? ∧
        ∀ W2, U k W2 → w.heap.size + 1 < W2.heap.size → Fr (one (w.heap.size + 1)) W1 W2 → (∀ b, b = w.heap.size ∨ b = w.heap.size + 1 → ∀ c T fr, W2.heap[b]? ≠ some (.cells c T fr)) → body.wpIn (Fence.wide.inRound (w.heap.size + 1)) (n - 1 - 1) P
          (fun e _ W3 => e = .normal ∧ U (k + 1) W3 ∧ W3.heap[w.heap.size]? = W2.heap[w.heap.size]? ∧ W3.heap[w.heap.size + 1]? = W2.heap[w.heap.size + 1]?) a1 W2)
        (fun _ _ _ => False))
      { tmps := T k, defers := [] } W)
    (hdone : ∀ W, U N W → W.heap[w.heap.size]? = some (.deferred (some [])) → w.heap.size + 1 < W.heap.size →
      Q .normal { a with defers := [{ target := .collected w.heap.size, args := #[] }] ++ a.defers } W) :
    (Code.rangeFunc g ps assign body).wpIn Fence.wide n P Q a w := by
  refine wpIn_rangeFunc fun fn _ => ?_
  let D := w.heap.size
  let l := w.heap.size + 1
  let w1 := w.alloc (.deferred (some []))
  let w2 := w1.alloc (loopRec fn a ps assign body D .ready none)
  have hD2 : w2.heap[D]? = some (.deferred (some [])) := (heap_alloc_lt _ (by simp [w1, D])).trans (heap_alloc_new w _)
  have hl2 : w2.heap[l]? = some (loopRec fn a ps assign body D .ready none) := by
    have h := heap_alloc_new w1 (loopRec fn a ps assign body D .ready none)
    have e : w1.heap.size = l := by simp [w1, l]
    rw [e] at h
    exact h
  have hres : (resolve a.eval (rangeCall g l) 0).run P w2 = .ok { target := .fn (.func f0) lb, args := #[.func (.yield l) #[] #[]] } w2 := by
    show (Deferred.ofValue (a.eval g) (#[Operand.const (.func (.yield l) #[] #[])].map a.eval)).run P w2 = _
    rw [hg]
    simp [Deferred.ofValue, Act.eval]
  have hent : (Instr.enterLoop fn a.tmps ps assign body Fence.wide.round).run P w = .ok (l, [{ target := .collected D, args := #[] }]) w2 := run_enterLoop_outer _ _ _ _ _
  refine ⟨l, [{ target := .collected D, args := #[] }], w2, { target := .fn (.func f0) lb, args := #[.func (.yield l) #[] #[]] }, w2, f0, #[.func (.yield l) #[] #[]] ++ lb, w2, hent, hres, fun _ _ => trivial, hinv l w2, fun h => (by simp [Fence.wide] at h), ?_⟩
  let J : Nat → World → Prop := fun k W => U k W ∧ W.heap[l]? = some (loopRec fn a ps assign body D .ready none) ∧ W.heap[D]? = some (.deferred (some []))
  have hDl : D ≠ l := by simp [D, l]
  have frl : ∀ W o, Fr (one l) W (World.putObj W l o) := fun W o => (Fr.refl _ _).putObj l o (fun _ => rfl)
  have up : ∀ k W W' r, U k W → W.heap[l]? = some (.loop r) → W.heap[D]? = some (.deferred (some [])) → Fr (one l) W W' → U k W' := fun k W W' r hu hl hd hf => by
    refine hU k W W' hu (hf.mono (fun _ _ h => .inr h)) ?_
    rintro b (rfl | rfl) c T fr e
    · rw [show W.heap[w.heap.size]? = _ from hd] at e
      cases e
    · rw [show W.heap[w.heap.size + 1]? = _ from hl] at e
      cases e
  refine (hit l J w2 (fun k W h => hK k W h.1) ?_ ⟨hU 0 w w2 h0 (((Fr.refl _ _).alloc _).alloc _) (fun b hb c T fr e => by have := blk_lt e; omega), hl2, hD2⟩).mono ?_
  · rintro k W ⟨hu, hl, hd⟩ hk
    have hls := blk_lt hl
    refine ⟨fn, T k, assign, body, ?_, ?_⟩
    · rw [← hT k]
      simp [Instr.yield, run_getLoop hl, hsz]
    · refine roundIn_of_wpIn trivial (wpIn_mono (hround k W hk hu hls) ?_)
      intro e a1 W1 h
      cases e with
      | normal =>
        obtain ⟨hu1, hd1, hl1, hb⟩ := h
        replace hl1 : W1.heap[l]? = some (loopRec fn a ps assign body D .ready none) := hl1.trans hl
        replace hd1 : W1.heap[D]? = some (.deferred (some [])) := hd1.trans hd
        have hls1 := blk_lt hl1
        refine ⟨World.putObj W1 l (loopRec fn a ps assign body D .busy none), ?_, ?_⟩
        · simp only [Instr.beginRound]
          simp [run_getLoop hl1, run_setLoop hl1]
        · refine wpIn_mono (hb _ (up k _ _ _ hu1 hl1 hd1 (frl _ _)) (by simp [World.putObj]; exact hls1) (frl _ _) ?nc) ?_
          case nc =>
            rintro b (rfl | rfl) c T fr e
            · rw [show (World.putObj W1 l _).heap[w.heap.size]? = some (.deferred (some [])) from (putObj_ne hDl).trans hd1] at e
              cases e
            · rw [show (World.putObj W1 l _).heap[w.heap.size + 1]? = _ from putObj_same hls1 _ rfl] at e
              cases e
          rintro e a3 W3 ⟨rfl, hu3, hd3, hl3⟩
          replace hl3 : W3.heap[l]? = some (loopRec fn a ps assign body D .busy none) := hl3.trans (putObj_same hls1 _ rfl)
          replace hd3 : W3.heap[D]? = some (.deferred (some [])) := hd3.trans ((putObj_ne hDl).trans hd1)
          have hls3 := blk_lt hl3
          refine ⟨.bool true, World.putObj W3 l (loopRec fn a ps assign body D .ready none), ?_, rfl, up _ _ _ _ hu3 hl3 hd3 (frl _ _), putObj_same hls3 _ rfl, by rw [putObj_ne hDl]; exact hd3⟩
          simp [Instr.endRound, run_getLoop hl3, run_setLoop hl3]
      | exit id => exact h.elim
      | goto t => exact h.elim
      | ret => exact h.elim
      | panic chain => exact h.elim
      | outgrown => exact h.elim
  · rintro e W ⟨⟨v, rfl⟩, hu, hl, hd⟩
    have hls := blk_lt hl
    refine ⟨none, World.putObj W l (loopRec fn a ps assign body D .exhausted none), ?_, ?_⟩
    · simp [Instr.endLoop, run_getLoop hl, run_setLoop hl]
    · exact hdone _ (up _ _ _ _ hu hl hd (frl _ _)) (by rw [putObj_ne hDl]; exact hd) (by simp [World.putObj]; exact hls)
end Go.Proofs.YtbhklkolkclflaaGreatDoor
/- R3: A region of six operations that draws its order, within a round: 'x = append(x, f(y))', x in memory. -/
namespace Go.Proofs.YtbhklkolkclflaaGreatDoor
open Go.RowKit
attribute [local go_sem] Oper.semAt_some

section
variable {F : Fence} {n : Nat} {P : Program} {ops : Array Oper} {Q : Exit → Act → World → Prop} {md : Region.Mode}

theorem anyIn_step {fuel : Nat} {listed : Array Bool} {a : Act} {w : World} (rs : List Nat) (hr : Region.ready md ops listed = rs) (hne : rs ≠ [])
    (h : ∀ i ∈ rs, wpOpIn F n P ops Q i (wpAnyIn F n P md ops Q fuel (listed.setIfInBounds i true)) a w) : wpAnyIn F n P md ops Q (fuel + 1) listed a w :=
  ⟨fun e => absurd (hr.symm.trans e) hne, hr ▸ h⟩

theorem region6 {id : Nat} {a : Act} {w : World} (hm : P.follows .mixedOrders = true) (hsz : ops.size = 6)
    (q0 : Region.ready .any ops #[false, false, false, false, false, false] = [0, 1]) (q1 : Region.ready .any ops #[true, false, false, false, false, false] = [1])
    (q2 : Region.ready .any ops #[true, true, false, false, false, false] = [2]) (q3 : Region.ready .any ops #[true, true, true, false, false, false] = [3])
    (q4 : Region.ready .any ops #[true, true, true, true, false, false] = [4]) (q5 : Region.ready .any ops #[true, true, true, true, true, false] = [5])
    (q6 : Region.ready .any ops #[true, true, true, true, true, true] = [])
    (p1 : Region.ready .any ops #[false, true, false, false, false, false] = [0, 2]) (p2 : Region.ready .any ops #[false, true, true, false, false, false] = [0, 3])
    (p3 : Region.ready .any ops #[false, true, true, true, false, false] = [0])
    (A1 A2 A3 A4 : Bool → Act → World → Prop) (B C : Act → World → Prop) (h0 : A1 false a w.drew)
    (l1 : ∀ a w K, A1 false a w → (∀ a w, A1 true a w → K a w) → wpOpIn F n P ops Q 0 K a w) (l2 : ∀ a w K, A2 false a w → (∀ a w, A2 true a w → K a w) → wpOpIn F n P ops Q 0 K a w)
    (l3 : ∀ a w K, A3 false a w → (∀ a w, A3 true a w → K a w) → wpOpIn F n P ops Q 0 K a w) (l4 : ∀ a w K, A4 false a w → (∀ a w, A4 true a w → K a w) → wpOpIn F n P ops Q 0 K a w)
    (m1 : ∀ ld a w K, A1 ld a w → (∀ a w, A2 ld a w → K a w) → wpOpIn F n P ops Q 1 K a w)
    (m2 : ∀ ld a w K, A2 ld a w → (∀ a w, A3 ld a w → K a w) → wpOpIn F n P ops Q 2 K a w)
    (m3 : ∀ ld a w K, A3 ld a w → (∀ a w, A4 ld a w → K a w) → wpOpIn F n P ops Q 3 K a w)
    (m4 : ∀ a w K, A4 true a w → (∀ a w, B a w → K a w) → wpOpIn F n P ops Q 4 K a w)
    (m5 : ∀ a w K, B a w → (∀ a w, C a w → K a w) → wpOpIn F n P ops Q 5 K a w)
    (hC : ∀ a w, C a w → Q .normal a w) : (Code.region id ops true).wpIn F n P Q a w := by
  refine wpIn_region_any hm ?_
  rw [hsz]
  change wpAnyIn F n P .any ops Q 6 #[false, false, false, false, false, false] a w.drew
  have t6 : ∀ a w, C a w → wpAnyIn F n P .any ops Q 0 #[true, true, true, true, true, true] a w := fun a w h => ⟨q6, hC a w h⟩
  have t5 : ∀ a w, B a w → wpAnyIn F n P .any ops Q 1 #[true, true, true, true, true, false] a w := fun a w h =>
    anyIn_step _ q5 (by simp) fun i hi => by obtain rfl : i = 5 := (by simpa using hi); exact m5 a w _ h t6
  have t4 : ∀ a w, A4 true a w → wpAnyIn F n P .any ops Q 2 #[true, true, true, true, false, false] a w := fun a w h =>
    anyIn_step _ q4 (by simp) fun i hi => by obtain rfl : i = 4 := (by simpa using hi); exact m4 a w _ h t5
  have t3 : ∀ a w, A3 true a w → wpAnyIn F n P .any ops Q 3 #[true, true, true, false, false, false] a w := fun a w h =>
    anyIn_step _ q3 (by simp) fun i hi => by obtain rfl : i = 3 := (by simpa using hi); exact m3 true a w _ h t4
  have t2 : ∀ a w, A2 true a w → wpAnyIn F n P .any ops Q 4 #[true, true, false, false, false, false] a w := fun a w h =>
    anyIn_step _ q2 (by simp) fun i hi => by obtain rfl : i = 2 := (by simpa using hi); exact m2 true a w _ h t3
  have t1 : ∀ a w, A1 true a w → wpAnyIn F n P .any ops Q 5 #[true, false, false, false, false, false] a w := fun a w h =>
    anyIn_step _ q1 (by simp) fun i hi => by obtain rfl : i = 1 := (by simpa using hi); exact m1 true a w _ h t2
  have s4 : ∀ a w, A4 false a w → wpAnyIn F n P .any ops Q 3 #[false, true, true, true, false, false] a w := fun a w h =>
    anyIn_step _ p3 (by simp) fun i hi => by obtain rfl : i = 0 := (by simpa using hi); exact l4 a w _ h t4
  have s3 : ∀ a w, A3 false a w → wpAnyIn F n P .any ops Q 4 #[false, true, true, false, false, false] a w := fun a w h =>
    anyIn_step _ p2 (by simp) fun i hi => by
      simp only [List.mem_cons, List.not_mem_nil, or_false] at hi
      rcases hi with rfl | rfl
      · exact l3 a w _ h t3
      · exact m3 false a w _ h s4
  have s2 : ∀ a w, A2 false a w → wpAnyIn F n P .any ops Q 5 #[false, true, false, false, false, false] a w := fun a w h =>
    anyIn_step _ p1 (by simp) fun i hi => by
      simp only [List.mem_cons, List.not_mem_nil, or_false] at hi
      rcases hi with rfl | rfl
      · exact l2 a w _ h t2
      · exact m2 false a w _ h s3
  exact anyIn_step _ q0 (by simp) fun i hi => by
    simp only [List.mem_cons, List.not_mem_nil, or_false] at hi
    rcases hi with rfl | rfl
    · exact l1 a _ _ h0 t1
    · exact m1 false a _ _ h0 s2
end

/-- An operation that is sure to be done, by its run. -/
theorem opIn_run {n l : Nat} {P : Program} {ops : Array Oper} {Q : Exit → Act → World → Prop} {i : Nat} {o : Oper} {a : Act} {w w' : World} {v : Value} {K : Act → World → Prop} (ho : ops[i]? = some o) (hg : o.guard = none)
    (hr : (o.semAt (some l) a.eval).run P w = .ok (.value v) w') (hK : K (a.put o.dst v) w') : wpOpIn (Fence.wide.inRound l) n P ops Q i K a w := by
  unfold wpOpIn
  simp only [ho]
  rw [if_pos (by simp [Region.wanted, hg])]
  refine ⟨fun _ _ => trivial, ?_⟩
  show o.uponIn _ _ _ _ _ _ ((o.semAt (some l) a.eval).run P w)
  rw [hr]
  exact hK
theorem opIn_skip {n l : Nat} {P : Program} {ops : Array Oper} {Q : Exit → Act → World → Prop} {i : Nat} {o : Oper} {a : Act} {w w' : World} {K : Act → World → Prop} (ho : ops[i]? = some o) (hg : o.guard = none)
    (hr : (o.semAt (some l) a.eval).run P w = .ok .skip w') (hK : K (a.put o.dst undef) w') : wpOpIn (Fence.wide.inRound l) n P ops Q i K a w := by
  unfold wpOpIn
  simp only [ho]
  rw [if_pos (by simp [Region.wanted, hg])]
  refine ⟨fun _ _ => trivial, ?_⟩
  show o.uponIn _ _ _ _ _ _ ((o.semAt (some l) a.eval).run P w)
  rw [hr]
  exact hK
theorem opIn_call {n l : Nat} {P : Program} {ops : Array Oper} {Q : Exit → Act → World → Prop} {i : Nat} {o : Oper} {a : Act} {w w' : World} {f : FuncId} {args : Array Value} {K : Act → World → Prop} (ho : ops[i]? = some o) (hg : o.guard = none)
    (hr : (o.semAt (some l) a.eval).run P w = .ok (.enter f args) w') {R : Ending → World → Prop} (hc : Calls P f args w' R) (hK : ∀ e w'', R e w'' → ∃ v, e = .returned v ∧ K (a.put o.dst v) w'') : wpOpIn (Fence.wide.inRound l) n P ops Q i K a w := by
  unfold wpOpIn
  simp only [ho]
  rw [if_pos (by simp [Region.wanted, hg])]
  refine ⟨fun _ _ => trivial, ?_⟩
  show o.uponIn _ _ _ _ _ _ ((o.semAt (some l) a.eval).run P w)
  rw [hr]
  refine ⟨fun h => by simp [Fence.wide, Fence.inRound] at h, CallsIn.mono (CallsIn.inRound l (callsIn_wide.2 hc)) ?_⟩
  intro e w'' h
  obtain ⟨v, rfl, h2⟩ := hK e w'' h
  exact h2
theorem opIn_app {n l : Nat} {P : Program} {ops : Array Oper} {Q : Exit → Act → World → Prop} {i0 : Nat} {o : Oper} {a : Act} {w : World} {K : Act → World → Prop} (hoi : ops[i0]? = some o) (hgd : o.guard = none) (s x : Operand) (t tx : TypeId)
    (ho : o.op = .call { callee := .builtin .append, args := #[s, x], argTypes := #[t, tx] })
    (e : TypeId) (i : TypeInfo) (z : Value) (size bytes : Nat) (ht : P.underlying t = some (.slice e)) (hi : P.info? e = some i) (hz : i.zero = some z)
    (hsize : i.size = size) (hby : i.bytes = bytes) (hzs : z.cells.size = size) (hsz : 0 < size)
    (v : Value) (k : Nat) (xs : List Value) (hv : a.eval s = v) (hown : Own w e size v k xs) (xv : Value) (m : Nat) (news : List Value) (hx : a.eval x = xv) (hs : Src P size tx xv m news w)
    (h63 : k + m ≤ maxLen) (hbytes : (k + m) * bytes ≤ 140737488355328)
    (h : ∀ av c w', Own w' e size (.slice av (k + m) c) (k + m) (xs ++ news) → Fr (rowOf v) w w' → (rowOf v = rowOf (.slice av (k + m) c) ∨ ∀ b, rowOf (.slice av (k + m) c) b → w.heap.size ≤ b) →
      K (a.put o.dst (.slice av (k + m) c)) w') : wpOpIn (Fence.wide.inRound l) n P ops Q i0 K a w := by
  obtain ⟨av, c, w', hr, h2, h3, h4⟩ := run_app (P := P) w t tx o.type e i z size bytes ht hi hz hsize hby hzs hsz v k xs hown xv m news hs h63 hbytes
  refine opIn_run (w' := w') hoi hgd ?_ (h av c w' h2 h3 h4)
  rw [Oper.semAt_some _ _ _ (by rw [ho]; intro c h; exact Op.noConfusion h)]
  unfold execOp
  simp only [ho, resolve, invoke, builtin, Sem.run_bind, Sem.run_pure, Result.andThen_ok, List.map_toArray, List.map_cons, List.map_nil, hv, hx, hr]
end Go.Proofs.YtbhklkolkclflaaGreatDoor
/- R4: The iterators of package slices over groups: a contract in which the caller's invariant carries all. -/
namespace Go.Proofs.YtbhklkolkclflaaGreatDoor
open Go.RowKit
attribute [local go_sem] Oper.semAt_some

set_option maxRecDepth 100000 in
set_option maxHeartbeats 2000000 in
/-- slices.Backward's closure over groups. -/
theorem back1_groups (m l box g off n cap : Nat) (a : Option Addr) (ha : 0 < n → a = some ⟨g, off, none⟩) (el : Nat → Value) (hm : 1 ≤ m) (hn : n * 24 ≤ 140737488355328) (J : Nat → World → Prop)
    (hJ : ∀ k W, J k W → W.cell? ⟨box, 0, none⟩ = some (.slice a n cap) ∧ ∀ j, j < n → W.cell? ⟨g, off + j, none⟩ = some (el j))
    (hY : ∀ k i W, J k W → i + k + 1 = n → YieldAt Fence.wide (m - 1) Tryz.prog l #[.int .i64 i, el i] W fun e W' => e = .returned (.bool true) ∧ J (k + 1) W')
    (W : World) (h0 : J 0 W) :
    CallsIn Fence.wide m Tryz.prog 244 #[.func (.yield l) #[] #[], .pointer (some ⟨box, 0, none⟩)] W fun e W' => (∃ v, e = .returned v) ∧ J n W' := by
  have HJ := Lib.hid hJ
  have HY := Lib.hid hY
  have hb0 := (hJ 0 W h0).1
  clear hJ hY
  refine callsIn_of_wp Tryz.func244 rfl trivial ?_ rfl
  simp only [Tryz.ntmps244, List.size_toArray, List.length_cons, List.length_nil, Nat.reduceAdd, Nat.reduceSub, Array.replicate_succ, Array.replicate_zero, List.push_toArray, List.append_toArray, List.nil_append, List.cons_append]
  gi_wp2
  gi_loopw [3] (fun i wr => ∃ k : Nat, ∃ i' : Int, i = .int .i64 i' ∧ i' + k + 1 = n ∧ k ≤ n ∧ J k wr) (fun i _ => (intOf i + 1).toNat)
  case atStart => exact ⟨0, _, rfl, by omega, Nat.zero_le _, h0⟩
  case round =>
    obtain ⟨k, i', rfl, hik, hkn, hJk⟩ := hrel
    have HIK := Lib.hid hik
    by_cases hlt : k < n
    · obtain ⟨i, rfl⟩ : ∃ i : Nat, i' = i := ⟨i'.toNat, by omega⟩
      have hin : i < n := by omega
      have hk1 : i + k + 1 = n := by omega
      obtain ⟨hb, hcs⟩ := HJ.out k wr hJk
      obtain rfl := ha (by omega)
      have c0 := hcs i hin
      obtain ⟨fn, tmps, assign, body, hy, hR⟩ := HY.out k i wr hJk hk1
      clear hcs hik hk1
      generalize el i = x0 at *
      gi_wp2
      refine hR.mono ?_
      rintro e W3 ⟨rfl, hJ3⟩
      gi_wp2
      go_roundw
      case rel => exact ⟨k + 1, _, rfl, by have := HIK.out; omega, by omega, hJ3⟩
      case measure =>
        have := HIK.out
        simp only [intOf]
        omega
    · have hi : i' = -1 := by omega
      subst hi
      obtain rfl : k = n := by omega
      gi_wp2
      go_end0
      exact ⟨⟨_, rfl⟩, hJk⟩

/-- slices.Backward over groups. -/
theorem back_groups (m : Nat) (a : Option Addr) (n c : Nat) (w : World) :
    CallsIn Fence.wide m Tryz.prog 228 #[.slice a n c] w fun e w' => e = .returned (.func (.func 244) #[] #[.pointer (some ⟨w.heap.size, 0, none⟩)]) ∧ w' = w.alloc (.cells #[.slice a n c] 212) := by
  refine callsIn_of_wp Tryz.func228 rfl trivial ?_ rfl
  simp only [Tryz.ntmps228, List.size_toArray, List.length_cons, List.length_nil, Nat.reduceAdd, Nat.reduceSub, Array.replicate_succ, Array.replicate_zero, List.push_toArray, List.append_toArray, List.nil_append, List.cons_append]
  gi_wp2
  go_ret
  exact ⟨rfl, rfl⟩
end Go.Proofs.YtbhklkolkclflaaGreatDoor
/- R5: A range over a function whose body leaves in the first round. -/
namespace Go.Proofs.YtbhklkolkclflaaGreatDoor
open Go.RowKit

theorem range_break {P : Program} {n : Nat} {g : Operand} {ps : Array Tmp} {assign body : Code} {Q : Exit → Act → World → Prop} {a : Act} {w : World}
    (f0 : FuncId) (lb : Array Value) (hg : a.eval g = .func (.func f0) #[] lb)
    (hinv : ∀ l W, (invoke (.fn (.func f0) lb) #[.func (.yield l) #[] #[]]).run P W = .ok (.enter f0 (#[.func (.yield l) #[] #[]] ++ lb)) W)
    (id : Nat) (G : Array Value → World → Prop)
    (hit : ∀ (l : Nat) (W : World) (J1 : World → Prop), Fr nob w W → (∀ V args, Fr nob W V → G args V → YieldAt Fence.wide (n - 1 - 1) P l args V fun e W' => e = .returned (.bool false) ∧ J1 W') →
      CallsIn Fence.wide (n - 1) P f0 (#[.func (.yield l) #[] #[]] ++ lb) W fun e W' => (∃ v, e = .returned v) ∧ J1 W')
    (hsz : ∀ args V, G args V → args.size = ps.size) (T : Array Value → Array Value) (hT : ∀ args V, G args V → (ps.zip args).foldl (fun tmps (t, x) => tmps.setIfInBounds t x) a.tmps = T args)
    (U : World → Prop)
    (hU : ∀ W W', U W → Fr (fun b => b = w.heap.size ∨ b = w.heap.size + 1) W W' → (∀ b, b = w.heap.size ∨ b = w.heap.size + 1 → ∀ c T fr, W.heap[b]? ≠ some (.cells c T fr)) → U W')
    (hround : ∀ args W, Fr nob w W → G args W → w.heap.size + 1 < W.heap.size → (∀ b, b = w.heap.size ∨ b = w.heap.size + 1 → ∀ c T fr, W.heap[b]? ≠ some (.cells c T fr)) → assign.wpIn (Fence.wide.inRound (w.heap.size + 1)) (n - 1 - 1) P
      (Exit.then (fun a1 W1 => W1.heap[w.heap.size]? = W.heap[w.heap.size]? ∧ W1.heap[w.heap.size + 1]? = W.heap[w.heap.size + 1]? ∧
        ∀ W2, w.heap.size + 1 < W2.heap.size → Fr (one (w.heap.size + 1)) W1 W2 → (∀ b, b = w.heap.size ∨ b = w.heap.size + 1 → ∀ c T fr, W2.heap[b]? ≠ some (.cells c T fr)) → body.wpIn (Fence.wide.inRound (w.heap.size + 1)) (n - 1 - 1) P
          (fun e _ W3 => e = .exit id ∧ U W3 ∧ W3.heap[w.heap.size]? = W2.heap[w.heap.size]? ∧ W3.heap[w.heap.size + 1]? = W2.heap[w.heap.size + 1]?) a1 W2)
        (fun _ _ _ => False))
      { tmps := T args, defers := [] } W)
    (hdone : ∀ W, U W → W.heap[w.heap.size]? = some (.deferred (some [])) → w.heap.size + 1 < W.heap.size →
      Q (.exit id) { a with defers := [{ target := .collected w.heap.size, args := #[] }] ++ a.defers } W) :
    (Code.rangeFunc g ps assign body).wpIn Fence.wide n P Q a w := by
  refine wpIn_rangeFunc fun fn _ => ?_
  let D := w.heap.size
  let l := w.heap.size + 1
  let w1 := w.alloc (.deferred (some []))
  let w2 := w1.alloc (loopRec fn a ps assign body D .ready none)
  have hD2 : w2.heap[D]? = some (.deferred (some [])) := (heap_alloc_lt _ (by simp [w1, D])).trans (heap_alloc_new w _)
  have hl2 : w2.heap[l]? = some (loopRec fn a ps assign body D .ready none) := by
    have h := heap_alloc_new w1 (loopRec fn a ps assign body D .ready none)
    have e : w1.heap.size = l := by simp [w1, l]
    rw [e] at h
    exact h
  have hres : (resolve a.eval (rangeCall g l) 0).run P w2 = .ok { target := .fn (.func f0) lb, args := #[.func (.yield l) #[] #[]] } w2 := by
    show (Deferred.ofValue (a.eval g) (#[Operand.const (.func (.yield l) #[] #[])].map a.eval)).run P w2 = _
    rw [hg]
    simp [Deferred.ofValue, Act.eval]
  have hent : (Instr.enterLoop fn a.tmps ps assign body Fence.wide.round).run P w = .ok (l, [{ target := .collected D, args := #[] }]) w2 := run_enterLoop_outer _ _ _ _ _
  refine ⟨l, [{ target := .collected D, args := #[] }], w2, { target := .fn (.func f0) lb, args := #[.func (.yield l) #[] #[]] }, w2, f0, #[.func (.yield l) #[] #[]] ++ lb, w2, hent, hres, fun _ _ => trivial, hinv l w2, fun h => (by simp [Fence.wide] at h), ?_⟩
  have hDl : D ≠ l := by simp [D, l]
  have frl : ∀ W o, Fr (one l) W (World.putObj W l o) := fun W o => (Fr.refl _ _).putObj l o (fun _ => rfl)
  have up : ∀ W W' r, U W → W.heap[l]? = some (.loop r) → W.heap[D]? = some (.deferred (some [])) → Fr (one l) W W' → U W' := fun W W' r hu hl hd hf => by
    refine hU W W' hu (hf.mono (fun _ _ h => .inr h)) ?_
    rintro b (rfl | rfl) c T fr e
    · rw [show W.heap[w.heap.size]? = _ from hd] at e
      cases e
    · rw [show W.heap[w.heap.size + 1]? = _ from hl] at e
      cases e
  have hfr2 : Fr nob w w2 := ((Fr.refl _ _).alloc _).alloc _
  refine (hit l w2 (fun W => U W ∧ W.heap[l]? = some (loopRec fn a ps assign body D .done (some (.exit id))) ∧ W.heap[D]? = some (.deferred (some []))) hfr2 ?_).mono ?_
  · intro W args hfW hGA
    have hl := hfW.keep hl2 (fun h => h)
    have hd := hfW.keep hD2 (fun h => h)
    have hls := blk_lt hl
    refine ⟨fn, T args, assign, body, ?_, ?_⟩
    · rw [← hT args W hGA]
      simp [Instr.yield, run_getLoop hl, hsz args W hGA]
    · refine roundIn_of_wpIn trivial (wpIn_mono (hround args W (hfr2.then hfW) hGA hls (by
        rintro b (rfl | rfl) c T fr e
        · rw [show W.heap[w.heap.size]? = _ from hd] at e
          cases e
        · rw [show W.heap[w.heap.size + 1]? = _ from hl] at e
          cases e)) ?_)
      intro e a1 W1 h
      cases e with
      | normal =>
        obtain ⟨hd1, hl1, hb⟩ := h
        replace hl1 : W1.heap[l]? = some (loopRec fn a ps assign body D .ready none) := hl1.trans hl
        replace hd1 : W1.heap[D]? = some (.deferred (some [])) := hd1.trans hd
        have hls1 := blk_lt hl1
        refine ⟨World.putObj W1 l (loopRec fn a ps assign body D .busy none), ?_, ?_⟩
        · simp only [Instr.beginRound]
          simp [run_getLoop hl1, run_setLoop hl1]
        · refine wpIn_mono (hb _ (by simp [World.putObj]; exact hls1) (frl _ _) ?nc) ?_
          case nc =>
            rintro b (rfl | rfl) c T fr e
            · rw [show (World.putObj W1 l _).heap[w.heap.size]? = some (.deferred (some [])) from (putObj_ne hDl).trans hd1] at e
              cases e
            · rw [show (World.putObj W1 l _).heap[w.heap.size + 1]? = _ from putObj_same hls1 _ rfl] at e
              cases e
          rintro e a3 W3 ⟨rfl, hu3, hd3, hl3⟩
          replace hl3 : W3.heap[l]? = some (loopRec fn a ps assign body D .busy none) := hl3.trans (putObj_same hls1 _ rfl)
          replace hd3 : W3.heap[D]? = some (.deferred (some [])) := hd3.trans ((putObj_ne hDl).trans hd1)
          have hls3 := blk_lt hl3
          refine ⟨.bool false, World.putObj W3 l (loopRec fn a ps assign body D .done (some (.exit id))), ?_, rfl, up _ _ _ hu3 hl3 hd3 (frl _ _), putObj_same hls3 _ rfl, by rw [putObj_ne hDl]; exact hd3⟩
          simp [Instr.endRound, run_getLoop hl3, run_setLoop hl3]
      | exit id => exact h.elim
      | goto t => exact h.elim
      | ret => exact h.elim
      | panic chain => exact h.elim
      | outgrown => exact h.elim
  · rintro e W ⟨⟨v, rfl⟩, hu, hl, hd⟩
    have hls := blk_lt hl
    refine ⟨some (.exit id), World.putObj W l (loopRec fn a ps assign body D .exhausted (some (.exit id))), ?_, ?_⟩
    · simp [Instr.endLoop, run_getLoop hl, run_setLoop hl]
    · exact wpIn_exit (hdone _ (up _ _ _ hu hl hd (frl _ _)) (by rw [putObj_ne hDl]; exact hd) (by simp [World.putObj]; exact hls))
end Go.Proofs.YtbhklkolkclflaaGreatDoor
/- U1: Package undo, first part: what a list is, and its small calls. -/
namespace Go.Proofs.YtbhklkolkclflaaGreatDoor
open Go.RowKit

/-- An edit: where, what goes, what comes. -/
abbrev EditP := Int × List Int × List Int

/-- The cells of edits by value. -/
def edCells (w : World) : List Value → List EditP → Prop
  | xs, [] => xs = []
  | xs, e :: es => ∃ d cd i ci rest, xs = .int .i64 e.1 :: .slice d e.2.1.length cd :: .slice i e.2.2.length ci :: rest ∧
      Own w 21 1 (.slice d e.2.1.length cd) e.2.1.length (runes e.2.1) ∧ Own w 21 1 (.slice i e.2.2.length ci) e.2.2.length (runes e.2.2) ∧ edCells w rest es

theorem edCells.stay {w w' : World} {M : Nat → Prop} (hf : Fr M w w') (hr : NR w M) : ∀ {es : List EditP} {xs : List Value}, edCells w xs es → edCells w' xs es
  | [], _, h => h
  | _ :: _, _, ⟨d, cd, i, ci, rest, h1, h2, h3, h4⟩ => ⟨d, cd, i, ci, rest, h1, h2.stay hf hr, h3.stay hf hr, edCells.stay hf hr h4⟩

theorem edCells.length {w : World} : ∀ {es : List EditP} {xs : List Value}, edCells w xs es → xs.length = es.length * 3
  | [], _, h => by cases h; rfl
  | _ :: _, _, ⟨_, _, _, _, _, h1, _, _, h4⟩ => by
    rw [h1]
    simp only [List.length_cons, edCells.length h4]
    omega
theorem edCells.one {w : World} : ∀ {es : List EditP} {xs : List Value}, edCells w xs es → ∀ u ∈ xs, u.oneCell' = true
  | [], _, h => by cases h; simp
  | _ :: _, _, ⟨_, _, _, _, _, h1, _, _, h4⟩ => by
    intro u hu
    rw [h1] at hu
    simp only [List.mem_cons] at hu
    rcases hu with rfl | rfl | rfl | hu
    · rfl
    · rfl
    · rfl
    · exact edCells.one h4 u hu

theorem edCells.append {w : World} : ∀ {es fs : List EditP} {xs ys : List Value}, edCells w xs es → edCells w ys fs → edCells w (xs ++ ys) (es ++ fs)
  | [], _, _, _, h, h' => by cases h; exact h'
  | _ :: _, _, _, _, ⟨d, cd, i, ci, rest, h1, h2, h3, h4⟩, h' => ⟨d, cd, i, ci, _, by rw [h1]; rfl, h2, h3, edCells.append h4 h'⟩

theorem edCells.drop {w : World} : ∀ {es : List EditP} {xs : List Value} (k : Nat), edCells w xs es → edCells w (xs.drop (k * 3)) (es.drop k)
  | _, _, 0, h => by simpa using h
  | [], _, k + 1, h => by cases h; simp [edCells]
  | _ :: es, _, k + 1, ⟨d, cd, i, ci, rest, h1, _, _, h4⟩ => by
    rw [h1, show (k + 1) * 3 = k * 3 + 3 by omega]
    exact edCells.drop k h4
theorem edCells.take {w : World} : ∀ {es : List EditP} {xs : List Value} (k : Nat), edCells w xs es → edCells w (xs.take (k * 3)) (es.take k)
  | _, _, 0, _ => by simp [edCells]
  | [], _, k + 1, h => by cases h; simp [edCells]
  | _ :: es, _, k + 1, ⟨d, cd, i, ci, rest, h1, h2, h3, h4⟩ => by
    rw [h1, show (k + 1) * 3 = k * 3 + 3 by omega]
    exact ⟨d, cd, i, ci, _, rfl, h2, h3, edCells.take k h4⟩

/-- The k-th edit's cells. -/
theorem edCells.at {w : World} : ∀ {es : List EditP} {xs : List Value} (k : Nat) (hk : k < es.length), edCells w xs es →
    ∃ d cd i ci, xs[k * 3]? = some (.int .i64 es[k].1) ∧ xs[k * 3 + 1]? = some (.slice d es[k].2.1.length cd) ∧ xs[k * 3 + 2]? = some (.slice i es[k].2.2.length ci) ∧
      Own w 21 1 (.slice d es[k].2.1.length cd) es[k].2.1.length (runes es[k].2.1) ∧ Own w 21 1 (.slice i es[k].2.2.length ci) es[k].2.2.length (runes es[k].2.2)
  | [], _, _, hk, _ => absurd hk (by simp)
  | _ :: _, _, 0, _, ⟨d, cd, i, ci, _, h1, h2, h3, _⟩ => ⟨d, cd, i, ci, by rw [h1]; rfl, by rw [h1]; rfl, by rw [h1]; rfl, h2, h3⟩
  | _ :: es, _, k + 1, hk, ⟨_, _, _, _, rest, h1, _, _, h4⟩ => by
    obtain ⟨d, cd, i, ci, g1, g2, g3, g4, g5⟩ := edCells.at k (by simpa using hk) h4
    refine ⟨d, cd, i, ci, ?_, ?_, ?_, g4, g5⟩
    · rw [h1, show (k + 1) * 3 = k * 3 + 3 by omega]; exact g1
    · rw [h1, show (k + 1) * 3 + 1 = k * 3 + 1 + 3 by omega]; exact g2
    · rw [h1, show (k + 1) * 3 + 2 = k * 3 + 2 + 3 by omega]; exact g3

/-- One edit's cells. -/
theorem EditV.cells {w : World} {v : Value} {f : Int} {d i : List Int} (h : EditV w v f d i) : edCells w v.cells.toList [(f, d, i)] := by
  obtain ⟨a, b, ca, cb, rfl, h1, h2⟩ := h
  exact ⟨a, ca, b, cb, [], rfl, h1, h2, rfl⟩
theorem EditV.stay {w w' : World} {M : Nat → Prop} {v : Value} {f : Int} {d i : List Int} (h : EditV w v f d i) (hf : Fr M w w') (hr : NR w M) : EditV w' v f d i := by
  obtain ⟨a, b, ca, cb, rfl, h1, h2⟩ := h
  exact ⟨a, b, ca, cb, rfl, h1.stay hf hr, h2.stay hf hr⟩

/-- An owned slice that is nil, if it has no capacity. -/
structure OwnZ (w : World) (e size : Nat) (v : Value) (n : Nat) (xs : List Value) : Prop where
  own : Own w e size v n xs
  nil : ∀ a n, v = .slice a n 0 → a = none
theorem OwnZ.none (w : World) (e size : Nat) : OwnZ w e size (.slice none 0 0) 0 [] := ⟨Own.nil _ _ _, fun _ _ h => by injection h with h; exact h.symm⟩
theorem OwnZ.stay {w w' : World} {M : Nat → Prop} {e size : Nat} {v : Value} {n : Nat} {xs : List Value} (h : OwnZ w e size v n xs) (hf : Fr M w w') (hm : ∀ b, rowOf v b → ¬ M b) : OwnZ w' e size v n xs := by
  obtain ⟨a, c, rfl, _, _⟩ := h.own.val
  refine ⟨h.own.stayA hf (fun ad ea => ?_), h.nil⟩
  by_cases hc : c = 0
  · subst hc
    rw [h.nil _ _ rfl] at ea
    cases ea
  · exact hm _ ⟨ad, _, c, by rw [ea], by omega, rfl⟩
theorem OwnZ.of {w : World} {e size : Nat} {v : Value} {n : Nat} {xs : List Value} (h : Own w e size v n xs) (h0 : 0 < n) : OwnZ w e size v n xs := by
  refine ⟨h, fun a m ea => ?_⟩
  obtain ⟨a', c', e', h', _⟩ := h.val
  rw [ea] at e'
  injection e' with _ _ e3
  omega

/-- An owned slice of edits; without capacity it is nil. -/
structure EdS (w : World) (v : Value) (es : List EditP) : Prop where
  ex : ∃ xs, Own w 168 3 v es.length xs ∧ edCells w xs es
  nil : ∀ a n, v = .slice a n 0 → a = none

theorem EdS.none (w : World) : EdS w (.slice none 0 0) [] := ⟨⟨[], Own.nil _ _ _, rfl⟩, fun _ _ h => by injection h with h; exact h.symm⟩
theorem EdS.val {w : World} {v : Value} {es : List EditP} (h : EdS w v es) : ∃ a c, v = .slice a es.length c ∧ es.length ≤ c ∧ c ≤ maxLen := by
  obtain ⟨⟨xs, h, _⟩, _⟩ := h
  exact h.val

/-- What is written: neither outside of F nor a row of runes. -/
def wr (w : World) (F : Nat → Prop) : Nat → Prop := fun b => F b ∧ ∀ c fr, w.heap[b]? ≠ some (.cells c 21 fr)
/-- With what is new. -/
def plus (w : World) (F : Nat → Prop) : Nat → Prop := fun b => F b ∨ w.heap.size ≤ b

theorem NR.wr (w : World) (F : Nat → Prop) : NR w (wr w F) := fun _ c fr h hm => hm.2 c fr h
theorem Fr.wr {w w' : World} {M F : Nat → Prop} (h : Fr M w w') (hM : ∀ b, b < w.heap.size → M b → F b) (hr : NR w M) : Fr (wr w F) w w' :=
  h.mono (fun b hb hm => ⟨hM b hb hm, fun c fr e => hr b c fr e hm⟩)
theorem wr.trans {w w1 w2 : World} {F : Nat → Prop} (h : Fr (wr w F) w w1) (h1 : Fr (wr w1 (plus w F)) w1 w2) : Fr (wr w F) w w2 :=
  h.trans h1 (fun b hb hm => ⟨hm.1.elim id (fun hx => absurd hx (by omega)), fun c fr e => hm.2 c fr (h.keep e (fun hx => hx.2 c fr e))⟩)
theorem wr.then {w w1 w2 : World} {F : Nat → Prop} (h : Fr (wr w F) w w1) (h1 : Fr (wr w1 F) w1 w2) : Fr (wr w F) w w2 :=
  wr.trans h (h1.mono (fun _ _ hm => ⟨.inl hm.1, hm.2⟩))
theorem wr.nobAfter {w w1 w2 : World} {F : Nat → Prop} (h : Fr nob w w1) (h1 : Fr (wr w1 (plus w F)) w1 w2) : Fr (wr w F) w w2 :=
  wr.trans (h.wr (fun _ _ hx => hx.elim) (NR.nob w)) h1
theorem plus.mono {w : World} {F G : Nat → Prop} (h : ∀ b, F b → G b) : ∀ b, plus w F b → plus w G b := fun _ hb => hb.imp (h _) id
theorem plus.grow {w w1 : World} {F : Nat → Prop} (h : w.heap.size ≤ w1.heap.size) : ∀ b, plus w1 F b → plus w F b := fun _ hb => hb.imp id (fun hx => Nat.le_trans h hx)
theorem plus.idem {w w1 : World} {F : Nat → Prop} (h : w.heap.size ≤ w1.heap.size) : ∀ b, plus w1 (plus w F) b → plus w F b := fun _ hb => hb.elim id (fun hx => .inr (Nat.le_trans h hx))

theorem EdS.stay {w w' : World} {M : Nat → Prop} {v : Value} {es : List EditP} (h : EdS w v es) (hf : Fr M w w') (hr : NR w M) (hm : ∀ b, rowOf v b → ¬ M b) : EdS w' v es := by
  obtain ⟨⟨xs, h1, h2⟩, h3⟩ := h
  obtain ⟨a, c, rfl, _, _⟩ := h1.val
  refine ⟨⟨xs, h1.stayA hf (fun ad e => ?_), h2.stay hf hr⟩, h3⟩
  by_cases hc : c = 0
  · subst hc
    rw [h3 _ _ rfl] at e
    cases e
  · exact hm _ ⟨ad, _, c, by rw [e], by omega, rfl⟩
theorem EdS.stayN {w w' : World} {v : Value} {es : List EditP} (h : EdS w v es) (hf : Fr nob w w') : EdS w' v es := h.stay hf (NR.nob w) (fun _ _ h => h)
theorem EdS.lt {w : World} {v : Value} {es : List EditP} (h : EdS w v es) : ∀ b, rowOf v b → b < w.heap.size := by
  obtain ⟨⟨xs, h1, _⟩, _⟩ := h
  rintro b ⟨ad, n, c, rfl, _, rfl⟩
  obtain ⟨_, _, hv, _⟩ := h1.val
  injection hv with e1 e2 e3
  subst e1 e2 e3
  exact h1.lt _ rfl
theorem EdS.ofMade {w : World} {v : Value} {es : List EditP} {xs : List Value} (h : Own w 168 3 v es.length xs) (hc : edCells w xs es) (h0 : es ≠ []) : EdS w v es := by
  refine ⟨⟨xs, h, hc⟩, fun a n e => ?_⟩
  obtain ⟨a', c', e', h', _⟩ := h.val
  rw [e] at e'
  injection e' with _ _ e3
  have := List.length_pos_iff.2 h0
  omega

theorem Own.rowTy {w : World} {e size : Nat} {v : Value} {n : Nat} {xs : List Value} (h : Own w e size v n xs) {b : Nat} (hb : rowOf v b) : ∃ c fr, w.heap[b]? = some (.cells c e fr) := by
  obtain ⟨ad, n', c', rfl, hc, rfl⟩ := hb
  rcases h.2.2 with ⟨a', hv, _⟩ | ⟨g, cap, cur, hv, hg, _⟩
  · injection hv with _ _ hv
    omega
  · injection hv with hv
    injection hv with hv
    subst hv
    exact ⟨_, _, hg⟩
theorem Own.rowNe {w : World} {e size : Nat} {v : Value} {n : Nat} {xs : List Value} (h : Own w e size v n xs) {b l : Nat} (hb : rowOf v b) {c : Array Value} {T : TypeId} {fr : Nat × Nat}
    (hl : w.heap[l]? = some (.cells c T fr)) (hT : T ≠ e) : b ≠ l := by
  rintro rfl
  obtain ⟨c', fr', h'⟩ := h.rowTy hb
  rw [hl] at h'
  injection h' with h'
  injection h' with _ h'
  exact hT h'
theorem EdS.own {w : World} {v : Value} {es : List EditP} (h : EdS w v es) : ∃ xs, Own w 168 3 v es.length xs := by
  obtain ⟨⟨xs, h, _⟩, _⟩ := h
  exact ⟨xs, h⟩
theorem EdS.rowNe {w : World} {v : Value} {es : List EditP} (h : EdS w v es) {b l : Nat} (hb : rowOf v b) {c : Array Value} {T : TypeId} {fr : Nat × Nat}
    (hl : w.heap[l]? = some (.cells c T fr)) (hT : T ≠ 168) : b ≠ l := by
  obtain ⟨xs, h⟩ := h.own
  exact h.rowNe hb hl hT

/-- What a list's two slices hold; their rows lie in F. -/
structure ListBody (w : World) (F : Nat → Prop) (gv nv : Value) (vs : List Value) (gs : List (List EditP)) (now : List EditP) : Prop where
  grp : OwnZ w 84 1 gv gs.length vs
  now : EdS w nv now
  each : ∀ k (h : k < gs.length), ∃ v, vs[k]? = some v ∧ EdS w v gs[k] ∧ (∀ b, rowOf v b → F b ∧ ¬ rowOf nv b)
  mg : ∀ b, rowOf gv b → F b
  mn : ∀ b, rowOf nv b → F b

theorem ListBody.mono {w : World} {F G : Nat → Prop} {gv nv : Value} {vs : List Value} {gs : List (List EditP)} {now : List EditP} (h : ListBody w F gv nv vs gs now) (hFG : ∀ b, F b → G b) : ListBody w G gv nv vs gs now :=
  ⟨h.grp, h.now, fun k hk => by obtain ⟨v, g1, g2, g3⟩ := h.each k hk; exact ⟨v, g1, g2, fun b hb => ⟨hFG b (g3 b hb).1, (g3 b hb).2⟩⟩, fun b hb => hFG b (h.mg b hb), fun b hb => hFG b (h.mn b hb)⟩
theorem ListBody.stay {w w' : World} {F M : Nat → Prop} {gv nv : Value} {vs : List Value} {gs : List (List EditP)} {now : List EditP} (h : ListBody w F gv nv vs gs now)
    (hf : Fr M w w') (hr : NR w M) (hm : ∀ b, F b → (∃ c fr, w.heap[b]? = some (.cells c 84 fr) ∨ w.heap[b]? = some (.cells c 168 fr)) → ¬ M b) : ListBody w' F gv nv vs gs now := by
  have he : ∀ v es, EdS w v es → (∀ b, rowOf v b → F b) → ∀ b, rowOf v b → ¬ M b := fun v es hv hF b hb => by
    obtain ⟨xs, ho⟩ := hv.own
    obtain ⟨c, fr, hc⟩ := ho.rowTy hb
    exact hm b (hF b hb) ⟨c, fr, .inr hc⟩
  refine ⟨h.grp.stay hf (fun b hb => ?_), h.now.stay hf hr (he _ _ h.now h.mn), fun k hk => ?_, h.mg, h.mn⟩
  · obtain ⟨c, fr, hc⟩ := h.grp.own.rowTy hb
    exact hm b (h.mg b hb) ⟨c, fr, .inl hc⟩
  · obtain ⟨v, g1, g2, g3⟩ := h.each k hk
    exact ⟨v, g1, g2.stay hf hr (he _ _ g2 (fun b hb => (g3 b hb).1)), g3⟩

/-- The list's own block. -/
def ListBlk (w : World) (l : Nat) (gv nv : Value) (opn edits : Int) : Prop := w.heap[l]? = some (.cells #[gv, nv, .int .i64 opn, .int .i64 edits, .bool true] 233 (0, 0))
theorem ListBlk.nr {w : World} {l : Nat} {gv nv : Value} {opn edits : Int} (h : ListBlk w l gv nv opn edits) : NR w (one l) := NR.one h (by decide)
theorem ListBlk.body {w w' : World} {F : Nat → Prop} {l : Nat} {gv nv gv' nv' : Value} {opn edits : Int} {vs : List Value} {gs : List (List EditP)} {now : List EditP} (h : ListBlk w l gv' nv' opn edits)
    (hb : ListBody w F gv nv vs gs now) (hf : Fr (one l) w w') : ListBody w' F gv nv vs gs now :=
  hb.stay hf h.nr (fun b _ ⟨c, fr, hc⟩ e => by
    cases e
    rw [show w.heap[l]? = _ from h] at hc
    rcases hc with hc | hc
    · injection hc with hc
      injection hc with _ hc
      exact absurd hc (by decide)
    · injection hc with hc
      injection hc with _ hc
      exact absurd hc (by decide))
section
variable {w : World} {l : Nat} {gv nv : Value} {opn edits : Int}
theorem ListBlk.set0 (h : ListBlk w l gv nv opn edits) (u : Value) : ListBlk (w.setCell ⟨l, 0, none⟩ u) l u nv opn edits := by
  have h := heap_setCell_same (o := 0) h u
  simpa [ListBlk] using h
theorem ListBlk.set1 (h : ListBlk w l gv nv opn edits) (u : Value) : ListBlk (w.setCell ⟨l, 1, none⟩ u) l gv u opn edits := by
  have h := heap_setCell_same (o := 1) h u
  simpa [ListBlk] using h
theorem ListBlk.set2 (h : ListBlk w l gv nv opn edits) (u : Int) : ListBlk (w.setCell ⟨l, 2, none⟩ (.int .i64 u)) l gv nv u edits := by
  have h := heap_setCell_same (o := 2) h (.int .i64 u)
  simpa [ListBlk] using h
theorem ListBlk.set3 (h : ListBlk w l gv nv opn edits) (u : Int) : ListBlk (w.setCell ⟨l, 3, none⟩ (.int .i64 u)) l gv nv opn u := by
  have h := heap_setCell_same (o := 3) h (.int .i64 u)
  simpa [ListBlk] using h
end

/-- The list at l: groups, the one that is open, how many are open, how many edits there are; it lies in F. -/
structure ListRep (w : World) (F : Nat → Prop) (l : Nat) (gs : List (List EditP)) (now : List EditP) (opn edits : Int) : Prop where
  ex : ∃ (gv nv : Value) (vs : List Value), ListBlk w l gv nv opn edits ∧ ListBody w F gv nv vs gs now
  mem : F l
end Go.Proofs.YtbhklkolkclflaaGreatDoor
/- U2: Package undo, second part: New, none, own, Inverse, Begin. -/
namespace Go.Proofs.YtbhklkolkclflaaGreatDoor
open Go.RowKit

section
variable {w w' : World} {F : Nat → Prop} {l : Nat} {gs : List (List EditP)} {now : List EditP} {opn edits : Int}
theorem ListRep.blk (h : ListRep w F l gs now opn edits) : ∃ a c a' c', ListBlk w l (.slice a gs.length c) (.slice a' now.length c') opn edits := by
  obtain ⟨gv, nv, vs, h1, h2⟩ := h.ex
  obtain ⟨a, c, rfl, _⟩ := h2.grp.own.val
  obtain ⟨a', c', rfl, _⟩ := h2.now.val
  exact ⟨a, c, a', c', h1⟩
theorem ListRep.lt (h : ListRep w F l gs now opn edits) : l < w.heap.size := by
  obtain ⟨_, _, _, _, h⟩ := h.blk
  exact blk_lt h
theorem ListRep.nr (h : ListRep w F l gs now opn edits) : NR w (one l) := by
  obtain ⟨_, _, _, _, h⟩ := h.blk
  exact h.nr
/-- What is changed outside of F leaves the list as it is. -/
theorem ListRep.stay {M : Nat → Prop} (h : ListRep w F l gs now opn edits) (hf : Fr M w w') (hr : NR w M) (hm : ∀ b, F b → ¬ M b) : ListRep w' F l gs now opn edits := by
  obtain ⟨gv, nv, vs, h1, h2⟩ := h.ex
  exact ⟨⟨gv, nv, vs, hf.keep h1 (hm _ h.mem), h2.stay hf hr (fun b hb _ => hm b hb)⟩, h.mem⟩
theorem ListRep.stayN (h : ListRep w F l gs now opn edits) (hf : Fr nob w w') : ListRep w' F l gs now opn edits := h.stay hf (NR.nob w) (fun _ _ h => h)
theorem ListRep.mono {G : Nat → Prop} (h : ListRep w F l gs now opn edits) (hFG : ∀ b, F b → G b) : ListRep w G l gs now opn edits := by
  obtain ⟨gv, nv, vs, h1, h2⟩ := h.ex
  exact ⟨⟨gv, nv, vs, h1, h2.mono hFG⟩, hFG l h.mem⟩
theorem ListRep.set2 (h : ListRep w F l gs now opn edits) (x : Int) : ListRep (w.setCell ⟨l, 2, none⟩ (.int .i64 x)) F l gs now x edits := by
  obtain ⟨gv, nv, vs, h1, h2⟩ := h.ex
  exact ⟨⟨gv, nv, vs, h1.set2 x, h1.body h2 ((Fr.refl _ _).setOne _ _)⟩, h.mem⟩
theorem ListRep.set3 (h : ListRep w F l gs now opn edits) (x : Int) : ListRep (w.setCell ⟨l, 3, none⟩ (.int .i64 x)) F l gs now opn x := by
  obtain ⟨gv, nv, vs, h1, h2⟩ := h.ex
  exact ⟨⟨gv, nv, vs, h1.set3 x, h1.body h2 ((Fr.refl _ _).setOne _ _)⟩, h.mem⟩
/-- A change of the list's own block is one within F. -/
theorem ListRep.own (h : ListRep w F l gs now opn edits) (hf : Fr (one l) w w') : Fr (wr w F) w w' := hf.wr (fun b _ e => by cases e; exact h.mem) h.nr
end

set_option maxRecDepth 10000 in
theorem undo_new (w : World) (F : Nat → Prop) :
    Calls Tryz.prog 183 #[] w fun e w' => e = .returned (.pointer (some ⟨w.heap.size, 0, none⟩)) ∧ ListRep w' (plus w F) w.heap.size [] [] 0 0 ∧ Fr nob w w' := by
  go_enter Tryz.func183, Tryz.ntmps183
  go_wp2
  go_ret
  refine ⟨rfl, ⟨⟨.slice none 0 0, .slice none 0 0, [], heap_alloc_new w _, ⟨OwnZ.none _ _ _, EdS.none _, fun k hk => absurd hk (by simp), ?_, ?_⟩⟩, .inr (Nat.le_refl _)⟩, (Fr.refl _ _).alloc _⟩
  · rintro b ⟨_, _, _, h, _⟩
    cases h
  · rintro b ⟨_, _, _, h, _⟩
    cases h

set_option maxRecDepth 10000 in
theorem undo_none (w : World) (l : Nat) (gv nv : Value) (opn edits : Int) (h : ListBlk w l gv nv opn edits) :
    Calls Tryz.prog 184 #[.pointer (some ⟨l, 0, none⟩)] w fun e w' => e = .returned (.bool false) ∧ w' = w := by
  have hc := blk_cells h
  go_enter Tryz.func184, Tryz.ntmps184
  go_wp2
  go_ret
  exact ⟨rfl, rfl⟩

/-- What a cell holds, for facts that bear writes. -/
def cv (V : World) (r o : Nat) : Value := (V.cell? ⟨r, o, none⟩).getD undef
theorem cv_some {V : World} {r : Nat} {c : Array Value} {T : TypeId} {fr : Nat × Nat} (h : V.heap[r]? = some (.cells c T fr)) (o : Nat) (ho : o < c.size) : V.cell? ⟨r, o, none⟩ = some (cv V r o) := by
  unfold cv
  rw [blk_cells h o, Array.getElem?_eq_getElem ho]
  rfl

/-- What answers an edit in memory of its own. -/
def EditNew (w : World) (f : Int) (d i : List Int) (e : Ending) (w' : World) : Prop := ∃ v, e = .returned v ∧ EditV w' v f d i ∧ Fr nob w w'

set_option maxRecDepth 10000 in
theorem undo_own (w : World) (v : Value) (f : Int) (d i : List Int) (h : EditV w v f d i) (hd : d.length ≤ 100000) (hi : i.length ≤ 100000) :
    Calls Tryz.prog 230 #[v] w (EditNew w f d i) := by
  obtain ⟨da, ia, dc, ic, rfl, h1, h2⟩ := h
  have H1 := Lib.hid h1
  have H2 := Lib.hid h2
  clear h1 h2
  go_enter Tryz.func230, Tryz.ntmps230
  go_wp2
  have hB := (heap_alloc_lt (.cells #[.int .i64 0, .slice none 0 0, .slice none 0 0] 168) (by simp)).trans (heap_alloc_new w (.cells #[.int .i64 f, .slice da d.length dc, .slice ia i.length ic] 168))
  have hR := heap_alloc_new (w.alloc (.cells #[.int .i64 f, .slice da d.length dc, .slice ia i.length ic] 168)) (.cells #[.int .i64 0, .slice none 0 0, .slice none 0 0] 168)
  rw [show (w.alloc (.cells #[.int .i64 f, .slice da d.length dc, .slice ia i.length ic] 168)).heap.size = w.heap.size + 1 by simp] at hR
  refine forget (fun W => Hid (W.heap[w.heap.size]? = some (.cells #[.int .i64 f, .slice da d.length dc, .slice ia i.length ic] 168 (0, 0))) ∧ Hid (W.heap[w.heap.size + 1]? = some (.cells #[.int .i64 0, .slice none 0 0, .slice none 0 0] 168 (0, 0))) ∧ Fr nob w W)
    ⟨hB, hR, ((Fr.refl _ _).alloc _).alloc _⟩ ?_
  clear hB hR
  rintro W ⟨HB, HR, hfW⟩
  have hS : ∀ V, Fr (one (w.heap.size + 1)) W V → (∃ c, c.size = 3 ∧ V.heap[w.heap.size + 1]? = some (.cells c 168 (0, 0))) → (V.cell? ⟨w.heap.size, 0, none⟩ = some (.int .i64 f) ∧ V.cell? ⟨w.heap.size, 1, none⟩ = some (.slice da d.length dc) ∧ V.cell? ⟨w.heap.size, 2, none⟩ = some (.slice ia i.length ic) ∧
      (∀ o, V.frozen? ⟨w.heap.size + 1, o, none⟩ = false) ∧ w.heap.size + 1 < V.heap.size ∧
      V.cell? ⟨w.heap.size + 1, 0, none⟩ = some (cv V (w.heap.size + 1) 0) ∧ V.cell? ⟨w.heap.size + 1, 1, none⟩ = some (cv V (w.heap.size + 1) 1) ∧ V.cell? ⟨w.heap.size + 1, 2, none⟩ = some (cv V (w.heap.size + 1) 2)) := fun V hV ⟨c, hcs, h1⟩ => by
    have h0 := blk_cells (hV.keep HB.out (fun h => absurd h (by show ¬ w.heap.size = w.heap.size + 1; omega)))
    exact ⟨by rw [h0]; rfl, by rw [h0]; rfl, by rw [h0]; rfl, blk_free h1, blk_lt h1, cv_some h1 0 (by omega), cv_some h1 1 (by omega), cv_some h1 2 (by omega)⟩
  have HS := Lib.hid hS
  clear hS
  have hK : ∀ V, Fr nob W V → V.heap[w.heap.size + 1]? = some (.cells #[.int .i64 0, .slice none 0 0, .slice none 0 0] 168 (0, 0)) := fun V hV => hV.keep HR.out (fun h => h)
  have HK := Lib.hid hK
  clear hK
  have hC : ∀ V, Fr nob w V → Calls Tryz.prog 100 #[.slice da d.length dc] V (MadeS V 21 1 d.length (runes d)) := fun V hV => clone_runes V da d.length dc _ (H1.out.stay hV (fun _ _ _ _ h => h)).sl (by omega)
  have hD : ∀ V, Fr nob w V → Calls Tryz.prog 100 #[.slice ia i.length ic] V (MadeS V 21 1 i.length (runes i)) := fun V hV => clone_runes V ia i.length ic _ (H2.out.stay hV (fun _ _ _ _ h => h)).sl (by omega)
  have HC := Lib.hid hC
  have HD := Lib.hid hD
  clear hC hD
  go_region_held3 (fun V => V.cell? ⟨w.heap.size, 0, none⟩ = some (.int .i64 f) ∧ V.cell? ⟨w.heap.size, 1, none⟩ = some (.slice da d.length dc) ∧ V.cell? ⟨w.heap.size, 2, none⟩ = some (.slice ia i.length ic) ∧
      (∀ o, V.frozen? ⟨w.heap.size + 1, o, none⟩ = false) ∧ w.heap.size + 1 < V.heap.size ∧
      V.cell? ⟨w.heap.size + 1, 0, none⟩ = some (cv V (w.heap.size + 1) 0) ∧ V.cell? ⟨w.heap.size + 1, 1, none⟩ = some (cv V (w.heap.size + 1) 1) ∧ V.cell? ⟨w.heap.size + 1, 2, none⟩ = some (cv V (w.heap.size + 1) 2))
    ((go_split_ands; first
      | exact HS.out _ (Fr.refl _ _).drew ⟨_, rfl, HK.out _ (Fr.refl _ _).drew⟩
      | exact HS.out _ (Fr.then (Fr.refl _ _).drew hfr1) ⟨_, rfl, HK.out _ (Fr.then (Fr.refl _ _).drew hfr1)⟩
      | exact HS.out _ (Fr.then (Fr.then (Fr.refl _ _).drew hfr1) hfr2) ⟨_, rfl, HK.out _ (Fr.then (Fr.then (Fr.refl _ _).drew hfr1) hfr2)⟩
      | exact HS.out _ ((((Fr.then (Fr.then (Fr.refl _ _).drew hfr1) hfr2).setOne _ _).setOne _ _).setOne _ _) ⟨_, by simp, heap_setCell_same (heap_setCell_same (heap_setCell_same (HK.out _ (Fr.then (Fr.then (Fr.refl _ _).drew hfr1) hfr2)) _) _) _⟩))
    (first
      | (go_at_call 100; refine (HC.out _ ?_).mono ?_; (exact hfW.then (Fr.refl _ _).drew); rintro e w1 ⟨da2, dc2, rfl, hown1, hfr1, _⟩; have HO1 := Lib.hid hown1; clear hown1)
      | (go_at_call 100; refine (HD.out _ ?_).mono ?_; (exact hfW.then ((Fr.refl _ _).drew.then hfr1)); rintro e w2 ⟨ia2, ic2, rfl, hown2, hfr2, _⟩; have HO2 := Lib.hid hown2; clear hown2))
  rename_i hSV
  clear hSV
  have hR3 := heap_setCell_same (o := 2) (heap_setCell_same (o := 1) (heap_setCell_same (o := 0) (HK.out _ (((Fr.refl _ _).drew.then hfr1).then hfr2)) (.int .i64 f)) (.slice da2 d.length dc2)) (.slice ia2 i.length ic2)
  have hc3 := blk_cells hR3
  have hN : NR w2 (one (w.heap.size + 1)) := NR.one (HK.out _ (((Fr.refl _ _).drew.then hfr1).then hfr2)) (by decide)
  go_wp2
  refine bodyPost_ret (v := .agg #[.int .i64 f, .slice da2 d.length dc2, .slice ia2 i.length ic2]) (by simp [results, Tryz.results230, go_sem, hc3]) rfl ⟨_, rfl, ⟨da2, ia2, dc2, ic2, rfl, ?_, ?_⟩, ?_⟩
  · exact (HO1.out.stay hfr2 (fun _ _ _ _ h => h)).stay ((((Fr.refl (one (w.heap.size + 1)) w2).setOne _ _).setOne _ _).setOne _ _) hN
  · exact HO2.out.stay ((((Fr.refl (one (w.heap.size + 1)) w2).setOne _ _).setOne _ _).setOne _ _) hN
  · exact ((((hfW.then (Fr.refl _ _).drew).then hfr1).then hfr2).setNew _ _ _ (by omega) |>.setNew _ _ _ (by omega)).setNew _ _ _ (by omega)

set_option maxRecDepth 10000 in
theorem undo_inverse (w : World) (v : Value) (f : Int) (d i : List Int) (h : EditV w v f d i) (hd : d.length ≤ 100000) (hi : i.length ≤ 100000) :
    Calls Tryz.prog 233 #[v] w (EditNew w f i d) := by
  obtain ⟨da, ia, dc, ic, rfl, h1, h2⟩ := h
  have H1 := Lib.hid h1
  have H2 := Lib.hid h2
  clear h1 h2
  go_enter Tryz.func233, Tryz.ntmps233
  go_wp2_with fail
  refine (undo_own _ _ f i d ⟨ia, da, ic, dc, rfl, H2.out.stay (((Fr.refl nob w).alloc _).alloc _) (fun _ _ _ _ h => h), H1.out.stay (((Fr.refl nob w).alloc _).alloc _) (fun _ _ _ _ h => h)⟩ hi hd).mono ?_
  rintro e w1 ⟨v, rfl, ⟨ia2, da2, ic2, dc2, rfl, g1, g2⟩, hfr⟩
  have hR := hfr.keep (heap_alloc_new _ _) (fun h => h)
  rw [show (w.alloc (.cells #[.int .i64 f, .slice da d.length dc, .slice ia i.length ic] 168)).heap.size = w.heap.size + 1 by simp] at hR
  have hc := blk_cells hR
  have hz := blk_free hR
  have hlt := blk_lt hR
  have hf1 : Fr nob w w1 := (((Fr.refl nob w).alloc _).alloc _).then hfr
  have G1 := Lib.hid g1
  have G2 := Lib.hid g2
  have hN : NR w1 (one (w.heap.size + 1)) := NR.one hR (by decide)
  clear g1 g2
  go_wp2
  refine bodyPost_ret (v := .agg #[.int .i64 f, .slice ia2 i.length ic2, .slice da2 d.length dc2]) (by simp [results, Tryz.results233, go_sem, hc]) rfl ⟨_, rfl, ⟨ia2, da2, ic2, dc2, rfl, ?_, ?_⟩, ?_⟩
  · exact G1.out.stay ((((Fr.refl (one (w.heap.size + 1)) w1).setOne _ _).setOne _ _).setOne _ _) hN
  · exact G2.out.stay ((((Fr.refl (one (w.heap.size + 1)) w1).setOne _ _).setOne _ _).setOne _ _) hN
  · exact (hf1.setNew _ _ _ (by omega) |>.setNew _ _ _ (by omega)).setNew _ _ _ (by omega)

/-- A call of a list that answers a number. -/
def ListDone (w : World) (F : Nat → Prop) (l : Nat) (n : Int) (gs : List (List EditP)) (now : List EditP) (opn edits : Int) (e : Ending) (w' : World) : Prop :=
  e = .returned (.int .i64 n) ∧ ListRep w' (plus w F) l gs now opn edits ∧ Fr (wr w F) w w'

set_option maxRecDepth 10000 in
theorem undo_begin (w : World) (F : Nat → Prop) (l : Nat) (gs : List (List EditP)) (now : List EditP) (opn edits : Int) (h : ListRep w F l gs now opn edits) (ho : opn.natAbs ≤ 100000) :
    Calls Tryz.prog 178 #[.pointer (some ⟨l, 0, none⟩)] w (ListDone w F l 0 gs now (opn + 1) edits) := by
  have H := Lib.hid h
  obtain ⟨a, c, a', c', hb⟩ := h.blk
  clear h
  have hc := blk_cells hb
  have hz := blk_free hb
  have hlt := blk_lt hb
  go_enter Tryz.func178, Tryz.ntmps178
  go_wp2_with (go_at_call 184; refine (undo_none _ _ _ _ _ _ hb).mono ?_; rintro e w' ⟨rfl, rfl⟩)
  go_ret
  exact ⟨rfl, (H.out.set2 _).mono (fun _ h => .inl h), H.out.own ((Fr.refl _ _).setOne _ _)⟩

set_option maxRecDepth 10000 in
theorem undo_edits (w : World) (F : Nat → Prop) (l : Nat) (gs : List (List EditP)) (now : List EditP) (opn edits : Int) (h : ListRep w F l gs now opn edits) :
    Calls Tryz.prog 171 #[.pointer (some ⟨l, 0, none⟩)] w fun e w' => e = .returned (.int .i64 edits) ∧ w' = w := by
  obtain ⟨a, c, a', c', hb⟩ := h.blk
  clear h
  have hc := blk_cells hb
  go_enter Tryz.func171, Tryz.ntmps171
  go_wp2_with (go_at_call 184; refine (undo_none _ _ _ _ _ _ hb).mono ?_; rintro e w' ⟨rfl, rfl⟩)
  go_ret
  exact ⟨rfl, rfl⟩

set_option maxRecDepth 10000 in
theorem undo_len (w : World) (F : Nat → Prop) (l : Nat) (gs : List (List EditP)) (now : List EditP) (opn edits : Int) (h : ListRep w F l gs now opn edits) (hg : gs.length ≤ 1000000) :
    Calls Tryz.prog 97 #[.pointer (some ⟨l, 0, none⟩)] w fun e w' => e = .returned (.int .i64 (gs.length + min 1 now.length : Nat)) ∧ ∃ k, w' = w.drewN k := by
  obtain ⟨a, c, a', c', hb⟩ := h.blk
  clear h
  have hc := blk_cells hb
  generalize hn1 : gs.length = n1 at *
  generalize hn2 : now.length = n2 at *
  go_enter Tryz.func97, Tryz.ntmps97
  go_wp2_with (go_at_call 184; refine (undo_none _ _ _ _ _ _ hb).mono ?_; rintro e w' ⟨rfl, rfl⟩)
  go_quiet (fail)
  go_wp2
  all_goals go_ret
  all_goals refine ⟨ret_int ?_, _, rfl⟩
  all_goals omega

set_option maxRecDepth 10000 in
theorem undo_clear (w : World) (F : Nat → Prop) (l : Nat) (gs : List (List EditP)) (now : List EditP) (opn edits : Int) (h : ListRep w F l gs now opn edits) :
    Calls Tryz.prog 172 #[.pointer (some ⟨l, 0, none⟩)] w fun e w' => e = .returned (.tuple #[]) ∧ ListRep w' F l [] [] 0 0 ∧ Fr (wr w F) w w' := by
  have H := Lib.hid h
  obtain ⟨a, c, a', c', hb⟩ := h.blk
  clear h
  have hc := blk_cells hb
  have hz := blk_free hb
  have hlt := blk_lt hb
  go_enter Tryz.func172, Tryz.ntmps172
  go_wp2_with (go_at_call 184; refine (undo_none _ _ _ _ _ _ hb).mono ?_; rintro e w' ⟨rfl, rfl⟩)
  go_end0
  have h5 := heap_setCell_same (o := 4) ((((hb.set0 (.slice none 0 0)).set1 (.slice none 0 0)).set2 0).set3 0) (.bool true)
  refine ⟨rfl, ⟨⟨_, _, [], h5, ⟨OwnZ.none _ _ _, EdS.none _, fun k hk => absurd hk (by simp), ?_, ?_⟩⟩, H.out.mem⟩, H.out.own (((((( Fr.refl _ _).setOne _ _).setOne _ _).setOne _ _).setOne _ _).setOne _ _)⟩
  · rintro b ⟨_, _, _, h, _⟩
    cases h
  · rintro b ⟨_, _, _, h, _⟩
    cases h
end Go.Proofs.YtbhklkolkclflaaGreatDoor
/- U3: Package undo, third part: close, End. -/
namespace Go.Proofs.YtbhklkolkclflaaGreatDoor
open Go.RowKit

/-- append to an owned slice, as one step of a region that draws. -/
theorem step_app {P : Program} {ops : Array Oper} {o : Oper} {a : Act} {w : World} {K : Act → World → Prop} {Q : Exit → Act → World → Prop} {E : Prop}
    (hgd : o.guard = none) (s x : Operand) (t tx : TypeId) (ho : o.op = .call { callee := .builtin .append, args := #[s, x], argTypes := #[t, tx] })
    (e : TypeId) (i : TypeInfo) (z : Value) (size bytes : Nat) (ht : P.underlying t = some (.slice e)) (hi : P.info? e = some i) (hz : i.zero = some z)
    (hsize : i.size = size) (hby : i.bytes = bytes) (hzs : z.cells.size = size) (hsz : 0 < size)
    (v : Value) (n : Nat) (xs : List Value) (hv : a.eval s = v) (hown : Own w e size v n xs) (xv : Value) (m : Nat) (news : List Value) (hx : a.eval x = xv) (hs : Src P size tx xv m news w)
    (h63 : n + m ≤ maxLen) (hbytes : (n + m) * bytes ≤ 140737488355328)
    (h : ∀ av c w', Own w' e size (.slice av (n + m) c) (n + m) (xs ++ news) → Fr (rowOf v) w w' → (rowOf v = rowOf (.slice av (n + m) c) ∨ ∀ b, rowOf (.slice av (n + m) c) b → w.heap.size ≤ b) →
      K (a.put o.dst (.slice av (n + m) c)) w') :
    if Region.wanted o (yielded ops a.tmps) = true then Oper.wp P o a w K Q else E := by
  have hw : Region.wanted o (yielded ops a.tmps) = true := by simp [Region.wanted, hgd]
  rw [if_pos hw]
  obtain ⟨av, c, w', hr, h2, h3, h4⟩ := run_app (P := P) w t tx o.type e i z size bytes ht hi hz hsize hby hzs hsz v n xs hown xv m news hs h63 hbytes
  unfold Oper.wp execOp
  simp only [ho, resolve, invoke, builtin, Sem.run_bind, Sem.run_pure, Result.andThen_ok, List.map_toArray, List.map_cons, List.map_nil, hv, hx, hr]
  exact h av c w' h2 h3 h4

theorem Tryz.info_edit1 : (Tryz.prog.info? 84).map (fun i => (i.zero, i.size, i.bytes)) = some (some (.slice none 0 0), 1, 24) := by kernel_rfl

/-- A row of one cell that was made just now. -/
theorem Sl.ofNew (w : World) (u : Value) (T : TypeId) (hu : u.oneCell' = true) : Sl (w.alloc (.cells #[u] T)) 1 (some ⟨w.heap.size, 0, none⟩) 1 1 [u] := by
  refine ⟨rfl, Nat.le_refl _, .inr ⟨_, 0, rfl, fun j v hj => ?_⟩, fun v hv => by simp only [List.mem_singleton] at hv; subst hv; exact hu⟩
  have h := blk_cells (heap_alloc_new w (.cells #[u] T)) j
  rw [Nat.zero_add, h]
  cases j with
  | zero => exact hj
  | succ j => simp at hj

theorem ListBody.push {w w' : World} {F : Nat → Prop} {gv nv gv' : Value} {vs : List Value} {gs : List (List EditP)} {now : List EditP} (h : ListBody w F gv nv vs gs now)
    (ho : Own w' 84 1 gv' (gs.length + 1) (vs ++ [nv])) (hf : Fr (rowOf gv) w w') (hr : rowOf gv = rowOf gv' ∨ ∀ b, rowOf gv' b → w.heap.size ≤ b) :
    ListBody w' (plus w F) gv' (.slice none 0 0) (vs ++ [nv]) (gs ++ [now]) [] := by
  have hN : NR w (rowOf gv) := fun b c fr hb hg => by
    obtain ⟨c', fr', hc⟩ := h.grp.own.rowTy hg
    rw [hb] at hc
    injection hc with hc
    injection hc with _ hc
    exact absurd hc (by decide)
  have he : ∀ v es, EdS w v es → ∀ b, rowOf v b → ¬ rowOf gv b := fun v es hv b hb hg => by
    obtain ⟨c', fr', hc⟩ := h.grp.own.rowTy hg
    exact hv.rowNe hb hc (by decide) rfl
  have hl : vs.length = gs.length := by simpa using h.grp.own.1
  refine ⟨OwnZ.of (by simpa using ho) (by simp), EdS.none _, fun k hk => ?_, fun b hb => ?_, ?_⟩
  · rcases Nat.lt_or_ge k gs.length with hk' | hk'
    · obtain ⟨v, g1, g2, g3⟩ := h.each k hk'
      refine ⟨v, by rw [List.getElem?_append_left (by omega)]; exact g1, ?_, fun b hb => ⟨.inl (g3 b hb).1, ?_⟩⟩
      · rw [List.getElem_append_left hk']
        exact g2.stay hf hN (he _ _ g2)
      · rintro ⟨_, _, _, h, _⟩
        cases h
    · obtain rfl : k = gs.length := by simp at hk; omega
      refine ⟨nv, by rw [List.getElem?_append_right (by omega), hl]; simp, ?_, fun b hb => ⟨.inl (h.mn b hb), ?_⟩⟩
      · simp only [List.getElem_append_right (Nat.le_refl _), Nat.sub_self, List.getElem_cons_zero]
        exact h.now.stay hf hN (he _ _ h.now)
      · rintro ⟨_, _, _, h, _⟩
        cases h
  · rcases hr with hr | hr
    · rw [← hr] at hb
      exact .inl (h.mg b hb)
    · exact .inr (hr b hb)
  · rintro b ⟨_, _, _, h, _⟩
    cases h

theorem ListBody.frame {w w' : World} {F : Nat → Prop} {l : Nat} {gv nv gv' nv' : Value} {opn edits : Int} {vs : List Value} {gs : List (List EditP)} {now : List EditP} (h : ListBody w F gv nv vs gs now)
    (hb : ListBlk w l gv' nv' opn edits) (hf : Fr (fun b => b = l ∨ rowOf gv b) w w') (hl : F l) : Fr (wr w F) w w' := by
  refine hf.wr (fun b _ hx => hx.elim (fun e => e ▸ hl) (h.mg b)) ?_
  rintro b c fr hc (rfl | hx)
  · exact hb.nr _ _ _ hc rfl
  · obtain ⟨c', fr', h'⟩ := h.grp.own.rowTy hx
    rw [hc] at h'
    injection h' with h'
    injection h' with _ h'
    exact absurd h' (by decide)

/-- The groups when all open ones are closed. -/
def closed (gs : List (List EditP)) (now : List EditP) : List (List EditP) := if now.length = 0 then gs else gs ++ [now]

set_option maxRecDepth 10000 in
theorem undo_close (w : World) (F : Nat → Prop) (l : Nat) (gs : List (List EditP)) (now : List EditP) (opn edits : Int) (h : ListRep w F l gs now opn edits) (hg : gs.length ≤ 100000) :
    Calls Tryz.prog 185 #[.pointer (some ⟨l, 0, none⟩)] w fun e w' => e = .returned (.tuple #[]) ∧ ListRep w' (plus w F) l (closed gs now) [] 0 edits ∧ Fr (wr w F) w w' := by
  have H := Lib.hid h
  obtain ⟨gv, nv, vs, hb, hbody⟩ := h.ex
  have HM := Lib.hid h.mem
  clear h
  obtain ⟨a, c, rfl, _⟩ := hbody.grp.own.val
  obtain ⟨a', c', rfl, _⟩ := hbody.now.val
  have HB := Lib.hid hbody
  clear hbody
  have hc := blk_cells hb
  have hz := blk_free hb
  have hlt := blk_lt hb
  unfold closed
  by_cases h0 : now.length = 0
  · rw [if_pos h0]
    go_enter Tryz.func185, Tryz.ntmps185
    go_wp2
    go_end0
    refine ⟨rfl, ⟨⟨_, _, vs, (hb.set1 _).set2 _, ?_⟩, .inl HM.out⟩, H.out.own (((Fr.refl _ _).setOne _ _).setOne _ _)⟩
    have hB := hb.body HB.out (((Fr.refl (one l) w).setOne 1 (.slice none 0 0)).setOne 2 (.int .i64 0))
    refine ⟨hB.grp, EdS.none _, fun k hk => ?_, fun b hb => .inl (hB.mg b hb), ?_⟩
    · obtain ⟨v, g1, g2, g3⟩ := hB.each k hk
      refine ⟨v, g1, g2, fun b hb => ⟨.inl (g3 b hb).1, ?_⟩⟩
      rintro ⟨_, _, _, h, _⟩
      cases h
    · rintro b ⟨_, _, _, h, _⟩
      cases h
  · rw [if_neg h0]
    have h1 : 0 < now.length := by omega
    clear h0
    obtain ⟨i0, hi, hz0, hz1, hz2⟩ := info_parts Tryz.info_edit1
    have hO : ∀ V, Fr nob w V → Own V 84 1 (.slice a gs.length c) gs.length vs := fun V hV => HB.out.grp.own.stay hV (fun _ _ _ _ h => h)
    have HO := Lib.hid hO
    have hs := (Sl.ofNew w (.slice a' now.length c') 84 rfl).src (P := Tryz.prog) (tx := 212) (by decide) Tryz.underlying212
    have hS : ∀ V : World, Src Tryz.prog 1 212 (.slice (some ⟨V.heap.size, 0, none⟩) 1 1) 1 [.slice a' now.length c'] (V.alloc (.cells #[.slice a' now.length c'] 84)) := fun V =>
      (Sl.ofNew V (.slice a' now.length c') 84 rfl).src (P := Tryz.prog) (tx := 212) (by decide) Tryz.underlying212
    have hS2 : ∀ V : World, Src Tryz.prog 1 212 (.slice (some ⟨V.heap.size, 0, none⟩) 1 1) 1 [.slice a' now.length c'] (V.alloc (.cells #[.slice a' now.length c'] 84)).drew := fun V =>
      ((Sl.ofNew V (.slice a' now.length c') 84 rfl).oldN (Fr.refl _ _).drew).src (P := Tryz.prog) (tx := 212) (by decide) Tryz.underlying212
    have HS := Lib.hid hS
    have HS2 := Lib.hid hS2
    have hK : ∀ V, Fr (rowOf (.slice a gs.length c)) w V → ListBlk V l (.slice a gs.length c) (.slice a' now.length c') opn edits := fun V hV => hV.keep hb (fun hr => HB.out.grp.own.rowNe hr hb (by decide) rfl)
    have HK := Lib.hid hK
    clear hO hs hS hS2 hK
    go_enter Tryz.func185, Tryz.ntmps185
    go_wp2
    go_region_law ((refine step_app rfl (.tmp 14) (.tmp 20) 212 212 rfl 84 i0 (.slice none 0 0) 1 24 Tryz.underlying212 hi hz0 hz1 hz2 rfl (by decide) _ gs.length vs rfl (by exact HO.out _ (by first | exact ((Fr.refl nob w).alloc _).drew | exact (Fr.refl nob w).drew.alloc _)) _ 1 _ rfl (by first | exact HS.out _ | exact HS2.out _) (by unfold maxLen; omega) (by omega) ?_; intro av c2 w2 hown2 hfr2 hrow2; have HO2 := Lib.hid hown2; have HF2 := Lib.hid (show Fr (rowOf (.slice a gs.length c)) w w2 by first | exact ((Fr.refl nob w).alloc _).drew.after hfr2 | exact ((Fr.refl nob w).drew.alloc _).after hfr2); have HR2 := Lib.hid (show rowOf (.slice a gs.length c) = rowOf (.slice av (gs.length + 1) c2) ∨ ∀ b, rowOf (.slice av (gs.length + 1) c2) b → w.heap.size ≤ b from hrow2.imp id (fun h b hb => Nat.le_trans (by first | exact (((Fr.refl nob w).alloc _).drew).size | exact ((Fr.refl nob w).drew.alloc _).size) (h b hb))); have hb2 := HK.out _ HF2.out; have hc2 := blk_cells hb2; have hz2' := blk_free hb2; have hlt2 := blk_lt hb2; clear hown2 hfr2 hrow2))
    all_goals go_wp2
    all_goals go_end0
    all_goals refine ⟨rfl, ⟨⟨_, _, vs ++ [.slice a' now.length c'], ((hb2.set0 _).set1 _).set2 _, ?_⟩, .inl HM.out⟩, ?_⟩
    all_goals first
      | exact ((hb2.set0 _).set1 _).body (hb2.set0 _ |>.body (hb2.body (HB.out.push HO2.out HF2.out HR2.out) ((Fr.refl _ _).setOne _ _)) ((Fr.refl _ _).setOne _ _)) ((Fr.refl _ _).setOne _ _)
      | exact HB.out.frame hb (((HF2.out.mono (fun _ _ h => .inr h)).setIn _ _ _ (.inl rfl) |>.setIn _ _ _ (.inl rfl)).setIn _ _ _ (.inl rfl)) HM.out

set_option maxRecDepth 10000 in
theorem undo_end (w : World) (F : Nat → Prop) (l : Nat) (gs : List (List EditP)) (now : List EditP) (opn edits : Int) (h : ListRep w F l gs now opn edits) (hg : gs.length ≤ 100000) (ho : opn = 1) :
    Calls Tryz.prog 180 #[.pointer (some ⟨l, 0, none⟩)] w (ListDone w F l 0 (closed gs now) [] 0 edits) := by
  subst ho
  have H := Lib.hid h
  obtain ⟨a, c, a', c', hb⟩ := h.blk
  clear h
  have hc := blk_cells hb
  have hz := blk_free hb
  have hlt := blk_lt hb
  have hC : ∀ V, ListRep V F l gs now 0 edits → Calls Tryz.prog 185 #[.pointer (some ⟨l, 0, none⟩)] V fun e w' => e = .returned (.tuple #[]) ∧ ListRep w' (plus V F) l (closed gs now) [] 0 edits ∧ Fr (wr V F) V w' := fun V hV => undo_close V F l gs now 0 edits hV hg
  have HC := Lib.hid hC
  clear hC
  have h2 := H.out.set2 0
  have hF := H.out.own ((Fr.refl _ _).setOne 2 (.int .i64 0))
  have H2 := Lib.hid h2
  have HF := Lib.hid hF
  clear h2 hF
  go_enter Tryz.func180, Tryz.ntmps180
  go_wp2_with (first | (go_at_call 184; refine (undo_none _ _ _ _ _ _ hb).mono ?_; rintro e w' ⟨rfl, rfl⟩) | (go_at_call 185; refine (HC.out _ H2.out).mono ?_; rintro e w2 ⟨rfl, hr2, hf2⟩; have HR2 := Lib.hid hr2; have HF2 := Lib.hid hf2; clear hr2 hf2))
  go_ret
  exact ⟨rfl, HR2.out.mono (plus.grow HF.out.size), wr.then HF.out HF2.out⟩
end Go.Proofs.YtbhklkolkclflaaGreatDoor
/- U4: Package undo, fourth part: Add. -/
namespace Go.Proofs.YtbhklkolkclflaaGreatDoor
open Go.RowKit

/-- A row of one element that was made just now. -/
theorem Sl.ofRow (w : World) (cs : Array Value) (T : TypeId) (hu : ∀ u ∈ cs.toList, u.oneCell' = true) : Sl (w.alloc (.cells cs T)) cs.size (some ⟨w.heap.size, 0, none⟩) 1 1 cs.toList := by
  refine ⟨by simp, Nat.le_refl _, .inr ⟨_, 0, rfl, fun j v hj => ?_⟩, hu⟩
  have h := blk_cells (heap_alloc_new w (.cells cs T)) j
  rw [Nat.zero_add, h]
  simpa using hj

theorem Own.nrRow {w : World} {e size : Nat} {v : Value} {n : Nat} {xs : List Value} (h : Own w e size v n xs) (he : e ≠ 21) : NR w (rowOf v) := fun b c fr hb hg => by
  obtain ⟨c', fr', hc⟩ := h.rowTy hg
  rw [hb] at hc
  injection hc with hc
  injection hc with _ hc
  exact he hc.symm

theorem ListBody.add {w w' : World} {F : Nat → Prop} {gv nv nv' : Value} {vs xs news : List Value} {gs : List (List EditP)} {now : List EditP} {e : EditP} (h : ListBody w F gv nv vs gs now)
    (hx : Own w 168 3 nv now.length xs) (hxe : edCells w xs now) (hn : edCells w news [e])
    (ho : Own w' 168 3 nv' (now.length + 1) (xs ++ news)) (hf : Fr (rowOf nv) w w') (hr : rowOf nv = rowOf nv' ∨ ∀ b, rowOf nv' b → w.heap.size ≤ b) :
    ListBody w' (plus w F) gv nv' vs gs (now ++ [e]) := by
  have hN : NR w (rowOf nv) := hx.nrRow (by decide)
  have hg : ∀ b, rowOf gv b → ¬ rowOf nv b := fun b hb hn => by
    obtain ⟨c, fr, hc⟩ := h.grp.own.rowTy hb
    exact hx.rowNe hn hc (by decide) rfl
  refine ⟨h.grp.stay hf hg, EdS.ofMade (by simpa using ho) ((hxe.stay hf hN).append (hn.stay hf hN)) (by simp), fun k hk => ?_, fun b hb => .inl (h.mg b hb), fun b hb => ?_⟩
  · obtain ⟨v, g1, g2, g3⟩ := h.each k hk
    refine ⟨v, g1, g2.stay hf hN (fun b hb => (g3 b hb).2), fun b hb => ⟨.inl (g3 b hb).1, fun hb' => ?_⟩⟩
    rcases hr with hr | hr
    · rw [← hr] at hb'
      exact (g3 b hb).2 hb'
    · have h1 := hr b hb'
      have h2 := g2.lt b hb
      omega
  · rcases hr with hr | hr
    · rw [← hr] at hb
      exact .inl (h.mn b hb)
    · exact .inr (hr b hb)

set_option maxRecDepth 10000 in
set_option maxHeartbeats 1000000 in
theorem undo_add (w : World) (F : Nat → Prop) (l : Nat) (gs : List (List EditP)) (now : List EditP) (edits : Nat) (v : Value) (f : Int) (d i : List Int) (h : ListRep w F l gs now 1 edits)
    (hv : EditV w v f d i) (hf : 0 ≤ f) (hd : d.length ≤ 100000) (hi : i.length ≤ 100000) (hne : 0 < d.length + i.length) (hed : edits < 16384) (hnl : now.length ≤ 100000) :
    Calls Tryz.prog 179 #[.pointer (some ⟨l, 0, none⟩), v] w (ListDone w F l 0 gs (now ++ [(f, d, i)]) 1 (edits + 1)) := by
  have H := Lib.hid h
  obtain ⟨gv, nv, vs, hb0, hbody0⟩ := h.ex
  have HM := Lib.hid h.mem
  clear h
  obtain ⟨a, c, rfl, _⟩ := hbody0.grp.own.val
  obtain ⟨a', c', rfl, _⟩ := hbody0.now.val
  obtain ⟨da, ia, dc, ic, rfl, hv1, hv2⟩ := hv
  have hE : EditV w (.agg #[.int .i64 f, .slice da d.length dc, .slice ia i.length ic]) f d i := ⟨da, ia, dc, ic, rfl, hv1, hv2⟩
  have HE := Lib.hid hE
  have HB0 := Lib.hid hbody0
  have HBlk := Lib.hid hb0
  clear hv1 hv2 hE hbody0 hb0
  obtain ⟨i0, hi0, hz0, hz1, hz2⟩ := info_parts Tryz.info_edits
  have hb1 : ListBlk (w.alloc (.cells #[.int .i64 f, .slice da d.length dc, .slice ia i.length ic] 168)) l (.slice a gs.length c) (.slice a' now.length c') 1 edits := ((Fr.refl nob w).alloc _).keep HBlk.out (fun h => h)
  have hc := blk_cells hb1
  have hz := blk_free hb1
  have hlt := blk_lt hb1
  have HNL := Lib.hid hnl
  have HED := Lib.hid hed
  generalize hdl : d.length = nd at *
  generalize hil : i.length = ni at *
  generalize hnn : now.length = nn at *
  have HDL := Lib.hid hdl
  have HIL := Lib.hid hil
  have HNN := Lib.hid hnn
  have i1 : decide (f < 0) = false := decide_eq_false (by omega)
  have i2 : ((nd : Int) + ni == 0) = false := by rw [beq_eq_false_iff_ne]; omega
  generalize hEE : (edits : Int) = E at *
  have i4 : E < 16384 := by omega
  have i6 : IntKind.i64.wrap (E + 1) = E + 1 := IntWalk.i64_in _ (by omega)
  have HEE := Lib.hid hEE
  clear hEE
  have i5 : IntKind.i64.wrap ((nd : Int) + ni) = nd + ni := IntWalk.i64_in _ (by omega)
  have HD := Lib.hid hd
  have HI := Lib.hid hi
  clear hdl hil hnn hd hi hnl hed
  go_enter Tryz.func179, Tryz.ntmps179
  go_wp2_with (first | (go_at_call 184; refine (undo_none _ _ _ _ _ _ hb1).mono ?_; rintro e w' ⟨rfl, rfl⟩))
  have hA : Fr nob w (w.alloc (.cells #[.int .i64 f, .slice da nd dc, .slice ia ni ic] 168)) := (Fr.refl _ _).alloc _
  have hF0 : Fr (one l) w ((w.alloc (.cells #[.int .i64 f, .slice da nd dc, .slice ia ni ic] 168)).setCell ⟨l, 3, none⟩ (.int .i64 (E + 1))) := (hA.mono (fun _ _ h => h.elim)).setOne _ _
  refine forget (fun W => Hid (ListBlk W l (.slice a gs.length c) (.slice a' nn c') 1 (E + 1)) ∧ Hid (ListBody W F (.slice a gs.length c) (.slice a' nn c') vs gs now) ∧
      Hid (W.heap[w.heap.size]? = some (.cells #[.int .i64 f, .slice da nd dc, .slice ia ni ic] 168 (0, 0))) ∧ Hid (EditV W (.agg #[.int .i64 f, .slice da nd dc, .slice ia ni ic]) f d i) ∧ Fr (one l) w W) ?_ ?_
  · have hlw : l < w.heap.size := blk_lt HBlk.out
    refine ⟨hb1.set3 _, HBlk.out.body HB0.out hF0, ?_, HE.out.stay hF0 HBlk.out.nr, hF0⟩
    exact (heap_setCell_ne (by show w.heap.size ≠ l; omega) _).trans (heap_alloc_new w _)
  clear hA hF0 hc hz hlt hb1 HE
  rintro W ⟨HW, HWB, HWX, HWE, hfW⟩
  have hc := blk_cells HW.out
  have hz := blk_free HW.out
  have hlt := blk_lt HW.out
  have hcx := blk_cells HWX.out
  have hOwn : ∀ V, Fr nob W V → Calls Tryz.prog 230 #[.agg #[.int .i64 f, .slice da nd dc, .slice ia ni ic]] V (EditNew V f d i) := fun V hV => undo_own V _ f d i (HWE.out.stay hV (NR.nob _)) (by have := HDL.out; have := HD.out; omega) (by have := HIL.out; have := HI.out; omega)
  have HOwn := Lib.hid hOwn
  clear hOwn
  obtain ⟨⟨xs, hx1, hx2⟩, _⟩ := HWB.out.now
  have hx1' := hx1
  rw [HNN.out] at hx1'
  have HX1 := Lib.hid hx1
  have HX := Lib.hid hx1'
  have HXE := Lib.hid hx2
  clear hx1 hx1' hx2
  have hXo : ∀ V : World, Fr nob W V → Own V 168 3 (.slice a' nn c') nn xs := fun V hV => HX.out.stay hV (fun _ _ _ _ h => h)
  have HXo := Lib.hid hXo
  have hK : ∀ V V2 : World, Fr nob W V → Fr (rowOf (.slice a' nn c')) V V2 → ListBlk V2 l (.slice a gs.length c) (.slice a' nn c') 1 (E + 1) := fun V V2 hV hV2 => by
    have h1 := hV.keep HW.out (fun h => h)
    exact hV2.keep h1 (fun hr => (HXo.out V hV).rowNe hr h1 (by decide) rfl)
  have HK := Lib.hid hK
  have hS : ∀ (V : World) (da2 ia2 : Option Addr) (dc2 ic2 x y : Nat), Src Tryz.prog 3 84 (.slice (some ⟨V.heap.size, 0, none⟩) 1 1) 1 [.int .i64 f, .slice da2 x dc2, .slice ia2 y ic2] (V.alloc (.cells #[.int .i64 f, .slice da2 x dc2, .slice ia2 y ic2] 168)) := fun V da2 ia2 dc2 ic2 x y =>
    (Sl.ofRow V #[.int .i64 f, .slice da2 x dc2, .slice ia2 y ic2] 168 (by simp [Value.oneCell'])).src (P := Tryz.prog) (tx := 84) (by simp) Tryz.underlying84
  have HS := Lib.hid hS
  have b1 : nn + 1 ≤ maxLen := by have := HNL.out; unfold maxLen; omega
  have b2 : (nn + 1) * 56 ≤ 140737488355328 := by have := HNL.out; omega
  have HB1 := Lib.hid b1
  have HB2 := Lib.hid b2
  clear hXo hK hS b1 b2
  have hEnd : ∀ (V w2 : World) (da2 ia2 av : Option Addr) (dc2 ic2 c2 : Nat), Fr nob W V → EditV V (.agg #[.int .i64 f, .slice da2 d.length dc2, .slice ia2 i.length ic2]) f d i →
      Own w2 168 3 (.slice av (nn + 1) c2) (nn + 1) (xs ++ [.int .i64 f, .slice da2 d.length dc2, .slice ia2 i.length ic2]) →
      Fr (rowOf (.slice a' nn c')) (V.alloc (.cells #[.int .i64 f, .slice da2 d.length dc2, .slice ia2 i.length ic2] 168)) w2 →
      (rowOf (.slice a' nn c') = rowOf (.slice av (nn + 1) c2) ∨ ∀ b, rowOf (.slice av (nn + 1) c2) b → (V.alloc (.cells #[.int .i64 f, .slice da2 d.length dc2, .slice ia2 i.length ic2] 168)).heap.size ≤ b) →
      ListBlk w2 l (.slice a gs.length c) (.slice a' nn c') 1 (E + 1) → ListDone w F l 0 gs (now ++ [(f, d, i)]) 1 (E + 1) (.returned (.int .i64 0)) (w2.setCell ⟨l, 1, none⟩ (.slice av (nn + 1) c2)) := by
    intro V w2 da2 ia2 av dc2 ic2 c2 hV hG hO hF2 hR2 hb2
    have hVA := hV.alloc (.cells #[.int .i64 f, .slice da2 d.length dc2, .slice ia2 i.length ic2] 168)
    have hwA : w.heap.size ≤ (V.alloc (.cells #[.int .i64 f, .slice da2 d.length dc2, .slice ia2 i.length ic2] 168)).heap.size := Nat.le_trans hfW.size hVA.size
    have hbd := ListBody.add (e := (f, d, i)) (HWB.out.stay hVA (NR.nob _) (fun _ _ _ h => h)) (HX1.out.stay hVA (fun _ _ _ _ h => h)) (HXE.out.stay hVA (NR.nob _)) ((hG.stay ((Fr.refl _ _).alloc _) (NR.nob _)).cells) (by rw [HNN.out]; exact hO) hF2 hR2
    refine ⟨rfl, ⟨⟨_, _, vs, hb2.set1 _, hb2.body (hbd.mono (plus.grow hwA)) ((Fr.refl _ _).setOne _ _)⟩, .inl HM.out⟩, ?_⟩
    have hfin : Fr (fun b => b = l ∨ rowOf (.slice a' nn c') b) w (w2.setCell ⟨l, 1, none⟩ (.slice av (nn + 1) c2)) :=
      ((((hfW.mono (fun _ _ h => .inl h)).then hVA).trans (hF2.mono (M1 := fun b => b = l ∨ rowOf (.slice a' nn c') b) (fun _ _ h => .inr h)) (fun _ _ h => h)).setIn _ _ _ (.inl rfl))
    refine hfin.wr (fun b _ hx => hx.elim (fun e => e ▸ HM.out) (HB0.out.mn b)) ?_
    rintro b c3 fr hc3 (rfl | hx)
    · exact HBlk.out.nr _ _ _ hc3 rfl
    · obtain ⟨xs0, hxs0⟩ := HB0.out.now.own
      exact hxs0.nrRow (by decide) _ _ _ hc3 hx
  have HEnd := Lib.hid hEnd
  clear hEnd
  go_region_law (first
    | (go_simp; go_at_call 230; refine (HOwn.out _ (by exact (Fr.refl _ _).drew)).mono ?_; rintro e V ⟨v2, rfl, ⟨da2, ia2, dc2, ic2, rfl, g1, g2⟩, hfrV⟩; have hfV := (Fr.refl nob W).drew.then hfrV; have hb3 := hfV.keep HW.out (fun h => h); have hc3 := blk_cells hb3; have hlt3 := blk_lt hb3; have HFV := Lib.hid hfV; have HG := Lib.hid (show EditV V (.agg #[.int .i64 f, .slice da2 d.length dc2, .slice ia2 i.length ic2]) f d i from ⟨da2, ia2, dc2, ic2, rfl, g1, g2⟩); clear g1 g2 hfrV hfV)
    | (refine step_app rfl (.tmp 46) (.tmp 49) 84 84 rfl 168 i0 _ 3 56 Tryz.underlying84 hi0 hz0 hz1 hz2 rfl (by decide) _ nn xs rfl (by exact HXo.out _ (HFV.out.alloc _)) _ 1 _ rfl (by exact HS.out _ _ _ _ _ _ _) HB1.out HB2.out ?_; intro av c2 w2 hown2 hfr2 hrow2; have HO2 := Lib.hid hown2; have HF2 := Lib.hid hfr2; have HR2 := Lib.hid hrow2; have hb4 := HK.out _ _ (HFV.out.alloc _) hfr2; have hc4 := blk_cells hb4; have hz4 := blk_free hb4; have hlt4 := blk_lt hb4; clear hown2 hfr2 hrow2))
  all_goals go_wp2
  all_goals go_ret
  all_goals exact HEnd.out _ _ _ _ _ _ _ _ HFV.out HG.out HO2.out HF2.out HR2.out hb4
end Go.Proofs.YtbhklkolkclflaaGreatDoor
/- U5: Package undo, fifth part: copied. -/
namespace Go.Proofs.YtbhklkolkclflaaGreatDoor
open Go.RowKit

/-- No edit is too long to be copied. -/
def Small (es : List EditP) : Prop := es.length ≤ 100000 ∧ ∀ e ∈ es, e.2.1.length ≤ 100000 ∧ e.2.2.length ≤ 100000

theorem EdS.sl {w : World} {a : Option Addr} {n c : Nat} {es : List EditP} (h : EdS w (.slice a n c) es) : n = es.length ∧ ∃ xs, Sl w 3 a n c xs ∧ edCells w xs es := by
  obtain ⟨⟨xs, h1, h2⟩, _⟩ := h
  obtain ⟨_, _, hv, _⟩ := h1.val
  injection hv with _ hn _
  subst hn
  exact ⟨rfl, xs, h1.sl, h2⟩

/-- The k-th edit of a slice, as it is read. -/
theorem edit_at {w : World} {a : Option Addr} {n c : Nat} {xs : List Value} {es : List EditP} (h : Sl w 3 a n c xs) (he : edCells w xs es) (k : Nat) (hk : k < es.length) :
    ∃ g off d cd i ci, a = some ⟨g, off, none⟩ ∧ w.cell? ⟨g, off + k * 3, none⟩ = some (.int .i64 es[k].1) ∧ w.cell? ⟨g, off + k * 3 + 1, none⟩ = some (.slice d es[k].2.1.length cd) ∧
      w.cell? ⟨g, off + k * 3 + 2, none⟩ = some (.slice i es[k].2.2.length ci) ∧ EditV w (.agg #[.int .i64 es[k].1, .slice d es[k].2.1.length cd, .slice i es[k].2.2.length ci]) es[k].1 es[k].2.1 es[k].2.2 := by
  obtain ⟨d, cd, i, ci, h0, h1, h2, h3, h4⟩ := he.at k hk
  rcases h.rd with rfl | ⟨g, off, rfl, hc⟩
  · simp at h0
  · exact ⟨g, off, d, cd, i, ci, rfl, hc _ _ h0, by have := hc _ _ h1; rwa [← Nat.add_assoc] at this, by have := hc _ _ h2; rwa [← Nat.add_assoc] at this, d, i, cd, ci, rfl, h3, h4⟩

theorem EdS.snoc {V w' : World} {a : Option Addr} {k c : Nat} {nv' : Value} {xs news : List Value} {es : List EditP} {e : EditP} (hk : k = es.length)
    (hx : Own V 168 3 (.slice a k c) k xs) (hxe : edCells V xs es) (hn : edCells V news [e]) (ho : Own w' 168 3 nv' (k + 1) (xs ++ news)) (hf : Fr (rowOf (.slice a k c)) V w') : EdS w' nv' (es ++ [e]) := by
  subst hk
  have hN := hx.nrRow (by decide)
  exact EdS.ofMade (by simpa using ho) ((hxe.stay hf hN).append (hn.stay hf hN)) (by simp)

/-- A call that makes a slice of edits. -/
def EdMade (w : World) (es : List EditP) (e : Ending) (w' : World) : Prop :=
  ∃ a c, e = .returned (.slice a es.length c) ∧ EdS w' (.slice a es.length c) es ∧ Fr nob w w' ∧ ∀ b, rowOf (.slice a es.length c) b → w.heap.size ≤ b

set_option maxRecDepth 10000 in
set_option maxHeartbeats 1000000 in
theorem undo_copied (w : World) (a : Option Addr) (n c : Nat) (es : List EditP) (h : EdS w (.slice a n c) es) (hs : Small es) :
    Calls Tryz.prog 225 #[.slice a n c] w (EdMade w es) := by
  obtain ⟨hn, xs, h1, h2⟩ := h.sl
  clear h
  have HL := Lib.hid hn
  have H1 := Lib.hid h1
  have H2 := Lib.hid h2
  have HS := Lib.hid hs
  have hn1 : n ≤ 100000 := by rw [hn]; exact hs.1
  have HN1 := Lib.hid hn1
  have hnI : (n : Int) ≤ 100000 := by omega
  clear h1 h2 hs hn hn1
  obtain ⟨i0, hi0, hz0, hz1, hz2⟩ := info_parts Tryz.info_edits
  have hSrc : ∀ (V : World) (f : Int) (da2 ia2 : Option Addr) (dc2 ic2 x y : Nat), Src Tryz.prog 3 84 (.slice (some ⟨V.heap.size, 0, none⟩) 1 1) 1 [.int .i64 f, .slice da2 x dc2, .slice ia2 y ic2] (V.alloc (.cells #[.int .i64 f, .slice da2 x dc2, .slice ia2 y ic2] 168)) := fun V f da2 ia2 dc2 ic2 x y =>
    (Sl.ofRow V #[.int .i64 f, .slice da2 x dc2, .slice ia2 y ic2] 168 (by simp [Value.oneCell'])).src (P := Tryz.prog) (tx := 84) (by simp) Tryz.underlying84
  have HSrc := Lib.hid hSrc
  clear hSrc
  go_enter Tryz.func225, Tryz.ntmps225
  go_wp2
  go_loopw [3, 5, 8] (fun v _ i wr => ∃ (k : Nat) (a' : Option Addr) (cc : Nat), k ≤ n ∧ i = .int .i64 k ∧ v = .slice a' k cc ∧ Hid (EdS wr (.slice a' k cc) (es.take k)) ∧ Fr nob w wr ∧ ∀ b, rowOf (.slice a' k cc) b → w.heap.size ≤ b) (fun _ _ i _ => n - (intOf i).toNat)
  case atStart => exact ⟨0, none, 0, Nat.zero_le _, rfl, rfl, EdS.none _, Fr.refl _ _, fun b ⟨_, _, _, h, _⟩ => by cases h⟩
  case round =>
    obtain ⟨k, a', cc, hk, rfl, rfl, HV, hfr, hfresh⟩ := hrel
    by_cases hkt : k < n
    · have hke : k < es.length := by have := HL.out; omega
      obtain ⟨g, off, d, cd, i, ci, rfl, c0, c1, c2, hE⟩ := edit_at (H1.out.oldN hfr) (H2.out.stay hfr (NR.nob _)) k hke
      have hsm := HS.out.2 _ (List.getElem_mem hke)
      have htk : es.take (k + 1) = es.take k ++ [es[k]] := by rw [List.take_succ_eq_append_getElem hke]
      have HT := Lib.hid htk
      obtain ⟨⟨ys, hy1, hy2⟩, _⟩ := HV.out
      have hlen : (es.take k).length = k := by rw [List.length_take]; omega
      rw [hlen] at hy1
      have HLE := Lib.hid hlen
      generalize hp : es[k] = p at *
      obtain ⟨f, ds, is⟩ := p
      simp only at c0 c1 c2 hE hsm
      have HE := Lib.hid hE
      have HSM := Lib.hid hsm
      have HY1 := Lib.hid hy1
      have HY2 := Lib.hid hy2
      generalize hx : ds.length = nd at *
      generalize hy : is.length = ni at *
      have HX := Lib.hid hx
      have HY := Lib.hid hy
      clear hE hsm hy1 hy2 htk hp hx hy hlen
      go_wp2_with fail
      refine (undo_own _ _ f ds is (HE.out.stay ((Fr.refl _ _).alloc _) (NR.nob _)) (by rw [HX.out]; exact HSM.out.1) (by rw [HY.out]; exact HSM.out.2)).mono ?_
      rintro e V ⟨v2, rfl, ⟨da2, ia2, dc2, ic2, rfl, g1, g2⟩, hfrV⟩
      have HG := Lib.hid (show EditV V (.agg #[.int .i64 f, .slice da2 ds.length dc2, .slice ia2 is.length ic2]) f ds is from ⟨da2, ia2, dc2, ic2, rfl, g1, g2⟩)
      have hfV := ((Fr.refl nob wr).alloc (.cells #[.int .i64 f, .slice d nd cd, .slice i ni ci] 168)).then hfrV
      have HFV := Lib.hid (hfV.alloc (.cells #[.int .i64 f, .slice da2 ds.length dc2, .slice ia2 is.length ic2] 168))
      have hO := HY1.out.stay HFV.out (fun _ _ _ _ h => h)
      have HO := Lib.hid hO
      have b1 : k + 1 ≤ maxLen := by have := HN1.out; unfold maxLen; omega
      have b2 : (k + 1) * 56 ≤ 140737488355328 := by have := HN1.out; omega
      have HB1 := Lib.hid b1
      have HB2 := Lib.hid b2
      clear g1 g2 hfrV hfV hO b1 b2
      go_wp2_with (at_builtin; refine wpList_app _ rfl (.tmp 12) (.tmp 15) 84 84 rfl 168 i0 _ 3 56 Tryz.underlying84 hi0 hz0 hz1 hz2 rfl (by decide) _ k _ rfl HO.out _ 1 _ rfl (by exact HSrc.out _ _ _ _ _ _ _ _) HB1.out HB2.out ?_; intro av c' w' hown' hfr' hrow'; have HO' := Lib.hid hown'; have HF' := Lib.hid hfr'; have HR' := Lib.hid hrow'; clear hown' hfr' hrow')
      go_roundw
      case rel =>
        refine ⟨k + 1, av, c', by omega, by go_num, rfl, ?_, ?_, ?_⟩
        · show EdS _ _ _
          rw [HT.out]
          exact EdS.snoc (e := (f, ds, is)) HLE.out.symm HO.out (HY2.out.stay HFV.out (NR.nob _)) (HG.out.stay ((Fr.refl _ _).alloc _) (NR.nob _)).cells HO'.out HF'.out
        · exact (hfr.then HFV.out).trans HF'.out (fun b hb hx => absurd (hfresh b hx) (by omega))
        · exact fresh_of (w2 := w) (hfr.then HFV.out).size HR'.out hfresh
      case measure => simp [intOf]; omega
    · have hq : k = n := by omega
      subst hq
      have hV := HV.out
      rw [List.take_of_length_le (by have := HL.out; omega)] at hV
      have HV2 := Lib.hid hV
      clear hV HV
      go_wp2
      go_ret
      refine ⟨a', cc, ?_, ?_, hfr, ?_⟩
      · rw [← HL.out]
        rfl
      · rw [← HL.out]
        exact HV2.out
      · rw [← HL.out]
        exact hfresh
end Go.Proofs.YtbhklkolkclflaaGreatDoor
/- U6: Package undo, sixth part: inverses. -/
namespace Go.Proofs.YtbhklkolkclflaaGreatDoor
open Go.RowKit
attribute [local go_sem] Oper.semAt_some

/-- The value of the j-th edit among cells. -/
def elAt (xs : List Value) (j : Nat) : Int × Value × Value := (intOf (xs.getD (j * 3) undef), xs.getD (j * 3 + 1) undef, xs.getD (j * 3 + 2) undef)
def bargs (xs : List Value) (n k : Nat) : Array Value := #[.int .i64 (n - 1 - k : Nat), .agg #[.int .i64 (elAt xs (n - 1 - k)).1, (elAt xs (n - 1 - k)).2.1, (elAt xs (n - 1 - k)).2.2]]

theorem elAt_edit {w : World} {xs : List Value} {es : List EditP} (h : edCells w xs es) (j : Nat) (hj : j < es.length) :
    xs[j * 3]? = some (.int .i64 (elAt xs j).1) ∧ xs[j * 3 + 1]? = some (elAt xs j).2.1 ∧ xs[j * 3 + 2]? = some (elAt xs j).2.2 ∧
      EditV w (.agg #[.int .i64 (elAt xs j).1, (elAt xs j).2.1, (elAt xs j).2.2]) es[j].1 es[j].2.1 es[j].2.2 := by
  obtain ⟨d, cd, i, ci, h0, h1, h2, h3, h4⟩ := h.at j hj
  have e0 : xs.getD (j * 3) undef = .int .i64 es[j].1 := by rw [List.getD_eq_getElem?_getD, h0]; rfl
  have e1 : xs.getD (j * 3 + 1) undef = .slice d es[j].2.1.length cd := by rw [List.getD_eq_getElem?_getD, h1]; rfl
  have e2 : xs.getD (j * 3 + 2) undef = .slice i es[j].2.2.length ci := by rw [List.getD_eq_getElem?_getD, h2]; rfl
  simp only [elAt, e0, e1, e2, intOf]
  exact ⟨h0, h1, h2, d, i, cd, ci, rfl, h3, h4⟩

theorem back_yields (m : Nat) (hm : 1 ≤ m) (box : Nat) (a : Option Addr) (n c : Nat) (xs : List Value) (es : List EditP) (hn : n = es.length) (hs : n ≤ 100000) :
    Yields Tryz.prog m 245 #[.pointer (some ⟨box, 0, none⟩)] n (bargs xs n) (fun W => W.cell? ⟨box, 0, none⟩ = some (.slice a n c) ∧ Sl W 3 a n c xs ∧ edCells W xs es) := by
  intro l J W hK hY h0
  obtain ⟨g, off, ha⟩ : ∃ g off, 0 < n → a = some ⟨g, off, none⟩ := by
    rcases (hK 0 W h0).2.1.rd with h | ⟨g, off, e, _⟩
    · refine ⟨0, 0, fun hp => ?_⟩
      have h1 := (hK 0 W h0).2.1.len
      rw [h] at h1
      simp at h1
      omega
    · exact ⟨g, off, fun _ => e⟩
  refine back1_edits m l box g off n c a ha (elAt xs) hm (by omega) J (fun k W hJ => ⟨(hK k W hJ).1, fun j hj => ?_⟩) (fun k i W hJ hi => ?_) W h0
  · obtain ⟨_, hsl, he⟩ := hK k W hJ
    obtain ⟨h1, h2, h3, _⟩ := elAt_edit he j (by omega)
    rcases hsl.rd with h | ⟨g', off', e, hc⟩
    · rw [h] at h1
      simp at h1
    · rw [ha (by omega)] at e
      injection e with e
      injection e with e1 e2
      subst e1 e2
      exact ⟨hc _ _ h1, hc _ _ h2, hc _ _ h3⟩
  · have h := hY k W hJ (by omega)
    have e : n - 1 - k = i := by omega
    simp only [bargs, e] at h
    exact h

/-- An edit taken back. -/
def inv (e : EditP) : EditP := (e.1, e.2.2, e.2.1)

/-- After k rounds. -/
structure InvSt (w : World) (a : Option Addr) (n c : Nat) (rs : List EditP) (k : Nat) (W : World) : Prop where
  fr : Fr nob w W
  box : W.heap[w.heap.size + 1]? = some (.cells #[.slice a n c] 84 (0, 0))
  ex : ∃ a' c', W.heap[w.heap.size]? = some (.cells #[.slice a' k c'] 84 (0, 0)) ∧ EdS W (.slice a' k c') (rs.take k) ∧ ∀ b, rowOf (.slice a' k c') b → w.heap.size ≤ b

theorem InvSt.keep {w : World} {a : Option Addr} {n c k : Nat} {rs : List EditP} {W W' : World} {M : Nat → Prop} (h : InvSt w a n c rs k W) (hf : Fr M W W') (hM : ∀ b, M b → w.heap.size ≤ b)
    (hc : ∀ b, M b → ∀ c T fr, W.heap[b]? ≠ some (.cells c T fr)) : InvSt w a n c rs k W' := by
  obtain ⟨a', c', h1, h2, h3⟩ := h.ex
  have hn : ∀ b c T fr, W.heap[b]? = some (.cells c T fr) → ¬ M b := fun b c T fr e hb => hc b hb c T fr e
  refine ⟨h.fr.trans hf (fun b hb hm => absurd (hM b hm) (by omega)), hf.keep h.box (hn _ _ _ _ h.box), a', c', hf.keep h1 (hn _ _ _ _ h1), h2.stay hf (fun b c fr e => hn b c _ fr e) (fun b hb => ?_), h3⟩
  obtain ⟨xs, ho⟩ := h2.own
  obtain ⟨c, fr, hb⟩ := ho.rowTy hb
  exact hn _ _ _ _ hb

theorem InvSt.n {w : World} {a : Option Addr} {n c k : Nat} {rs : List EditP} {W W' : World} (h : InvSt w a n c rs k W) (hf : Fr nob W W') : InvSt w a n c rs k W' := h.keep hf (fun _ h => h.elim) (fun _ h => h.elim)

set_option maxRecDepth 10000 in
set_option maxHeartbeats 1000000 in
theorem undo_inverses (w : World) (a : Option Addr) (n c : Nat) (es : List EditP) (h : EdS w (.slice a n c) es) (hs : Small es) :
    Calls Tryz.prog 186 #[.slice a n c] w (EdMade w (es.reverse.map inv)) := by
  obtain ⟨hn, xs, h1, h2⟩ := h.sl
  clear h
  have HL := Lib.hid hn
  have H1 := Lib.hid h1
  have H2 := Lib.hid h2
  have HS := Lib.hid hs
  have hn1 : n ≤ 100000 := by rw [hn]; exact hs.1
  have HN1 := Lib.hid hn1
  have hnI : (n : Int) ≤ 100000 := by omega
  clear h1 h2 hs hn hn1
  obtain ⟨rs, hrs⟩ : ∃ rs, es.reverse.map inv = rs := ⟨_, rfl⟩
  have HRS := Lib.hid hrs
  rw [hrs]
  have hrn : rs.length = n := by rw [← hrs, List.length_map, List.length_reverse, HL.out]
  have HRN := Lib.hid hrn
  clear hrs hrn
  refine callsIn_wide.1 (callsIn_of_wp_marks (F := Fence.wide) (n := 10) Tryz.func186 rfl trivial (wpIn_wide.2 ?_) rfl)
  simp only [Tryz.ntmps186, List.size_toArray, List.length_cons, List.length_nil, Nat.reduceAdd, Nat.reduceSub, Array.replicate_succ, Array.replicate_zero, List.push_toArray, List.append_toArray, List.nil_append, List.cons_append]
  go_wp2_with (go_at_call 232; refine (callsIn_wide.1 (back_edits 10 a n c _)).mono ?_; rintro e w' ⟨rfl, rfl⟩)
  have HSrc := Lib.hid (fun (V : World) (f : Int) (da2 ia2 : Option Addr) (dc2 ic2 x y : Nat) => (Sl.ofRow V #[.int .i64 f, .slice da2 x dc2, .slice ia2 y ic2] 168 (by simp [Value.oneCell'])).src (P := Tryz.prog) (tx := 84) (by simp) Tryz.underlying84)
  obtain ⟨i0, hi0, hz0, hz1, hz2⟩ := info_parts Tryz.info_edits
  refine (wpIn_wide (n := 10)).1 ?_
  refine range_all 245 #[.pointer (some ⟨w.heap.size + 1, 0, none⟩)] rfl ?hinv n (bargs xs n) (fun _ => rfl)
    (fun k => #[.slice a n c, undef, .slice none 0 0, .pointer (some ⟨w.heap.size, 0, none⟩), undef, undef, .slice a n c, .func (.func 245) #[] #[.pointer (some ⟨w.heap.size + 1, 0, none⟩)],
      .int .i64 (n - 1 - k : Nat), .agg #[.int .i64 (elAt xs (n - 1 - k)).1, (elAt xs (n - 1 - k)).2.1, (elAt xs (n - 1 - k)).2.2], undef, undef, undef, undef, undef, undef]) (fun _ => (zip2 _ _ _ _ _).trans rfl) _
    (back_yields 9 (by omega) (w.heap.size + 1) a n c xs es HL.out HN1.out)
    (InvSt w a n c rs) ?h0 ?hK ?hU ?hround ?hdone
  case hinv => intro l W; rfl
  case h0 =>
    refine ⟨((Fr.refl _ _).alloc _).alloc _, ?_, none, 0, (heap_alloc_lt _ (by simp)).trans (heap_alloc_new w _), EdS.none _, fun b ⟨_, _, _, h, _⟩ => by cases h⟩
    have h := heap_alloc_new (w.alloc (.cells #[.slice none 0 0] 84)) (.cells #[.slice a n c] 84)
    rw [show (w.alloc (.cells #[.slice none 0 0] 84)).heap.size = w.heap.size + 1 by simp] at h
    exact h
  case hK => exact fun k W h => ⟨by rw [blk_cells h.box]; rfl, H1.out.oldN h.fr, H2.out.stay h.fr (NR.nob _)⟩
  case hU => exact fun k W W' h hf hc => h.keep hf (fun b hb => by simp at hb; omega) hc
  case hdone =>
    rintro W hst hD hlt
    have HST := Lib.hid hst
    rw [show ((w.alloc (.cells #[.slice none 0 0] 84)).alloc (.cells #[.slice a n c] 84)).heap.size = w.heap.size + 1 + 1 by simp] at hD
    have HD := Lib.hid hD
    obtain ⟨a', c', h1, h2, h3⟩ := hst.ex
    have hc := blk_cells h1
    clear h2 hD hst
    go_wp2
    refine ⟨by simp, .inl ⟨_, _, rfl, run_takeDeferred HD.out, ?_⟩⟩
    have hW : InvSt w a n c rs n (World.putObj W (w.heap.size + 1 + 1) (.deferred none)) := HST.out.keep (M := one (w.heap.size + 1 + 1)) ((Fr.refl _ _).putObj _ _ (fun _ => rfl)) (fun b hb => by cases hb; omega) (fun b hb c T fr e => by
      cases hb
      rw [HD.out] at e
      cases e)
    obtain ⟨a2, c2, g1, g2, g3⟩ := hW.ex
    have e1 : (World.putObj W (w.heap.size + 1 + 1) (.deferred none)).heap[w.heap.size]? = W.heap[w.heap.size]? := putObj_ne (by omega)
    rw [e1, h1] at g1
    injection g1 with g1
    injection g1 with g1 _ _
    injection g1 with g1
    injection g1 with g1 _
    injection g1 with g4 _ g5
    subst g4 g5
    rw [List.take_of_length_le (by rw [HRN.out]; omega)] at g2
    refine ⟨_, results_tmp rfl _ _ _, a', c', ?_, ?_, hW.fr, ?_⟩
    · rw [HRN.out]
      rfl
    · rw [HRN.out]
      exact g2
    · rw [HRN.out]
      exact g3
  case hround =>
    rintro k W hk hU hlt
    have hs2 : ((w.alloc (.cells #[.slice none 0 0] 84)).alloc (.cells #[.slice a n c] 84)).heap.size = w.heap.size + 2 := by simp
    rw [hs2] at hlt ⊢
    clear hs2
    obtain ⟨j, hj⟩ : ∃ j, n - 1 - k = j := ⟨_, rfl⟩
    have hje : j < es.length := by have := HL.out; omega
    obtain ⟨_, _, _, hE⟩ := elAt_edit H2.out j hje
    simp only [hj]
    have HU := Lib.hid hU
    have HLT := Lib.hid hlt
    have htk : rs.take (k + 1) = rs.take k ++ [inv es[j]] := by
      rw [List.take_succ_eq_append_getElem (by have := HRN.out; omega)]
      have e := HRS.out
      subst e
      rw [List.getElem_map, List.getElem_reverse]
      congr 4
      have := HL.out
      omega
    have HT := Lib.hid htk
    have hsm := HS.out.2 _ (List.getElem_mem hje)
    generalize es[j] = p at *
    obtain ⟨f, ds, is⟩ := p
    simp only at hE hsm
    generalize (elAt xs j).1 = x0 at *
    generalize (elAt xs j).2.1 = x1 at *
    generalize (elAt xs j).2.2 = x2 at *
    obtain ⟨d, i, cd, ci, hv, ho1, ho2⟩ := hE
    injection hv with hv
    simp only [Array.mk.injEq, List.cons.injEq, Value.int.injEq, true_and, and_true] at hv
    obtain ⟨rfl, rfl, rfl⟩ := hv
    have HE := Lib.hid (show EditV w (.agg #[.int .i64 x0, .slice d ds.length cd, .slice i is.length ci]) x0 ds is from ⟨d, i, cd, ci, rfl, ho1, ho2⟩)
    have HSM := Lib.hid hsm
    generalize hx : ds.length = nd at *
    generalize hy : is.length = ni at *
    have HX := Lib.hid hx
    have HY := Lib.hid hy
    clear hj hU ho1 ho2 hsm hx hy htk hlt
    gi_wp2
    refine ⟨HU.out.n ((Fr.refl _ _).alloc _), heap_alloc_lt _ (by have := HLT.out; omega), heap_alloc_lt _ (by have := HLT.out; omega), ?_⟩
    intro W2 hU2 hlt2 hf2 hncD hncL
    have hnc2 : ∀ b, b = w.heap.size + 2 ∨ b = w.heap.size + 2 + 1 → ∀ c T fr, W2.heap[b]? ≠ some (.cells c T fr) := fun b hb c T fr => by
      rcases hb with rfl | rfl
      · exact hncD c T fr.1 fr.2
      · exact hncL c T fr.1 fr.2
    have HNC := Lib.hid hnc2
    clear hnc2 hncD hncL
    have hx5 : W2.heap[W.heap.size]? = some (.cells #[.int .i64 x0, .slice d nd cd, .slice i ni ci] 168 (0, 0)) := hf2.keep (heap_alloc_new W _) (fun e => by have := HLT.out; have : W.heap.size = w.heap.size + 2 + 1 := e; omega)
    have HX5 := Lib.hid hx5
    have HU2 := Lib.hid hU2
    have HLT2 := Lib.hid hlt2
    obtain ⟨a', c', h1, h2, h3⟩ := hU2.ex
    have HX1 := Lib.hid h1
    have HX2 := Lib.hid h2
    have HX3 := Lib.hid h3
    have HEV := Lib.hid (HE.out.stay hU2.fr (NR.nob _))
    clear hx5 hU2 hlt2 h1 h2 h3 hf2
    refine wpIn_block ?_
    refine region6 (by kernel_rfl) rfl (by kernel_rfl) (by kernel_rfl) (by kernel_rfl) (by kernel_rfl) (by kernel_rfl) (by kernel_rfl) (by kernel_rfl) (by kernel_rfl) (by kernel_rfl) (by kernel_rfl)
      (fun ld a1 V => ∃ v10, (ld = true → v10 = .slice a' k c') ∧ a1 = ⟨#[.slice a n c, undef, .slice none 0 0, .pointer (some ⟨w.heap.size, 0, none⟩), undef, .pointer (some ⟨W.heap.size, 0, none⟩), .slice a n c, .func (.func 245) #[] #[.pointer (some ⟨w.heap.size + 1, 0, none⟩)], .int .i64 j, .agg #[.int .i64 x0, .slice d nd cd, .slice i ni ci], v10, undef, undef, undef, undef, undef], []⟩ ∧ Fr nob W2 V)
      (fun ld a1 V => ∃ v10, (ld = true → v10 = .slice a' k c') ∧ a1 = ⟨#[.slice a n c, undef, .slice none 0 0, .pointer (some ⟨w.heap.size, 0, none⟩), undef, .pointer (some ⟨W.heap.size, 0, none⟩), .slice a n c, .func (.func 245) #[] #[.pointer (some ⟨w.heap.size + 1, 0, none⟩)], .int .i64 j, .agg #[.int .i64 x0, .slice d nd cd, .slice i ni ci], v10, .agg #[.int .i64 x0, .slice d nd cd, .slice i ni ci], undef, undef, undef, undef], []⟩ ∧ Fr nob W2 V)
      (fun ld a1 V => ∃ v10 v12, (ld = true → v10 = .slice a' k c') ∧ a1 = ⟨#[.slice a n c, undef, .slice none 0 0, .pointer (some ⟨w.heap.size, 0, none⟩), undef, .pointer (some ⟨W.heap.size, 0, none⟩), .slice a n c, .func (.func 245) #[] #[.pointer (some ⟨w.heap.size + 1, 0, none⟩)], .int .i64 j, .agg #[.int .i64 x0, .slice d nd cd, .slice i ni ci], v10, .agg #[.int .i64 x0, .slice d nd cd, .slice i ni ci], v12, undef, undef, undef], []⟩ ∧ Fr nob W2 V ∧ EditV V v12 x0 is ds)
      (fun ld a1 V => ∃ v10 v12 g cs, (ld = true → v10 = .slice a' k c') ∧ a1 = ⟨#[.slice a n c, undef, .slice none 0 0, .pointer (some ⟨w.heap.size, 0, none⟩), undef, .pointer (some ⟨W.heap.size, 0, none⟩), .slice a n c, .func (.func 245) #[] #[.pointer (some ⟨w.heap.size + 1, 0, none⟩)], .int .i64 j, .agg #[.int .i64 x0, .slice d nd cd, .slice i ni ci], v10, .agg #[.int .i64 x0, .slice d nd cd, .slice i ni ci], v12, .slice (some ⟨g, 0, none⟩) 1 1, undef, undef], []⟩ ∧ Fr nob W2 V ∧ edCells V cs [(x0, is, ds)] ∧ Src Tryz.prog 3 84 (.slice (some ⟨g, 0, none⟩) 1 1) 1 cs V)
      (fun a1 V => ∃ v12 v13 av c2, a1 = ⟨#[.slice a n c, undef, .slice none 0 0, .pointer (some ⟨w.heap.size, 0, none⟩), undef, .pointer (some ⟨W.heap.size, 0, none⟩), .slice a n c, .func (.func 245) #[] #[.pointer (some ⟨w.heap.size + 1, 0, none⟩)], .int .i64 j, .agg #[.int .i64 x0, .slice d nd cd, .slice i ni ci], .slice a' k c', .agg #[.int .i64 x0, .slice d nd cd, .slice i ni ci], v12, v13, .slice av (k + 1) c2, undef], []⟩ ∧ Fr (rowOf (.slice a' k c')) W2 V ∧ EdS V (.slice av (k + 1) c2) (rs.take (k + 1)) ∧ ∀ b, rowOf (.slice av (k + 1) c2) b → w.heap.size ≤ b)
      (fun _ V => InvSt w a n c rs (k + 1) V ∧ V.heap[w.heap.size + 2]? = W2.heap[w.heap.size + 2]? ∧ V.heap[w.heap.size + 2 + 1]? = W2.heap[w.heap.size + 2 + 1]?)
      ?h0 ?l1 ?l2 ?l3 ?l4 ?m1 ?m2 ?m3 ?m4 ?m5 ?hC
    case h0 => exact ⟨_, fun h => absurd h (by decide), rfl, (Fr.refl _ _).drew⟩
    case l1 =>
      rintro a1 V K ⟨v10, _, rfl, hf⟩ hK
      have hc := blk_cells (hf.keep HX1.out (fun h => h))
      exact opIn_run rfl rfl (by simp [Oper.semAt_some, go_sem, hc]) (hK _ _ ⟨_, fun _ => rfl, rfl, hf⟩)
    case l2 =>
      rintro a1 V K ⟨v10, _, rfl, hf⟩ hK
      have hc := blk_cells (hf.keep HX1.out (fun h => h))
      exact opIn_run rfl rfl (by simp [Oper.semAt_some, go_sem, hc]) (hK _ _ ⟨_, fun _ => rfl, rfl, hf⟩)
    case l3 =>
      rintro a1 V K ⟨v10, v12, _, rfl, hf, hv⟩ hK
      have hc := blk_cells (hf.keep HX1.out (fun h => h))
      exact opIn_run rfl rfl (by simp [Oper.semAt_some, go_sem, hc]) (hK _ _ ⟨_, _, fun _ => rfl, rfl, hf, hv⟩)
    case l4 =>
      rintro a1 V K ⟨v10, v12, g, cs, _, rfl, hf, hv⟩ hK
      have hc := blk_cells (hf.keep HX1.out (fun h => h))
      exact opIn_run rfl rfl (by simp [Oper.semAt_some, go_sem, hc]) (hK _ _ ⟨_, _, _, _, fun _ => rfl, rfl, hf, hv⟩)
    case m1 =>
      rintro ld a1 V K ⟨v10, h10, rfl, hf⟩ hK
      have hc := blk_cells (hf.keep HX5.out (fun h => h))
      exact opIn_run rfl rfl (by simp [Oper.semAt_some, go_sem, hc]) (hK _ _ ⟨_, h10, rfl, hf⟩)
    case m2 =>
      rintro ld a1 V K ⟨v10, h10, rfl, hf⟩ hK
      exact opIn_call rfl rfl (by simp [Oper.semAt_some, go_sem]) (undo_inverse V _ x0 ds is (HEV.out.stay hf (NR.nob _)) (by rw [HX.out]; exact HSM.out.1) (by rw [HY.out]; exact HSM.out.2)) (fun e V2 ⟨v, he, hv, hfr⟩ => ⟨v, he, hK _ _ ⟨v10, v, h10, rfl, hf.then hfr, hv⟩⟩)
    case m3 =>
      rintro ld a1 V K ⟨v10, v12, h10, rfl, hf, hv⟩ hK
      have hcs := (hv.stay (Fr.alloc (Fr.refl nob V) (.cells v12.cells 168)) (NR.nob _)).cells
      obtain ⟨da2, ia2, dc2, ic2, rfl, _⟩ := hv
      exact opIn_run rfl rfl (by simp [Oper.semAt_some, go_sem]) (hK _ _ ⟨v10, _, _, _, h10, rfl, hf.alloc _, hcs, HSrc.out V _ _ _ _ _ _ _⟩)
    case m4 =>
      rintro a1 V K ⟨v10, v12, g, cs, h10, rfl, hf, hcs, hsrc⟩ hK
      obtain rfl := h10 rfl
      obtain ⟨⟨ys, hy1, hy2⟩, _⟩ := HX2.out
      have hlen : (rs.take k).length = k := by rw [List.length_take]; have := HRN.out; omega
      rw [hlen] at hy1
      have hyV := hy1.stay hf (fun _ _ _ _ h => h)
      refine opIn_app rfl rfl (.tmp 10) (.tmp 13) 84 84 rfl 168 i0 _ 3 56 Tryz.underlying84 hi0 hz0 hz1 hz2 rfl (by decide) _ k ys rfl hyV _ 1 cs rfl hsrc (by have := HN1.out; unfold maxLen; omega) (by have := HN1.out; omega) ?_
      intro av c2 V2 hO hF hR
      refine hK _ _ ⟨_, _, av, c2, rfl, hf.after hF, ?_, ?_⟩
      · rw [HT.out]
        exact EdS.snoc (e := (x0, is, ds)) hlen.symm hyV (hy2.stay hf (NR.nob _)) hcs hO hF
      · exact fresh_of (w2 := w) (HU2.out.fr.then hf).size hR HX3.out
    case m5 =>
      rintro a1 V K ⟨v12, v13, av, c2, rfl, hf, hed, hfresh⟩ hK
      have hrow : ∀ b, rowOf (.slice a' k c') b → ∃ c fr, W2.heap[b]? = some (.cells c 168 fr) := fun b hb => by
        obtain ⟨ys, hy⟩ := HX2.out.own
        exact hy.rowTy hb
      have hn : ¬ rowOf (.slice a' k c') w.heap.size := fun hr => HX2.out.rowNe hr HX1.out (by decide) rfl
      have hn1 : ¬ rowOf (.slice a' k c') (w.heap.size + 1) := fun hr => HX2.out.rowNe hr HU2.out.box (by decide) rfl
      have hn2 : ∀ b, b = w.heap.size + 2 ∨ b = w.heap.size + 2 + 1 → ¬ rowOf (.slice a' k c') b := fun b hb hr => by
        obtain ⟨c, fr, h⟩ := hrow b hr
        exact HNC.out b hb c _ fr h
      have hb := hf.keep HX1.out hn
      have hc := blk_cells hb
      have hz := blk_free hb
      have hlt := blk_lt hb
      have hN : NR V (one w.heap.size) := NR.one hb (by decide)
      have hfs : Fr (one w.heap.size) V (V.setCell ⟨w.heap.size, 0, none⟩ (.slice av (k + 1) c2)) := (Fr.refl _ _).setOne _ _
      have hb2 := heap_setCell_same (o := 0) hb (.slice av (k + 1) c2)
      refine opIn_skip rfl rfl (by simp [Oper.semAt_some, go_sem, hc, hz]) (hK _ _ ⟨⟨?_, ?_, av, c2, hb2, ?_, hfresh⟩, ?_, ?_⟩)
      · exact (HU2.out.fr.trans hf (fun b hb hr => absurd (HX3.out b hr) (by omega))).setNew _ _ _ (Nat.le_refl _)
      · exact hfs.keep (hf.keep HU2.out.box hn1) (fun e => absurd (show w.heap.size + 1 = w.heap.size from e) (by omega))
      · exact hed.stay hfs hN (fun b hr => hed.rowNe hr hb (by decide))
      · exact (heap_setCell_ne (by show _ ≠ w.heap.size; omega) _).trans (hf.blk _ (by have := HLT2.out; omega) (hn2 _ (.inl rfl)))
      · exact (heap_setCell_ne (by show _ ≠ w.heap.size; omega) _).trans (hf.blk _ (by have := HLT2.out; omega) (hn2 _ (.inr rfl)))
    case hC => exact fun a1 V h => ⟨rfl, h⟩
end Go.Proofs.YtbhklkolkclflaaGreatDoor
/- U7: Package undo, seventh part: Undo. -/
namespace Go.Proofs.YtbhklkolkclflaaGreatDoor
open Go.RowKit

/-- The last group is let go of. -/
theorem ListBody.pop {w : World} {F : Nat → Prop} {a : Option Addr} {n c : Nat} {nv : Value} {vs : List Value} {gs : List (List EditP)} {g : List EditP} {now : List EditP}
    (h : ListBody w F (.slice a n c) nv vs (gs ++ [g]) now) : ListBody w F (.slice a gs.length c) nv (vs.take gs.length) gs now := by
  have hl : vs.length = gs.length + 1 := by simpa using h.grp.own.1
  refine ⟨⟨⟨by simp [List.length_take]; omega, fun u hu => h.grp.own.2.1 u (List.mem_of_mem_take hu), ?_⟩, ?_⟩, h.now, fun k hk => ?_, ?_, h.mn⟩
  · rcases h.grp.own.2.2 with ⟨a', hv, hn, _⟩ | ⟨b, cap, cur, hv, hb, hn, hcap, hcs, ht⟩
    · simp at hn
    · injection hv with e1 e2 e3
      subst e1 e3
      refine .inr ⟨b, c, cur, rfl, hb, by simp at hn; omega, hcap, hcs, ?_⟩
      rw [← ht, List.take_take]
      congr 1
      simp
  · intro a' n' e
    injection e with e1 e2 e3
    subst e1 e3
    exact h.grp.nil _ _ rfl
  · obtain ⟨v, g1, g2, g3⟩ := h.each k (by simp; omega)
    refine ⟨v, ?_, ?_, g3⟩
    · rw [List.getElem?_take_of_lt hk]
      exact g1
    · rw [List.getElem_append_left hk] at g2
      exact g2
  · rintro b ⟨ad, n', c', e, hc, rfl⟩
    injection e with e1 e2 e3
    subst e1 e3
    exact h.mg _ ⟨ad, n, c, rfl, hc, rfl⟩

/-- What Undo answers. -/
def Undone (w : World) (F : Nat → Prop) (l : Nat) (pre : List (List EditP)) (g : List EditP) (edits : Int) (e : Ending) (w' : World) : Prop :=
  ∃ a c, e = .returned (.tuple #[.slice a g.length c, .int .i64 0]) ∧ EdS w' (.slice a g.length c) (g.reverse.map inv) ∧ (∀ b, rowOf (.slice a g.length c) b → w.heap.size ≤ b) ∧
    ListRep w' (plus w F) l pre [] 0 (edits - g.length) ∧ Fr (wr w F) w w'

set_option maxRecDepth 10000 in
theorem undo_undo_none (w : World) (F : Nat → Prop) (l : Nat) (opn edits : Int) (h : ListRep w F l [] [] opn edits) :
    Calls Tryz.prog 95 #[.pointer (some ⟨l, 0, none⟩)] w fun e w' => e = .returned (.tuple #[.slice none 0 0, .int .i64 6]) ∧ ∃ k, w' = w.drewN k := by
  obtain ⟨a, c, a', c', hb⟩ := h.blk
  clear h
  simp only [List.length_nil] at hb
  have hc := blk_cells hb
  go_enter Tryz.func95, Tryz.ntmps95
  go_wp2_with (go_at_call 184; refine (undo_none _ _ _ _ _ _ hb).mono ?_; rintro e w' ⟨rfl, rfl⟩)
  go_quiet (fail)
  go_wp2
  go_ret2
  exact ⟨rfl, _, rfl⟩

set_option maxRecDepth 10000 in
set_option maxHeartbeats 1000000 in
theorem undo_undo (w : World) (F : Nat → Prop) (l : Nat) (gs : List (List EditP)) (now : List EditP) (opn edits : Int) (pre : List (List EditP)) (g : List EditP) (h : ListRep w F l gs now opn edits)
    (hgs : closed gs now = pre ++ [g]) (hg : Small g) (hgl : gs.length ≤ 100000) (hnl : now.length ≤ 100000) (he : 0 ≤ edits) (he2 : edits ≤ 100000) :
    Calls Tryz.prog 95 #[.pointer (some ⟨l, 0, none⟩)] w (Undone w F l pre g edits) := by
  have H := Lib.hid h
  have HG := Lib.hid hg
  obtain ⟨a, c, a', c', hb⟩ := h.blk
  have hpos : 0 < gs.length + now.length := by
    unfold closed at hgs
    split at hgs
    · rw [hgs]
      simp
      omega
    · omega
  have hpl : pre.length ≤ 100000 := by
    have := congrArg List.length hgs
    unfold closed at this
    split at this <;> simp at this <;> omega
  have hC := undo_close w F l gs now opn edits h hgl
  rw [hgs] at hC
  have hCl : ∀ V, Fr nob w V → Calls Tryz.prog 185 #[.pointer (some ⟨l, 0, none⟩)] V fun e w' => e = .returned (.tuple #[]) ∧ ListRep w' (plus V F) l (pre ++ [g]) [] 0 edits ∧ Fr (wr V F) V w' := fun V hV => by
    have h := undo_close V F l gs now opn edits (h.stayN hV) hgl
    rwa [hgs] at h
  have HC := Lib.hid hCl
  clear hC hCl h hg hgs
  have hc := blk_cells hb
  generalize hn1 : gs.length = n1 at *
  generalize hn2 : now.length = n2 at *
  have i1 : ((n1 : Int) + n2 == 0) = false := by rw [beq_eq_false_iff_ne]; omega
  have i2 : IntKind.i64.wrap ((n1 : Int) + n2) = n1 + n2 := IntWalk.i64_in _ (by omega)
  have HN := Lib.hid (And.intro hgl hnl)
  have HP := Lib.hid hpl
  clear hn1 hn2 hpos hgl hnl hpl
  go_enter Tryz.func95, Tryz.ntmps95
  go_wp2_with (go_at_call 184; refine (undo_none _ _ _ _ _ _ hb).mono ?_; rintro e w' ⟨rfl, rfl⟩)
  go_quiet (fail)
  go_wp2_with fail
  refine (HC.out _ ((Fr.refl _ _).drewN _)).mono ?_
  rintro e w1 ⟨rfl, hr1, hf1⟩
  obtain ⟨gv, nv, vs, hb1, hbody⟩ := hr1.ex
  obtain ⟨ga, gc, rfl, hle, _⟩ := hbody.grp.own.val
  obtain ⟨v, hv1, hv2, hv3⟩ := hbody.each pre.length (by simp)
  rw [List.getElem_append_right (Nat.le_refl _)] at hv2
  simp only [Nat.sub_self, List.getElem_cons_zero] at hv2
  obtain ⟨va, vc, rfl, _, _⟩ := hv2.val
  have hlen : (pre ++ [g]).length = pre.length + 1 := by simp
  rw [hlen] at hb1 hle
  have hrd : ∃ gg, ga = some ⟨gg, 0, none⟩ ∧ w1.cell? ⟨gg, pre.length, none⟩ = some (.slice va g.length vc) := by
    rcases hbody.grp.own.2.2 with ⟨a', e1, e2, _⟩ | ⟨gg, cap, cur, e1, e2, e3, e4, e5, e6⟩
    · simp at e2
    · injection e1 with e1 _ e7
      subst e1
      have := hbody.grp.own.cells (by omega) _ _ hv1
      exact ⟨gg, rfl, this⟩
  obtain ⟨gg, rfl, hcell⟩ := hrd
  have hpop := hbody.pop
  have hne : gg ≠ l := hbody.grp.own.rowNe ⟨_, _, _, rfl, by omega, rfl⟩ hb1 (by decide)
  have HPOP := Lib.hid hpop
  have HV2 := Lib.hid hv2
  have HV3 := Lib.hid hv3
  have HR1 := Lib.hid hr1
  have HF1 := Lib.hid (wr.nobAfter (F := F) ((Fr.refl nob _).drewN nq) (hf1.mono (fun _ _ hm => ⟨.inl hm.1, hm.2⟩)))
  have HB1 := Lib.hid hb1
  have hc1 := blk_cells hb1
  have hz1 := blk_free hb1
  have hlt1 := blk_lt hb1
  have hpl := HP.out
  have hgl := HG.out.1
  generalize hm : pre.length = m at *
  generalize hgn : g.length = gn at *
  have HM := Lib.hid hm
  have HGN := Lib.hid hgn
  have i3 : IntKind.i64.wrap (((m + 1 : Nat) : Int) - 1) = m := by rw [IntWalk.i64_in _ (by omega)]; omega
  have i4 : IntKind.i64.wrap (edits - gn) = edits - gn := IntWalk.i64_in _ (by omega)
  have i8 : (m : Int) ≤ 100000 := by omega
  have i5 : (m : Int) < ((m + 1 : Nat) : Int) := by omega
  have i6 : (m : Int) ≤ ((m + 1 : Nat) : Int) := by omega
  have i7 : (m : Int) ≤ gc := by omega
  have HLE := Lib.hid hle
  clear hbody hv1 hv2 hv3 hr1 hf1 hlen hpop hb1 hm hgn hpl hgl hle hb hc H
  go_wp2_with fail
  have hf2 : Fr (one l) w1 ((w1.setCell ⟨l, 0, none⟩ (.slice (some ⟨gg, 0, none⟩) m gc)).setCell ⟨l, 3, none⟩ (.int .i64 (edits - gn))) := ((Fr.refl _ _).setOne _ _).setOne _ _
  have hed2 := HV2.out.stay hf2 (ListBlk.nr HB1.out) (fun b hb => HV2.out.rowNe hb HB1.out (by decide))
  have hr2 : ListRep ((w1.setCell ⟨l, 0, none⟩ (.slice (some ⟨gg, 0, none⟩) m gc)).setCell ⟨l, 3, none⟩ (.int .i64 (edits - gn))) (plus (w'.drewN nq) F) l pre [] 0 (edits - gn) :=
    ⟨⟨_, _, _, (ListBlk.set0 HB1.out _).set3 _, ListBlk.body HB1.out (by rw [← HM.out] at hf2 ⊢; rw [← HM.out] at HPOP; exact HPOP.out) hf2⟩, HR1.out.mem⟩
  have HR2 := Lib.hid hr2
  have HF2 := Lib.hid hf2
  refine (undo_inverses _ va gn vc g hed2 HG.out).mono ?_
  rintro e w3 ⟨a3, c3, rfl, hed3, hfr3, hfresh3⟩
  have hlen : (g.reverse.map inv).length = gn := by rw [List.length_map, List.length_reverse, HGN.out]
  rw [hlen] at hed3 hfresh3 ⊢
  have HED3 := Lib.hid hed3
  have HFR3 := Lib.hid hfr3
  have HFS3 := Lib.hid hfresh3
  clear hed2 hed3 hfr3 hfresh3 hlen hr2 hf2
  go_wp2
  go_ret2
  refine ⟨a3, c3, ?_, ?_, ?_, ?_, ?_⟩
  · rw [HGN.out]
    rfl
  · rw [HGN.out]
    exact HED3.out
  · rw [HGN.out]
    exact fun b hb => Nat.le_trans (Nat.le_trans HF1.out.size HF2.out.size) (HFS3.out b hb)
  · rw [HGN.out]
    exact HR2.out.stayN HFR3.out
  · exact wr.trans HF1.out ((HF2.out.wr (fun b _ e => by cases e; exact HR1.out.mem) (ListBlk.nr HB1.out)).then HFR3.out)
end Go.Proofs.YtbhklkolkclflaaGreatDoor
/- U8: Package undo, eighth part: Clone. -/
namespace Go.Proofs.YtbhklkolkclflaaGreatDoor
open Go.RowKit

theorem ListBody.pushG {w w' : World} {F : Nat → Prop} {gv nv gv' v : Value} {vs : List Value} {gs : List (List EditP)} {g now : List EditP} (h : ListBody w F gv nv vs gs now) (hv : EdS w v g)
    (hvF : ∀ b, rowOf v b → F b ∧ ¬ rowOf nv b)
    (ho : Own w' 84 1 gv' (gs.length + 1) (vs ++ [v])) (hf : Fr (rowOf gv) w w') (hr : rowOf gv = rowOf gv' ∨ ∀ b, rowOf gv' b → w.heap.size ≤ b) :
    ListBody w' (plus w F) gv' nv (vs ++ [v]) (gs ++ [g]) now := by
  have hN : NR w (rowOf gv) := h.grp.own.nrRow (by decide)
  have he : ∀ v es, EdS w v es → ∀ b, rowOf v b → ¬ rowOf gv b := fun v es hv b hb hg => by
    obtain ⟨c', fr', hc⟩ := h.grp.own.rowTy hg
    exact hv.rowNe hb hc (by decide) rfl
  have hl : vs.length = gs.length := by simpa using h.grp.own.1
  refine ⟨OwnZ.of (by simpa using ho) (by simp), h.now.stay hf hN (he _ _ h.now), fun k hk => ?_, fun b hb => ?_, fun b hb => .inl (h.mn b hb)⟩
  · rcases Nat.lt_or_ge k gs.length with hk' | hk'
    · obtain ⟨v, g1, g2, g3⟩ := h.each k hk'
      refine ⟨v, by rw [List.getElem?_append_left (by omega)]; exact g1, ?_, fun b hb => ⟨.inl (g3 b hb).1, (g3 b hb).2⟩⟩
      rw [List.getElem_append_left hk']
      exact g2.stay hf hN (he _ _ g2)
    · obtain rfl : k = gs.length := by simp at hk; omega
      refine ⟨v, by rw [List.getElem?_append_right (by omega), hl]; simp, ?_, fun b hb => ⟨.inl (hvF b hb).1, (hvF b hb).2⟩⟩
      simp only [List.getElem_append_right (Nat.le_refl _), Nat.sub_self, List.getElem_cons_zero]
      exact hv.stay hf hN (he _ _ hv)
  · rcases hr with hr | hr
    · rw [← hr] at hb
      exact .inl (h.mg b hb)
    · exact .inr (hr b hb)

/-- What is new. -/
def newIn (w : World) : Nat → Prop := plus w nob

/-- All groups can be copied. -/
def Smalls (gs : List (List EditP)) : Prop := gs.length ≤ 100000 ∧ ∀ g ∈ gs, Small g

set_option maxRecDepth 10000 in
set_option maxHeartbeats 1000000 in
theorem undo_clone (w : World) (F : Nat → Prop) (l : Nat) (gs : List (List EditP)) (now : List EditP) (opn edits : Int) (h : ListRep w F l gs now opn edits) (hs : Smalls gs) (hn : Small now) :
    Calls Tryz.prog 169 #[.pointer (some ⟨l, 0, none⟩)] w fun e w' => ∃ l', e = .returned (.pointer (some ⟨l', 0, none⟩)) ∧ w.heap.size ≤ l' ∧ ListRep w' (newIn w) l' gs now opn edits ∧ Fr nob w w' := by
  obtain ⟨gv, nv, vs, hb, hbody⟩ := h.ex
  obtain ⟨ga, gc, rfl, _⟩ := hbody.grp.own.val
  obtain ⟨na, nc, rfl, _⟩ := hbody.now.val
  clear h
  have HB := Lib.hid hbody
  have HBlk := Lib.hid hb
  have HS := Lib.hid hs
  have HN := Lib.hid hn
  have hc := blk_cells hb
  have hlt := blk_lt hb
  have hgn := hs.1
  generalize hn1 : gs.length = n at *
  have HN1 := Lib.hid hn1
  have hnI : (n : Int) ≤ 100000 := by omega
  obtain ⟨i0, hi0, hz0, hz1, hz2⟩ := info_parts Tryz.info_edit1
  have HSrc := Lib.hid (fun (V : World) (a' : Option Addr) (n' c' : Nat) => (Sl.ofNew V (.slice a' n' c') 84 rfl).src (P := Tryz.prog) (tx := 212) (by decide) Tryz.underlying212)
  have hCop : ∀ V, Fr nob w V → Calls Tryz.prog 225 #[.slice na now.length nc] V (EdMade V now) := fun V hV => undo_copied V na now.length nc now (HB.out.now.stayN hV) HN.out
  have HCop := Lib.hid hCop
  clear hs hn hbody hgn hn1 hCop
  go_enter Tryz.func169, Tryz.ntmps169
  go_wp2_with (first | (go_at_call 184; refine (undo_none _ _ _ _ _ _ hb).mono ?_; rintro e w' ⟨rfl, rfl⟩) | (go_at_call 225; refine (HCop.out _ (by exact (Fr.refl _ _).alloc _)).mono ?_; rintro e w1 ⟨a1, c1, rfl, hed, hfr, hfresh⟩; have hfr1 := ((Fr.refl nob _).alloc _).then hfr; have hb1 := hfr1.keep HBlk.out (fun h => h); have hc1 := blk_cells hb1; have hlt1 := blk_lt hb1; have hbx := hfr.keep (heap_alloc_new _ _) (fun h => h); have hcx := blk_cells hbx; have hzx := blk_free hbx; have hltx := blk_lt hbx; have HED := Lib.hid hed; have HFR1 := Lib.hid hfr1; have HFS := Lib.hid hfresh; have HBX := Lib.hid hbx; clear hed hfr hfresh hfr1 hbx hb1))
  have hst : ListBlk ((w1.setCell ⟨w'.heap.size, 0, none⟩ (.slice none 0 0)).setCell ⟨w'.heap.size, 1, none⟩ (.slice a1 now.length c1)) w'.heap.size (.slice none 0 0) (.slice a1 now.length c1) opn edits := (ListBlk.set0 HBX.out _).set1 _
  have hfs : Fr (one w'.heap.size) w1 ((w1.setCell ⟨w'.heap.size, 0, none⟩ (.slice none 0 0)).setCell ⟨w'.heap.size, 1, none⟩ (.slice a1 now.length c1)) := ((Fr.refl _ _).setOne _ _).setOne _ _
  have hed2 := HED.out.stay hfs (ListBlk.nr HBX.out) (fun b hb => HED.out.rowNe hb HBX.out (by decide))
  have hf0 : Fr nob w' ((w1.setCell ⟨w'.heap.size, 0, none⟩ (.slice none 0 0)).setCell ⟨w'.heap.size, 1, none⟩ (.slice a1 now.length c1)) := HFR1.out.trans hfs (fun b hb e => by cases e; omega)
  have hbd : ListBody ((w1.setCell ⟨w'.heap.size, 0, none⟩ (.slice none 0 0)).setCell ⟨w'.heap.size, 1, none⟩ (.slice a1 now.length c1)) (newIn w') (.slice none 0 0) (.slice a1 now.length c1) [] (gs.take 0) now :=
    ⟨OwnZ.none _ _ _, hed2, fun k hk => absurd hk (by simp), (fun b ⟨_, _, _, h, _⟩ => by cases h), fun b hb => .inr (Nat.le_trans (by simp) (HFS.out b hb))⟩
  have HST := Lib.hid hst
  have HF0 := Lib.hid hf0
  have HBD := Lib.hid hbd
  clear hst hfs hed2 hf0 hbd hcx hzx hltx hc1 hlt1 HBX HED HFS HFR1
  go_loopw [5, 27] (fun _ i W => ∃ (k : Nat) (a' : Option Addr) (c' : Nat) (vs' : List Value), k ≤ n ∧ i = .int .i64 k ∧ Hid (ListBlk W w'.heap.size (.slice a' k c') (.slice a1 now.length c1) opn edits) ∧
    Hid (ListBody W (newIn w') (.slice a' k c') (.slice a1 now.length c1) vs' (gs.take k) now) ∧ Fr nob w' W) (fun _ i _ => n - (intOf i).toNat)
  case atStart => exact ⟨0, none, 0, [], Nat.zero_le _, rfl, HST.out, HBD.out, HF0.out⟩
  case round =>
    obtain ⟨k, a', c', vs', hk, rfl, HLB, HBO, hfr⟩ := hrel
    by_cases hkt : k < n
    · have hkg : k < gs.length := by have := HN1.out; omega
      obtain ⟨v, hv1, hv2, _⟩ := HB.out.each k hkg
      obtain ⟨va, vc, rfl, _, _⟩ := hv2.val
      have hrd : ∃ gg, ga = some ⟨gg, 0, none⟩ ∧ w'.cell? ⟨gg, k, none⟩ = some (.slice va gs[k].length vc) := by
        rcases HB.out.grp.own.2.2 with ⟨a', e1, e2, _⟩ | ⟨gg, cap, cur, e1, e2, e3, e4, e5, e6⟩
        · omega
        · injection e1 with e1 _ e7
          subst e1 e7
          have h0 := HB.out.grp.own
          rw [HN1.out] at h0
          have := h0.cells (by omega) _ _ hv1
          exact ⟨gg, rfl, this⟩
      obtain ⟨gg, rfl, hcell0⟩ := hrd
      have hsm := HS.out.2 _ (List.getElem_mem hkg)
      have htk : gs.take (k + 1) = gs.take k ++ [gs[k]] := by rw [List.take_succ_eq_append_getElem hkg]
      have HT := Lib.hid htk
      generalize gs[k] = g at *
      generalize hgl : g.length = gl at *
      have HGL := Lib.hid hgl
      have HSM := Lib.hid hsm
      have HV2 := Lib.hid hv2
      clear hv1 hv2 hsm htk hgl
      have hcell := (show World.cell? wr ⟨gg, k, none⟩ = _ from (by
        have h1 := (Rd.old (cs := [.slice va gl vc]) (a := some ⟨gg, k, none⟩) (.inr ⟨gg, k, rfl, fun j u hj => by cases j with | zero => (simp at hj; subst hj; exact hcell0) | succ j => simp at hj⟩) hfr (fun _ _ h => h))
        rcases h1 with h1 | ⟨g', o', e, h1⟩
        · cases h1
        · injection e with e
          injection e with e1 e2
          subst e1 e2
          exact h1 0 _ rfl))
      have hc2 := blk_cells HLB.out
      have hlt2 := blk_lt HLB.out
      have hCg : ∀ V, Fr nob wr V → Calls Tryz.prog 225 #[.slice va gl vc] V (EdMade V g) := fun V hV => undo_copied V va gl vc g ((HV2.out.stayN hfr).stayN hV) HSM.out
      have hXo : ∀ V : World, Fr nob wr V → Own V 84 1 (.slice a' k c') k vs' := fun V hV => by
        have h := HBO.out.grp.own.stay hV (fun _ _ _ _ h => h)
        rwa [show (gs.take k).length = k by rw [List.length_take]; omega] at h
      have HXo := Lib.hid hXo
      have HCg := Lib.hid hCg
      have hK : ∀ V V2 : World, Fr nob wr V → Fr (rowOf (.slice a' k c')) V V2 → ListBlk V2 w'.heap.size (.slice a' k c') (.slice a1 now.length c1) opn edits := fun V V2 hV hV2 => by
        have h1 := hV.keep HLB.out (fun h => h)
        exact hV2.keep h1 (fun hr => (HXo.out V hV).rowNe hr h1 (by decide) rfl)
      have HK := Lib.hid hK
      have b1 : k + 1 ≤ maxLen := by unfold maxLen; omega
      have b2 : (k + 1) * 24 ≤ 140737488355328 := by omega
      have HB1 := Lib.hid b1
      have HB2 := Lib.hid b2
      clear hCg hXo hK b1 b2 hcell0
      have hEnd : Hid (∀ (V w2 : World) (a3 av : Option Addr) (c3 c2 : Nat) (o : Obj), Fr nob wr V → EdS V (.slice a3 g.length c3) g → (∀ b, rowOf (.slice a3 g.length c3) b → wr.heap.size ≤ b) →
          Own w2 84 1 (.slice av (k + 1) c2) (k + 1) (vs' ++ [.slice a3 g.length c3]) → Fr (rowOf (.slice a' k c')) (V.alloc o) w2 →
          (rowOf (.slice a' k c') = rowOf (.slice av (k + 1) c2) ∨ ∀ b, rowOf (.slice av (k + 1) c2) b → (V.alloc o).heap.size ≤ b) →
          ListBlk w2 w'.heap.size (.slice a' k c') (.slice a1 now.length c1) opn edits →
          Hid (ListBody (w2.setCell ⟨w'.heap.size, 0, none⟩ (.slice av (k + 1) c2)) (newIn w') (.slice av (k + 1) c2) (.slice a1 now.length c1) (vs' ++ [.slice a3 g.length c3]) (gs.take (k + 1)) now)) := by
        intro V w2 a3 av c3 c2 o hV hed hfs hO hF2 hR2 hb2
        have hVA := hV.alloc o
        have hbd := ListBody.pushG (v := .slice a3 g.length c3) (g := g) (HBO.out.stay hVA (NR.nob _) (fun _ _ _ h => h)) (hed.stayN ((Fr.refl _ _).alloc _))
          (fun b hb => ⟨.inr (Nat.le_trans hfr.size (hfs b hb)), fun hn => by have h1 := HBO.out.now.lt b hn; have h2 := hfs b hb; omega⟩) (by rw [show (gs.take k).length = k by rw [List.length_take]; omega]; exact hO) hF2 hR2
        rw [HT.out]
        exact hb2.body (hbd.mono (plus.idem (Nat.le_trans hfr.size hVA.size))) ((Fr.refl _ _).setOne _ _)
      have hFin : Hid (∀ (V w2 : World) (av : Option Addr) (c2 : Nat) (o : Obj), Fr nob wr V → Fr (rowOf (.slice a' k c')) (V.alloc o) w2 → Fr nob w' (w2.setCell ⟨w'.heap.size, 0, none⟩ (.slice av (k + 1) c2))) := by
        intro V w2 av c2 o hV hF2
        exact (((hfr.then hV).alloc o).trans hF2 (fun b hb hr => absurd (HBO.out.mg b hr) (by rintro (h | h); exact h; omega))).setNew _ _ _ (Nat.le_refl _)
      go_wp2
      go_region_law (first
        | (go_simp; go_at_call 225; refine (HCg.out _ (by exact (Fr.refl _ _).drew)).mono ?_; rintro e V ⟨a3, c3, rfl, hed3, hfr3, hfs3⟩; have hfV := (Fr.refl nob wr).drew.then hfr3; have hb3 := hfV.keep HLB.out (fun h => h); have hc3 := blk_cells hb3; have hlt3 := blk_lt hb3; have HFV := Lib.hid hfV; have HED3 := Lib.hid hed3; have HFS3 := Lib.hid hfs3; clear hed3 hfr3 hfs3 hfV)
        | (refine step_app rfl (.tmp 33) (.tmp 36) 212 212 rfl 84 i0 _ 1 24 Tryz.underlying212 hi0 hz0 hz1 hz2 rfl (by decide) _ k vs' rfl (by exact HXo.out _ (HFV.out.alloc _)) _ 1 _ rfl (by exact HSrc.out _ _ _ _) HB1.out HB2.out ?_; intro av c2 w2 hown2 hfr2 hrow2; have HO2 := Lib.hid hown2; have HF2 := Lib.hid hfr2; have HR2 := Lib.hid hrow2; have hb4 := HK.out _ _ (HFV.out.alloc _) hfr2; have hc4 := blk_cells hb4; have hz4 := blk_free hb4; have hlt4 := blk_lt hb4; clear hown2 hfr2 hrow2))
      all_goals go_wp2
      all_goals go_roundw
      all_goals first
        | (simp [intOf]; omega)
        | skip
      all_goals refine ⟨k + 1, av, c2, vs' ++ [.slice a3 g.length c3], by omega, by go_num, hb4.set0 _, ?_, ?_⟩
      all_goals first
        | exact hEnd.out _ _ _ _ _ _ _ HFV.out HED3.out HFS3.out HO2.out HF2.out HR2.out hb4
        | exact hFin.out _ _ _ _ _ HFV.out HF2.out
    · have hq : k = n := by omega
      subst hq
      have hV := HBO.out
      rw [List.take_of_length_le (by rw [HN1.out]; omega)] at hV
      have HV2 := Lib.hid hV
      clear hV HBO
      go_wp2
      go_ret
      exact ⟨_, rfl, Nat.le_refl _, ⟨⟨_, _, vs', HLB.out, HV2.out⟩, .inr (Nat.le_refl _)⟩, hfr⟩
end Go.Proofs.YtbhklkolkclflaaGreatDoor
/- U9: Package undo, ninth part: Groups. -/
namespace Go.Proofs.YtbhklkolkclflaaGreatDoor
open Go.RowKit
attribute [local go_sem] Oper.semAt_some

def gargs (vs : List Value) (n k : Nat) : Array Value := #[.int .i64 (n - 1 - k : Nat), vs.getD (n - 1 - k) undef]

theorem backG_yields (m : Nat) (hm : 1 ≤ m) (box g : Nat) (a : Option Addr) (n c : Nat) (vs : List Value) (ha : 0 < n → a = some ⟨g, 0, none⟩) (hs : n ≤ 100000) :
    Yields Tryz.prog m 244 #[.pointer (some ⟨box, 0, none⟩)] n (gargs vs n) (fun W => W.cell? ⟨box, 0, none⟩ = some (.slice a n c) ∧ ∀ j, j < n → W.cell? ⟨g, j, none⟩ = some (vs.getD j undef)) := by
  intro l J W hK hY h0
  refine back1_groups m l box g 0 n c a ha (fun j => vs.getD j undef) hm (by omega) J (fun k W hJ => ⟨(hK k W hJ).1, fun j hj => ?_⟩) (fun k i W hJ hi => ?_) W h0
  · rw [Nat.zero_add]
    exact (hK k W hJ).2 j hj
  · have h := hY k W hJ (by omega)
    have e : n - 1 - k = i := by omega
    simp only [gargs, e] at h
    exact h

/-- After k rounds. -/
structure GrpSt (w : World) (a : Option Addr) (n c : Nat) (rs : List (List EditP)) (k : Nat) (W : World) : Prop where
  fr : Fr nob w W
  box : W.heap[w.heap.size + 1]? = some (.cells #[.slice a n c] 212 (0, 0))
  ex : ∃ a' c' vs', W.heap[w.heap.size]? = some (.cells #[.slice a' k c'] 212 (0, 0)) ∧ ListBody W (newIn w) (.slice a' k c') (.slice none 0 0) vs' (rs.take k) []

theorem GrpSt.keep {w : World} {a : Option Addr} {n c k : Nat} {rs : List (List EditP)} {W W' : World} {M : Nat → Prop} (h : GrpSt w a n c rs k W) (hf : Fr M W W') (hM : ∀ b, M b → w.heap.size ≤ b)
    (hc : ∀ b, M b → ∀ c T fr, W.heap[b]? ≠ some (.cells c T fr)) : GrpSt w a n c rs k W' := by
  obtain ⟨a', c', vs', h1, h2⟩ := h.ex
  have hn : ∀ b c T fr, W.heap[b]? = some (.cells c T fr) → ¬ M b := fun b c T fr e hb => hc b hb c T fr e
  refine ⟨h.fr.trans hf (fun b hb hm => absurd (hM b hm) (by omega)), hf.keep h.box (hn _ _ _ _ h.box), a', c', vs', hf.keep h1 (hn _ _ _ _ h1), h2.stay hf (fun b c fr e => hn b c _ fr e) ?_⟩
  rintro b _ ⟨c, fr, e | e⟩
  · exact hn _ _ _ _ e
  · exact hn _ _ _ _ e
theorem GrpSt.n {w : World} {a : Option Addr} {n c k : Nat} {rs : List (List EditP)} {W W' : World} (h : GrpSt w a n c rs k W) (hf : Fr nob W W') : GrpSt w a n c rs k W' := h.keep hf (fun _ h => h.elim) (fun _ h => h.elim)

/-- The function that Groups answers: its box, what the box holds. -/
def GroupsAre (w : World) (rs : List (List EditP)) (e : Ending) (w' : World) : Prop :=
  ∃ x a c vs, e = .returned (.func (.func 229) #[] #[.pointer (some ⟨x, 0, none⟩)]) ∧ w.heap.size ≤ x ∧ w'.heap[x]? = some (.cells #[.slice a rs.length c] 212 (0, 0)) ∧
    ListBody w' (newIn w) (.slice a rs.length c) (.slice none 0 0) vs rs [] ∧ Fr nob w w'

set_option maxRecDepth 10000 in
set_option maxHeartbeats 1000000 in
theorem undo_groups (w : World) (F : Nat → Prop) (l : Nat) (gs : List (List EditP)) (opn edits : Int) (h : ListRep w F l gs [] opn edits) (hs : Smalls gs) :
    Calls Tryz.prog 177 #[.pointer (some ⟨l, 0, none⟩)] w (GroupsAre w gs.reverse) := by
  obtain ⟨gv, nv, vs, hb, hbody⟩ := h.ex
  obtain ⟨ga, gc, rfl, _⟩ := hbody.grp.own.val
  obtain ⟨na, nc, rfl, _⟩ := hbody.now.val
  clear h
  have HB := Lib.hid hbody
  have HBlk := Lib.hid hb
  have HS := Lib.hid hs
  have hgn := hs.1
  have hvl : vs.length = gs.length := by simpa using hbody.grp.own.1
  have hrd : ∃ gg, (0 < gs.length → ga = some ⟨gg, 0, none⟩) ∧ ∀ j, j < gs.length → w.cell? ⟨gg, j, none⟩ = some (vs.getD j undef) := by
    rcases hbody.grp.own.2.2 with ⟨a', e1, e2, _⟩ | ⟨gg, cap, cur, e1, e2, e3, e4, e5, e6⟩
    · exact ⟨0, fun h => by omega, fun j h => by omega⟩
    · injection e1 with e1 _ e7
      subst e1 e7
      refine ⟨gg, fun _ => rfl, fun j hj => ?_⟩
      have h0 := hbody.grp.own.cells (by omega) j _ (List.getElem?_eq_getElem (show j < vs.length by omega))
      rw [h0, List.getD_eq_getElem?_getD, List.getElem?_eq_getElem (show j < vs.length by omega)]
      rfl
  obtain ⟨gg, hga, hgc⟩ := hrd
  generalize hn1 : gs.length = n at *
  have HN1 := Lib.hid hn1
  have HGA := Lib.hid hga
  have HGC := Lib.hid hgc
  have HVL := Lib.hid hvl
  have hnI : (n : Int) ≤ 100000 := by omega
  obtain ⟨rs, hrs⟩ : ∃ rs, gs.reverse = rs := ⟨_, rfl⟩
  have HRS := Lib.hid hrs
  rw [hrs]
  have hrn : rs.length = n := by rw [← hrs, List.length_reverse, hn1]
  have HRN := Lib.hid hrn
  clear hrs hrn hs hbody hgn hn1 hga hgc hvl
  obtain ⟨i0, hi0, hz0, hz1, hz2⟩ := info_parts Tryz.info_edit1
  have HSrc := Lib.hid (fun (V : World) (a' : Option Addr) (n' c' : Nat) => (Sl.ofNew V (.slice a' n' c') 84 rfl).src (P := Tryz.prog) (tx := 212) (by decide) Tryz.underlying212)
  have hb1 : ListBlk (w.alloc (.cells #[.slice none 0 0] 212)) l (.slice ga n gc) (.slice na 0 nc) opn edits := ((Fr.refl nob w).alloc _).keep HBlk.out (fun h => h)
  have hc := blk_cells hb1
  have hlt := blk_lt hb1
  refine callsIn_wide.1 (callsIn_of_wp_marks (F := Fence.wide) (n := 10) Tryz.func177 rfl trivial (wpIn_wide.2 ?_) rfl)
  simp only [Tryz.ntmps177, List.size_toArray, List.length_cons, List.length_nil, Nat.reduceAdd, Nat.reduceSub, Array.replicate_succ, Array.replicate_zero, List.push_toArray, List.append_toArray, List.nil_append, List.cons_append]
  go_wp2_with (first | (go_at_call 184; refine (undo_none _ _ _ _ _ _ hb1).mono ?_; rintro e w' ⟨rfl, rfl⟩) | (go_at_call 228; refine (callsIn_wide.1 (back_groups 10 ga n gc _)).mono ?_; rintro e w' ⟨rfl, rfl⟩))
  -- GENERATED FROM HERE by gen_u9.py
  refine (wpIn_wide (n := 10)).1 ?_
  refine range_all 244 #[.pointer (some ⟨w.heap.size + 1, 0, none⟩)] rfl ?hinv n (gargs vs n) (fun _ => rfl)
    (fun k => #[.pointer (some ⟨l, 0, none⟩), undef, .nilFunc, .pointer (some ⟨w.heap.size, 0, none⟩), undef, undef, .pointer (some ⟨l, 0, none⟩), .bool false, .bool true, .pointer (some ⟨l, 0, none⟩), .pointer (some ⟨l, 0, none⟩), .pointer (some ⟨l, 0, none⟩), .pointer (some ⟨l, 1, none⟩), .slice na 0 nc, .int .i64 0, .bool false, undef, undef, undef, undef, undef, undef, undef, undef, undef, .pointer (some ⟨l, 0, none⟩), .pointer (some ⟨l, 0, none⟩), .pointer (some ⟨l, 0, none⟩), .pointer (some ⟨l, 0, none⟩), .slice ga n gc, .func (.func 244) #[] #[.pointer (some ⟨w.heap.size + 1, 0, none⟩)], .int .i64 (n - 1 - k : Nat), vs.getD (n - 1 - k) undef, undef, undef, undef, undef, undef, undef]) (fun _ => (zip2 _ _ _ _ _).trans rfl) _
    (backG_yields 9 (by omega) (w.heap.size + 1) gg ga n gc vs HGA.out (by omega))
    (GrpSt w ga n gc rs) ?h0 ?hK ?hU ?hround ?hdone
  case hinv => intro l W; rfl
  case h0 =>
    refine ⟨((Fr.refl _ _).alloc _).alloc _, ?_, none, 0, [], (heap_alloc_lt _ (by simp)).trans (heap_alloc_new w _), OwnZ.none _ _ _, EdS.none _, fun k hk => absurd hk (by simp), (fun b ⟨_, _, _, h, _⟩ => by cases h), (fun b ⟨_, _, _, h, _⟩ => by cases h)⟩
    have h := heap_alloc_new (w.alloc (.cells #[.slice none 0 0] 212)) (.cells #[.slice ga n gc] 212)
    rw [show (w.alloc (.cells #[.slice none 0 0] 212)).heap.size = w.heap.size + 1 by simp] at h
    exact h
  case hK =>
    refine fun k W h => ⟨by rw [blk_cells h.box]; rfl, fun j hj => ?_⟩
    have h1 := (Rd.old (cs := [vs.getD j undef]) (a := some ⟨gg, j, none⟩) (.inr ⟨gg, j, rfl, fun i u hi => by cases i with | zero => (simp at hi; subst hi; exact HGC.out j hj) | succ i => simp at hi⟩) h.fr (fun _ _ h => h))
    rcases h1 with h1 | ⟨g', o', e, h1⟩
    · cases h1
    · injection e with e
      injection e with e1 e2
      subst e1 e2
      exact h1 0 _ rfl
  case hU => exact fun k W W' h hf hc => h.keep hf (fun b hb => by simp at hb; omega) hc
  case hdone =>
    rintro W hst hD hlt
    have HST := Lib.hid hst
    rw [show ((w.alloc (.cells #[.slice none 0 0] 212)).alloc (.cells #[.slice ga n gc] 212)).heap.size = w.heap.size + 1 + 1 by simp] at hD ⊢
    have HD := Lib.hid hD
    clear hD hst hc
    go_wp2
    refine ⟨by simp, .inl ⟨_, _, rfl, run_takeDeferred HD.out, ?_⟩⟩
    have hW : GrpSt w ga n gc rs n (World.putObj W (w.heap.size + 1 + 1) (.deferred none)) := HST.out.keep (M := one (w.heap.size + 1 + 1)) ((Fr.refl _ _).putObj _ _ (fun _ => rfl)) (fun b hb => by cases hb; omega) (fun b hb c T fr e => by
      cases hb
      rw [HD.out] at e
      cases e)
    obtain ⟨a2, c2, vs2, g1, g2⟩ := hW.ex
    rw [List.take_of_length_le (by rw [HRN.out]; omega)] at g2
    refine ⟨_, results_tmp rfl _ _ _, w.heap.size, a2, c2, vs2, rfl, Nat.le_refl _, ?_, ?_, hW.fr⟩
    · rw [HRN.out]
      exact g1
    · rw [HRN.out]
      exact g2
  case hround =>
    rintro k W hk hU hlt2
    have hs2 : ((w.alloc (.cells #[.slice none 0 0] 212)).alloc (.cells #[.slice ga n gc] 212)).heap.size = w.heap.size + 2 := by simp
    rw [hs2] at hlt2 ⊢
    clear hs2
    obtain ⟨j, hj⟩ : ∃ j, n - 1 - k = j := ⟨_, rfl⟩
    have hje : j < gs.length := by have := HN1.out; omega
    obtain ⟨v, hv1, hv2, _⟩ := HB.out.each j hje
    obtain ⟨va, vc, rfl, _, _⟩ := hv2.val
    have hvj : vs.getD j undef = .slice va gs[j].length vc := by rw [List.getD_eq_getElem?_getD, hv1]; rfl
    simp only [hj, hvj]
    have HU := Lib.hid hU
    have HLT := Lib.hid hlt2
    have htk : rs.take (k + 1) = rs.take k ++ [gs[j]] := by
      rw [List.take_succ_eq_append_getElem (by have := HRN.out; omega)]
      have e := HRS.out
      subst e
      rw [List.getElem_reverse]
      congr 3
      have := HN1.out
      omega
    have HT := Lib.hid htk
    have hsm := HS.out.2 _ (List.getElem_mem hje)
    generalize gs[j] = g at *
    generalize hgl : g.length = gl at *
    have HGL := Lib.hid hgl
    have HSM := Lib.hid hsm
    have HV2 := Lib.hid hv2
    clear hj hU hsm htk hlt2 hv1 hv2 hvj hgl
    gi_wp2
    refine ⟨HU.out, trivial, trivial, ?_⟩
    intro W2 hU2 hlt2 hf2 hnc2
    have HNC := Lib.hid hnc2
    clear hnc2
    have HU2 := Lib.hid hU2
    have HLT2 := Lib.hid hlt2
    obtain ⟨a', c', vs', h1, h2⟩ := hU2.ex
    have HX1 := Lib.hid h1
    have HX2 := Lib.hid h2
    have HEV := Lib.hid (HV2.out.stayN hU2.fr)
    clear hU2 hlt2 h1 h2 hf2
    refine wpIn_block ?_
    refine region6 (by kernel_rfl) rfl (by kernel_rfl) (by kernel_rfl) (by kernel_rfl) (by kernel_rfl) (by kernel_rfl) (by kernel_rfl) (by kernel_rfl) (by kernel_rfl) (by kernel_rfl) (by kernel_rfl)
      (fun ld a1 V => ∃ v33, (ld = true → v33 = .slice a' k c') ∧ a1 = ⟨#[.pointer (some ⟨l, 0, none⟩), undef, .nilFunc, .pointer (some ⟨w.heap.size, 0, none⟩), undef, .slice va gl vc, .pointer (some ⟨l, 0, none⟩), .bool false, .bool true, .pointer (some ⟨l, 0, none⟩), .pointer (some ⟨l, 0, none⟩), .pointer (some ⟨l, 0, none⟩), .pointer (some ⟨l, 1, none⟩), .slice na 0 nc, .int .i64 0, .bool false, undef, undef, undef, undef, undef, undef, undef, undef, undef, .pointer (some ⟨l, 0, none⟩), .pointer (some ⟨l, 0, none⟩), .pointer (some ⟨l, 0, none⟩), .pointer (some ⟨l, 0, none⟩), .slice ga n gc, .func (.func 244) #[] #[.pointer (some ⟨w.heap.size + 1, 0, none⟩)], .int .i64 j, .slice va gl vc, v33, undef, undef, undef, undef, undef], []⟩ ∧ Fr nob W2 V)
      (fun ld a1 V => ∃ v33, (ld = true → v33 = .slice a' k c') ∧ a1 = ⟨#[.pointer (some ⟨l, 0, none⟩), undef, .nilFunc, .pointer (some ⟨w.heap.size, 0, none⟩), undef, .slice va gl vc, .pointer (some ⟨l, 0, none⟩), .bool false, .bool true, .pointer (some ⟨l, 0, none⟩), .pointer (some ⟨l, 0, none⟩), .pointer (some ⟨l, 0, none⟩), .pointer (some ⟨l, 1, none⟩), .slice na 0 nc, .int .i64 0, .bool false, undef, undef, undef, undef, undef, undef, undef, undef, undef, .pointer (some ⟨l, 0, none⟩), .pointer (some ⟨l, 0, none⟩), .pointer (some ⟨l, 0, none⟩), .pointer (some ⟨l, 0, none⟩), .slice ga n gc, .func (.func 244) #[] #[.pointer (some ⟨w.heap.size + 1, 0, none⟩)], .int .i64 j, .slice va gl vc, v33, .slice va gl vc, undef, undef, undef, undef], []⟩ ∧ Fr nob W2 V)
      (fun ld a1 V => ∃ v33 a3 c3, (ld = true → v33 = .slice a' k c') ∧ a1 = ⟨#[.pointer (some ⟨l, 0, none⟩), undef, .nilFunc, .pointer (some ⟨w.heap.size, 0, none⟩), undef, .slice va gl vc, .pointer (some ⟨l, 0, none⟩), .bool false, .bool true, .pointer (some ⟨l, 0, none⟩), .pointer (some ⟨l, 0, none⟩), .pointer (some ⟨l, 0, none⟩), .pointer (some ⟨l, 1, none⟩), .slice na 0 nc, .int .i64 0, .bool false, undef, undef, undef, undef, undef, undef, undef, undef, undef, .pointer (some ⟨l, 0, none⟩), .pointer (some ⟨l, 0, none⟩), .pointer (some ⟨l, 0, none⟩), .pointer (some ⟨l, 0, none⟩), .slice ga n gc, .func (.func 244) #[] #[.pointer (some ⟨w.heap.size + 1, 0, none⟩)], .int .i64 j, .slice va gl vc, v33, .slice va gl vc, .slice a3 gl c3, undef, undef, undef], []⟩ ∧ Fr nob W2 V ∧ EdS V (.slice a3 gl c3) g ∧ ∀ b, rowOf (.slice a3 gl c3) b → w.heap.size ≤ b)
      (fun ld a1 V => ∃ v33 a3 c3 h3, (ld = true → v33 = .slice a' k c') ∧ a1 = ⟨#[.pointer (some ⟨l, 0, none⟩), undef, .nilFunc, .pointer (some ⟨w.heap.size, 0, none⟩), undef, .slice va gl vc, .pointer (some ⟨l, 0, none⟩), .bool false, .bool true, .pointer (some ⟨l, 0, none⟩), .pointer (some ⟨l, 0, none⟩), .pointer (some ⟨l, 0, none⟩), .pointer (some ⟨l, 1, none⟩), .slice na 0 nc, .int .i64 0, .bool false, undef, undef, undef, undef, undef, undef, undef, undef, undef, .pointer (some ⟨l, 0, none⟩), .pointer (some ⟨l, 0, none⟩), .pointer (some ⟨l, 0, none⟩), .pointer (some ⟨l, 0, none⟩), .slice ga n gc, .func (.func 244) #[] #[.pointer (some ⟨w.heap.size + 1, 0, none⟩)], .int .i64 j, .slice va gl vc, v33, .slice va gl vc, .slice a3 gl c3, .slice (some ⟨h3, 0, none⟩) 1 1, undef, undef], []⟩ ∧ Fr nob W2 V ∧ EdS V (.slice a3 gl c3) g ∧ (∀ b, rowOf (.slice a3 gl c3) b → w.heap.size ≤ b) ∧ Src Tryz.prog 1 212 (.slice (some ⟨h3, 0, none⟩) 1 1) 1 [.slice a3 gl c3] V)
      (fun a1 V => ∃ v35 v36 av c2 vs2, a1 = ⟨#[.pointer (some ⟨l, 0, none⟩), undef, .nilFunc, .pointer (some ⟨w.heap.size, 0, none⟩), undef, .slice va gl vc, .pointer (some ⟨l, 0, none⟩), .bool false, .bool true, .pointer (some ⟨l, 0, none⟩), .pointer (some ⟨l, 0, none⟩), .pointer (some ⟨l, 0, none⟩), .pointer (some ⟨l, 1, none⟩), .slice na 0 nc, .int .i64 0, .bool false, undef, undef, undef, undef, undef, undef, undef, undef, undef, .pointer (some ⟨l, 0, none⟩), .pointer (some ⟨l, 0, none⟩), .pointer (some ⟨l, 0, none⟩), .pointer (some ⟨l, 0, none⟩), .slice ga n gc, .func (.func 244) #[] #[.pointer (some ⟨w.heap.size + 1, 0, none⟩)], .int .i64 j, .slice va gl vc, .slice a' k c', .slice va gl vc, v35, v36, .slice av (k + 1) c2, undef], []⟩ ∧ Fr (rowOf (.slice a' k c')) W2 V ∧ ListBody V (newIn w) (.slice av (k + 1) c2) (.slice none 0 0) vs2 (rs.take (k + 1)) [])
      (fun _ V => GrpSt w ga n gc rs (k + 1) V ∧ V.heap[w.heap.size + 2]? = W2.heap[w.heap.size + 2]? ∧ V.heap[w.heap.size + 2 + 1]? = W2.heap[w.heap.size + 2 + 1]?)
      ?h0 ?l1 ?l2 ?l3 ?l4 ?m1 ?m2 ?m3 ?m4 ?m5 ?hC
    case h0 => exact ⟨_, fun h => absurd h (by decide), rfl, (Fr.refl _ _).drew⟩
    case l1 =>
      rintro a1 V K ⟨v10, _, rfl, hf⟩ hK
      have hc := blk_cells (hf.keep HX1.out (fun h => h))
      exact opIn_run rfl rfl (by simp [Oper.semAt_some, go_sem, hc]) (hK _ _ ⟨_, fun _ => rfl, rfl, hf⟩)
    case l2 =>
      rintro a1 V K ⟨v10, _, rfl, hf⟩ hK
      have hc := blk_cells (hf.keep HX1.out (fun h => h))
      exact opIn_run rfl rfl (by simp [Oper.semAt_some, go_sem, hc]) (hK _ _ ⟨_, fun _ => rfl, rfl, hf⟩)
    case l3 =>
      rintro a1 V K ⟨v10, a3, c3, _, rfl, hf, hv⟩ hK
      have hc := blk_cells (hf.keep HX1.out (fun h => h))
      exact opIn_run rfl rfl (by simp [Oper.semAt_some, go_sem, hc]) (hK _ _ ⟨_, _, _, fun _ => rfl, rfl, hf, hv⟩)
    case l4 =>
      rintro a1 V K ⟨v10, a3, c3, h3, _, rfl, hf, hv⟩ hK
      have hc := blk_cells (hf.keep HX1.out (fun h => h))
      exact opIn_run rfl rfl (by simp [Oper.semAt_some, go_sem, hc]) (hK _ _ ⟨_, _, _, _, fun _ => rfl, rfl, hf, hv⟩)
    case m1 =>
      rintro ld a1 V K ⟨v10, h10, rfl, hf⟩ hK
      exact opIn_run rfl rfl (by simp [Oper.semAt_some, go_sem]) (hK _ _ ⟨_, h10, rfl, hf⟩)
    case m2 =>
      rintro ld a1 V K ⟨v10, h10, rfl, hf⟩ hK
      refine opIn_call rfl rfl (by simp [Oper.semAt_some, go_sem]) (undo_copied V va gl vc g (HEV.out.stayN hf) HSM.out) ?_
      rintro e V2 ⟨a3, c3, rfl, hed, hfr, hfs⟩
      rw [HGL.out] at hed hfs ⊢
      exact ⟨_, rfl, hK _ _ ⟨v10, a3, c3, h10, rfl, hf.then hfr, hed, fun b hb => Nat.le_trans (Nat.le_trans HU2.out.fr.size hf.size) (hfs b hb)⟩⟩
    case m3 =>
      rintro ld a1 V K ⟨v10, a3, c3, h10, rfl, hf, hed, hfs⟩ hK
      exact opIn_run rfl rfl (by simp [Oper.semAt_some, go_sem]) (hK _ _ ⟨v10, a3, c3, _, h10, rfl, hf.alloc _, hed.stayN ((Fr.refl _ _).alloc _), hfs, HSrc.out V _ _ _⟩)
    case m4 =>
      rintro a1 V K ⟨v10, a3, c3, h3, h10, rfl, hf, hed, hfs, hsrc⟩ hK
      obtain rfl := h10 rfl
      have hlen : (rs.take k).length = k := by rw [List.length_take]; have := HRN.out; omega
      have hbV := HX2.out.stay hf (NR.nob _) (fun _ _ _ h => h)
      have hyV := hbV.grp.own
      rw [hlen] at hyV
      refine opIn_app rfl rfl (.tmp 33) (.tmp 36) 212 212 rfl 84 i0 _ 1 24 Tryz.underlying212 hi0 hz0 hz1 hz2 rfl (by decide) _ k vs' rfl hyV _ 1 _ rfl hsrc (by unfold maxLen; omega) (by omega) ?_
      intro av c2 V2 hO hF hR
      have hbd := ListBody.pushG hbV hed (fun b hb => ⟨.inr (hfs b hb), fun ⟨_, _, _, h, _⟩ => by cases h⟩) (by rw [hlen]; exact hO) hF hR
      refine hK _ _ ⟨_, _, av, c2, vs' ++ [.slice a3 gl c3], rfl, hf.after hF, ?_⟩
      rw [HT.out]
      exact hbd.mono (plus.idem (Nat.le_trans HU2.out.fr.size hf.size))
    case m5 =>
      rintro a1 V K ⟨v12, v13, av, c2, vs2, rfl, hf, hbd⟩ hK
      have hrow : ∀ b, rowOf (.slice a' k c') b → ∃ c fr, W2.heap[b]? = some (.cells c 84 fr) := fun b hb => HX2.out.grp.own.rowTy hb
      have hn : ¬ rowOf (.slice a' k c') w.heap.size := fun hr => HX2.out.grp.own.rowNe hr HX1.out (by decide) rfl
      have hn1 : ¬ rowOf (.slice a' k c') (w.heap.size + 1) := fun hr => HX2.out.grp.own.rowNe hr HU2.out.box (by decide) rfl
      have hn2 : ∀ b, b = w.heap.size + 2 ∨ b = w.heap.size + 2 + 1 → ¬ rowOf (.slice a' k c') b := fun b hb hr => by
        obtain ⟨c, fr, h⟩ := hrow b hr
        exact HNC.out b hb c _ fr h
      have hb := hf.keep HX1.out hn
      have hc := blk_cells hb
      have hz := blk_free hb
      have hlt := blk_lt hb
      have hN : NR V (one w.heap.size) := NR.one hb (by decide)
      have hfs : Fr (one w.heap.size) V (V.setCell ⟨w.heap.size, 0, none⟩ (.slice av (k + 1) c2)) := (Fr.refl _ _).setOne _ _
      have hb2 := heap_setCell_same (o := 0) hb (.slice av (k + 1) c2)
      refine opIn_skip rfl rfl (by simp [Oper.semAt_some, go_sem, hc, hz]) (hK _ _ ⟨⟨?_, ?_, av, c2, vs2, hb2, ?_⟩, ?_, ?_⟩)
      · exact (HU2.out.fr.trans hf (fun b hb hr => absurd (HX2.out.mg b hr) (by rintro (h | h); exact h; omega))).setNew _ _ _ (Nat.le_refl _)
      · exact hfs.keep (hf.keep HU2.out.box hn1) (fun e => absurd (show w.heap.size + 1 = w.heap.size from e) (by omega))
      · refine hbd.stay hfs hN ?_
        rintro b _ ⟨c, fr, e | e⟩ rfl
        · rw [hb] at e
          injection e with e
          injection e with _ e
          exact absurd e (by decide)
        · rw [hb] at e
          injection e with e
          injection e with _ e
          exact absurd e (by decide)
      · exact (heap_setCell_ne (by show _ ≠ w.heap.size; omega) _).trans (hf.blk _ (by have := HLT2.out; omega) (hn2 _ (.inl rfl)))
      · exact (heap_setCell_ne (by show _ ≠ w.heap.size; omega) _).trans (hf.blk _ (by have := HLT2.out; omega) (hn2 _ (.inr rfl)))
    case hC => exact fun a1 V h => ⟨rfl, h⟩
end Go.Proofs.YtbhklkolkclflaaGreatDoor
/- U10: Package undo, tenth part: the first round of a range over Groups. -/
namespace Go.Proofs.YtbhklkolkclflaaGreatDoor
open Go.RowKit
attribute [local go_sem] Oper.semAt_some

set_option maxRecDepth 100000 in
set_option maxHeartbeats 2000000 in
theorem groups_first (m l x : Nat) (hm : 1 ≤ m) (W : World) (F : Nat → Prop) (a : Option Addr) (c : Nat) (vs : List Value) (g : List EditP) (rs : List (List EditP)) (J1 : World → Prop)
    (hx : W.heap[x]? = some (.cells #[.slice a (g :: rs).length c] 212 (0, 0))) (hb : ListBody W F (.slice a (g :: rs).length c) (.slice none 0 0) vs (g :: rs) []) (hs : Small g) (hrs : rs.length ≤ 100000)
    (hY : ∀ (V : World) (a3 : Option Addr) (c3 : Nat), Fr nob W V → EdS V (.slice a3 g.length c3) g → (∀ b, rowOf (.slice a3 g.length c3) b → W.heap.size ≤ b) → YieldAt Fence.wide (m - 1) Tryz.prog l #[.slice a3 g.length c3] V fun e W' => e = .returned (.bool false) ∧ J1 W') :
    CallsIn Fence.wide m Tryz.prog 229 #[.func (.yield l) #[] #[], .pointer (some ⟨x, 0, none⟩)] W fun e W' => (∃ v, e = .returned v) ∧ J1 W' := by
  obtain ⟨v, hv1, hv2, _⟩ := hb.each 0 (by simp)
  simp only [List.getElem_cons_zero] at hv2
  obtain ⟨va, vc, rfl, _, _⟩ := hv2.val
  have hrd : ∃ gg, a = some ⟨gg, 0, none⟩ ∧ W.cell? ⟨gg, 0, none⟩ = some (.slice va g.length vc) := by
    rcases hb.grp.own.2.2 with ⟨a', e1, e2, _⟩ | ⟨gg, cap, cur, e1, e2, e3, e4, e5, e6⟩
    · simp at e2
    · injection e1 with e1 _ e7
      subst e1 e7
      have := hb.grp.own.cells (by simp at e3; omega) _ _ hv1
      exact ⟨gg, rfl, this⟩
  obtain ⟨gg, rfl, hcell⟩ := hrd
  have hc := blk_cells hx
  have HV2 := Lib.hid hv2
  have HS := Lib.hid hs
  have hlen : (g :: rs).length = rs.length + 1 := rfl
  rw [hlen] at hc
  generalize rs.length = n at *
  have hnI : (n : Int) ≤ 100000 := by omega
  have HY := Lib.hid hY
  clear hx hb hv1 hv2 hlen hrs hs hY
  refine callsIn_of_wp Tryz.func229 rfl trivial ?_ rfl
  simp only [Tryz.ntmps229, List.size_toArray, List.length_cons, List.length_nil, Nat.reduceAdd, Nat.reduceSub, Array.replicate_succ, Array.replicate_zero, List.push_toArray, List.append_toArray, List.nil_append, List.cons_append]
  gi_wp2
  gi_loopw [4, 7] (fun _ i wr => i = .int .i64 0 ∧ wr = W) (fun _ _ _ => 0)
  case atStart => exact ⟨rfl, rfl⟩
  case round =>
    obtain ⟨rfl, rfl⟩ := hrel
    gi_wp2
    refine ⟨trivial, (callsIn_wide.2 (undo_copied _ va g.length vc g HV2.out HS.out)).mono ?_⟩
    rintro e V ⟨a3, c3, rfl, hed, hfr, hfs⟩
    obtain ⟨fn, tmps, assign, body, hy, hR⟩ := HY.out V a3 c3 hfr hed hfs
    clear hed hfs
    gi_wp2
    refine hR.mono ?_
    rintro e W3 ⟨rfl, hJ3⟩
    gi_wp2
    refine bodyPost_ret (results_none rfl _ _ _) rfl ?_
    exact ⟨⟨_, rfl⟩, hJ3⟩
end Go.Proofs.YtbhklkolkclflaaGreatDoor
