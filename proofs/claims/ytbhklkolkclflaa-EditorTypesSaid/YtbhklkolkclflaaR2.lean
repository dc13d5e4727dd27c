/- A range over a function, its body never leaving: one rule in which the caller's invariant carries all. -/
import Derived.Test.YtbhklkolkclflaaR1
namespace Go.Proofs.Ytbhklkolkclflaa
open Go.RowKit

/-- The record of a loop. -/
abbrev loopRec (fn : FuncId) (a : Act) (ps : Array Tmp) (assign body : Code) (D : Nat) (st : LoopState) (pend : Option Code) : Obj :=
  .loop { state := st, pending := pend, fn, tmps := a.tmps, params := ps, assign, body, defers := D }

theorem run_getLoop {P : Program} {w : World} {l : Nat} {r : Loop} (h : w.heap[l]? = some (.loop r)) : (Instr.getLoop l).run P w = .ok r w := by
  simp [Instr.getLoop, getObj, Sem.run, h]
theorem run_setLoop {P : Program} {w : World} {l : Nat} {r : Loop} (h : w.heap[l]? = some (.loop r)) (o : Obj) : (setObj l o).run P w = .ok () (World.putObj w l o) := by
  simp [setObj, Sem.run, h, World.putObj]
theorem putObj_same {w : World} {l : Nat} {o : Obj} (h : l < w.heap.size) (o' : Obj) (_ : o = o') : (World.putObj w l o).heap[l]? = some o := by
  simp [World.putObj, h]
theorem putObj_ne {w : World} {l b : Nat} {o : Obj} (h : b ≠ l) : (World.putObj w l o).heap[b]? = w.heap[b]? := by
  simp only [World.putObj]
  rw [Array.getElem?_setIfInBounds_ne (fun e => h e.symm)]

theorem zip2 {β : Type} (T : Array β) (p q : Nat) (x y : β) : (#[p, q].zip #[x, y]).foldl (fun tmps (t, x) => tmps.setIfInBounds t x) T = (T.setIfInBounds p x).setIfInBounds q y := by
  simp [List.zip_toArray]
theorem zip1 {β : Type} (T : Array β) (p : Nat) (x : β) : (#[p].zip #[x]).foldl (fun tmps (t, x) => tmps.setIfInBounds t x) T = T.setIfInBounds p x := by
  simp [List.zip_toArray]

/-- What a contract of an iterator is: it yields 'args 0', .., 'args (N - 1)', and returns. -/
def Yields (P : Program) (m : Nat) (f0 : FuncId) (lb : Array Value) (N : Nat) (args : Nat → Array Value) (K : World → Prop) : Prop :=
  ∀ (l : Nat) (J : Nat → World → Prop) (W : World), (∀ k W, J k W → K W) →
    (∀ k W, J k W → k < N → YieldAt Fence.wide (m - 1) P l (args k) W fun e W' => e = .returned (.bool true) ∧ J (k + 1) W') → J 0 W →
    CallsIn Fence.wide m P f0 (#[.func (.yield l) #[] #[]] ++ lb) W fun e W' => (∃ v, e = .returned v) ∧ J N W'

theorem range_all {P : Program} {n : Nat} {g : Operand} {ps : Array Tmp} {assign body : Code} {Q : Exit → Act → World → Prop} {a : Act} {w : World}
    (f0 : FuncId) (lb : Array Value) (hg : a.eval g = .func (.func f0) #[] lb)
    (hinv : ∀ l W, (invoke (.fn (.func f0) lb) #[.func (.yield l) #[] #[]]).run P W = .ok (.enter f0 (#[.func (.yield l) #[] #[]] ++ lb)) W)
    (N : Nat) (args : Nat → Array Value) (hsz : ∀ k, (args k).size = ps.size) (T : Nat → Array Value) (hT : ∀ k, (ps.zip (args k)).foldl (fun tmps (t, x) => tmps.setIfInBounds t x) a.tmps = T k) (K : World → Prop) (hit : Yields P (n - 1) f0 lb N args K)
    (U : Nat → World → Prop) (h0 : U 0 w) (hK : ∀ k W, U k W → K W)
    (hU : ∀ k W W', U k W → Fr (fun b => b = w.heap.size ∨ b = w.heap.size + 1) W W' → (∀ b, b = w.heap.size ∨ b = w.heap.size + 1 → ∀ c T fr, W.heap[b]? ≠ some (.cells c T fr)) → U k W')
    (hround : ∀ k W, k < N → U k W → w.heap.size + 1 < W.heap.size → assign.wpIn (Fence.wide.inRound (w.heap.size + 1)) (n - 1 - 1) P
      (Exit.then (fun a1 W1 => U k W1 ∧ W1.heap[w.heap.size]? = W.heap[w.heap.size]? ∧ W1.heap[w.heap.size + 1]? = W.heap[w.heap.size + 1]? ∧
        ∀ W2, U k W2 → w.heap.size + 1 < W2.heap.size → Fr (one (w.heap.size + 1)) W1 W2 → (∀ b, b = w.heap.size ∨ b = w.heap.size + 1 → ∀ c T fr, W2.heap[b]? ≠ some (.cells c T fr)) → body.wpIn (Fence.wide.inRound (w.heap.size + 1)) (n - 1 - 1) P
          (fun e _ W3 => e = .normal ∧ U (k + 1) W3 ∧ W3.heap[w.heap.size]? = W2.heap[w.heap.size]? ∧ W3.heap[w.heap.size + 1]? = W2.heap[w.heap.size + 1]?) a1 W2)
        (fun _ _ _ => False))
      { tmps := T k, defers := [] } W)
    (hdone : ∀ W, U N W → W.heap[w.heap.size]? = some (.deferred (some [])) → w.heap.size + 1 < W.heap.size →
      Q .normal { a with defers := [{ target := .collected w.heap.size, args := #[] }] ++ a.defers } W) :
    (Code.rangeFunc g ps assign body).wpIn Fence.wide n P Q a w := by
  refine wpIn_rangeFunc fun fn _ => ?_
  let D := w.heap.size
  let l := w.heap.size + 1
  let w1 := w.alloc (.deferred (some []))
  let w2 := w1.alloc (loopRec fn a ps assign body D .ready none)
  have hD2 : w2.heap[D]? = some (.deferred (some [])) := (heap_alloc_lt _ (by simp [w1, D])).trans (heap_alloc_new w _)
  have hl2 : w2.heap[l]? = some (loopRec fn a ps assign body D .ready none) := by
    have h := heap_alloc_new w1 (loopRec fn a ps assign body D .ready none)
    have e : w1.heap.size = l := by simp [w1, l]
    rw [e] at h
    exact h
  have hres : (resolve a.eval (rangeCall g l) 0).run P w2 = .ok { target := .fn (.func f0) lb, args := #[.func (.yield l) #[] #[]] } w2 := by
    show (Deferred.ofValue (a.eval g) (#[Operand.const (.func (.yield l) #[] #[])].map a.eval)).run P w2 = _
    rw [hg]
    simp [Deferred.ofValue, Act.eval]
  have hent : (Instr.enterLoop fn a.tmps ps assign body Fence.wide.round).run P w = .ok (l, [{ target := .collected D, args := #[] }]) w2 := run_enterLoop_outer _ _ _ _ _
  refine ⟨l, [{ target := .collected D, args := #[] }], w2, { target := .fn (.func f0) lb, args := #[.func (.yield l) #[] #[]] }, w2, f0, #[.func (.yield l) #[] #[]] ++ lb, w2, hent, hres, fun _ _ => trivial, hinv l w2, fun h => (by simp [Fence.wide] at h), ?_⟩
  let J : Nat → World → Prop := fun k W => U k W ∧ W.heap[l]? = some (loopRec fn a ps assign body D .ready none) ∧ W.heap[D]? = some (.deferred (some []))
  have hDl : D ≠ l := by simp [D, l]
  have frl : ∀ W o, Fr (one l) W (World.putObj W l o) := fun W o => (Fr.refl _ _).putObj l o (fun _ => rfl)
  have up : ∀ k W W' r, U k W → W.heap[l]? = some (.loop r) → W.heap[D]? = some (.deferred (some [])) → Fr (one l) W W' → U k W' := fun k W W' r hu hl hd hf => by
    refine hU k W W' hu (hf.mono (fun _ _ h => .inr h)) ?_
    rintro b (rfl | rfl) c T fr e
    · rw [show W.heap[w.heap.size]? = _ from hd] at e
      cases e
    · rw [show W.heap[w.heap.size + 1]? = _ from hl] at e
      cases e
  refine (hit l J w2 (fun k W h => hK k W h.1) ?_ ⟨hU 0 w w2 h0 (((Fr.refl _ _).alloc _).alloc _) (fun b hb c T fr e => by have := blk_lt e; omega), hl2, hD2⟩).mono ?_
  · rintro k W ⟨hu, hl, hd⟩ hk
    have hls := blk_lt hl
    refine ⟨fn, T k, assign, body, ?_, ?_⟩
    · rw [← hT k]
      simp [Instr.yield, run_getLoop hl, hsz]
    · refine roundIn_of_wpIn trivial (wpIn_mono (hround k W hk hu hls) ?_)
      intro e a1 W1 h
      cases e with
      | normal =>
        obtain ⟨hu1, hd1, hl1, hb⟩ := h
        replace hl1 : W1.heap[l]? = some (loopRec fn a ps assign body D .ready none) := hl1.trans hl
        replace hd1 : W1.heap[D]? = some (.deferred (some [])) := hd1.trans hd
        have hls1 := blk_lt hl1
        refine ⟨World.putObj W1 l (loopRec fn a ps assign body D .busy none), ?_, ?_⟩
        · simp only [Instr.beginRound]
          simp [run_getLoop hl1, run_setLoop hl1]
        · refine wpIn_mono (hb _ (up k _ _ _ hu1 hl1 hd1 (frl _ _)) (by simp [World.putObj]; exact hls1) (frl _ _) ?nc) ?_
          case nc =>
            rintro b (rfl | rfl) c T fr e
            · rw [show (World.putObj W1 l _).heap[w.heap.size]? = some (.deferred (some [])) from (putObj_ne hDl).trans hd1] at e
              cases e
            · rw [show (World.putObj W1 l _).heap[w.heap.size + 1]? = _ from putObj_same hls1 _ rfl] at e
              cases e
          rintro e a3 W3 ⟨rfl, hu3, hd3, hl3⟩
          replace hl3 : W3.heap[l]? = some (loopRec fn a ps assign body D .busy none) := hl3.trans (putObj_same hls1 _ rfl)
          replace hd3 : W3.heap[D]? = some (.deferred (some [])) := hd3.trans ((putObj_ne hDl).trans hd1)
          have hls3 := blk_lt hl3
          refine ⟨.bool true, World.putObj W3 l (loopRec fn a ps assign body D .ready none), ?_, rfl, up _ _ _ _ hu3 hl3 hd3 (frl _ _), putObj_same hls3 _ rfl, by rw [putObj_ne hDl]; exact hd3⟩
          simp [Instr.endRound, run_getLoop hl3, run_setLoop hl3]
      | exit id => exact h.elim
      | goto t => exact h.elim
      | ret => exact h.elim
      | panic chain => exact h.elim
      | outgrown => exact h.elim
  · rintro e W ⟨⟨v, rfl⟩, hu, hl, hd⟩
    have hls := blk_lt hl
    refine ⟨none, World.putObj W l (loopRec fn a ps assign body D .exhausted none), ?_, ?_⟩
    · simp [Instr.endLoop, run_getLoop hl, run_setLoop hl]
    · exact hdone _ (up _ _ _ _ hu hl hd (frl _ _)) (by rw [putObj_ne hDl]; exact hd) (by simp [World.putObj]; exact hls)
end Go.Proofs.Ytbhklkolkclflaa
