/- A range over a function whose body leaves in the first round. -/
import Derived.Test.YtbhklkolkclflaaR2
namespace Go.Proofs.Ytbhklkolkclflaa
open Go.RowKit

theorem range_break {P : Program} {n : Nat} {g : Operand} {ps : Array Tmp} {assign body : Code} {Q : Exit → Act → World → Prop} {a : Act} {w : World}
    (f0 : FuncId) (lb : Array Value) (hg : a.eval g = .func (.func f0) #[] lb)
    (hinv : ∀ l W, (invoke (.fn (.func f0) lb) #[.func (.yield l) #[] #[]]).run P W = .ok (.enter f0 (#[.func (.yield l) #[] #[]] ++ lb)) W)
    (id : Nat) (G : Array Value → World → Prop)
    (hit : ∀ (l : Nat) (W : World) (J1 : World → Prop), Fr nob w W → (∀ V args, Fr nob W V → G args V → YieldAt Fence.wide (n - 1 - 1) P l args V fun e W' => e = .returned (.bool false) ∧ J1 W') →
      CallsIn Fence.wide (n - 1) P f0 (#[.func (.yield l) #[] #[]] ++ lb) W fun e W' => (∃ v, e = .returned v) ∧ J1 W')
    (hsz : ∀ args V, G args V → args.size = ps.size) (T : Array Value → Array Value) (hT : ∀ args V, G args V → (ps.zip args).foldl (fun tmps (t, x) => tmps.setIfInBounds t x) a.tmps = T args)
    (U : World → Prop)
    (hU : ∀ W W', U W → Fr (fun b => b = w.heap.size ∨ b = w.heap.size + 1) W W' → (∀ b, b = w.heap.size ∨ b = w.heap.size + 1 → ∀ c T fr, W.heap[b]? ≠ some (.cells c T fr)) → U W')
    (hround : ∀ args W, Fr nob w W → G args W → w.heap.size + 1 < W.heap.size → (∀ b, b = w.heap.size ∨ b = w.heap.size + 1 → ∀ c T fr, W.heap[b]? ≠ some (.cells c T fr)) → assign.wpIn (Fence.wide.inRound (w.heap.size + 1)) (n - 1 - 1) P
      (Exit.then (fun a1 W1 => W1.heap[w.heap.size]? = W.heap[w.heap.size]? ∧ W1.heap[w.heap.size + 1]? = W.heap[w.heap.size + 1]? ∧
        ∀ W2, w.heap.size + 1 < W2.heap.size → Fr (one (w.heap.size + 1)) W1 W2 → (∀ b, b = w.heap.size ∨ b = w.heap.size + 1 → ∀ c T fr, W2.heap[b]? ≠ some (.cells c T fr)) → body.wpIn (Fence.wide.inRound (w.heap.size + 1)) (n - 1 - 1) P
          (fun e _ W3 => e = .exit id ∧ U W3 ∧ W3.heap[w.heap.size]? = W2.heap[w.heap.size]? ∧ W3.heap[w.heap.size + 1]? = W2.heap[w.heap.size + 1]?) a1 W2)
        (fun _ _ _ => False))
      { tmps := T args, defers := [] } W)
    (hdone : ∀ W, U W → W.heap[w.heap.size]? = some (.deferred (some [])) → w.heap.size + 1 < W.heap.size →
      Q (.exit id) { a with defers := [{ target := .collected w.heap.size, args := #[] }] ++ a.defers } W) :
    (Code.rangeFunc g ps assign body).wpIn Fence.wide n P Q a w := by
  refine wpIn_rangeFunc fun fn _ => ?_
  let D := w.heap.size
  let l := w.heap.size + 1
  let w1 := w.alloc (.deferred (some []))
  let w2 := w1.alloc (loopRec fn a ps assign body D .ready none)
  have hD2 : w2.heap[D]? = some (.deferred (some [])) := (heap_alloc_lt _ (by simp [w1, D])).trans (heap_alloc_new w _)
  have hl2 : w2.heap[l]? = some (loopRec fn a ps assign body D .ready none) := by
    have h := heap_alloc_new w1 (loopRec fn a ps assign body D .ready none)
    have e : w1.heap.size = l := by simp [w1, l]
    rw [e] at h
    exact h
  have hres : (resolve a.eval (rangeCall g l) 0).run P w2 = .ok { target := .fn (.func f0) lb, args := #[.func (.yield l) #[] #[]] } w2 := by
    show (Deferred.ofValue (a.eval g) (#[Operand.const (.func (.yield l) #[] #[])].map a.eval)).run P w2 = _
    rw [hg]
    simp [Deferred.ofValue, Act.eval]
  have hent : (Instr.enterLoop fn a.tmps ps assign body Fence.wide.round).run P w = .ok (l, [{ target := .collected D, args := #[] }]) w2 := run_enterLoop_outer _ _ _ _ _
  refine ⟨l, [{ target := .collected D, args := #[] }], w2, { target := .fn (.func f0) lb, args := #[.func (.yield l) #[] #[]] }, w2, f0, #[.func (.yield l) #[] #[]] ++ lb, w2, hent, hres, fun _ _ => trivial, hinv l w2, fun h => (by simp [Fence.wide] at h), ?_⟩
  have hDl : D ≠ l := by simp [D, l]
  have frl : ∀ W o, Fr (one l) W (World.putObj W l o) := fun W o => (Fr.refl _ _).putObj l o (fun _ => rfl)
  have up : ∀ W W' r, U W → W.heap[l]? = some (.loop r) → W.heap[D]? = some (.deferred (some [])) → Fr (one l) W W' → U W' := fun W W' r hu hl hd hf => by
    refine hU W W' hu (hf.mono (fun _ _ h => .inr h)) ?_
    rintro b (rfl | rfl) c T fr e
    · rw [show W.heap[w.heap.size]? = _ from hd] at e
      cases e
    · rw [show W.heap[w.heap.size + 1]? = _ from hl] at e
      cases e
  have hfr2 : Fr nob w w2 := ((Fr.refl _ _).alloc _).alloc _
  refine (hit l w2 (fun W => U W ∧ W.heap[l]? = some (loopRec fn a ps assign body D .done (some (.exit id))) ∧ W.heap[D]? = some (.deferred (some []))) hfr2 ?_).mono ?_
  · intro W args hfW hGA
    have hl := hfW.keep hl2 (fun h => h)
    have hd := hfW.keep hD2 (fun h => h)
    have hls := blk_lt hl
    refine ⟨fn, T args, assign, body, ?_, ?_⟩
    · rw [← hT args W hGA]
      simp [Instr.yield, run_getLoop hl, hsz args W hGA]
    · refine roundIn_of_wpIn trivial (wpIn_mono (hround args W (hfr2.then hfW) hGA hls (by
        rintro b (rfl | rfl) c T fr e
        · rw [show W.heap[w.heap.size]? = _ from hd] at e
          cases e
        · rw [show W.heap[w.heap.size + 1]? = _ from hl] at e
          cases e)) ?_)
      intro e a1 W1 h
      cases e with
      | normal =>
        obtain ⟨hd1, hl1, hb⟩ := h
        replace hl1 : W1.heap[l]? = some (loopRec fn a ps assign body D .ready none) := hl1.trans hl
        replace hd1 : W1.heap[D]? = some (.deferred (some [])) := hd1.trans hd
        have hls1 := blk_lt hl1
        refine ⟨World.putObj W1 l (loopRec fn a ps assign body D .busy none), ?_, ?_⟩
        · simp only [Instr.beginRound]
          simp [run_getLoop hl1, run_setLoop hl1]
        · refine wpIn_mono (hb _ (by simp [World.putObj]; exact hls1) (frl _ _) ?nc) ?_
          case nc =>
            rintro b (rfl | rfl) c T fr e
            · rw [show (World.putObj W1 l _).heap[w.heap.size]? = some (.deferred (some [])) from (putObj_ne hDl).trans hd1] at e
              cases e
            · rw [show (World.putObj W1 l _).heap[w.heap.size + 1]? = _ from putObj_same hls1 _ rfl] at e
              cases e
          rintro e a3 W3 ⟨rfl, hu3, hd3, hl3⟩
          replace hl3 : W3.heap[l]? = some (loopRec fn a ps assign body D .busy none) := hl3.trans (putObj_same hls1 _ rfl)
          replace hd3 : W3.heap[D]? = some (.deferred (some [])) := hd3.trans ((putObj_ne hDl).trans hd1)
          have hls3 := blk_lt hl3
          refine ⟨.bool false, World.putObj W3 l (loopRec fn a ps assign body D .done (some (.exit id))), ?_, rfl, up _ _ _ hu3 hl3 hd3 (frl _ _), putObj_same hls3 _ rfl, by rw [putObj_ne hDl]; exact hd3⟩
          simp [Instr.endRound, run_getLoop hl3, run_setLoop hl3]
      | exit id => exact h.elim
      | goto t => exact h.elim
      | ret => exact h.elim
      | panic chain => exact h.elim
      | outgrown => exact h.elim
  · rintro e W ⟨⟨v, rfl⟩, hu, hl, hd⟩
    have hls := blk_lt hl
    refine ⟨some (.exit id), World.putObj W l (loopRec fn a ps assign body D .exhausted (some (.exit id))), ?_, ?_⟩
    · simp [Instr.endLoop, run_getLoop hl, run_setLoop hl]
    · exact wpIn_exit (hdone _ (up _ _ _ hu hl hd (frl _ _)) (by rw [putObj_ne hDl]; exact hd) (by simp [World.putObj]; exact hls))
end Go.Proofs.Ytbhklkolkclflaa
