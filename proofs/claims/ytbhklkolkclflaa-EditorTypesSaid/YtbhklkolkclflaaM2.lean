/- The walk's laws on maps with keys of int. -/
import Derived.Test.YtbhklkolkclflaaM1
namespace Go.Proofs.Ytbhklkolkclflaa
open Go.RowKit
open Go.MapKept

section
variable {P : Program} {ops : Array Oper} {rest : List Oper} {o : Oper} {a : Act} {w : World} {Q : Exit → Act → World → Prop}

theorem wpList_mapset (hg : o.guard = none) (t kt et : TypeId) (m x v : Operand) (ho : o.op = .mapUpdate t m x v) (r : Nat) (f : Int → Option Value) (k : Int) (u : Value)
    (hm : a.eval m = .map (some r)) (hx : a.eval x = .int .i64 k) (hv : a.eval v = u) (h1 : P.underlying t = some (.map kt et)) (h2 : P.underlying kt = some (.int .i64)) (h : MapRep w r f)
    (hK : ∀ w', MapRep w' r (upd f k u) → Fr (one r) w w' → wpList P ops Q rest (a.put o.dst undef) w') : wpList P ops Q (o :: rest) a w := by
  refine wpList_plain hg fun K hK' => ?_
  obtain ⟨w', hr, h3, h4⟩ := run_mapset (P := P) w t kt et r f k u h1 h2 h
  unfold Oper.wp execOp
  simp only [ho, hm, hx, hv, Sem.run_bind, hr, Result.andThen_ok, Sem.run_pure]
  exact hK' _ _ (hK w' h3 h4)

theorem wpList_mapget (hg : o.guard = none) (t kt et : TypeId) (m x : Operand) (c : Bool) (ho : o.op = .lookup t m x c) (r : Nat) (f : Int → Option Value) (k : Int) (z : Value)
    (hm : a.eval m = .map (some r)) (hx : a.eval x = .int .i64 k) (h1 : P.underlying t = some (.map kt et)) (h2 : P.underlying kt = some (.int .i64)) (hz : ∀ w, (zeroValue et).run P w = .ok z w) (h : MapRep w r f)
    (hK : wpList P ops Q rest (a.put o.dst (if c then .tuple #[(f k).getD z, .bool (f k).isSome] else (f k).getD z)) w) : wpList P ops Q (o :: rest) a w := by
  refine wpList_plain hg fun K hK' => ?_
  have hr := run_mapget (P := P) w t kt et z r f k c h1 h2 hz h
  unfold Oper.wp execOp
  simp only [ho, hm, hx, Sem.run_bind, hr, Result.andThen_ok, Sem.run_pure]
  exact hK' _ _ hK

theorem wpList_range (hg : o.guard = none) (t kt et : TypeId) (m : Operand) (ho : o.op = .range t m) (r : Nat) (es : Array MapEntry) (clock : Nat)
    (hm : a.eval m = .map (some r)) (h1 : P.underlying t = some (.map kt et)) (h : w.heap[r]? = some (.map es clock))
    (hK : wpList P ops Q rest (a.put o.dst (.pointer (some ⟨w.heap.size, 0, none⟩))) (w.alloc (.mapIter (some r) clock #[] clock))) : wpList P ops Q (o :: rest) a w := by
  refine wpList_plain hg fun K hK' => ?_
  have hr := run_range_map (P := P) w t kt et r es clock h1 h
  unfold Oper.wp execOp
  simp only [ho, hm, Sem.run_bind, hr, Result.andThen_ok, Sem.run_pure]
  exact hK' _ _ hK

theorem wpList_next (hg : o.guard = none) (x : Operand) (ho : o.op = .next x false) (it r since c0 : Nat) (seen : Array Nat) (es : Array MapEntry) (clock : Nat) (hx : a.eval x = .pointer (some ⟨it, 0, none⟩))
    (hi : IterAt w it r since seen c0) (hb : w.heap[r]? = some (.map es clock)) (hold : ∀ x ∈ es.toList, x.born < since) (hsc : since ≤ c0)
    (h0 : (leftOf es seen).size = 0 → wpList P ops Q rest (a.put o.dst (.tuple #[.bool false])) w)
    (h1 : ∀ e w1, e ∈ (leftOf es seen).toList → IterAt w1 it r since (seen.push e.born) clock → Fr (one it) w w1 → wpList P ops Q rest (a.put o.dst (.tuple #[.bool true, e.key, e.val])) w1) : wpList P ops Q (o :: rest) a w := by
  refine wpList_plain hg fun K hK' => ?_
  unfold Oper.wp execOp
  rcases run_next_at (P := P) w o.type it r since c0 seen es clock hi hb hold hsc with ⟨h2, hr⟩ | ⟨e, h2, w1, hr, h3, h4⟩
  · simp only [ho, hx, Sem.run_bind, hr, Result.andThen_ok, Sem.run_pure]
    exact hK' _ _ (h0 h2)
  · simp only [ho, hx, Sem.run_bind, hr, Result.andThen_ok, Sem.run_pure]
    exact hK' _ _ (h1 e w1 h2 h3 h4)

theorem wpList_entry (hg : o.guard = none) (x : Operand) (ho : o.op = .entry x) (it r since : Nat) (seen : Array Nat) (es : Array MapEntry) (clock : Nat) (e : MapEntry) (hx : a.eval x = .pointer (some ⟨it, 0, none⟩))
    (hi : IterAt w it r since (seen.push e.born) clock) (hb : w.heap[r]? = some (.map es clock)) (he : e ∈ es.toList) (hn : (es.toList.map (·.born)).Nodup)
    (hK : wpList P ops Q rest (a.put o.dst (.tuple #[e.key, e.val])) w) : wpList P ops Q (o :: rest) a w := by
  refine wpList_plain hg fun K hK' => ?_
  have hr := run_entry_at (P := P) w it r since seen es clock e hi hb he hn
  unfold Oper.wp execOp
  simp only [ho, hx, Sem.run_bind, hr, Result.andThen_ok, Sem.run_pure]
  exact hK' _ _ hK

theorem IterAt.seen {it r since c0 : Nat} {seen : Array Nat} (h : IterAt w it r since seen c0) : w.iterSeen it = seen := by
  unfold IterAt at h
  simp only [World.iterSeen, h]
theorem IterAt.keep {w' : World} {M : Nat → Prop} {it r since c0 : Nat} {seen : Array Nat} (h : IterAt w it r since seen c0) (hf : Fr M w w') (hm : ¬ M it) : IterAt w' it r since seen c0 := hf.keep h hm
end
end Go.Proofs.Ytbhklkolkclflaa
