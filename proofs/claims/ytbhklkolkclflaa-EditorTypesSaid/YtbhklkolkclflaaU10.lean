/- Package undo, tenth part: the first round of a range over Groups. -/
import Derived.Test.YtbhklkolkclflaaU9
import Derived.Test.YtbhklkolkclflaaR5
namespace Go.Proofs.Ytbhklkolkclflaa
open Go.RowKit
attribute [local go_sem] Oper.semAt_some

set_option maxRecDepth 100000 in
set_option maxHeartbeats 2000000 in
theorem groups_first (m l x : Nat) (hm : 1 ≤ m) (W : World) (F : Nat → Prop) (a : Option Addr) (c : Nat) (vs : List Value) (g : List EditP) (rs : List (List EditP)) (J1 : World → Prop)
    (hx : W.heap[x]? = some (.cells #[.slice a (g :: rs).length c] 113 (0, 0))) (hb : ListBody W F (.slice a (g :: rs).length c) (.slice none 0 0) vs (g :: rs) []) (hs : Small g) (hrs : rs.length ≤ 100000)
    (hY : ∀ (V : World) (a3 : Option Addr) (c3 : Nat), Fr nob W V → EdS V (.slice a3 g.length c3) g → (∀ b, rowOf (.slice a3 g.length c3) b → W.heap.size ≤ b) → YieldAt Fence.wide (m - 1) Try.prog l #[.slice a3 g.length c3] V fun e W' => e = .returned (.bool false) ∧ J1 W') :
    CallsIn Fence.wide m Try.prog 78 #[.func (.yield l) #[] #[], .pointer (some ⟨x, 0, none⟩)] W fun e W' => (∃ v, e = .returned v) ∧ J1 W' := by
  obtain ⟨v, hv1, hv2, _⟩ := hb.each 0 (by simp)
  simp only [List.getElem_cons_zero] at hv2
  obtain ⟨va, vc, rfl, _, _⟩ := hv2.val
  have hrd : ∃ gg, a = some ⟨gg, 0, none⟩ ∧ W.cell? ⟨gg, 0, none⟩ = some (.slice va g.length vc) := by
    rcases hb.grp.own.2.2 with ⟨a', e1, e2, _⟩ | ⟨gg, cap, cur, e1, e2, e3, e4, e5, e6⟩
    · simp at e2
    · injection e1 with e1 _ e7
      subst e1 e7
      have := hb.grp.own.cells (by simp at e3; omega) _ _ hv1
      exact ⟨gg, rfl, this⟩
  obtain ⟨gg, rfl, hcell⟩ := hrd
  have hc := blk_cells hx
  have HV2 := Lib.hid hv2
  have HS := Lib.hid hs
  have hlen : (g :: rs).length = rs.length + 1 := rfl
  rw [hlen] at hc
  generalize rs.length = n at *
  have hnI : (n : Int) ≤ 100000 := by omega
  have HY := Lib.hid hY
  clear hx hb hv1 hv2 hlen hrs hs hY
  refine callsIn_of_wp Try.func78 rfl trivial ?_ rfl
  simp only [Try.ntmps78, List.size_toArray, List.length_cons, List.length_nil, Nat.reduceAdd, Nat.reduceSub, Array.replicate_succ, Array.replicate_zero, List.push_toArray, List.append_toArray, List.nil_append, List.cons_append]
  gi_wp2
  gi_loopw [4, 7] (fun _ i wr => i = .int .i64 0 ∧ wr = W) (fun _ _ _ => 0)
  case atStart => exact ⟨rfl, rfl⟩
  case round =>
    obtain ⟨rfl, rfl⟩ := hrel
    gi_wp2
    refine ⟨trivial, (callsIn_wide.2 (undo_copied _ va g.length vc g HV2.out HS.out)).mono ?_⟩
    rintro e V ⟨a3, c3, rfl, hed, hfr, hfs⟩
    obtain ⟨fn, tmps, assign, body, hy, hR⟩ := HY.out V a3 c3 hfr hed hfs
    clear hed hfs
    gi_wp2
    refine hR.mono ?_
    rintro e W3 ⟨rfl, hJ3⟩
    gi_wp2
    refine bodyPost_ret (results_none rfl _ _ _) rfl ?_
    exact ⟨⟨_, rfl⟩, hJ3⟩
end Go.Proofs.Ytbhklkolkclflaa
