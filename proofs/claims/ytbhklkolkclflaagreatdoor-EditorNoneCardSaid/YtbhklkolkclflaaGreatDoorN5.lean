/- EditorNone (lanyardlaw17): for every part of a command the law returns true, and the part reads behind the call as it read before. The package variables utf8.first and acceptRanges are as the program's text lays them (the tied card). -/
import Derived.Test.YtbhklkolkclflaaGreatDoorN4
import Derived.Test.YtbhklkolkclflaaGreatDoorRows
import Derived.Test.YtbhklkolkclflaaGreatDoorTie
import Derived.Test.YtbhklkolkclflaaGreatDoorCards
import Derived.WalkKit
import Derived.ProofKit
import Derived.OpenShut
import Derived.ChangeSlices
import Derived.JoinedCond
import Derived.Carry
import Derived.Lay
import Derived.LaidOnce
import Derived.SevenTiedAt
namespace Go.Proofs.YtbhklkolkclflaaGreatDoor
open Go.ChangeShapes Go.WideShapes Go.ChangeAt Go.RowKit

theorem Tryz.ownKnob3 : ownKnob Tryz.prog.godebug = none := by kernel_rfl

set_option maxRecDepth 10000 in
/-- An argument that is a part of a command. -/
theorem part_arg {H : Type} {enc : TypeId × Value → H} {W : World} {base : Nat} {v : Value} {d : DataW H} {p : List MemPlace} (hok : Value.okWide Tryz.prog W .any base 53 v)
    (h : DataW.Trod enc Tryz.prog W 0 (fun _ => true) true 53 v d p) : ∃ ki A B back a n c, v = .agg #[.int .i64 ki, .int .i64 A, .int .i64 B, .bool back, .slice a n c] := by
  obtain ⟨cs, rfl, hcs⟩ := okWide_struct Tryz.underlying53 hok
  obtain ⟨fuel, hf⟩ := h
  obtain ⟨xs, n, _, _, hl, hlen, hg⟩ := DataW.trod_struct Tryz.underlying53 hf
  have hlen5 : xs.length = 5 := hlen
  have hc : Tryz.prog.cellsOf 53 = 5 ∧ Tryz.prog.cellsOf 3 = 1 ∧ Tryz.prog.cellsOf 4 = 1 ∧ Tryz.prog.cellsOf 23 = 1 := ⟨by kernel_rfl, by kernel_rfl, by kernel_rfl, by kernel_rfl⟩
  match xs, hlen5 with
  | [x0, x1, x2, x3, x4], _ =>
    rw [hc.1] at hcs
    obtain ⟨l⟩ := cs
    match l, hcs with
    | [c0, c1, c2, c3, c4], _ =>
      have q0 : DataW.trod enc Tryz.prog W 0 (fun _ => true) true n 3 (List.take (Tryz.prog.cellsOf 3) (List.drop 0 [c0, c1, c2, c3, c4])) = some x0 := hg 0 _ rfl
      have q1 : DataW.trod enc Tryz.prog W 0 (fun _ => true) true n 3 (List.take (Tryz.prog.cellsOf 3) (List.drop 1 [c0, c1, c2, c3, c4])) = some x1 := hg 1 _ rfl
      have q2 : DataW.trod enc Tryz.prog W 0 (fun _ => true) true n 3 (List.take (Tryz.prog.cellsOf 3) (List.drop 2 [c0, c1, c2, c3, c4])) = some x2 := hg 2 _ rfl
      have q3 : DataW.trod enc Tryz.prog W 0 (fun _ => true) true n 4 (List.take (Tryz.prog.cellsOf 4) (List.drop 3 [c0, c1, c2, c3, c4])) = some x3 := hg 3 _ rfl
      have q4 : DataW.trod enc Tryz.prog W 0 (fun _ => true) true n 23 (List.take (Tryz.prog.cellsOf 23) (List.drop 4 [c0, c1, c2, c3, c4])) = some x4 := hg 4 _ rfl
      rw [hc.2.1] at q0 q1 q2
      rw [hc.2.2.1] at q3
      rw [hc.2.2.2] at q4
      obtain ⟨k0, e0, _⟩ := DataW.trod_int Tryz.underlying3 q0
      obtain ⟨k1, e1, _⟩ := DataW.trod_int Tryz.underlying3 q1
      obtain ⟨k2, e2, _⟩ := DataW.trod_int Tryz.underlying3 q2
      obtain ⟨k3, e3, _⟩ := DataW.trod_bool Tryz.underlying4 q3
      have e4 : ∃ a n c, c4 = .slice a n c := by
        rcases DataW.trod_slice Tryz.underlying23 q4 with ⟨e, _⟩ | ⟨a, n, c, _, _, _, _, e, _⟩
        · simp at e
          exact ⟨_, _, _, e⟩
        · simp at e
          exact ⟨_, _, _, e⟩
      obtain ⟨a, n, c, rfl⟩ := e4
      simp at e0 e1 e2 e3
      exact ⟨k0, k1, k2, k3, a, n, c, by rw [e0, e1, e2, e3]⟩

set_option maxRecDepth 100000 in
theorem editorNone_contract (H : Type) (enc : TypeId × Value → H) (W : World) (base : Nat) (args : Array Value) (ds gs : List (DataW H)) (before : List MemPlace)
    (hval : ∀ (j : Nat) t v, Tryz.f8.params[j]? = some t → args[j]? = some v → Value.okWide Tryz.prog W .any base t v)
    (hW : DataW.Whole enc Tryz.prog Tryz.f8.params.toList Rows.editorNoneSpec.vars false W args.toList ds gs before) (_ : laidMetH Tryz.prog Rows.editorNoneRow.laid W) :
    Calls Tryz.prog 8 args W fun e W' => ∃ v, e = .returned v ∧ Rows.editorNoneSpec.post enc Tryz.prog Tryz.f8 false true false false W args v W' := by
  have hW' := hW
  have hlt := hW.lt
  obtain ⟨p, q, hA0, hV, rfl, hfz, hnd⟩ := hW
  have hA : DataW.TrodAll enc Tryz.prog W 0 (fun _ => true) true Tryz.f8.params.toList args.toList ds p := hA0
  rw [Tryz.params8] at hA hval
  obtain ⟨v0, vs0, d0, ds0, p0, q0, hargs, rfl, rfl, h0, r0⟩ := trodAll_cons hA
  obtain ⟨rfl, rfl, rfl⟩ := trodAll_nil r0
  obtain rfl : args = #[v0] := by cases args; simp_all
  obtain ⟨rfl, rfl⟩ := trodVars_none hV
  obtain ⟨ki, A, B, back, a, n, c, rfl⟩ := part_arg (hval 0 53 v0 rfl rfl) h0
  clear hA0
  refine (none_ok W ki A B back a n c).mono fun e W' ⟨he, hg⟩ => ?_
  subst he
  have hb : Below W.heap.size W W' := hg.below _ (Nat.le_refl _) (fun _ h => h.elim)
  refine ⟨_, rfl, [d0], [], _, [], _, [], hW', trodAll_mk1 (shut_bool Tryz.underlying4 _), trodAll_cons_mk (Below.trod (by kernel_rfl) (by kernel_rfl) (of_decide_eq_true (by kernel_rfl)) h0 hb (fun x hx => hlt x (by simp [hx]))) trodAll_mk0, rfl, hb.frame _, fun h => by cases h⟩

set_option maxRecDepth 100000 in
theorem editorNone_lifted (os : Os) (started : os.Started) (H : Type) (enc : TypeId × Value → H) :
    ReturnsInHanded {} Tryz.checked os 8 .any (fun w args => (Rows.editorNoneSpec.pre enc Tryz.prog Tryz.f8 [] false w args ∧ laidMetH Tryz.prog Rows.editorNoneRow.laid w) ∧ sizedMet enc Tryz.prog Tryz.f8 (OpenSpec.ofChange Rows.editorNoneSpec) false w args)
      (Rows.editorNoneSpec.post enc Tryz.prog Tryz.f8 false true false false) := by
  refine returnsInHanded_of_change_and (C := Tryz.checked) (X := fun w _ => laidMetH Tryz.prog Rows.editorNoneRow.laid w) (fun _ _ _ hh h => h.of_heap hh) Tryz.ownKnob3 started (by kernel_rfl) Tryz.func8
    (ChangeSpec.witness_shaped (enc := enc) (C := Tryz.checked) (os := os) (X := fun w _ => laidMetH Tryz.prog Rows.editorNoneRow.laid w) false (World.laidAll Tryz.prog os Rows.editorNoneRow.laid) #[.agg #[.int .i64 0, .int .i64 0, .int .i64 0, .bool false, .slice none 0 0]] 8 (World.laidAll_os _ _ _)
      (World.shaped_of_ZipB (by kernel_rfl) (by kernel_rfl)) (by kernel_rfl) (by kernel_rfl) (by kernel_rfl)
      (by rw [MakeChecks.laidMetH_plain _ _ _ (by kernel_rfl)]; exact laidMet_laidAll _ (by kernel_rfl) (by kernel_rfl))) ?_
  intro W base args ds gs before hval0 hW _ _ hL _
  exact editorNone_contract H enc W base args ds gs before hval0 hW hL

theorem editorNone_holds : Rows.EditorNoneSaid :=
  OpenClaim.holds_of_wide 8 Tryz.f8 rfl rfl rfl rfl rfl rfl rfl ⟨rfl, rfl, rfl, rfl, rfl⟩ rfl rfl rfl rfl rfl (by kernel_rfl) Tryz.func8 (by kernel_rfl)
    (of_decide_eq_true (by kernel_rfl)) (by unfold Func.isWrapper; first | (rw [if_pos (by decide +kernel)]; kernel_rfl) | (rw [if_neg (by decide +kernel)]; exact ⟨rfl, rfl⟩))
    (fun os started H enc _ => editorNone_lifted os started H enc)

theorem editorNone_card : Rows.EditorNoneCardSaid :=
  Claim7.holds_tied_plain_at .later [] [.data, .pinned] true Rows.editorNoneCard.stood.harness false
    editorNone_holds (fun _ h => by cases h) (by kernel_rfl) (fun _ h => by cases h) editorNone_row_tie rfl ⟨rfl, rfl⟩ (by kernel_rfl) rfl
    (fun f fn hf hfn => by
      obtain rfl : f = 8 := Option.some.inj ((show Tryz.prog.funcNamed Rows.editorNoneRow.func = some 8 by kernel_rfl).symm.trans hf) |>.symm
      obtain rfl : fn = Tryz.f8 := (Option.some.inj (Tryz.func8.symm.trans hfn)).symm
      exact ⟨by kernel_rfl, fun j t ht => by
        have hall : (Tryz.f8.params.toList.all fun u => !Tryz.prog.wantsStandIn u) = true := by kernel_rfl
        exact (show Tryz.prog.wantsStandIn t = false by simpa using List.all_eq_true.1 hall t (by simpa using Array.mem_of_getElem? ht))⟩)
    (by kernel_rfl)
#print axioms editorNone_card
end Go.Proofs.YtbhklkolkclflaaGreatDoor

