/- EditorKills (lanyardlaw17): for every line, every place and every list of steps the law returns true, and all reads behind the call as it read before. No condition. -/
import Derived.Test.YtbhklkolkclflaaL7
import Derived.Test.YtbhklkolkclflaaL4
import Derived.JoinedCond
namespace Go.Proofs.Ytbhklkolkclflaa
open Go.ChangeShapes Go.WideShapes Go.ChangeAt Go.RowKit

theorem Try.ownKnob2 : ownKnob Try.prog.godebug = none := by kernel_rfl
theorem i64_bounds {n : Int} (h : (Lit.int .i64 n).wf = true) : -9223372036854775808 ≤ n ∧ n ≤ 9223372036854775807 := by
  simp [Lit.wf, IntKind.min, IntKind.max, IntKind.bits, IntKind.signed] at h
  omega

set_option maxRecDepth 10000 in
/-- An argument of integers. -/
theorem arg_nums {H : Type} {enc : TypeId × Value → H} {W : World} {base : Nat} {v : Value} {d : DataW H} {p : List MemPlace} (hok : Value.okWide Try.prog W .any base 45 v)
    (h : DataW.Trod enc Try.prog W 0 (fun _ => true) true 45 v d p) :
    ∃ a l c, v = .slice a (l : List Int).length c ∧ Sl W 1 a l.length c (nums l) ∧ (∀ x ∈ l, -9223372036854775808 ≤ x ∧ x ≤ 9223372036854775807) ∧ l.length ≤ maxLen ∧ ∀ W' sp, Fr nob W W' → (∀ q ∈ p, sp q.block = true) → DataW.Trod enc Try.prog W' 0 sp true 45 v d p := by
  obtain ⟨a0, len, cap, rfl⟩ := okWide_slice Try.underlying45 hok
  obtain ⟨fuel, hf⟩ := h
  have hcells : Try.prog.cellsOf 3 = 1 := by kernel_rfl
  rcases open_ints Try.underlying45 Try.underlying3 hcells hf with ⟨hcs, hx⟩ | ⟨a, len', cap', zs, hcs, _, hl, hm, hz, hx, hcell, hwz⟩
  · simp [Value.cells] at hcs
    obtain ⟨rfl, rfl, rfl⟩ := hcs
    simp only [Prod.mk.injEq] at hx
    obtain ⟨rfl, rfl⟩ := hx
    exact ⟨none, [], 0, rfl, ⟨rfl, Nat.le_refl _, .inl rfl, by simp [nums]⟩, by simp, Nat.zero_le _, fun W' sp _ _ => shut_slice_nil Try.underlying45⟩
  · simp [Value.cells] at hcs
    obtain ⟨rfl, rfl, rfl⟩ := hcs
    simp only [Prod.mk.injEq] at hx
    obtain ⟨rfl, rfl⟩ := hx
    simp only [if_true] at hz
    have hlen : (zs.take len).length = len := by rw [List.length_take]; omega
    refine ⟨some a, zs.take len, cap, by rw [hlen], ⟨by rw [hlen]; simp [nums]; omega, by omega, ?_, fun u hu => by obtain ⟨n, _, rfl⟩ := List.mem_map.1 hu; rfl⟩, fun x hx => i64_bounds (hwz x (List.mem_of_mem_take hx)), by omega, fun W' sp hW hsp => ?_⟩
    · by_cases hz0 : len = 0
      · left
        subst hz0
        rfl
      · right
        obtain ⟨b, off, spot⟩ := a
        have hspot : spot = none := by simpa [Addr.add] using World.cell?_spot (hcell 0 (by omega))
        subst hspot
        refine ⟨b, off, rfl, fun j u hu => ?_⟩
        have hj : j < len := by
          have := (List.getElem?_eq_some_iff.1 hu).1
          simp only [nums, List.length_map, hlen] at this
          exact this
        rw [← add_plain, hcell j (by omega), ← hu]
        simp [nums, hj, List.getD]
        rw [List.getElem?_eq_getElem (by omega)]
        rfl
    · by_cases hz0 : zs.length = 0
      · have hc0 : cap = 0 := by omega
        have hl0 : len = 0 := by omega
        subst hc0; subst hl0
        have t0 := shut_ints (enc := enc) (w := W') (base := 0) (spare := sp) (held := true) (a := a) (len := 0) (cap := 0) (zs := zs) 0 Try.underlying45 Try.underlying3 hcells (Nat.zero_le _) (Nat.le_refl _) hm (by simp [hz0]) (fun i hi => cell_keep hW (hcell i hi)) hwz
        exact ⟨2, by simpa [Value.cells] using t0⟩
      · have hspb : sp a.block = true := by
          have := hsp (.cell a.block a.off) (MemPlace.mem_row.2 ⟨0, by omega, by simp⟩)
          exact this
        have t0 := shut_ints (enc := enc) (w := W') (base := 0) (spare := sp) (held := true) (a := a) (len := len) (cap := cap) (zs := zs) 0 Try.underlying45 Try.underlying3 hcells (Nat.zero_le _) hl hm (by simp [hspb, hz]) (fun i hi => cell_keep hW (hcell i hi)) hwz
        exact ⟨2, by simpa [Value.cells] using t0⟩

set_option maxRecDepth 100000 in
theorem kills_contract (H : Type) (enc : TypeId × Value → H) (W : World) (base : Nat) (args : Array Value) (ds gs : List (DataW H)) (before : List MemPlace)
    (hval : ∀ (j : Nat) t v, Try.f4.params[j]? = some t → args[j]? = some v → Value.okWide Try.prog W .any base t v)
    (hW : DataW.Whole enc Try.prog Try.f4.params.toList Rows.editorKillsSpec.vars false W args.toList ds gs before) :
    Calls Try.prog 4 args W fun e W' => ∃ v, e = .returned v ∧ Rows.editorKillsSpec.post enc Try.prog Try.f4 false true false false W args v W' := by
  have hW' := hW
  have hlt := hW.lt
  obtain ⟨p, q, hA0, hV, rfl, hfz, hnd⟩ := hW
  have hA : DataW.TrodAll enc Try.prog W 0 (fun _ => true) true Try.f4.params.toList args.toList ds p := hA0
  rw [Try.params4] at hA hval
  obtain ⟨v0, vs0, d0, ds0, p0, q0, hargs, rfl, rfl, h0, r0⟩ := trodAll_cons hA
  obtain ⟨v1, vs1, d1, ds1, p1, q1, rfl, rfl, rfl, h1, r1⟩ := trodAll_cons r0
  obtain ⟨v2, vs2, d2, ds2, p2, q2, rfl, rfl, rfl, h2, r2⟩ := trodAll_cons r1
  obtain ⟨rfl, rfl, rfl⟩ := trodAll_nil r2
  obtain rfl : args = #[v0, v1, v2] := by cases args; simp_all
  obtain ⟨rfl, rfl⟩ := trodVars_none hV
  obtain ⟨a0, l0, c0, rfl, hs0, k0⟩ := arg_runes (hval 0 22 v0 rfl rfl) h0
  obtain ⟨n1, rfl, rfl, rfl, wn⟩ := open_int Try.underlying3 (hval 1 3 v1 rfl rfl) h1
  obtain ⟨a2, l2, c2, rfl, hs2, hb2, hm2, k2⟩ := arg_nums (hval 2 45 v2 rfl rfl) h2
  clear hA0
  refine (kills_ok W a0 a2 c0 c2 l0 l2 n1 hs0 hs2 hb2 hm2).mono fun e W' ⟨he, hg⟩ => ?_
  subst he
  refine ⟨_, rfl, [d0, _, d2], [], _, [], _, [], hW', trodAll_mk1 (shut_bool Try.underlying4 _), trodAll_cons_mk (k0 W' _ hg (fun x hx => ?_)) (trodAll_cons_mk (shut_int Try.underlying3 wn) (trodAll_cons_mk (k2 W' _ hg (fun x hx => ?_)) trodAll_mk0)), rfl, keptBut_fr hg _, fun h => by cases h⟩
  · exact decide_eq_true (hlt x (by simp [hx]))
  · exact decide_eq_true (hlt x (by simp [hx]))

set_option maxRecDepth 100000 in
theorem kills_lifted (os : Os) (started : os.Started) (H : Type) (enc : TypeId × Value → H) :
    ReturnsInHanded {} Try.checked os 4 .any (Rows.editorKillsSpec.pre6 enc Try.prog Try.f4 Rows.editorKillsRow.domain false) (Rows.editorKillsSpec.post enc Try.prog Try.f4 false true false false) := by
  refine returnsInHanded_of_change (C := Try.checked) Try.ownKnob2 started (by kernel_rfl) Try.func4
    (ChangeSpec.witness6 (enc := enc) (C := Try.checked) false ⟨#[], #[.slice none 0 0, .int .i64 0, .slice none 0 0], []⟩ 8 (by kernel_rfl) (by kernel_rfl) (by kernel_rfl) (by kernel_rfl)) ?_
  intro W base args ds gs before hval hW _ _
  exact kills_contract H enc W base args ds gs before hval hW

theorem editorKills_holds : Rows.EditorKillsSaid :=
  OpenClaim.holds_of_wide 4 Try.f4 rfl rfl rfl rfl rfl rfl rfl ⟨rfl, rfl, rfl, rfl, rfl⟩ rfl rfl rfl rfl rfl (by kernel_rfl) Try.func4 (by kernel_rfl)
    (of_decide_eq_true (by kernel_rfl)) (by unfold Func.isWrapper; first | (rw [if_pos (by decide +kernel)]; kernel_rfl) | (rw [if_neg (by decide +kernel)]; exact ⟨rfl, rfl⟩))
    (fun os started H enc _ => kills_lifted os started H enc)
#print axioms editorKills_holds
end Go.Proofs.Ytbhklkolkclflaa
