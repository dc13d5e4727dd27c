/- Package undo, third part: close, End. -/
import Derived.Test.YtbhklkolkclflaaU2
import Derived.Deep.RegionLaw
namespace Go.Proofs.Ytbhklkolkclflaa
open Go.RowKit

/-- append to an owned slice, as one step of a region that draws. -/
theorem step_app {P : Program} {ops : Array Oper} {o : Oper} {a : Act} {w : World} {K : Act → World → Prop} {Q : Exit → Act → World → Prop} {E : Prop}
    (hgd : o.guard = none) (s x : Operand) (t tx : TypeId) (ho : o.op = .call { callee := .builtin .append, args := #[s, x], argTypes := #[t, tx] })
    (e : TypeId) (i : TypeInfo) (z : Value) (size bytes : Nat) (ht : P.underlying t = some (.slice e)) (hi : P.info? e = some i) (hz : i.zero = some z)
    (hsize : i.size = size) (hby : i.bytes = bytes) (hzs : z.cells.size = size) (hsz : 0 < size)
    (v : Value) (n : Nat) (xs : List Value) (hv : a.eval s = v) (hown : Own w e size v n xs) (xv : Value) (m : Nat) (news : List Value) (hx : a.eval x = xv) (hs : Src P size tx xv m news w)
    (h63 : n + m ≤ maxLen) (hbytes : (n + m) * bytes ≤ 140737488355328)
    (h : ∀ av c w', Own w' e size (.slice av (n + m) c) (n + m) (xs ++ news) → Fr (rowOf v) w w' → (rowOf v = rowOf (.slice av (n + m) c) ∨ ∀ b, rowOf (.slice av (n + m) c) b → w.heap.size ≤ b) →
      K (a.put o.dst (.slice av (n + m) c)) w') :
    if Region.wanted o (yielded ops a.tmps) = true then Oper.wp P o a w K Q else E := by
  have hw : Region.wanted o (yielded ops a.tmps) = true := by simp [Region.wanted, hgd]
  rw [if_pos hw]
  obtain ⟨av, c, w', hr, h2, h3, h4⟩ := run_app (P := P) w t tx o.type e i z size bytes ht hi hz hsize hby hzs hsz v n xs hown xv m news hs h63 hbytes
  unfold Oper.wp execOp
  simp only [ho, resolve, invoke, builtin, Sem.run_bind, Sem.run_pure, Result.andThen_ok, List.map_toArray, List.map_cons, List.map_nil, hv, hx, hr]
  exact h av c w' h2 h3 h4

theorem Try.info_edit1 : (Try.prog.info? 67).map (fun i => (i.zero, i.size, i.bytes)) = some (some (.slice none 0 0), 1, 24) := by kernel_rfl

/-- A row of one cell that was made just now. -/
theorem Sl.ofNew (w : World) (u : Value) (T : TypeId) (hu : u.oneCell' = true) : Sl (w.alloc (.cells #[u] T)) 1 (some ⟨w.heap.size, 0, none⟩) 1 1 [u] := by
  refine ⟨rfl, Nat.le_refl _, .inr ⟨_, 0, rfl, fun j v hj => ?_⟩, fun v hv => by simp only [List.mem_singleton] at hv; subst hv; exact hu⟩
  have h := blk_cells (heap_alloc_new w (.cells #[u] T)) j
  rw [Nat.zero_add, h]
  cases j with
  | zero => exact hj
  | succ j => simp at hj

theorem ListBody.push {w w' : World} {F : Nat → Prop} {gv nv gv' : Value} {vs : List Value} {gs : List (List EditP)} {now : List EditP} (h : ListBody w F gv nv vs gs now)
    (ho : Own w' 67 1 gv' (gs.length + 1) (vs ++ [nv])) (hf : Fr (rowOf gv) w w') (hr : rowOf gv = rowOf gv' ∨ ∀ b, rowOf gv' b → w.heap.size ≤ b) :
    ListBody w' (plus w F) gv' (.slice none 0 0) (vs ++ [nv]) (gs ++ [now]) [] := by
  have hN : NR w (rowOf gv) := fun b c fr hb hg => by
    obtain ⟨c', fr', hc⟩ := h.grp.own.rowTy hg
    rw [hb] at hc
    injection hc with hc
    injection hc with _ hc
    exact absurd hc (by decide)
  have he : ∀ v es, EdS w v es → ∀ b, rowOf v b → ¬ rowOf gv b := fun v es hv b hb hg => by
    obtain ⟨c', fr', hc⟩ := h.grp.own.rowTy hg
    exact hv.rowNe hb hc (by decide) rfl
  have hl : vs.length = gs.length := by simpa using h.grp.own.1
  refine ⟨OwnZ.of (by simpa using ho) (by simp), EdS.none _, fun k hk => ?_, fun b hb => ?_, ?_⟩
  · rcases Nat.lt_or_ge k gs.length with hk' | hk'
    · obtain ⟨v, g1, g2, g3⟩ := h.each k hk'
      refine ⟨v, by rw [List.getElem?_append_left (by omega)]; exact g1, ?_, fun b hb => ⟨.inl (g3 b hb).1, ?_⟩⟩
      · rw [List.getElem_append_left hk']
        exact g2.stay hf hN (he _ _ g2)
      · rintro ⟨_, _, _, h, _⟩
        cases h
    · obtain rfl : k = gs.length := by simp at hk; omega
      refine ⟨nv, by rw [List.getElem?_append_right (by omega), hl]; simp, ?_, fun b hb => ⟨.inl (h.mn b hb), ?_⟩⟩
      · simp only [List.getElem_append_right (Nat.le_refl _), Nat.sub_self, List.getElem_cons_zero]
        exact h.now.stay hf hN (he _ _ h.now)
      · rintro ⟨_, _, _, h, _⟩
        cases h
  · rcases hr with hr | hr
    · rw [← hr] at hb
      exact .inl (h.mg b hb)
    · exact .inr (hr b hb)
  · rintro b ⟨_, _, _, h, _⟩
    cases h

theorem ListBody.frame {w w' : World} {F : Nat → Prop} {l : Nat} {gv nv gv' nv' : Value} {opn edits : Int} {vs : List Value} {gs : List (List EditP)} {now : List EditP} (h : ListBody w F gv nv vs gs now)
    (hb : ListBlk w l gv' nv' opn edits) (hf : Fr (fun b => b = l ∨ rowOf gv b) w w') (hl : F l) : Fr (wr w F) w w' := by
  refine hf.wr (fun b _ hx => hx.elim (fun e => e ▸ hl) (h.mg b)) ?_
  rintro b c fr hc (rfl | hx)
  · exact hb.nr _ _ _ hc rfl
  · obtain ⟨c', fr', h'⟩ := h.grp.own.rowTy hx
    rw [hc] at h'
    injection h' with h'
    injection h' with _ h'
    exact absurd h' (by decide)

/-- The groups when all open ones are closed. -/
def closed (gs : List (List EditP)) (now : List EditP) : List (List EditP) := if now.length = 0 then gs else gs ++ [now]

set_option maxRecDepth 10000 in
theorem undo_close (w : World) (F : Nat → Prop) (l : Nat) (gs : List (List EditP)) (now : List EditP) (opn edits : Int) (h : ListRep w F l gs now opn edits) (hg : gs.length ≤ 100000) :
    Calls Try.prog 66 #[.pointer (some ⟨l, 0, none⟩)] w fun e w' => e = .returned (.tuple #[]) ∧ ListRep w' (plus w F) l (closed gs now) [] 0 edits ∧ Fr (wr w F) w w' := by
  have H := Lib.hid h
  obtain ⟨gv, nv, vs, hb, hbody⟩ := h.ex
  have HM := Lib.hid h.mem
  clear h
  obtain ⟨a, c, rfl, _⟩ := hbody.grp.own.val
  obtain ⟨a', c', rfl, _⟩ := hbody.now.val
  have HB := Lib.hid hbody
  clear hbody
  have hc := blk_cells hb
  have hz := blk_free hb
  have hlt := blk_lt hb
  unfold closed
  by_cases h0 : now.length = 0
  · rw [if_pos h0]
    go_enter Try.func66, Try.ntmps66
    go_wp2
    go_end0
    refine ⟨rfl, ⟨⟨_, _, vs, (hb.set1 _).set2 _, ?_⟩, .inl HM.out⟩, H.out.own (((Fr.refl _ _).setOne _ _).setOne _ _)⟩
    have hB := hb.body HB.out (((Fr.refl (one l) w).setOne 1 (.slice none 0 0)).setOne 2 (.int .i64 0))
    refine ⟨hB.grp, EdS.none _, fun k hk => ?_, fun b hb => .inl (hB.mg b hb), ?_⟩
    · obtain ⟨v, g1, g2, g3⟩ := hB.each k hk
      refine ⟨v, g1, g2, fun b hb => ⟨.inl (g3 b hb).1, ?_⟩⟩
      rintro ⟨_, _, _, h, _⟩
      cases h
    · rintro b ⟨_, _, _, h, _⟩
      cases h
  · rw [if_neg h0]
    have h1 : 0 < now.length := by omega
    clear h0
    obtain ⟨i0, hi, hz0, hz1, hz2⟩ := info_parts Try.info_edit1
    have hO : ∀ V, Fr nob w V → Own V 67 1 (.slice a gs.length c) gs.length vs := fun V hV => HB.out.grp.own.stay hV (fun _ _ _ _ h => h)
    have HO := Lib.hid hO
    have hs := (Sl.ofNew w (.slice a' now.length c') 67 rfl).src (P := Try.prog) (tx := 113) (by decide) Try.underlying113
    have hS : ∀ V : World, Src Try.prog 1 113 (.slice (some ⟨V.heap.size, 0, none⟩) 1 1) 1 [.slice a' now.length c'] (V.alloc (.cells #[.slice a' now.length c'] 67)) := fun V =>
      (Sl.ofNew V (.slice a' now.length c') 67 rfl).src (P := Try.prog) (tx := 113) (by decide) Try.underlying113
    have hS2 : ∀ V : World, Src Try.prog 1 113 (.slice (some ⟨V.heap.size, 0, none⟩) 1 1) 1 [.slice a' now.length c'] (V.alloc (.cells #[.slice a' now.length c'] 67)).drew := fun V =>
      ((Sl.ofNew V (.slice a' now.length c') 67 rfl).oldN (Fr.refl _ _).drew).src (P := Try.prog) (tx := 113) (by decide) Try.underlying113
    have HS := Lib.hid hS
    have HS2 := Lib.hid hS2
    have hK : ∀ V, Fr (rowOf (.slice a gs.length c)) w V → ListBlk V l (.slice a gs.length c) (.slice a' now.length c') opn edits := fun V hV => hV.keep hb (fun hr => HB.out.grp.own.rowNe hr hb (by decide) rfl)
    have HK := Lib.hid hK
    clear hO hs hS hS2 hK
    go_enter Try.func66, Try.ntmps66
    go_wp2
    go_region_law ((refine step_app rfl (.tmp 14) (.tmp 20) 113 113 rfl 67 i0 (.slice none 0 0) 1 24 Try.underlying113 hi hz0 hz1 hz2 rfl (by decide) _ gs.length vs rfl (by exact HO.out _ (by first | exact ((Fr.refl nob w).alloc _).drew | exact (Fr.refl nob w).drew.alloc _)) _ 1 _ rfl (by first | exact HS.out _ | exact HS2.out _) (by unfold maxLen; omega) (by omega) ?_; intro av c2 w2 hown2 hfr2 hrow2; have HO2 := Lib.hid hown2; have HF2 := Lib.hid (show Fr (rowOf (.slice a gs.length c)) w w2 by first | exact ((Fr.refl nob w).alloc _).drew.after hfr2 | exact ((Fr.refl nob w).drew.alloc _).after hfr2); have HR2 := Lib.hid (show rowOf (.slice a gs.length c) = rowOf (.slice av (gs.length + 1) c2) ∨ ∀ b, rowOf (.slice av (gs.length + 1) c2) b → w.heap.size ≤ b from hrow2.imp id (fun h b hb => Nat.le_trans (by first | exact (((Fr.refl nob w).alloc _).drew).size | exact ((Fr.refl nob w).drew.alloc _).size) (h b hb))); have hb2 := HK.out _ HF2.out; have hc2 := blk_cells hb2; have hz2' := blk_free hb2; have hlt2 := blk_lt hb2; clear hown2 hfr2 hrow2))
    all_goals go_wp2
    all_goals go_end0
    all_goals refine ⟨rfl, ⟨⟨_, _, vs ++ [.slice a' now.length c'], ((hb2.set0 _).set1 _).set2 _, ?_⟩, .inl HM.out⟩, ?_⟩
    all_goals first
      | exact ((hb2.set0 _).set1 _).body (hb2.set0 _ |>.body (hb2.body (HB.out.push HO2.out HF2.out HR2.out) ((Fr.refl _ _).setOne _ _)) ((Fr.refl _ _).setOne _ _)) ((Fr.refl _ _).setOne _ _)
      | exact HB.out.frame hb (((HF2.out.mono (fun _ _ h => .inr h)).setIn _ _ _ (.inl rfl) |>.setIn _ _ _ (.inl rfl)).setIn _ _ _ (.inl rfl)) HM.out

set_option maxRecDepth 10000 in
theorem undo_end (w : World) (F : Nat → Prop) (l : Nat) (gs : List (List EditP)) (now : List EditP) (opn edits : Int) (h : ListRep w F l gs now opn edits) (hg : gs.length ≤ 100000) (ho : opn = 1) :
    Calls Try.prog 57 #[.pointer (some ⟨l, 0, none⟩)] w (ListDone w F l 0 (closed gs now) [] 0 edits) := by
  subst ho
  have H := Lib.hid h
  obtain ⟨a, c, a', c', hb⟩ := h.blk
  clear h
  have hc := blk_cells hb
  have hz := blk_free hb
  have hlt := blk_lt hb
  have hC : ∀ V, ListRep V F l gs now 0 edits → Calls Try.prog 66 #[.pointer (some ⟨l, 0, none⟩)] V fun e w' => e = .returned (.tuple #[]) ∧ ListRep w' (plus V F) l (closed gs now) [] 0 edits ∧ Fr (wr V F) V w' := fun V hV => undo_close V F l gs now 0 edits hV hg
  have HC := Lib.hid hC
  clear hC
  have h2 := H.out.set2 0
  have hF := H.out.own ((Fr.refl _ _).setOne 2 (.int .i64 0))
  have H2 := Lib.hid h2
  have HF := Lib.hid hF
  clear h2 hF
  go_enter Try.func57, Try.ntmps57
  go_wp2_with (first | (go_at_call 65; refine (undo_none _ _ _ _ _ _ hb).mono ?_; rintro e w' ⟨rfl, rfl⟩) | (go_at_call 66; refine (HC.out _ H2.out).mono ?_; rintro e w2 ⟨rfl, hr2, hf2⟩; have HR2 := Lib.hid hr2; have HF2 := Lib.hid hf2; clear hr2 hf2))
  go_ret
  exact ⟨rfl, HR2.out.mono (plus.grow HF.out.size), wr.then HF.out HF2.out⟩
end Go.Proofs.Ytbhklkolkclflaa
