/- Package undo, second part: New, none, own, Inverse, Begin. -/
import Derived.Test.YtbhklkolkclflaaU1
namespace Go.Proofs.Ytbhklkolkclflaa
open Go.RowKit

section
variable {w w' : World} {F : Nat → Prop} {l : Nat} {gs : List (List EditP)} {now : List EditP} {opn edits : Int}
theorem ListRep.blk (h : ListRep w F l gs now opn edits) : ∃ a c a' c', ListBlk w l (.slice a gs.length c) (.slice a' now.length c') opn edits := by
  obtain ⟨gv, nv, vs, h1, h2⟩ := h.ex
  obtain ⟨a, c, rfl, _⟩ := h2.grp.own.val
  obtain ⟨a', c', rfl, _⟩ := h2.now.val
  exact ⟨a, c, a', c', h1⟩
theorem ListRep.lt (h : ListRep w F l gs now opn edits) : l < w.heap.size := by
  obtain ⟨_, _, _, _, h⟩ := h.blk
  exact blk_lt h
theorem ListRep.nr (h : ListRep w F l gs now opn edits) : NR w (one l) := by
  obtain ⟨_, _, _, _, h⟩ := h.blk
  exact h.nr
/-- What is changed outside of F leaves the list as it is. -/
theorem ListRep.stay {M : Nat → Prop} (h : ListRep w F l gs now opn edits) (hf : Fr M w w') (hr : NR w M) (hm : ∀ b, F b → ¬ M b) : ListRep w' F l gs now opn edits := by
  obtain ⟨gv, nv, vs, h1, h2⟩ := h.ex
  exact ⟨⟨gv, nv, vs, hf.keep h1 (hm _ h.mem), h2.stay hf hr (fun b hb _ => hm b hb)⟩, h.mem⟩
theorem ListRep.stayN (h : ListRep w F l gs now opn edits) (hf : Fr nob w w') : ListRep w' F l gs now opn edits := h.stay hf (NR.nob w) (fun _ _ h => h)
theorem ListRep.mono {G : Nat → Prop} (h : ListRep w F l gs now opn edits) (hFG : ∀ b, F b → G b) : ListRep w G l gs now opn edits := by
  obtain ⟨gv, nv, vs, h1, h2⟩ := h.ex
  exact ⟨⟨gv, nv, vs, h1, h2.mono hFG⟩, hFG l h.mem⟩
theorem ListRep.set2 (h : ListRep w F l gs now opn edits) (x : Int) : ListRep (w.setCell ⟨l, 2, none⟩ (.int .i64 x)) F l gs now x edits := by
  obtain ⟨gv, nv, vs, h1, h2⟩ := h.ex
  exact ⟨⟨gv, nv, vs, h1.set2 x, h1.body h2 ((Fr.refl _ _).setOne _ _)⟩, h.mem⟩
theorem ListRep.set3 (h : ListRep w F l gs now opn edits) (x : Int) : ListRep (w.setCell ⟨l, 3, none⟩ (.int .i64 x)) F l gs now opn x := by
  obtain ⟨gv, nv, vs, h1, h2⟩ := h.ex
  exact ⟨⟨gv, nv, vs, h1.set3 x, h1.body h2 ((Fr.refl _ _).setOne _ _)⟩, h.mem⟩
/-- A change of the list's own block is one within F. -/
theorem ListRep.own (h : ListRep w F l gs now opn edits) (hf : Fr (one l) w w') : Fr (wr w F) w w' := hf.wr (fun b _ e => by cases e; exact h.mem) h.nr
end

set_option maxRecDepth 10000 in
theorem undo_new (w : World) (F : Nat → Prop) :
    Calls Try.prog 64 #[] w fun e w' => e = .returned (.pointer (some ⟨w.heap.size, 0, none⟩)) ∧ ListRep w' (plus w F) w.heap.size [] [] 0 0 ∧ Fr nob w w' := by
  go_enter Try.func64, Try.ntmps64
  go_wp2
  go_ret
  refine ⟨rfl, ⟨⟨.slice none 0 0, .slice none 0 0, [], heap_alloc_new w _, ⟨OwnZ.none _ _ _, EdS.none _, fun k hk => absurd hk (by simp), ?_, ?_⟩⟩, .inr (Nat.le_refl _)⟩, (Fr.refl _ _).alloc _⟩
  · rintro b ⟨_, _, _, h, _⟩
    cases h
  · rintro b ⟨_, _, _, h, _⟩
    cases h

set_option maxRecDepth 10000 in
theorem undo_none (w : World) (l : Nat) (gv nv : Value) (opn edits : Int) (h : ListBlk w l gv nv opn edits) :
    Calls Try.prog 65 #[.pointer (some ⟨l, 0, none⟩)] w fun e w' => e = .returned (.bool false) ∧ w' = w := by
  have hc := blk_cells h
  go_enter Try.func65, Try.ntmps65
  go_wp2
  go_ret
  exact ⟨rfl, rfl⟩

/-- What a cell holds, for facts that bear writes. -/
def cv (V : World) (r o : Nat) : Value := (V.cell? ⟨r, o, none⟩).getD undef
theorem cv_some {V : World} {r : Nat} {c : Array Value} {T : TypeId} {fr : Nat × Nat} (h : V.heap[r]? = some (.cells c T fr)) (o : Nat) (ho : o < c.size) : V.cell? ⟨r, o, none⟩ = some (cv V r o) := by
  unfold cv
  rw [blk_cells h o, Array.getElem?_eq_getElem ho]
  rfl

/-- What answers an edit in memory of its own. -/
def EditNew (w : World) (f : Int) (d i : List Int) (e : Ending) (w' : World) : Prop := ∃ v, e = .returned v ∧ EditV w' v f d i ∧ Fr nob w w'

set_option maxRecDepth 10000 in
theorem undo_own (w : World) (v : Value) (f : Int) (d i : List Int) (h : EditV w v f d i) (hd : d.length ≤ 100000) (hi : i.length ≤ 100000) :
    Calls Try.prog 79 #[v] w (EditNew w f d i) := by
  obtain ⟨da, ia, dc, ic, rfl, h1, h2⟩ := h
  have H1 := Lib.hid h1
  have H2 := Lib.hid h2
  clear h1 h2
  go_enter Try.func79, Try.ntmps79
  go_wp2
  have hB := (heap_alloc_lt (.cells #[.int .i64 0, .slice none 0 0, .slice none 0 0] 82) (by simp)).trans (heap_alloc_new w (.cells #[.int .i64 f, .slice da d.length dc, .slice ia i.length ic] 82))
  have hR := heap_alloc_new (w.alloc (.cells #[.int .i64 f, .slice da d.length dc, .slice ia i.length ic] 82)) (.cells #[.int .i64 0, .slice none 0 0, .slice none 0 0] 82)
  rw [show (w.alloc (.cells #[.int .i64 f, .slice da d.length dc, .slice ia i.length ic] 82)).heap.size = w.heap.size + 1 by simp] at hR
  refine forget (fun W => Hid (W.heap[w.heap.size]? = some (.cells #[.int .i64 f, .slice da d.length dc, .slice ia i.length ic] 82 (0, 0))) ∧ Hid (W.heap[w.heap.size + 1]? = some (.cells #[.int .i64 0, .slice none 0 0, .slice none 0 0] 82 (0, 0))) ∧ Fr nob w W)
    ⟨hB, hR, ((Fr.refl _ _).alloc _).alloc _⟩ ?_
  clear hB hR
  rintro W ⟨HB, HR, hfW⟩
  have hS : ∀ V, Fr (one (w.heap.size + 1)) W V → (∃ c, c.size = 3 ∧ V.heap[w.heap.size + 1]? = some (.cells c 82 (0, 0))) → (V.cell? ⟨w.heap.size, 0, none⟩ = some (.int .i64 f) ∧ V.cell? ⟨w.heap.size, 1, none⟩ = some (.slice da d.length dc) ∧ V.cell? ⟨w.heap.size, 2, none⟩ = some (.slice ia i.length ic) ∧
      (∀ o, V.frozen? ⟨w.heap.size + 1, o, none⟩ = false) ∧ w.heap.size + 1 < V.heap.size ∧
      V.cell? ⟨w.heap.size + 1, 0, none⟩ = some (cv V (w.heap.size + 1) 0) ∧ V.cell? ⟨w.heap.size + 1, 1, none⟩ = some (cv V (w.heap.size + 1) 1) ∧ V.cell? ⟨w.heap.size + 1, 2, none⟩ = some (cv V (w.heap.size + 1) 2)) := fun V hV ⟨c, hcs, h1⟩ => by
    have h0 := blk_cells (hV.keep HB.out (fun h => absurd h (by show ¬ w.heap.size = w.heap.size + 1; omega)))
    exact ⟨by rw [h0]; rfl, by rw [h0]; rfl, by rw [h0]; rfl, blk_free h1, blk_lt h1, cv_some h1 0 (by omega), cv_some h1 1 (by omega), cv_some h1 2 (by omega)⟩
  have HS := Lib.hid hS
  clear hS
  have hK : ∀ V, Fr nob W V → V.heap[w.heap.size + 1]? = some (.cells #[.int .i64 0, .slice none 0 0, .slice none 0 0] 82 (0, 0)) := fun V hV => hV.keep HR.out (fun h => h)
  have HK := Lib.hid hK
  clear hK
  have hC : ∀ V, Fr nob w V → Calls Try.prog 12 #[.slice da d.length dc] V (MadeS V 21 1 d.length (runes d)) := fun V hV => clone_runes V da d.length dc _ (H1.out.stay hV (fun _ _ _ _ h => h)).sl (by omega)
  have hD : ∀ V, Fr nob w V → Calls Try.prog 12 #[.slice ia i.length ic] V (MadeS V 21 1 i.length (runes i)) := fun V hV => clone_runes V ia i.length ic _ (H2.out.stay hV (fun _ _ _ _ h => h)).sl (by omega)
  have HC := Lib.hid hC
  have HD := Lib.hid hD
  clear hC hD
  go_region_held3 (fun V => V.cell? ⟨w.heap.size, 0, none⟩ = some (.int .i64 f) ∧ V.cell? ⟨w.heap.size, 1, none⟩ = some (.slice da d.length dc) ∧ V.cell? ⟨w.heap.size, 2, none⟩ = some (.slice ia i.length ic) ∧
      (∀ o, V.frozen? ⟨w.heap.size + 1, o, none⟩ = false) ∧ w.heap.size + 1 < V.heap.size ∧
      V.cell? ⟨w.heap.size + 1, 0, none⟩ = some (cv V (w.heap.size + 1) 0) ∧ V.cell? ⟨w.heap.size + 1, 1, none⟩ = some (cv V (w.heap.size + 1) 1) ∧ V.cell? ⟨w.heap.size + 1, 2, none⟩ = some (cv V (w.heap.size + 1) 2))
    ((go_split_ands; first
      | exact HS.out _ (Fr.refl _ _).drew ⟨_, rfl, HK.out _ (Fr.refl _ _).drew⟩
      | exact HS.out _ (Fr.then (Fr.refl _ _).drew hfr1) ⟨_, rfl, HK.out _ (Fr.then (Fr.refl _ _).drew hfr1)⟩
      | exact HS.out _ (Fr.then (Fr.then (Fr.refl _ _).drew hfr1) hfr2) ⟨_, rfl, HK.out _ (Fr.then (Fr.then (Fr.refl _ _).drew hfr1) hfr2)⟩
      | exact HS.out _ ((((Fr.then (Fr.then (Fr.refl _ _).drew hfr1) hfr2).setOne _ _).setOne _ _).setOne _ _) ⟨_, by simp, heap_setCell_same (heap_setCell_same (heap_setCell_same (HK.out _ (Fr.then (Fr.then (Fr.refl _ _).drew hfr1) hfr2)) _) _) _⟩))
    (first
      | (go_at_call 12; refine (HC.out _ ?_).mono ?_; (exact hfW.then (Fr.refl _ _).drew); rintro e w1 ⟨da2, dc2, rfl, hown1, hfr1, _⟩; have HO1 := Lib.hid hown1; clear hown1)
      | (go_at_call 12; refine (HD.out _ ?_).mono ?_; (exact hfW.then ((Fr.refl _ _).drew.then hfr1)); rintro e w2 ⟨ia2, ic2, rfl, hown2, hfr2, _⟩; have HO2 := Lib.hid hown2; clear hown2))
  rename_i hSV
  clear hSV
  have hR3 := heap_setCell_same (o := 2) (heap_setCell_same (o := 1) (heap_setCell_same (o := 0) (HK.out _ (((Fr.refl _ _).drew.then hfr1).then hfr2)) (.int .i64 f)) (.slice da2 d.length dc2)) (.slice ia2 i.length ic2)
  have hc3 := blk_cells hR3
  have hN : NR w2 (one (w.heap.size + 1)) := NR.one (HK.out _ (((Fr.refl _ _).drew.then hfr1).then hfr2)) (by decide)
  go_wp2
  refine bodyPost_ret (v := .agg #[.int .i64 f, .slice da2 d.length dc2, .slice ia2 i.length ic2]) (by simp [results, Try.results79, go_sem, hc3]) rfl ⟨_, rfl, ⟨da2, ia2, dc2, ic2, rfl, ?_, ?_⟩, ?_⟩
  · exact (HO1.out.stay hfr2 (fun _ _ _ _ h => h)).stay ((((Fr.refl (one (w.heap.size + 1)) w2).setOne _ _).setOne _ _).setOne _ _) hN
  · exact HO2.out.stay ((((Fr.refl (one (w.heap.size + 1)) w2).setOne _ _).setOne _ _).setOne _ _) hN
  · exact ((((hfW.then (Fr.refl _ _).drew).then hfr1).then hfr2).setNew _ _ _ (by omega) |>.setNew _ _ _ (by omega)).setNew _ _ _ (by omega)

set_option maxRecDepth 10000 in
theorem undo_inverse (w : World) (v : Value) (f : Int) (d i : List Int) (h : EditV w v f d i) (hd : d.length ≤ 100000) (hi : i.length ≤ 100000) :
    Calls Try.prog 83 #[v] w (EditNew w f i d) := by
  obtain ⟨da, ia, dc, ic, rfl, h1, h2⟩ := h
  have H1 := Lib.hid h1
  have H2 := Lib.hid h2
  clear h1 h2
  go_enter Try.func83, Try.ntmps83
  go_wp2_with fail
  refine (undo_own _ _ f i d ⟨ia, da, ic, dc, rfl, H2.out.stay (((Fr.refl nob w).alloc _).alloc _) (fun _ _ _ _ h => h), H1.out.stay (((Fr.refl nob w).alloc _).alloc _) (fun _ _ _ _ h => h)⟩ hi hd).mono ?_
  rintro e w1 ⟨v, rfl, ⟨ia2, da2, ic2, dc2, rfl, g1, g2⟩, hfr⟩
  have hR := hfr.keep (heap_alloc_new _ _) (fun h => h)
  rw [show (w.alloc (.cells #[.int .i64 f, .slice da d.length dc, .slice ia i.length ic] 82)).heap.size = w.heap.size + 1 by simp] at hR
  have hc := blk_cells hR
  have hz := blk_free hR
  have hlt := blk_lt hR
  have hf1 : Fr nob w w1 := (((Fr.refl nob w).alloc _).alloc _).then hfr
  have G1 := Lib.hid g1
  have G2 := Lib.hid g2
  have hN : NR w1 (one (w.heap.size + 1)) := NR.one hR (by decide)
  clear g1 g2
  go_wp2
  refine bodyPost_ret (v := .agg #[.int .i64 f, .slice ia2 i.length ic2, .slice da2 d.length dc2]) (by simp [results, Try.results83, go_sem, hc]) rfl ⟨_, rfl, ⟨ia2, da2, ic2, dc2, rfl, ?_, ?_⟩, ?_⟩
  · exact G1.out.stay ((((Fr.refl (one (w.heap.size + 1)) w1).setOne _ _).setOne _ _).setOne _ _) hN
  · exact G2.out.stay ((((Fr.refl (one (w.heap.size + 1)) w1).setOne _ _).setOne _ _).setOne _ _) hN
  · exact (hf1.setNew _ _ _ (by omega) |>.setNew _ _ _ (by omega)).setNew _ _ _ (by omega)

/-- A call of a list that answers a number. -/
def ListDone (w : World) (F : Nat → Prop) (l : Nat) (n : Int) (gs : List (List EditP)) (now : List EditP) (opn edits : Int) (e : Ending) (w' : World) : Prop :=
  e = .returned (.int .i64 n) ∧ ListRep w' (plus w F) l gs now opn edits ∧ Fr (wr w F) w w'

set_option maxRecDepth 10000 in
theorem undo_begin (w : World) (F : Nat → Prop) (l : Nat) (gs : List (List EditP)) (now : List EditP) (opn edits : Int) (h : ListRep w F l gs now opn edits) (ho : opn.natAbs ≤ 100000) :
    Calls Try.prog 55 #[.pointer (some ⟨l, 0, none⟩)] w (ListDone w F l 0 gs now (opn + 1) edits) := by
  have H := Lib.hid h
  obtain ⟨a, c, a', c', hb⟩ := h.blk
  clear h
  have hc := blk_cells hb
  have hz := blk_free hb
  have hlt := blk_lt hb
  go_enter Try.func55, Try.ntmps55
  go_wp2_with (go_at_call 65; refine (undo_none _ _ _ _ _ _ hb).mono ?_; rintro e w' ⟨rfl, rfl⟩)
  go_ret
  exact ⟨rfl, (H.out.set2 _).mono (fun _ h => .inl h), H.out.own ((Fr.refl _ _).setOne _ _)⟩

set_option maxRecDepth 10000 in
theorem undo_edits (w : World) (F : Nat → Prop) (l : Nat) (gs : List (List EditP)) (now : List EditP) (opn edits : Int) (h : ListRep w F l gs now opn edits) :
    Calls Try.prog 60 #[.pointer (some ⟨l, 0, none⟩)] w fun e w' => e = .returned (.int .i64 edits) ∧ w' = w := by
  obtain ⟨a, c, a', c', hb⟩ := h.blk
  clear h
  have hc := blk_cells hb
  go_enter Try.func60, Try.ntmps60
  go_wp2_with (go_at_call 65; refine (undo_none _ _ _ _ _ _ hb).mono ?_; rintro e w' ⟨rfl, rfl⟩)
  go_ret
  exact ⟨rfl, rfl⟩

set_option maxRecDepth 10000 in
theorem undo_len (w : World) (F : Nat → Prop) (l : Nat) (gs : List (List EditP)) (now : List EditP) (opn edits : Int) (h : ListRep w F l gs now opn edits) (hg : gs.length ≤ 1000000) :
    Calls Try.prog 72 #[.pointer (some ⟨l, 0, none⟩)] w fun e w' => e = .returned (.int .i64 (gs.length + min 1 now.length : Nat)) ∧ ∃ k, w' = w.drewN k := by
  obtain ⟨a, c, a', c', hb⟩ := h.blk
  clear h
  have hc := blk_cells hb
  generalize hn1 : gs.length = n1 at *
  generalize hn2 : now.length = n2 at *
  go_enter Try.func72, Try.ntmps72
  go_wp2_with (go_at_call 65; refine (undo_none _ _ _ _ _ _ hb).mono ?_; rintro e w' ⟨rfl, rfl⟩)
  go_quiet (fail)
  go_wp2
  all_goals go_ret
  all_goals refine ⟨ret_int ?_, _, rfl⟩
  all_goals omega

set_option maxRecDepth 10000 in
theorem undo_clear (w : World) (F : Nat → Prop) (l : Nat) (gs : List (List EditP)) (now : List EditP) (opn edits : Int) (h : ListRep w F l gs now opn edits) :
    Calls Try.prog 61 #[.pointer (some ⟨l, 0, none⟩)] w fun e w' => e = .returned (.tuple #[]) ∧ ListRep w' F l [] [] 0 0 ∧ Fr (wr w F) w w' := by
  have H := Lib.hid h
  obtain ⟨a, c, a', c', hb⟩ := h.blk
  clear h
  have hc := blk_cells hb
  have hz := blk_free hb
  have hlt := blk_lt hb
  go_enter Try.func61, Try.ntmps61
  go_wp2_with (go_at_call 65; refine (undo_none _ _ _ _ _ _ hb).mono ?_; rintro e w' ⟨rfl, rfl⟩)
  go_end0
  have h5 := heap_setCell_same (o := 4) ((((hb.set0 (.slice none 0 0)).set1 (.slice none 0 0)).set2 0).set3 0) (.bool true)
  refine ⟨rfl, ⟨⟨_, _, [], h5, ⟨OwnZ.none _ _ _, EdS.none _, fun k hk => absurd hk (by simp), ?_, ?_⟩⟩, H.out.mem⟩, H.out.own (((((( Fr.refl _ _).setOne _ _).setOne _ _).setOne _ _).setOne _ _).setOne _ _)⟩
  · rintro b ⟨_, _, _, h, _⟩
    cases h
  · rintro b ⟨_, _, _, h, _⟩
    cases h
end Go.Proofs.Ytbhklkolkclflaa
