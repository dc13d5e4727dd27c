/- Package undo, seventh part: Undo. -/
import Derived.Test.YtbhklkolkclflaaU6
namespace Go.Proofs.Ytbhklkolkclflaa
open Go.RowKit

/-- The last group is let go of. -/
theorem ListBody.pop {w : World} {F : Nat → Prop} {a : Option Addr} {n c : Nat} {nv : Value} {vs : List Value} {gs : List (List EditP)} {g : List EditP} {now : List EditP}
    (h : ListBody w F (.slice a n c) nv vs (gs ++ [g]) now) : ListBody w F (.slice a gs.length c) nv (vs.take gs.length) gs now := by
  have hl : vs.length = gs.length + 1 := by simpa using h.grp.own.1
  refine ⟨⟨⟨by simp [List.length_take]; omega, fun u hu => h.grp.own.2.1 u (List.mem_of_mem_take hu), ?_⟩, ?_⟩, h.now, fun k hk => ?_, ?_, h.mn⟩
  · rcases h.grp.own.2.2 with ⟨a', hv, hn, _⟩ | ⟨b, cap, cur, hv, hb, hn, hcap, hcs, ht⟩
    · simp at hn
    · injection hv with e1 e2 e3
      subst e1 e3
      refine .inr ⟨b, c, cur, rfl, hb, by simp at hn; omega, hcap, hcs, ?_⟩
      rw [← ht, List.take_take]
      congr 1
      simp
  · intro a' n' e
    injection e with e1 e2 e3
    subst e1 e3
    exact h.grp.nil _ _ rfl
  · obtain ⟨v, g1, g2, g3⟩ := h.each k (by simp; omega)
    refine ⟨v, ?_, ?_, g3⟩
    · rw [List.getElem?_take_of_lt hk]
      exact g1
    · rw [List.getElem_append_left hk] at g2
      exact g2
  · rintro b ⟨ad, n', c', e, hc, rfl⟩
    injection e with e1 e2 e3
    subst e1 e3
    exact h.mg _ ⟨ad, n, c, rfl, hc, rfl⟩

/-- What Undo answers. -/
def Undone (w : World) (F : Nat → Prop) (l : Nat) (pre : List (List EditP)) (g : List EditP) (edits : Int) (e : Ending) (w' : World) : Prop :=
  ∃ a c, e = .returned (.tuple #[.slice a g.length c, .int .i64 0]) ∧ EdS w' (.slice a g.length c) (g.reverse.map inv) ∧ (∀ b, rowOf (.slice a g.length c) b → w.heap.size ≤ b) ∧
    ListRep w' (plus w F) l pre [] 0 (edits - g.length) ∧ Fr (wr w F) w w'

set_option maxRecDepth 10000 in
theorem undo_undo_none (w : World) (F : Nat → Prop) (l : Nat) (opn edits : Int) (h : ListRep w F l [] [] opn edits) :
    Calls Try.prog 34 #[.pointer (some ⟨l, 0, none⟩)] w fun e w' => e = .returned (.tuple #[.slice none 0 0, .int .i64 6]) ∧ ∃ k, w' = w.drewN k := by
  obtain ⟨a, c, a', c', hb⟩ := h.blk
  clear h
  simp only [List.length_nil] at hb
  have hc := blk_cells hb
  go_enter Try.func34, Try.ntmps34
  go_wp2_with (go_at_call 65; refine (undo_none _ _ _ _ _ _ hb).mono ?_; rintro e w' ⟨rfl, rfl⟩)
  go_quiet (fail)
  go_wp2
  go_ret2
  exact ⟨rfl, _, rfl⟩

set_option maxRecDepth 10000 in
set_option maxHeartbeats 1000000 in
theorem undo_undo (w : World) (F : Nat → Prop) (l : Nat) (gs : List (List EditP)) (now : List EditP) (opn edits : Int) (pre : List (List EditP)) (g : List EditP) (h : ListRep w F l gs now opn edits)
    (hgs : closed gs now = pre ++ [g]) (hg : Small g) (hgl : gs.length ≤ 100000) (hnl : now.length ≤ 100000) (he : 0 ≤ edits) (he2 : edits ≤ 100000) :
    Calls Try.prog 34 #[.pointer (some ⟨l, 0, none⟩)] w (Undone w F l pre g edits) := by
  have H := Lib.hid h
  have HG := Lib.hid hg
  obtain ⟨a, c, a', c', hb⟩ := h.blk
  have hpos : 0 < gs.length + now.length := by
    unfold closed at hgs
    split at hgs
    · rw [hgs]
      simp
      omega
    · omega
  have hpl : pre.length ≤ 100000 := by
    have := congrArg List.length hgs
    unfold closed at this
    split at this <;> simp at this <;> omega
  have hC := undo_close w F l gs now opn edits h hgl
  rw [hgs] at hC
  have hCl : ∀ V, Fr nob w V → Calls Try.prog 66 #[.pointer (some ⟨l, 0, none⟩)] V fun e w' => e = .returned (.tuple #[]) ∧ ListRep w' (plus V F) l (pre ++ [g]) [] 0 edits ∧ Fr (wr V F) V w' := fun V hV => by
    have h := undo_close V F l gs now opn edits (h.stayN hV) hgl
    rwa [hgs] at h
  have HC := Lib.hid hCl
  clear hC hCl h hg hgs
  have hc := blk_cells hb
  generalize hn1 : gs.length = n1 at *
  generalize hn2 : now.length = n2 at *
  have i1 : ((n1 : Int) + n2 == 0) = false := by rw [beq_eq_false_iff_ne]; omega
  have i2 : IntKind.i64.wrap ((n1 : Int) + n2) = n1 + n2 := IntWalk.i64_in _ (by omega)
  have HN := Lib.hid (And.intro hgl hnl)
  have HP := Lib.hid hpl
  clear hn1 hn2 hpos hgl hnl hpl
  go_enter Try.func34, Try.ntmps34
  go_wp2_with (go_at_call 65; refine (undo_none _ _ _ _ _ _ hb).mono ?_; rintro e w' ⟨rfl, rfl⟩)
  go_quiet (fail)
  go_wp2_with fail
  refine (HC.out _ ((Fr.refl _ _).drewN _)).mono ?_
  rintro e w1 ⟨rfl, hr1, hf1⟩
  obtain ⟨gv, nv, vs, hb1, hbody⟩ := hr1.ex
  obtain ⟨ga, gc, rfl, hle, _⟩ := hbody.grp.own.val
  obtain ⟨v, hv1, hv2, hv3⟩ := hbody.each pre.length (by simp)
  rw [List.getElem_append_right (Nat.le_refl _)] at hv2
  simp only [Nat.sub_self, List.getElem_cons_zero] at hv2
  obtain ⟨va, vc, rfl, _, _⟩ := hv2.val
  have hlen : (pre ++ [g]).length = pre.length + 1 := by simp
  rw [hlen] at hb1 hle
  have hrd : ∃ gg, ga = some ⟨gg, 0, none⟩ ∧ w1.cell? ⟨gg, pre.length, none⟩ = some (.slice va g.length vc) := by
    rcases hbody.grp.own.2.2 with ⟨a', e1, e2, _⟩ | ⟨gg, cap, cur, e1, e2, e3, e4, e5, e6⟩
    · simp at e2
    · injection e1 with e1 _ e7
      subst e1
      have := hbody.grp.own.cells (by omega) _ _ hv1
      exact ⟨gg, rfl, this⟩
  obtain ⟨gg, rfl, hcell⟩ := hrd
  have hpop := hbody.pop
  have hne : gg ≠ l := hbody.grp.own.rowNe ⟨_, _, _, rfl, by omega, rfl⟩ hb1 (by decide)
  have HPOP := Lib.hid hpop
  have HV2 := Lib.hid hv2
  have HV3 := Lib.hid hv3
  have HR1 := Lib.hid hr1
  have HF1 := Lib.hid (wr.nobAfter (F := F) ((Fr.refl nob _).drewN nq) (hf1.mono (fun _ _ hm => ⟨.inl hm.1, hm.2⟩)))
  have HB1 := Lib.hid hb1
  have hc1 := blk_cells hb1
  have hz1 := blk_free hb1
  have hlt1 := blk_lt hb1
  have hpl := HP.out
  have hgl := HG.out.1
  generalize hm : pre.length = m at *
  generalize hgn : g.length = gn at *
  have HM := Lib.hid hm
  have HGN := Lib.hid hgn
  have i3 : IntKind.i64.wrap (((m + 1 : Nat) : Int) - 1) = m := by rw [IntWalk.i64_in _ (by omega)]; omega
  have i4 : IntKind.i64.wrap (edits - gn) = edits - gn := IntWalk.i64_in _ (by omega)
  have i8 : (m : Int) ≤ 100000 := by omega
  have i5 : (m : Int) < ((m + 1 : Nat) : Int) := by omega
  have i6 : (m : Int) ≤ ((m + 1 : Nat) : Int) := by omega
  have i7 : (m : Int) ≤ gc := by omega
  have HLE := Lib.hid hle
  clear hbody hv1 hv2 hv3 hr1 hf1 hlen hpop hb1 hm hgn hpl hgl hle hb hc H
  go_wp2_with fail
  have hf2 : Fr (one l) w1 ((w1.setCell ⟨l, 0, none⟩ (.slice (some ⟨gg, 0, none⟩) m gc)).setCell ⟨l, 3, none⟩ (.int .i64 (edits - gn))) := ((Fr.refl _ _).setOne _ _).setOne _ _
  have hed2 := HV2.out.stay hf2 (ListBlk.nr HB1.out) (fun b hb => HV2.out.rowNe hb HB1.out (by decide))
  have hr2 : ListRep ((w1.setCell ⟨l, 0, none⟩ (.slice (some ⟨gg, 0, none⟩) m gc)).setCell ⟨l, 3, none⟩ (.int .i64 (edits - gn))) (plus (w'.drewN nq) F) l pre [] 0 (edits - gn) :=
    ⟨⟨_, _, _, (ListBlk.set0 HB1.out _).set3 _, ListBlk.body HB1.out (by rw [← HM.out] at hf2 ⊢; rw [← HM.out] at HPOP; exact HPOP.out) hf2⟩, HR1.out.mem⟩
  have HR2 := Lib.hid hr2
  have HF2 := Lib.hid hf2
  refine (undo_inverses _ va gn vc g hed2 HG.out).mono ?_
  rintro e w3 ⟨a3, c3, rfl, hed3, hfr3, hfresh3⟩
  have hlen : (g.reverse.map inv).length = gn := by rw [List.length_map, List.length_reverse, HGN.out]
  rw [hlen] at hed3 hfresh3 ⊢
  have HED3 := Lib.hid hed3
  have HFR3 := Lib.hid hfr3
  have HFS3 := Lib.hid hfresh3
  clear hed2 hed3 hfr3 hfresh3 hlen hr2 hf2
  go_wp2
  go_ret2
  refine ⟨a3, c3, ?_, ?_, ?_, ?_, ?_⟩
  · rw [HGN.out]
    rfl
  · rw [HGN.out]
    exact HED3.out
  · rw [HGN.out]
    exact fun b hb => Nat.le_trans (Nat.le_trans HF1.out.size HF2.out.size) (HFS3.out b hb)
  · rw [HGN.out]
    exact HR2.out.stayN HFR3.out
  · exact wr.trans HF1.out ((HF2.out.wr (fun b _ e => by cases e; exact HR1.out.mem) (ListBlk.nr HB1.out)).then HFR3.out)
end Go.Proofs.Ytbhklkolkclflaa
