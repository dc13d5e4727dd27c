/- Plain: what an editor with one line keeps, whatever parts come: all that was done can be taken back. -/
import Derived.Test.YtbhklkolkclflaaGreatDoorE34
import Derived.Test.YtbhklkolkclflaaGreatDoorP3
namespace Go.Proofs.YtbhklkolkclflaaGreatDoor
open Go.RowKit

theorem total_flatten (gs : List (List EditP)) : gs.flatten.length = total gs := by simp [total, List.length_flatten]
/-- What is kept: T0 is the text with which the line began, m bounds how many edits there are. -/
structure Inv (S : EdState) (T0 : List Int) (m : Nat) : Prop where
  ok : EdsOk S
  over : S.core.over = false
  place : S.core.place = 0
  hist : S.hist = []
  run : S.core.run = true → S.lst.1 ≠ []
  sm : ∀ y ∈ S.core.ents, y.length ≤ 1024
  len : S.core.text.length ≤ 1024
  fit : ∃ L0, L0.length ≤ 1024 ∧ FitAll L0 (S.lst.1.flatten ++ S.put) ∧ doAll L0 (S.lst.1.flatten ++ S.put) = S.core.text ∧ (m < 16384 → L0 = T0)
  cnt : total S.lst.1 + S.put.length ≤ m

section
variable {S S' : EdState} {T0 : List Int} {m : Nat}
/-- Only what does not count is changed. -/
theorem Inv.of (h : Inv S T0 m) (h1 : S'.core.undos = S.core.undos) (h2 : S'.core.place = S.core.place) (h3 : S'.core.text = S.core.text) (h4 : S'.core.over = S.core.over) (h5 : S'.core.run = true → S.core.run = true) (h6 : ∀ y ∈ S'.core.ents, y.length ≤ 1024) (h7 : S'.put = S.put) (h8 : S'.hist = S.hist) : Inv S' T0 m := by
  have hl : S'.lst = S.lst := by unfold EdState.lst; rw [h1, h2]
  refine ⟨⟨fun p g hp => h.ok.lists p g (by rw [← h1]; exact hp), by rw [h7]; exact h.ok.put, by rw [hl, h7]; exact h.ok.room, by rw [h2]; exact h.ok.place⟩, by rw [h4]; exact h.over, by rw [h2]; exact h.place, by rw [h8]; exact h.hist, fun hr => by rw [hl]; exact h.run (h5 hr), h6, by rw [h3]; exact h.len, ?_, by rw [hl, h7]; exact h.cnt⟩
  obtain ⟨L0, g1, g2, g3, g4⟩ := h.fit
  exact ⟨L0, g1, by rw [hl, h7]; exact g2, by rw [hl, h7, h3]; exact g3, g4⟩
theorem Inv.more (h : Inv S T0 m) {n : Nat} (hn : m ≤ n) : Inv S T0 n := by
  obtain ⟨L0, g1, g2, g3, g4⟩ := h.fit
  exact ⟨h.ok, h.over, h.place, h.hist, h.run, h.sm, h.len, ⟨L0, g1, g2, g3, fun hx => g4 (by omega)⟩, Nat.le_trans h.cnt hn⟩

theorem EdState.bufd_none (S : EdState) (f t : Nat) (l : List Int) (hft : f ≤ t) (h0 : t - f + l.length = 0) : (S.bufd f t l).core.text = S.core.text := by
  obtain rfl : l = [] := List.length_eq_zero_iff.1 (by omega)
  obtain rfl : f = t := by omega
  show S.core.text.take f ++ [] ++ S.core.text.drop f = _
  rw [List.append_nil, List.take_append_drop]
theorem Inv.replaced (h : Inv S T0 m) (f t : Nat) (l : List Int) (hft : f ≤ t) (ht : t ≤ S.core.text.length) (hb : l.length + (S.core.text.length - (t - f)) ≤ 1024) : Inv (S.replaced f t l) T0 (m + 1) := by
  have hlen := h.len
  by_cases h0 : t - f + l.length = 0
  · have e : S.replaced f t l = S.bufd f t l := if_pos h0
    rw [e]
    exact (h.of (S' := S.bufd f t l) rfl rfl (EdState.bufd_none S f t l hft h0) rfl (fun h => h) h.sm rfl rfl).more (Nat.le_succ m)
  · have hdl : ((S.core.text.drop f).take (t - f)).length = t - f := by rw [List.length_take, List.length_drop]; omega
    have hed : EdOk ((f : Int), (S.core.text.drop f).take (t - f), l) := ⟨by show (0 : Int) ≤ (f : Int); omega, by show ((S.core.text.drop f).take (t - f)).length ≤ 1024; omega, by show l.length ≤ 1024; omega, by show 0 < ((S.core.text.drop f).take (t - f)).length + l.length; omega⟩
    have hfe : FitsE S.core.text ((f : Int), (S.core.text.drop f).take (t - f), l) := ⟨by show (0 : Int) ≤ (f : Int); omega, by show (f : Int).toNat + ((S.core.text.drop f).take (t - f)).length ≤ _; rw [hdl, Int.toNat_natCast]; omega, by show (S.core.text.drop (f : Int).toNat).take ((S.core.text.drop f).take (t - f)).length = _; rw [hdl, Int.toNat_natCast], by show l.length + (S.core.text.length - ((S.core.text.drop f).take (t - f)).length) ≤ 1024; rw [hdl]; exact hb⟩
    have hde : doE S.core.text ((f : Int), (S.core.text.drop f).take (t - f), l) = S.core.text.take f ++ l ++ S.core.text.drop t := by
      show S.core.text.take (f : Int).toNat ++ l ++ S.core.text.drop ((f : Int).toNat + ((S.core.text.drop f).take (t - f)).length) = _
      rw [hdl, Int.toNat_natCast, show f + (t - f) = t by omega]
    have hnl : (S.core.text.take f ++ l ++ S.core.text.drop t).length ≤ 1024 := by
      simp only [List.length_append, List.length_take, List.length_drop]
      omega
    by_cases hr : total S.lst.1 + S.put.length < 16384
    · have e := EdState.replaced_room h.ok hr f t l
      rw [if_neg h0] at e
      have hok := EdState.replaced_ok h.ok hr f t l (by omega) hlen ht
      have hlst : EdState.lst { (S.bufd f t l).listed with put := S.put ++ [((f : Int), (S.core.text.drop f).take (t - f), l)] } = S.lst := EdState.listed_lst (S.bufd f t l)
      rw [e] at hok ⊢
      obtain ⟨L0, g1, g2, g3, g4⟩ := h.fit
      refine ⟨hok, h.over, h.place, h.hist, fun hq => by rw [hlst]; exact h.run hq, h.sm, hnl, ⟨L0, g1, ?_, ?_, fun hx => g4 (by omega)⟩, ?_⟩
      · rw [hlst]
        show FitAll L0 (S.lst.1.flatten ++ (S.put ++ [_]))
        rw [← List.append_assoc, FitAll.append]
        exact ⟨g2, by rw [g3]; exact ⟨hfe, trivial⟩⟩
      · rw [hlst]
        show doAll L0 (S.lst.1.flatten ++ (S.put ++ [_])) = _
        rw [← List.append_assoc, doAll_append, g3]
        exact hde
      · rw [hlst]
        show total S.lst.1 + (S.put ++ [_]).length ≤ m + 1
        have := h.cnt
        simp only [List.length_append, List.length_cons, List.length_nil]
        omega
    · have hrm : (S.bufd f t l).roomed = { (S.bufd f t l).setLst ([], 0) with core := { ((S.bufd f t l).setLst ([], 0)).core with run := false }, put := [] } := by
        unfold EdState.roomed
        rw [if_pos]
        show 16384 ≤ S.lst.2 + (S.put.length : Int)
        rw [h.ok.lst.cnt]
        omega
      have e : S.replaced f t l = { (S.bufd f t l).setLst ([], 0) with core := { ((S.bufd f t l).setLst ([], 0)).core with run := false }, put := [((f : Int), (S.core.text.drop f).take (t - f), l)] } := by
        unfold EdState.replaced
        rw [if_neg h0, hrm]
        rfl
      have hlst : EdState.lst { (S.bufd f t l).setLst ([], 0) with core := { ((S.bufd f t l).setLst ([], 0)).core with run := false }, put := [((f : Int), (S.core.text.drop f).take (t - f), l)] } = ([], 0) := EdState.lst_of (if_pos rfl)
      rw [e]
      refine ⟨⟨upd_ok h.ok.lists LstOk.empty, fun y hy => by rw [List.mem_singleton.1 hy]; exact hed, by rw [hlst]; show 0 + 1 ≤ 16384; decide, h.ok.place⟩, h.over, h.place, h.hist, fun hq => (by cases hq), h.sm, hnl, ⟨S.core.text, hlen, ?_, ?_, fun hx => by have := h.cnt; omega⟩, ?_⟩
      · rw [hlst]
        exact ⟨hfe, trivial⟩
      · rw [hlst]
        exact hde
      · rw [hlst]
        show 0 + 1 ≤ m + 1
        omega

theorem Inv.replR (h : Inv S T0 m) (f t : Int) (l : List Int) : Inv (S.replR f t l).1 T0 (m + 1) := by
  unfold EdState.replR
  split
  · rename_i g
    split
    · exact h.more (Nat.le_succ m)
    · rename_i g2
      exact h.replaced f.toNat t.toNat l (by omega) (by omega) (by omega)
  · exact h.more (Nat.le_succ m)
theorem Inv.copyR (h : Inv S T0 m) (f t : Int) (back : Bool) : Inv (S.copyR f t back).1 T0 m := by
  unfold EdState.copyR
  split
  · rename_i g
    split
    · exact h
    · rename_i g2
      have hl := h.len
      refine h.of (S' := S.copied f.toNat t.toNat back) rfl rfl rfl rfl (fun h => h) (fun y hy => ?_) rfl rfl
      have hy' : y ∈ (killE (S.killWay back) S.core.ents S.core.rpl ((S.core.text.drop f.toNat).take (t.toNat - f.toNat))).1 := hy
      have hcl : ((S.core.text.drop f.toNat).take (t.toNat - f.toNat)).length = t.toNat - f.toNat := by rw [List.length_take, List.length_drop]; omega
      unfold killE at hy'
      split at hy'
      · exact h.sm y hy'
      · split at hy'
        · rcases List.mem_cons.1 (List.mem_of_mem_take hy') with rfl | hy2
          · omega
          · exact h.sm y hy2
        · rename_i g3
          rcases List.mem_cons.1 hy' with rfl | hy2
          · have h5 : ¬ (1024 < (t.toNat - f.toNat) + (S.core.ents.headD []).length) := fun h6 => g2 ⟨fun h7 => g3 (.inl h7), h6⟩
            split <;> simp only [List.length_append] <;> omega
          · exact h.sm y (List.mem_of_mem_tail hy2)
  · exact h
theorem Inv.undone (h : Inv S T0 m) (hu : UndoRel S S') : Inv S' T0 m := by
  have hF : (S.flushed false).lst.1.flatten = S.lst.1.flatten ++ S.put ∧ (S.flushed false).put = [] ∧ total (S.flushed false).lst.1 = total S.lst.1 + S.put.length ∧ (S.flushed false).core.text = S.core.text ∧ (S.flushed false).core.over = S.core.over ∧ (S.flushed false).core.place = S.core.place ∧ (S.flushed false).hist = S.hist ∧ (S.flushed false).core.ents = S.core.ents ∧ (S.flushed false).core.run = S.core.run ∧ ((S.flushed false).core.run = true → (S.flushed false).lst.1 ≠ []) := by
    have ht := EdState.flushed_total S false
    by_cases h0 : S.put = []
    · have e : S.flushed false = S := if_pos h0
      rw [e, h0, List.append_nil]
      exact ⟨rfl, rfl, rfl, rfl, rfl, rfl, rfl, rfl, rfl, h.run⟩
    · have e : S.flushed false = { S.setLst (flushG false S.lst S.put) with put := [] } := if_neg h0
      have hl : EdState.lst { S.setLst (flushG false S.lst S.put) with put := [] } = flushG false S.lst S.put := EdState.lst_of (if_pos rfl)
      rw [e] at ht ⊢
      rw [hl] at ht ⊢
      have hfg : flushG false S.lst S.put = (S.lst.1 ++ [S.put], S.lst.2 + S.put.length) := by
        rw [flushG_eq]
        rfl
      rw [hfg] at ht ⊢
      exact ⟨by simp, rfl, ht, rfl, rfl, rfl, rfl, rfl, rfl, fun _ => by simp⟩
  obtain ⟨f1, f2, f3, f4, f5, f6, f7, f8, f9, f10⟩ := hF
  have hok := h.ok.flushed false
  obtain ⟨L0, g1, g2, g3, g4⟩ := h.fit
  rw [← f1] at g2 g3
  have hcnt := h.cnt
  rcases hu with ⟨h1, rfl⟩ | ⟨pre, g, s, h1, rfl, hs⟩
  · generalize S.flushed false = F at *
    have hl := F.listed_lst
    refine ⟨⟨upd_ok hok.lists hok.lst, hok.put, by rw [hl]; exact hok.room, hok.place⟩, f5.trans h.over, f6.trans h.place, f7.trans h.hist, fun hq => by rw [hl]; exact f10 hq, by show ∀ y ∈ F.core.ents, _; rw [f8]; exact h.sm, by show F.core.text.length ≤ 1024; rw [f4]; exact h.len, ⟨L0, g1, ?_, ?_, g4⟩, ?_⟩
    · rw [hl]
      show FitAll L0 (F.lst.1.flatten ++ F.put)
      rw [f2, List.append_nil]
      exact g2
    · rw [hl]
      show doAll L0 (F.lst.1.flatten ++ F.put) = F.core.text
      rw [f2, List.append_nil, g3, f4]
    · rw [hl]
      show total F.lst.1 + F.put.length ≤ m
      rw [f2, f3]
      simpa using hcnt
  · have htx : (S.flushed false).core.text = doAll L0 (S.flushed false).lst.1.flatten := by rw [g3, f4]
    rw [h1] at g2 g3 htx f3
    simp only [List.flatten_append, List.flatten_cons, List.flatten_nil, List.append_nil] at g2 g3 htx
    rw [FitAll.append] at g2
    rw [doAll_append] at g3 htx
    have hle := FitAll.le g2.1 g1
    obtain ⟨u1, u2⟩ := undo_all g2.2 hle
    rw [← htx] at u1 u2
    have hs' := hs u1
    have hst : s.text = doAll L0 pre.flatten := by
      rw [hs', LineS.edits_text]
      exact u2
    rw [total_append, total_one] at f3
    have hpre : LstOk (pre, (total pre : Int)) := by
      have hL := hok.lst
      have ht : total (S.flushed false).lst.1 = total pre + g.length := by rw [h1, total_append, total_one]
      exact ⟨rfl, fun y hy => hL.ok y (by rw [h1]; simp [show y ∈ pre from hy]), fun y hy => hL.ne y (by rw [h1]; simp [show y ∈ pre from hy]), by show total pre ≤ 16384; have := hL.le; omega⟩
    generalize S.flushed false = F at *
    have hl : (F.undoneTo pre s).lst = (pre, (total pre : Int)) := EdState.lst_of (if_pos rfl)
    refine ⟨⟨upd_ok hok.lists hpre, hok.put, by rw [hl]; show total pre + F.put.length ≤ 16384; rw [f2]; have := hpre.le; simpa using this, hok.place⟩, f5.trans h.over, f6.trans h.place, f7.trans h.hist, fun hq => (by cases hq), by show ∀ y ∈ F.core.ents, _; rw [f8]; exact h.sm, by show s.text.length ≤ 1024; rw [hst]; exact hle, ⟨L0, g1, ?_, ?_, g4⟩, ?_⟩
    · rw [hl]
      show FitAll L0 (pre.flatten ++ F.put)
      rw [f2, List.append_nil]
      exact g2.1
    · rw [hl]
      show doAll L0 (pre.flatten ++ F.put) = s.text
      rw [f2, List.append_nil, hst]
    · rw [hl]
      show total pre + F.put.length ≤ m
      rw [f2]
      simp only [List.length_nil]
      omega
end
end Go.Proofs.YtbhklkolkclflaaGreatDoor
