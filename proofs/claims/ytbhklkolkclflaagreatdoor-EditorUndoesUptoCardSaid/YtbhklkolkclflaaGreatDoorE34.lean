/- The law's edit: a part of a command. -/
import Derived.Test.YtbhklkolkclflaaGreatDoorE33
namespace Go.Proofs.YtbhklkolkclflaaGreatDoor
open Go.RowKit

/-- What Undo may leave. -/
def UndoRel (S S' : EdState) : Prop :=
  ((S.flushed false).lst.1 = [] ∧ S' = (S.flushed false).listed) ∨ ∃ pre g s, (S.flushed false).lst.1 = pre ++ [g] ∧ S' = (S.flushed false).undoneTo pre s ∧ (FitAll (S.flushed false).core.text (g.reverse.map inv) → s = (S.flushed false).line.edits (g.reverse.map inv))
/-- What a part leaves. -/
def EditTo (S : EdState) (ki A B : Int) (back : Bool) (l : List Int) (S' : EdState) : Prop :=
  if ki = 0 then S' = (S.typeR l).1 else if ki = 1 then S' = (S.replR S.core.point S.core.point l).1 else if ki = 2 then S' = (S.replR A B []).1 else if ki = 3 then S' = (S.replR A B l).1 else if ki = 4 then S' = (S.killR A B back).1 else if ki = 5 then S' = (S.copyR A B back).1 else if ki = 6 then S' = S.yankR.1 else if ki = 7 then S' = (S.popR A).1 else if ki = 8 then S' = (S.moveR A).1 else if ki = 9 then S' = (S.markR A).1 else if ki = 10 then S' = S.swapR.1 else if ki = 11 then UndoRel S S' else if ki = 17 then S' = (S.modeR A).1 else S' = S
def EditPost (w : World) (κ : Col) (i e b k tm um h bl : Nat) (was : Nat → Value) (S : EdState) (ki A B : Int) (back : Bool) (l : List Int) (y : Ending) (w' : World) : Prop :=
  y = .returned (.tuple #[]) ∧ ∃ S', EditTo S ki A B back l S' ∧ ∃ κ' putv' r', EdAt w' κ' i e b r' k tm um h bl was putv' S' ∧ (∀ y, y < w.heap.size → κ' y = κ y) ∧ Fr (edM w κ) w w'
theorem EdPart.post {w V : World} {κ : Col} {i e b k tm um h bl : Nat} {was : Nat → Value} {S S' : EdState} {ki A B : Int} {back : Bool} {l : List Int} {v : Int} {y : Ending} {w' : World} (hV : Fr nob w V) (hs : EdPart V κ i e b k tm um h bl was S' v y w') (he : EditTo S ki A B back l S') : EditPost w κ i e b k tm um h bl was S ki A B back l (.returned (.tuple #[])) w' := by
  obtain ⟨_, κ', putv', r', h1, h2, h3⟩ := hs
  exact ⟨rfl, S', he, κ', putv', r', h1, fun y hy => h2 y (Nat.lt_of_lt_of_le hy hV.size), edM.trans (edM.nob hV) (fun _ _ => rfl) h3⟩

/-- What a call of edit finds. -/
structure EdCall (w : World) (κ : Col) (i e b r k tm um h bl : Nat) (was : Nat → Value) (putv : Value) (S : EdState) (l : List Int) (a : Option Addr) (n c : Nat) : Prop where
  x : EdAt w κ i e b r k tm um h bl was putv S
  ok : EdsOk S
  inn : S.f.inn = true
  over : S.core.over = false
  sm : ∀ y ∈ S.core.ents, y.length ≤ 1024
  hn : l.length = n
  hl : Sl w 1 a n c (runes l)
section
variable (w : World) (κ : Col) (i e b r k tm um h bl : Nat) (was : Nat → Value) (putv : Value) (S : EdState) (A B : Int) (back : Bool) (l : List Int) (a : Option Addr) (n c : Nat) (q : EdCall w κ i e b r k tm um h bl was putv S l a n c)
include q
set_option maxRecDepth 10000 in
set_option maxHeartbeats 1000000 in
theorem edit_0 : Calls Tryz.prog 25 #[.pointer (some ⟨e, 0, none⟩), .agg #[.int .i64 0, .int .i64 A, .int .i64 B, .bool back, .slice a n c]] w (EditPost w κ i e b k tm um h bl was S 0 A B back l) := by
  have hc := fun (V : World) (hV : Fr nob w V) => (ed_type V κ i e b r k tm um h bl was putv S (q.x.stayN hV (fun _ _ => rfl)) q.ok q.inn q.over l a n c q.hn (q.hl.oldN hV))
  have HC := Lib.hid hc
  have HE := Lib.hid (show EditTo S 0 A B back l (S.typeR l).1 from by unfold EditTo; simp only [if_true])
  clear hc q
  generalize (S.typeR l).1 = R1 at *
  generalize (S.typeR l).2 = R2 at *
  go_enter Tryz.func25, Tryz.ntmps25
  go_wp2_with (go_at_call 40; refine (HC.out _ ((Fr.refl _ _).alloc _)).mono ?_; rintro y w1 hs; have HS := Lib.hid (hs.part); obtain ⟨rfl, _⟩ := hs)
  refine bodyPost_ret (results_none rfl _ _ _) rfl ?_
  exact HS.out.post ((Fr.refl _ _).alloc _) HE.out
set_option maxRecDepth 10000 in
set_option maxHeartbeats 1000000 in
theorem edit_1 : Calls Tryz.prog 25 #[.pointer (some ⟨e, 0, none⟩), .agg #[.int .i64 1, .int .i64 A, .int .i64 B, .bool back, .slice a n c]] w (EditPost w κ i e b k tm um h bl was S 1 A B back l) := by
  have hc := fun (V : World) (hV : Fr nob w V) => (ed_insert V κ i e b r k tm um h bl was putv S (q.x.stayN hV (fun _ _ => rfl)) q.ok q.inn l a n c q.hn (q.hl.oldN hV))
  have HC := Lib.hid hc
  have HE := Lib.hid (show EditTo S 1 A B back l (S.replR S.core.point S.core.point l).1 from by unfold EditTo; simp only [if_true, reduceIte, Int.reduceEq])
  clear hc q
  generalize (S.replR S.core.point S.core.point l).1 = R1 at *
  generalize (S.replR S.core.point S.core.point l).2 = R2 at *
  go_enter Tryz.func25, Tryz.ntmps25
  go_wp2_with (go_at_call 68; refine (HC.out _ ((Fr.refl _ _).alloc _)).mono ?_; rintro y w1 hs; have HS := Lib.hid (hs.part); obtain ⟨rfl, _⟩ := hs)
  refine bodyPost_ret (results_none rfl _ _ _) rfl ?_
  exact HS.out.post ((Fr.refl _ _).alloc _) HE.out
set_option maxRecDepth 10000 in
set_option maxHeartbeats 1000000 in
theorem edit_2 : Calls Tryz.prog 25 #[.pointer (some ⟨e, 0, none⟩), .agg #[.int .i64 2, .int .i64 A, .int .i64 B, .bool back, .slice a n c]] w (EditPost w κ i e b k tm um h bl was S 2 A B back l) := by
  have hc := fun (V : World) (hV : Fr nob w V) => (ed_erase V κ i e b r k tm um h bl was putv S (q.x.stayN hV (fun _ _ => rfl)) q.ok q.inn A B)
  have HC := Lib.hid hc
  have HE := Lib.hid (show EditTo S 2 A B back l (S.replR A B []).1 from by unfold EditTo; simp only [if_true, reduceIte, Int.reduceEq])
  clear hc q
  generalize (S.replR A B []).1 = R1 at *
  generalize (S.replR A B []).2 = R2 at *
  go_enter Tryz.func25, Tryz.ntmps25
  go_wp2_with (go_at_call 83; refine (HC.out _ ((Fr.refl _ _).alloc _)).mono ?_; rintro y w1 hs; have HS := Lib.hid (hs.part); obtain ⟨rfl, _⟩ := hs)
  refine bodyPost_ret (results_none rfl _ _ _) rfl ?_
  exact HS.out.post ((Fr.refl _ _).alloc _) HE.out
set_option maxRecDepth 10000 in
set_option maxHeartbeats 1000000 in
theorem edit_3 : Calls Tryz.prog 25 #[.pointer (some ⟨e, 0, none⟩), .agg #[.int .i64 3, .int .i64 A, .int .i64 B, .bool back, .slice a n c]] w (EditPost w κ i e b k tm um h bl was S 3 A B back l) := by
  have hc := fun (V : World) (hV : Fr nob w V) => (ed_replace V κ i e b r k tm um h bl was putv S (q.x.stayN hV (fun _ _ => rfl)) q.ok q.inn A B l a n c q.hn (q.hl.oldN hV))
  have HC := Lib.hid hc
  have HE := Lib.hid (show EditTo S 3 A B back l (S.replR A B l).1 from by unfold EditTo; simp only [if_true, reduceIte, Int.reduceEq])
  clear hc q
  generalize (S.replR A B l).1 = R1 at *
  generalize (S.replR A B l).2 = R2 at *
  go_enter Tryz.func25, Tryz.ntmps25
  go_wp2_with (go_at_call 84; refine (HC.out _ ((Fr.refl _ _).alloc _)).mono ?_; rintro y w1 hs; have HS := Lib.hid (hs.part); obtain ⟨rfl, _⟩ := hs)
  refine bodyPost_ret (results_none rfl _ _ _) rfl ?_
  exact HS.out.post ((Fr.refl _ _).alloc _) HE.out
set_option maxRecDepth 10000 in
set_option maxHeartbeats 1000000 in
theorem edit_4 : Calls Tryz.prog 25 #[.pointer (some ⟨e, 0, none⟩), .agg #[.int .i64 4, .int .i64 A, .int .i64 B, .bool back, .slice a n c]] w (EditPost w κ i e b k tm um h bl was S 4 A B back l) := by
  have hc := fun (V : World) (hV : Fr nob w V) => (ed_killG V κ i e b r k tm um h bl was putv S (q.x.stayN hV (fun _ _ => rfl)) q.ok q.inn q.sm A B back)
  have HC := Lib.hid hc
  have HE := Lib.hid (show EditTo S 4 A B back l (S.killR A B back).1 from by unfold EditTo; simp only [if_true, reduceIte, Int.reduceEq])
  clear hc q
  generalize (S.killR A B back).1 = R1 at *
  generalize (S.killR A B back).2 = R2 at *
  go_enter Tryz.func25, Tryz.ntmps25
  go_wp2_with (go_at_call 41; refine (HC.out _ ((Fr.refl _ _).alloc _)).mono ?_; rintro y w1 hs; have HS := Lib.hid (hs.part); obtain ⟨rfl, _⟩ := hs)
  refine bodyPost_ret (results_none rfl _ _ _) rfl ?_
  exact HS.out.post ((Fr.refl _ _).alloc _) HE.out
set_option maxRecDepth 10000 in
set_option maxHeartbeats 1000000 in
theorem edit_5 : Calls Tryz.prog 25 #[.pointer (some ⟨e, 0, none⟩), .agg #[.int .i64 5, .int .i64 A, .int .i64 B, .bool back, .slice a n c]] w (EditPost w κ i e b k tm um h bl was S 5 A B back l) := by
  have hc := fun (V : World) (hV : Fr nob w V) => (ed_copyG V κ i e b r k tm um h bl was putv S (q.x.stayN hV (fun _ _ => rfl)) q.inn q.sm A B back)
  have HC := Lib.hid hc
  have HE := Lib.hid (show EditTo S 5 A B back l (S.copyR A B back).1 from by unfold EditTo; simp only [if_true, reduceIte, Int.reduceEq])
  clear hc q
  generalize (S.copyR A B back).1 = R1 at *
  generalize (S.copyR A B back).2 = R2 at *
  go_enter Tryz.func25, Tryz.ntmps25
  go_wp2_with (go_at_call 85; refine (HC.out _ ((Fr.refl _ _).alloc _)).mono ?_; rintro y w1 hs; have HS := Lib.hid (hs.part); obtain ⟨rfl, _⟩ := hs)
  refine bodyPost_ret (results_none rfl _ _ _) rfl ?_
  exact HS.out.post ((Fr.refl _ _).alloc _) HE.out
set_option maxRecDepth 10000 in
set_option maxHeartbeats 1000000 in
theorem edit_6 : Calls Tryz.prog 25 #[.pointer (some ⟨e, 0, none⟩), .agg #[.int .i64 6, .int .i64 A, .int .i64 B, .bool back, .slice a n c]] w (EditPost w κ i e b k tm um h bl was S 6 A B back l) := by
  have hc := fun (V : World) (hV : Fr nob w V) => (ed_yankG V κ i e b r k tm um h bl was putv S (q.x.stayN hV (fun _ _ => rfl)) q.ok q.inn q.sm)
  have HC := Lib.hid hc
  have HE := Lib.hid (show EditTo S 6 A B back l S.yankR.1 from by unfold EditTo; simp only [if_true, reduceIte, Int.reduceEq])
  clear hc q
  generalize S.yankR.1 = R1 at *
  generalize S.yankR.2 = R2 at *
  go_enter Tryz.func25, Tryz.ntmps25
  go_wp2_with (go_at_call 42; refine (HC.out _ ((Fr.refl _ _).alloc _)).mono ?_; rintro y w1 hs; have HS := Lib.hid (hs.part); obtain ⟨rfl, _⟩ := hs)
  refine bodyPost_ret (results_none rfl _ _ _) rfl ?_
  exact HS.out.post ((Fr.refl _ _).alloc _) HE.out
set_option maxRecDepth 10000 in
set_option maxHeartbeats 1000000 in
theorem edit_7 : Calls Tryz.prog 25 #[.pointer (some ⟨e, 0, none⟩), .agg #[.int .i64 7, .int .i64 A, .int .i64 B, .bool back, .slice a n c]] w (EditPost w κ i e b k tm um h bl was S 7 A B back l) := by
  have hc := fun (V : World) (hV : Fr nob w V) => (ed_popG V κ i e b r k tm um h bl was putv S (q.x.stayN hV (fun _ _ => rfl)) q.ok q.inn q.sm A)
  have HC := Lib.hid hc
  have HE := Lib.hid (show EditTo S 7 A B back l (S.popR A).1 from by unfold EditTo; simp only [if_true, reduceIte, Int.reduceEq])
  clear hc q
  generalize (S.popR A).1 = R1 at *
  generalize (S.popR A).2 = R2 at *
  go_enter Tryz.func25, Tryz.ntmps25
  go_wp2_with (go_at_call 43; refine (HC.out _ ((Fr.refl _ _).alloc _)).mono ?_; rintro y w1 hs; have HS := Lib.hid (hs); obtain ⟨rfl, _⟩ := hs)
  refine bodyPost_ret (results_none rfl _ _ _) rfl ?_
  exact HS.out.post ((Fr.refl _ _).alloc _) HE.out
set_option maxRecDepth 10000 in
set_option maxHeartbeats 1000000 in
theorem edit_8 : Calls Tryz.prog 25 #[.pointer (some ⟨e, 0, none⟩), .agg #[.int .i64 8, .int .i64 A, .int .i64 B, .bool back, .slice a n c]] w (EditPost w κ i e b k tm um h bl was S 8 A B back l) := by
  have hc := fun (V : World) (hV : Fr nob w V) => (ed_move V κ i e b r k tm um h bl was putv S (q.x.stayN hV (fun _ _ => rfl)) q.inn A)
  have HC := Lib.hid hc
  have HE := Lib.hid (show EditTo S 8 A B back l (S.moveR A).1 from by unfold EditTo; simp only [if_true, reduceIte, Int.reduceEq])
  clear hc q
  generalize (S.moveR A).1 = R1 at *
  generalize (S.moveR A).2 = R2 at *
  go_enter Tryz.func25, Tryz.ntmps25
  go_wp2_with (go_at_call 44; refine (HC.out _ ((Fr.refl _ _).alloc _)).mono ?_; rintro y w1 hs; have HS := Lib.hid (hs.part); obtain ⟨rfl, _⟩ := hs)
  refine bodyPost_ret (results_none rfl _ _ _) rfl ?_
  exact HS.out.post ((Fr.refl _ _).alloc _) HE.out
set_option maxRecDepth 10000 in
set_option maxHeartbeats 1000000 in
theorem edit_9 : Calls Tryz.prog 25 #[.pointer (some ⟨e, 0, none⟩), .agg #[.int .i64 9, .int .i64 A, .int .i64 B, .bool back, .slice a n c]] w (EditPost w κ i e b k tm um h bl was S 9 A B back l) := by
  have hc := fun (V : World) (hV : Fr nob w V) => (ed_setMark V κ i e b r k tm um h bl was putv S (q.x.stayN hV (fun _ _ => rfl)) q.inn A)
  have HC := Lib.hid hc
  have HE := Lib.hid (show EditTo S 9 A B back l (S.markR A).1 from by unfold EditTo; simp only [if_true, reduceIte, Int.reduceEq])
  clear hc q
  generalize (S.markR A).1 = R1 at *
  generalize (S.markR A).2 = R2 at *
  go_enter Tryz.func25, Tryz.ntmps25
  go_wp2_with (go_at_call 86; refine (HC.out _ ((Fr.refl _ _).alloc _)).mono ?_; rintro y w1 hs; have HS := Lib.hid (hs.part); obtain ⟨rfl, _⟩ := hs)
  refine bodyPost_ret (results_none rfl _ _ _) rfl ?_
  exact HS.out.post ((Fr.refl _ _).alloc _) HE.out
set_option maxRecDepth 10000 in
set_option maxHeartbeats 1000000 in
theorem edit_10 : Calls Tryz.prog 25 #[.pointer (some ⟨e, 0, none⟩), .agg #[.int .i64 10, .int .i64 A, .int .i64 B, .bool back, .slice a n c]] w (EditPost w κ i e b k tm um h bl was S 10 A B back l) := by
  have hc := fun (V : World) (hV : Fr nob w V) => (ed_swap V κ i e b r k tm um h bl was putv S (q.x.stayN hV (fun _ _ => rfl)) q.inn)
  have HC := Lib.hid hc
  have HE := Lib.hid (show EditTo S 10 A B back l S.swapR.1 from by unfold EditTo; simp only [if_true, reduceIte, Int.reduceEq])
  clear hc q
  generalize S.swapR.1 = R1 at *
  generalize S.swapR.2 = R2 at *
  go_enter Tryz.func25, Tryz.ntmps25
  go_wp2_with (go_at_call 87; refine (HC.out _ ((Fr.refl _ _).alloc _)).mono ?_; rintro y w1 hs; have HS := Lib.hid (hs.part); obtain ⟨rfl, _⟩ := hs)
  refine bodyPost_ret (results_none rfl _ _ _) rfl ?_
  exact HS.out.post ((Fr.refl _ _).alloc _) HE.out
set_option maxRecDepth 10000 in
set_option maxHeartbeats 1000000 in
theorem edit_17 : Calls Tryz.prog 25 #[.pointer (some ⟨e, 0, none⟩), .agg #[.int .i64 17, .int .i64 A, .int .i64 B, .bool back, .slice a n c]] w (EditPost w κ i e b k tm um h bl was S 17 A B back l) := by
  have hc := fun (V : World) (hV : Fr nob w V) => (ed_setMode V κ i e b r k tm um h bl was putv S (q.x.stayN hV (fun _ _ => rfl)) q.inn A)
  have HC := Lib.hid hc
  have HE := Lib.hid (show EditTo S 17 A B back l (S.modeR A).1 from by unfold EditTo; simp only [if_true, reduceIte, Int.reduceEq])
  clear hc q
  generalize (S.modeR A).1 = R1 at *
  generalize (S.modeR A).2 = R2 at *
  go_enter Tryz.func25, Tryz.ntmps25
  go_wp2_with (go_at_call 47; refine (HC.out _ ((Fr.refl _ _).alloc _)).mono ?_; rintro y w1 hs; have HS := Lib.hid (hs.part); obtain ⟨rfl, _⟩ := hs)
  refine bodyPost_ret (results_none rfl _ _ _) rfl ?_
  exact HS.out.post ((Fr.refl _ _).alloc _) HE.out
set_option maxRecDepth 10000 in
set_option maxHeartbeats 1000000 in
theorem edit_11 : Calls Tryz.prog 25 #[.pointer (some ⟨e, 0, none⟩), .agg #[.int .i64 11, .int .i64 A, .int .i64 B, .bool back, .slice a n c]] w (EditPost w κ i e b k tm um h bl was S 11 A B back l) := by
  have hc : ∀ V, Fr nob w V → Calls Tryz.prog 28 #[.pointer (some ⟨e, 0, none⟩)] V fun y w' => (∃ v, y = .returned v) ∧ ∃ S', UndoRel S S' ∧ ∃ v y, EdPart V κ i e b k tm um h bl was S' v y w' := fun V hV => by
    rcases List.eq_nil_or_concat (S.flushed false).lst.1 with h0 | ⟨pre, g, h0⟩
    · exact (ed_undo_none V κ i e b r k tm um h bl was putv S (q.x.stayN hV (fun _ _ => rfl)) q.ok q.inn h0).mono fun y w' hs => ⟨⟨_, hs.1⟩, _, .inl ⟨h0, rfl⟩, _, _, hs.part⟩
    · rw [List.concat_eq_append] at h0
      refine (ed_undo_some V κ i e b r k tm um h bl was putv S (q.x.stayN hV (fun _ _ => rfl)) q.ok q.inn pre g h0).mono ?_
      rintro y w' ⟨s, hs, hf⟩
      exact ⟨⟨_, hs.1⟩, _, .inr ⟨pre, g, s, h0, rfl, hf⟩, _, _, hs.part⟩
  have HC := Lib.hid hc
  have HE := Lib.hid (show ∀ S', UndoRel S S' → EditTo S 11 A B back l S' from fun S' h => by unfold EditTo; simp only [if_true, reduceIte, Int.reduceEq]; exact h)
  clear hc q
  go_enter Tryz.func25, Tryz.ntmps25
  go_wp2_with (go_at_call 28; refine (HC.out _ ((Fr.refl _ _).alloc _)).mono ?_; rintro y w1 ⟨⟨v, rfl⟩, hs⟩; have HS := Lib.hid hs; clear hs)
  refine bodyPost_ret (results_none rfl _ _ _) rfl ?_
  obtain ⟨S', h1, v1, y1, h2⟩ := HS.out
  exact h2.post ((Fr.refl _ _).alloc _) (HE.out _ h1)
set_option maxRecDepth 10000 in
set_option maxHeartbeats 1000000 in
theorem edit_no (ki : Int) (hki : ki ≠ 0 ∧ ki ≠ 1 ∧ ki ≠ 2 ∧ ki ≠ 3 ∧ ki ≠ 4 ∧ ki ≠ 5 ∧ ki ≠ 6 ∧ ki ≠ 7 ∧ ki ≠ 8 ∧ ki ≠ 9 ∧ ki ≠ 10 ∧ ki ≠ 11 ∧ ki ≠ 13 ∧ ki ≠ 17) :
    Calls Tryz.prog 25 #[.pointer (some ⟨e, 0, none⟩), .agg #[.int .i64 ki, .int .i64 A, .int .i64 B, .bool back, .slice a n c]] w (EditPost w κ i e b k tm um h bl was S ki A B back l) := by
  obtain ⟨h0, h1, h2, h3, h4, h5, h6, h7, h8, h9, h10, h11, h13, h17⟩ := hki
  have HE := Lib.hid (show EditTo S ki A B back l S from by unfold EditTo; simp only [if_neg h0, if_neg h1, if_neg h2, if_neg h3, if_neg h4, if_neg h5, if_neg h6, if_neg h7, if_neg h8, if_neg h9, if_neg h10, if_neg h11, if_neg h17])
  have HX := Lib.hid q.x
  have i0 : (ki == 0) = false := by simp [h0]
  have i1 : (ki == 1) = false := by simp [h1]
  have i2 : (ki == 2) = false := by simp [h2]
  have i3 : (ki == 3) = false := by simp [h3]
  have i4 : (ki == 4) = false := by simp [h4]
  have i5 : (ki == 5) = false := by simp [h5]
  have i6 : (ki == 6) = false := by simp [h6]
  have i7 : (ki == 7) = false := by simp [h7]
  have i8 : (ki == 8) = false := by simp [h8]
  have i9 : (ki == 9) = false := by simp [h9]
  have i10 : (ki == 10) = false := by simp [h10]
  have i11 : (ki == 11) = false := by simp [h11]
  have i13 : (ki == 13) = false := by simp [h13]
  have i17 : (ki == 17) = false := by simp [h17]
  clear q h0 h1 h2 h3 h4 h5 h6 h7 h8 h9 h10 h11 h13 h17
  go_enter Tryz.func25, Tryz.ntmps25
  go_wp2
  refine bodyPost_ret (results_none rfl _ _ _) rfl ?_
  exact ⟨rfl, S, HE.out, κ, putv, r, HX.out.stayN ((Fr.refl _ _).alloc _) (fun _ _ => rfl), fun _ _ => rfl, edM.nob ((Fr.refl _ _).alloc _)⟩
theorem edit_any (ki : Int) (hki : ki ≠ 13) :
    Calls Tryz.prog 25 #[.pointer (some ⟨e, 0, none⟩), .agg #[.int .i64 ki, .int .i64 A, .int .i64 B, .bool back, .slice a n c]] w (EditPost w κ i e b k tm um h bl was S ki A B back l) := by
  by_cases h0 : ki = 0
  · subst h0; exact edit_0 w κ i e b r k tm um h bl was putv S A B back l a n c q
  by_cases h1 : ki = 1
  · subst h1; exact edit_1 w κ i e b r k tm um h bl was putv S A B back l a n c q
  by_cases h2 : ki = 2
  · subst h2; exact edit_2 w κ i e b r k tm um h bl was putv S A B back l a n c q
  by_cases h3 : ki = 3
  · subst h3; exact edit_3 w κ i e b r k tm um h bl was putv S A B back l a n c q
  by_cases h4 : ki = 4
  · subst h4; exact edit_4 w κ i e b r k tm um h bl was putv S A B back l a n c q
  by_cases h5 : ki = 5
  · subst h5; exact edit_5 w κ i e b r k tm um h bl was putv S A B back l a n c q
  by_cases h6 : ki = 6
  · subst h6; exact edit_6 w κ i e b r k tm um h bl was putv S A B back l a n c q
  by_cases h7 : ki = 7
  · subst h7; exact edit_7 w κ i e b r k tm um h bl was putv S A B back l a n c q
  by_cases h8 : ki = 8
  · subst h8; exact edit_8 w κ i e b r k tm um h bl was putv S A B back l a n c q
  by_cases h9 : ki = 9
  · subst h9; exact edit_9 w κ i e b r k tm um h bl was putv S A B back l a n c q
  by_cases h10 : ki = 10
  · subst h10; exact edit_10 w κ i e b r k tm um h bl was putv S A B back l a n c q
  by_cases h11 : ki = 11
  · subst h11; exact edit_11 w κ i e b r k tm um h bl was putv S A B back l a n c q
  by_cases h17 : ki = 17
  · subst h17; exact edit_17 w κ i e b r k tm um h bl was putv S A B back l a n c q
  exact edit_no w κ i e b r k tm um h bl was putv S A B back l a n c q ki ⟨h0, h1, h2, h3, h4, h5, h6, h7, h8, h9, h10, h11, hki, h17⟩
end
end Go.Proofs.YtbhklkolkclflaaGreatDoor
