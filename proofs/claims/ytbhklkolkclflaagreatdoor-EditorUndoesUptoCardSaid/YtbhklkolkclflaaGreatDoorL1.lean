/- Plain: an editor with one line that is typed on, moved in, taken back. What stands for a law between its calls. The laws' own check. -/
import Derived.Test.YtbhklkolkclflaaGreatDoorG6
import Derived.Laws.Cover4
namespace Go.Proofs.YtbhklkolkclflaaGreatDoor
open Go.RowKit

/-- An editor at rest, with one line and no kills. -/
structure Rest1 (S : EdState) (L : List Int) (p : Nat) (gs : List (List EditP)) (R : Bool) : Prop where
  ok : EdsOk S
  inn : S.f.inn = false
  over : S.core.over = false
  place : S.core.place = 0
  ents : S.core.ents = []
  hist : S.hist = []
  text : S.core.text = L
  point : S.core.point = p
  grp : S.lst.1 = gs
  run : S.core.run = R
  len : L.length ≤ 1024
  le : p ≤ L.length
  runs : R = true → gs ≠ []

/-- A rune is typed, within the command. -/
def EdState.typ1 (S : EdState) (r : Int) : EdState :=
  let C : CoreS := { S.core with text := S.core.text.take S.core.point.toNat ++ [r] ++ S.core.text.drop S.core.point.toNat, point := newPoint S.core.point S.core.point.toNat S.core.point.toNat 1, mark := newMark S.core.mark S.core.point.toNat S.core.point.toNat 1, undos := updU S.core.undos S.core.place S.lst }
  let F : EdF := { S.f with inn := true, cls := 3, killed := false, yanked := false, argues := false, whole := true }
  { S with core := C, f := F, was := S.core, put := [((S.core.point.toNat : Int), [], [r])] }

section
variable {S : EdState} {L : List Int} {p : Nat} {gs : List (List EditP)} {R : Bool}
theorem EdState.typed_eq (ho : S.core.over = false) (hl : S.lst.2 < 16384) (r : Int) : S.begun.typed [r] = S.typ1 r := by
  have h1 : S.begun.typeTo 1 = S.core.point.toNat := by
    unfold EdState.typeTo
    rw [if_neg (by rw [show S.begun.core = S.core from rfl, ho]; decide)]
    rfl
  have h2 : (S.begun.bufd S.core.point.toNat S.core.point.toNat [r]).roomed = (S.begun.bufd S.core.point.toNat S.core.point.toNat [r]).listed := by
    unfold EdState.roomed
    rw [if_neg]
    have : (S.begun.bufd S.core.point.toNat S.core.point.toNat [r]).lst = S.lst := rfl
    rw [this]
    have : (S.begun.bufd S.core.point.toNat S.core.point.toNat [r]).put = [] := rfl
    rw [this]
    simp
    omega
  unfold EdState.typed
  simp only [List.length_cons, List.length_nil, Nat.zero_add]
  rw [h1]
  have h3 : S.begun.replaced S.core.point.toNat S.core.point.toNat [r] = { (S.begun.bufd S.core.point.toNat S.core.point.toNat [r]).listed with put := [((S.core.point.toNat : Int), [], [r])] } := by
    unfold EdState.replaced
    rw [if_neg (by simp), h2]
    have : (S.begun.bufd S.core.point.toNat S.core.point.toNat [r]).listed.put = [] := rfl
    rw [this]
    simp
  show (S.begun.replaced S.core.point.toNat S.core.point.toNat [r]).classed = _
  rw [h3]
  rfl

theorem EdState.typ1_lst (S : EdState) (r : Int) : (S.typ1 r).lst = S.lst := EdState.lst_of (if_pos rfl)
theorem upd_ok {u : Int → Option (List (List EditP) × Int)} {q : Int} {g : List (List EditP) × Int} (hu : ∀ p x, u p = some x → LstOk x) (hg : LstOk g) : ∀ p x, updU u q g p = some x → LstOk x := fun p x hp => by
  unfold updU at hp
  split at hp
  · injection hp with hp
    rw [← hp]
    exact hg
  · exact hu p x hp
theorem EdState.typ1_ok (h : EdsOk S) (hl : total S.lst.1 < 16384) (r : Int) : EdsOk (S.typ1 r) := by
  refine ⟨upd_ok h.lists h.lst, fun e he => ?_, ?_, h.place⟩
  · rw [List.mem_singleton.1 he]
    exact ⟨by show (0 : Int) ≤ (S.core.point.toNat : Int); omega, by simp, by simp, by simp⟩
  · rw [EdState.typ1_lst]
    show total S.lst.1 + 1 ≤ 16384
    omega

theorem Rest1.typed (h : Rest1 S L p gs R) (r : Int) (hlen : L.length < 1024) (ht : total gs < 16384) :
    S.begun.typed [r] = S.typ1 r ∧ EdsOk (S.typ1 r) ∧ ((S.typ1 r).core.run = true → (S.typ1 r).lst.1 ≠ []) ∧
    Rest1 (S.typ1 r).endOk (L.take p ++ [r] ++ L.drop p) (p + 1) (preG R gs ++ [oldG R gs ++ [((p : Int), [], [r])]]) true ∧ (S.typ1 r).endOk.core.last = 3 ∧ (S.typ1 r).endOk.f.arg = -1 ∧ (S.typ1 r).endOk.bells = S.bells := by
  have hp : S.core.point.toNat = p := by rw [h.point]; omega
  have hcnt := h.ok.lst.cnt
  rw [h.grp] at hcnt
  have hok := EdState.typ1_ok h.ok (by rw [h.grp]; exact ht) r
  have hrun : (S.typ1 r).core.run = true → (S.typ1 r).lst.1 ≠ [] := fun hr => by
    rw [EdState.typ1_lst, h.grp]
    exact h.runs (by rw [← h.run]; exact hr)
  have hA : (S.typ1 r).endA = { S.typ1 r with f := { (S.typ1 r).f with inn := false, given := false, minus := false, arg := -1 } } := by
    unfold EdState.endA
    rw [if_neg (by show ¬ (false = true); decide)]
  have hT : (S.typ1 r).types = true := rfl
  have hF : (S.typ1 r).endA.flushed ((S.typ1 r).types && (S.typ1 r).core.run) = { (S.typ1 r).endA.setLst (flushG R S.lst [((p : Int), [], [r])]) with put := [] } := by
    unfold EdState.flushed
    rw [if_neg (by rw [EdState.endA_put]; show ¬ [((S.core.point.toNat : Int), [], [r])] = []; simp), EdState.endA_lst, EdState.endA_put, EdState.typ1_lst, hT]
    have : (S.typ1 r).core.run = R := h.run
    rw [this, Bool.true_and]
    have : (S.typ1 r).put = [((p : Int), [], [r])] := by rw [← hp]; rfl
    rw [this]
  have hE : (S.typ1 r).endOk = (S.typ1 r).endB { (S.typ1 r).endA.setLst (flushG R S.lst [((p : Int), [], [r])]) with put := [] } := by
    unfold EdState.endOk
    rw [hF]
  have hokF := (EdState.endA_ok hok).flushed ((S.typ1 r).types && (S.typ1 r).core.run)
  rw [hF] at hokF
  have hlst : (S.typ1 r).endOk.lst = flushG R S.lst [((p : Int), [], [r])] := by
    rw [hE, hA]
    exact EdState.lst_of (if_pos rfl)
  have hgs : (S.typ1 r).endOk.lst.1 = preG R gs ++ [oldG R gs ++ [((p : Int), [], [r])]] := by
    rw [hlst, flushG_eq, h.grp]
  have htext : (S.typ1 r).endOk.core.text = L.take p ++ [r] ++ L.drop p := by
    rw [hE, hA, ← hp, ← h.text]
    rfl
  refine ⟨EdState.typed_eq h.over (by rw [hcnt]; omega) r, hok, hrun, ⟨⟨?_, ?_, ?_, ?_⟩, ?_, ?_, ?_, ?_, ?_, htext, ?_, hgs, ?_, ?_, ?_, fun _ => ?_⟩, ?_, ?_, ?_⟩
  · rw [hE]; exact hokF.lists
  · rw [hE]; exact hokF.put
  · have h1 := hokF.room
    rw [hE]
    exact h1
  · rw [hE]; exact hokF.place
  · rw [hE, hA]; rfl
  · rw [hE, hA]; exact h.over
  · rw [hE, hA]; exact h.place
  · rw [hE, hA]; exact h.ents
  · rw [hE, hA]; exact h.hist
  · rw [hE, hA]
    show newPoint S.core.point S.core.point.toNat S.core.point.toNat 1 = _
    rw [h.point]
    unfold newPoint
    simp
  · rw [hE]; rfl
  · simp only [List.length_append, List.length_take, List.length_drop, List.length_cons, List.length_nil]
    have := h.le
    omega
  · simp only [List.length_append, List.length_take, List.length_drop, List.length_cons, List.length_nil]
    have := h.le
    omega
  · simp
  · rw [hE]; rfl
  · rw [hE, hA]; rfl
  · rw [hE, hA]; rfl

/-- The point moves: what is typed then is another group. -/
def EdState.moved (S : EdState) (q : Int) : EdState := { S with core := { S.core with point := q } }
theorem Rest1.moved (h : Rest1 S L p gs R) (q : Nat) (hq : q ≤ L.length) :
    EdsOk (S.begun.moved q) ∧ ((S.begun.moved q).core.run = true → (S.begun.moved q).lst.1 ≠ []) ∧ Rest1 (S.begun.moved q).endOk L q gs false := by
  have hl : (S.begun.moved q).lst = S.lst := rfl
  have hok : EdsOk (S.begun.moved q) := by
    refine ⟨h.ok.lists, fun e he => absurd he (by simp [EdState.moved, EdState.begun]), ?_, h.ok.place⟩
    rw [hl]
    have := h.ok.lst.le
    show total S.lst.1 + 0 ≤ 16384
    omega
  have hE : (S.begun.moved q).endOk = { S.begun with core := { S.begun.core with point := (q : Int), run := false, last := 0, yf := 0, yt := 0 }, f := { S.begun.f with inn := false, given := false, minus := false, arg := -1 } } := rfl
  have hl2 : (S.begun.moved q).endOk.lst = S.lst := by rw [hE]; rfl
  refine ⟨hok, fun hr => ?_, ⟨⟨?_, ?_, ?_, ?_⟩, ?_, ?_, ?_, ?_, ?_, ?_, ?_, ?_, ?_, h.len, hq, fun h => by cases h⟩⟩
  · rw [hl, h.grp]
    exact h.runs (by rw [← h.run]; exact hr)
  · rw [hE]; exact hok.lists
  · rw [hE]; exact hok.put
  · rw [hl2, hE]
    have := hok.room
    rw [hl] at this
    exact this
  · rw [hE]; exact hok.place
  · rw [hE]
  · rw [hE]; exact h.over
  · rw [hE]; exact h.place
  · rw [hE]; exact h.ents
  · rw [hE]; exact h.hist
  · rw [hE]; exact h.text
  · rw [hE]
  · rw [hl2, h.grp]
  · rw [hE]

theorem LineS.edit_ok {s : LineS} {e : EditP} (hf : FitsE s.text e) (h0 : 0 ≤ s.point) (h1 : s.point ≤ s.text.length) : 0 ≤ (s.edit e).point ∧ (s.edit e).point ≤ (s.edit e).text.length := by
  obtain ⟨f0, f1, f2, f3⟩ := hf
  unfold LineS.edit
  simp only [List.length_append, List.length_take, List.length_drop]
  unfold newPoint
  split
  · omega
  · split <;> omega
theorem LineS.edits_ok (es : List EditP) : ∀ {s : LineS}, FitAll s.text es → 0 ≤ s.point → s.point ≤ s.text.length → 0 ≤ (s.edits es).point ∧ (s.edits es).point ≤ (s.edits es).text.length := by
  induction es with
  | nil => intro s _ h0 h1; exact ⟨h0, h1⟩
  | cons e es ih =>
    intro s hf h0 h1
    obtain ⟨h2, h3⟩ := LineS.edit_ok hf.1 h0 h1
    exact ih (s := s.edit e) hf.2 h2 h3

/-- The last group is taken back. -/
theorem Rest1.undone (h : Rest1 S L p gs R) (pre : List (List EditP)) (g : List EditP) (hg : gs = pre ++ [g]) (L0 : List Int) (hL0 : L0.length ≤ 1024) (hfit : FitAll L0 g) (hdo : doAll L0 g = L) :
    EdsOk S.begun ∧ S.begun.flushed false = S.begun ∧ (S.begun.flushed false).lst.1 = pre ++ [g] ∧ FitAll S.begun.core.text (g.reverse.map inv) ∧ EdsOk (S.begun.undone pre g) ∧ ((S.begun.undone pre g).core.run = true → (S.begun.undone pre g).lst.1 ≠ []) ∧ (S.begun.undone pre g).f.inn = true ∧
    ∃ q, Rest1 (S.begun.undone pre g).endOk L0 q pre false := by
  have hle := h.ok.lst.le
  have hL := h.ok.lst
  have hok : EdsOk S.begun := by
    refine ⟨h.ok.lists, fun e he => absurd he (by simp [EdState.begun]), ?_, h.ok.place⟩
    show total S.lst.1 + 0 ≤ 16384
    omega
  have hfl : S.begun.flushed false = S.begun := rfl
  have hlst0 : S.begun.lst = S.lst := rfl
  have hgl : S.lst.1 = pre ++ [g] := h.grp.trans hg
  obtain ⟨hf1, hf2⟩ := undo_all hfit hL0
  rw [hdo] at hf1 hf2
  have hpre : LstOk (pre, (total pre : Int)) := by
    have ht : total S.lst.1 = total pre + g.length := by rw [hgl, total_append, total_one]
    exact ⟨rfl, fun x hx => hL.ok x (by rw [hgl]; simp [show x ∈ pre from hx]), fun x hx => hL.ne x (by rw [hgl]; simp [show x ∈ pre from hx]), by show total pre ≤ 16384; omega⟩
  have hUl : (S.begun.undone pre g).lst = (pre, (total pre : Int)) := EdState.lst_of (if_pos rfl)
  have hUok : EdsOk (S.begun.undone pre g) := by
    refine ⟨upd_ok h.ok.lists hpre, fun e he => absurd he (by simp [EdState.undone, EdState.lined, EdState.setLst, EdState.begun]), ?_, h.ok.place⟩
    rw [hUl]
    have := hpre.le
    show total pre + 0 ≤ 16384
    exact this
  have hline := LineS.edits_ok (g.reverse.map inv) (s := S.line) (by show FitAll S.core.text _; rw [h.text]; exact hf1) (by show 0 ≤ S.core.point; rw [h.point]; omega) (by show S.core.point ≤ S.core.text.length; rw [h.point, h.text]; have := h.le; omega)
  have htx : (S.line.edits (g.reverse.map inv)).text = L0 := by
    rw [LineS.edits_text]
    show doAll S.core.text _ = L0
    rw [h.text, hf2]
  rw [htx] at hline
  have hE : (S.begun.undone pre g).endOk = { S.begun.undone pre g with core := { (S.begun.undone pre g).core with run := false, last := 0, yf := 0, yt := 0 }, f := { (S.begun.undone pre g).f with inn := false, given := false, minus := false, arg := -1 } } := rfl
  have hEl : (S.begun.undone pre g).endOk.lst = (pre, (total pre : Int)) := by rw [hE]; exact EdState.lst_of (if_pos rfl)
  refine ⟨hok, hfl, hgl, ?_, hUok, (fun hr => by cases hr), rfl, (S.line.edits (g.reverse.map inv)).point.toNat, ⟨⟨?_, ?_, ?_, ?_⟩, ?_, ?_, ?_, ?_, ?_, ?_, ?_, ?_, ?_, hL0, by omega, fun h => by cases h⟩⟩
  · show FitAll S.core.text _
    rw [h.text]
    exact hf1
  · rw [hE]; exact hUok.lists
  · rw [hE]; exact hUok.put
  · rw [hEl, hE]
    have := hUok.room
    rw [hUl] at this
    exact this
  · rw [hE]; exact hUok.place
  · rw [hE]
  · rw [hE]; exact h.over
  · rw [hE]; exact h.place
  · rw [hE]; exact h.ents
  · rw [hE]; exact h.hist
  · rw [hE]; exact htx
  · rw [hE]
    show (S.line.edits (g.reverse.map inv)).point = _
    omega
  · rw [hEl]
  · rw [hE]

/-- A new editor. -/
theorem Rest1.new (base most : Int) : Rest1 (newState [] base most) [] 0 [] false := by
  refine ⟨⟨(fun p g hp => by cases hp), (fun e he => absurd he (by simp [newState])), ?_, Int.le_refl 0⟩, rfl, rfl, rfl, rfl, rfl, rfl, rfl, rfl, rfl, by decide, by decide, fun h => by cases h⟩
  show total [] + 0 ≤ 16384
  decide
end

/-- The edits of runes that are typed, one behind the other, at a line's start. -/
def tyE (l : List Int) : List EditP := l.zipIdx.map fun x => ((x.2 : Int), [], [x.1])
theorem tyE_snoc (l : List Int) (r : Int) : tyE (l ++ [r]) = tyE l ++ [((l.length : Int), [], [r])] := by
  simp [tyE, List.zipIdx_append]
theorem tyE_len (l : List Int) : (tyE l).length = l.length := by simp [tyE]
theorem tyE_do (L0 : List Int) : ∀ (n : Nat) (l : List Int), l.length = n → l.length + L0.length ≤ 1024 → FitAll L0 (tyE l) ∧ doAll L0 (tyE l) = l ++ L0 := by
  intro n
  induction n with
  | zero =>
    intro l hn _
    obtain rfl := List.length_eq_zero_iff.1 hn
    exact ⟨trivial, rfl⟩
  | succ n ih =>
    intro l hn hle
    rcases List.eq_nil_or_concat l with rfl | ⟨l, r, rfl⟩
    · cases hn
    rw [List.concat_eq_append] at *
    rw [List.length_append, List.length_singleton] at hn hle
    obtain ⟨h1, h2⟩ := ih l (by omega) (by omega)
    rw [tyE_snoc]
    refine ⟨FitAll.append.2 ⟨h1, ?_⟩, ?_⟩
    · rw [h2]
      exact ⟨⟨by show (0 : Int) ≤ (l.length : Int); omega, by show (l.length : Int).toNat + 0 ≤ _; rw [List.length_append]; omega, by simp, by
        show 1 + ((l ++ L0).length - 0) ≤ 1024
        rw [List.length_append]
        omega⟩, trivial⟩
    · rw [doAll_append, h2]
      show (l ++ L0).take (l.length : Int).toNat ++ [r] ++ (l ++ L0).drop ((l.length : Int).toNat + 0) = _
      simp
/-- The groups behind k runes. -/
def grpK (gs : List (List EditP)) (l : List Int) : List (List EditP) := if l = [] then gs else gs ++ [tyE l]
theorem grpK_snoc (gs : List (List EditP)) (l : List Int) (r : Int) : preG (decide (l ≠ [])) (grpK gs l) ++ [oldG (decide (l ≠ [])) (grpK gs l) ++ [((l.length : Int), [], [r])]] = grpK gs (l ++ [r]) := by
  unfold grpK preG oldG
  by_cases h : l = []
  · subst h
    simp [tyE]
  · simp [h, tyE_snoc]
theorem grpK_total (gs : List (List EditP)) (l : List Int) : total (grpK gs l) = total gs + l.length := by
  unfold grpK
  split
  · rename_i h
    subst h
    simp
  · rw [total_append, total_one, tyE_len]
theorem grpK_ne (gs : List (List EditP)) (l : List Int) : decide (l ≠ []) = true → grpK gs l ≠ [] := fun h => by
  unfold grpK
  have h' := of_decide_eq_true h
  rw [if_neg h']
  simp

/-- The editor at e; no block of Z is its own, nor is any that is to come. -/
def EdL (Z : Nat → Prop) (w : World) (e : Nat) (S : EdState) : Prop := ∃ κ : Col, EdRep w κ e S ∧ (∀ y, Z y → κ y = (0, 0) ∧ y < w.heap.size) ∧ ∀ y, w.heap.size ≤ y → κ y = (0, 0)
/-- A law's call of an editor's. -/
def EdGo (Z : Nat → Prop) (w : World) (e : Nat) (v : Value) (S : EdState) (x : Ending) (w' : World) : Prop :=
  x = .returned v ∧ EdL Z w' e S ∧ Fr (wr w (fun y => ¬ Z y)) w w'

section
variable {Z : Nat → Prop} {w w' : World} {e : Nat} {S : EdState}
theorem EdL.stayN (x : EdL Z w e S) (hf : Fr nob w w') : EdL Z w' e S := by
  obtain ⟨κ, h1, h2, h3⟩ := x
  exact ⟨κ, h1.stay hf (NR.nob _) (fun _ h _ => h.elim) (fun _ _ => rfl), fun y hy => ⟨(h2 y hy).1, Nat.lt_of_lt_of_le (h2 y hy).2 hf.size⟩, fun y hy => h3 y (Nat.le_trans hf.size hy)⟩
theorem EdL.add (x : EdL Z w e S) (hf : Fr nob w w') (o : Nat) (h0 : w.heap.size ≤ o) (h1 : o < w'.heap.size) : EdL (fun y => Z y ∨ y = o) w' e S := by
  obtain ⟨κ, h2, h3, h4⟩ := x.stayN hf
  obtain ⟨κ', h2', h3', h4'⟩ := x
  refine ⟨κ', h2'.stay hf (NR.nob _) (fun _ h _ => h.elim) (fun _ _ => rfl), fun y hy => ?_, fun y hy => h4' y (Nat.le_trans hf.size hy)⟩
  rcases hy with hy | rfl
  · exact ⟨(h3' y hy).1, (h3 y hy).2⟩
  · exact ⟨h4' _ h0, h1⟩
theorem EdL.call {f : FuncId} {args : Array Value} {v : Value} {S' : EdState} (x : EdL Z w e S)
    (h : ∀ κ i b r k tm um h bl was putv, EdAt w κ i e b r k tm um h bl was putv S → Calls Tryz.prog f args w (EdDone w κ e v S')) : Calls Tryz.prog f args w (EdGo Z w e v S') := by
  obtain ⟨κ, ⟨i, b, r, k, tm, um, hh, bl, was, putv, y⟩, h2, h3⟩ := x
  refine (h κ i b r k tm um hh bl was putv y).mono ?_
  rintro z w' ⟨rfl, κ', h4, h5, h6⟩
  refine ⟨rfl, ⟨paint κ' w'.heap.size (0, 0), h4.stay (Fr.refl nob w') (NR.nob _) (fun _ h _ => h.elim) (paint_old _ _ _), fun y hy => ?_, paint_new _ _ _⟩, h6.mono (fun y _ hy => ⟨fun hz => hy.1 (h2 y hz).1, hy.2⟩)⟩
  have h7 := (h2 y hy).2
  have h8 : y < w'.heap.size := Nat.lt_of_lt_of_le h7 h6.size
  exact ⟨by rw [paint_old _ _ _ _ h8, h5 y h7]; exact (h2 y hy).1, h8⟩
end

section
variable {Z : Nat → Prop} {w : World} {e : Nat} {S : EdState} {L : List Int} {p : Nat} {gs : List (List EditP)} {R : Bool}
theorem L_begin (x : EdL Z w e S) (h : Rest1 S L p gs R) : Calls Tryz.prog 24 #[.pointer (some ⟨e, 0, none⟩)] w (EdGo Z w e (.int .i64 0) S.begun) :=
  x.call fun _ _ _ _ _ _ _ _ _ _ _ y => ed_begin _ _ _ _ y.rep h.ok.core h.inn
theorem L_type (x : EdL Z w e S.begun) (h : Rest1 S L p gs R) (r : Int) (a : Option Addr) (c : Nat) (hl : Sl w 1 a 1 c [.int .i32 r]) (hlen : L.length < 1024) (ht : total gs < 16384) :
    Calls Tryz.prog 40 #[.pointer (some ⟨e, 0, none⟩), .slice a 1 c] w (EdGo Z w e (.int .i64 0) (S.typ1 r)) := by
  refine x.call fun _ _ _ _ _ _ _ _ _ _ _ y => ?_
  have hle := h.ok.lst.le
  rw [h.grp] at hle
  have hok : EdsOk S.begun := by
    refine ⟨h.ok.lists, fun e he => absurd he (by simp [EdState.begun]), ?_, h.ok.place⟩
    show total S.lst.1 + 0 ≤ 16384
    rw [h.grp]
    omega
  have := ed_type_room w _ _ e _ _ _ _ _ _ _ _ _ S.begun y hok rfl [r] a c hl (by show 1 ≤ 1024; decide) (by
    show 1 + (S.core.text.length - _) ≤ 1024
    rw [h.text]
    omega) (by
    show total S.lst.1 + 0 < 16384
    rw [h.grp]
    omega) h.over
  rw [(h.typed r hlen ht).1] at this
  exact this.mono fun _ _ h => h.done
theorem L_end_typed {r : Int} (x : EdL Z w e (S.typ1 r)) (h : Rest1 S L p gs R) (hlen : L.length < 1024) (ht : total gs < 16384) :
    Calls Tryz.prog 26 #[.pointer (some ⟨e, 0, none⟩), .int .i64 0] w (EdGo Z w e (.int .i64 0) (S.typ1 r).endOk) :=
  x.call fun _ _ _ _ _ _ _ _ _ _ _ y => ed_end_ok _ _ _ _ _ _ _ _ _ _ _ _ _ _ y (h.typed r hlen ht).2.1 rfl (h.typed r hlen ht).2.2.1
theorem L_move (x : EdL Z w e S.begun) (h : Rest1 S L p gs R) (q : Nat) (hq : q ≤ L.length) :
    Calls Tryz.prog 44 #[.pointer (some ⟨e, 0, none⟩), .int .i64 q] w (EdGo Z w e (.int .i64 0) (S.begun.moved q)) :=
  x.call fun _ _ _ _ _ _ _ _ _ _ _ y => (ed_move_ok _ _ _ _ _ _ _ _ _ _ _ _ _ S.begun y rfl q (by omega) (by show (q : Int) ≤ (S.core.text.length : Int); rw [h.text]; omega)).mono fun _ _ h => h.done
theorem L_end_moved {q : Nat} (x : EdL Z w e (S.begun.moved q)) (h : Rest1 S L p gs R) (hq : q ≤ L.length) :
    Calls Tryz.prog 26 #[.pointer (some ⟨e, 0, none⟩), .int .i64 0] w (EdGo Z w e (.int .i64 0) (S.begun.moved q).endOk) :=
  x.call fun _ _ _ _ _ _ _ _ _ _ _ y => ed_end_ok _ _ _ _ _ _ _ _ _ _ _ _ _ _ y (h.moved q hq).1 rfl (h.moved q hq).2.1
section
variable {pre : List (List EditP)} {g : List EditP} {L0 : List Int}
theorem L_undo (x : EdL Z w e S.begun) (h : Rest1 S L p gs R) (hg : gs = pre ++ [g]) (hL0 : L0.length ≤ 1024) (hfit : FitAll L0 g) (hdo : doAll L0 g = L) :
    Calls Tryz.prog 28 #[.pointer (some ⟨e, 0, none⟩)] w (EdGo Z w e (.int .i64 0) (S.begun.undone pre g)) := by
  obtain ⟨h1, h2, h3, h4, _⟩ := h.undone pre g hg L0 hL0 hfit hdo
  refine x.call fun _ _ _ _ _ _ _ _ _ _ _ y => ?_
  have := ed_undo_ok _ _ _ _ _ _ _ _ _ _ _ _ _ S.begun y h1 rfl pre g h3 h4
  rw [h2] at this
  exact this.mono fun _ _ h => h.done
theorem L_end_undone (x : EdL Z w e (S.begun.undone pre g)) (h : Rest1 S L p gs R) (hg : gs = pre ++ [g]) (hL0 : L0.length ≤ 1024) (hfit : FitAll L0 g) (hdo : doAll L0 g = L) :
    Calls Tryz.prog 26 #[.pointer (some ⟨e, 0, none⟩), .int .i64 0] w (EdGo Z w e (.int .i64 0) (S.begun.undone pre g).endOk) := by
  obtain ⟨_, _, _, _, h5, h6, h7, _⟩ := h.undone pre g hg L0 hL0 hfit hdo
  exact x.call fun _ _ _ _ _ _ _ _ _ _ _ y => ed_end_ok _ _ _ _ _ _ _ _ _ _ _ _ _ _ y h5 h7 h6
end
theorem L_line (x : EdL Z w e S) : Calls Tryz.prog 31 #[.pointer (some ⟨e, 0, none⟩)] w (EdLine w S.core.text S.core.point S.core.mark) := by
  obtain ⟨κ, h1, _⟩ := x
  exact ed_line _ _ _ _ h1
theorem L_state (x : EdL Z w e S) (h : Rest1 S L p gs R) : Calls Tryz.prog 27 #[.pointer (some ⟨e, 0, none⟩)] w (StateIs w S (fun v _ => v = .slice none 0 0) (fun v _ => v = .slice none 0 0) gs.length) := by
  obtain ⟨κ, h1, _⟩ := x
  have hx : ∀ V, Fr nob w V → EdRep V κ e S := fun V hV => h1.stay hV (NR.nob _) (fun _ h _ => h.elim) (fun _ _ => rfl)
  refine ed_state_rest w κ e S h1 h.inn _ _ _ (fun _ _ _ _ h _ _ => h) (fun _ _ _ _ h _ _ => h) (fun v _ h => ⟨_, _, _, h⟩) (fun v _ h => ⟨_, _, _, h⟩) (fun V hV => ?_) (fun V hV => ?_) (fun V hV => ?_)
  · exact (ed_kills_none V κ e S (hx V hV) h.ents).mono fun _ _ h => ⟨_, h.1, rfl, h.2⟩
  · exact (ed_saved_none V κ e S (hx V hV) h.hist h.place).mono fun _ _ h => ⟨_, h.1, rfl, h.2⟩
  · refine (ed_undoes_rest V κ e S (hx V hV) h.ok h.inn).mono fun _ _ h' => ?_
    rw [h.grp] at h'
    exact h'
end

/-- A new editor stands for a law. -/
theorem newL {w0 w w' : World} {base most : Int} {x : Ending} (h : EdNew w [] base most x w') (hf : Fr nob w0 w) :
    ∃ e, x = .returned (.tuple #[.pointer (some ⟨e, 0, none⟩), .int .i64 0]) ∧ EdL (fun y => y < w0.heap.size) w' e (newState [] base most) ∧ Fr nob w0 w' := by
  obtain ⟨e, κ, rfl, he, hk, hr, hf2⟩ := h
  refine ⟨e, rfl, ⟨paint κ w'.heap.size (0, 0), hr.stay (Fr.refl nob w') (NR.nob _) (fun _ h _ => h.elim) (paint_old _ _ _), fun y hy => ?_, paint_new _ _ _⟩, hf.then hf2⟩
  have h1 := hf.size
  have h2 := hf2.size
  have hy' : y < w0.heap.size := hy
  exact ⟨by rw [paint_old _ _ _ _ (by omega)]; exact hk y (by omega), by omega⟩
/-- What a law's call leaves of what was there. -/
theorem goL {w0 w w' : World} (hf : Fr nob w0 w) (h : Fr (wr w (fun y => ¬ y < w0.heap.size)) w w') : Fr nob w0 w' :=
  hf.trans h (fun _ hb hm => (hm.1 hb).elim)
/-- A slice of one rune that was built. -/
theorem sl_one (w : World) (r : Int) : Sl (w.alloc (.cells #[.int .i32 r] 21)) 1 (some ⟨w.heap.size, 0, none⟩) 1 1 [.int .i32 r] := by
  refine ⟨rfl, Nat.le_refl _, .inr ⟨_, _, rfl, fun j u hu => ?_⟩, by simp [Value.oneCell']⟩
  cases j with
  | zero =>
    rw [blk_cells (heap_alloc_new _ _)]
    exact hu
  | succ j => simp at hu

/-- A step that yields a value. -/
theorem wpList_run {P : Program} {ops : Array Oper} {rest : List Oper} {o : Oper} {a : Act} {w : World} {Q : Exit → Act → World → Prop} {v : Value} (hg : o.guard = none) (hr : (execOp a.eval o).run P w = .ok (.value v) w) (h : wpList P ops Q rest (a.put o.dst v) w) : wpList P ops Q (o :: rest) a w :=
  wpList_plain hg fun _ hK => by
    unfold Oper.wp
    rw [hr]
    exact hK _ _ h
theorem E_convert {P : Program} {ρ : Operand → Value} {o : Oper} {w : World} {x : Operand} {s t : TypeId} {v u : Value} (ho : o.op = .convert s t x) (hx : ρ x = v) (hc : (convert s t v).run P w = .ok u w) : (execOp ρ o).run P w = .ok (.value u) w := by
  unfold execOp
  rw [ho]
  simp [hx, hc]

/-- What the check's editor is. -/
theorem live_rest : Rest1 ((newState [] 1 10).typ1 97).endOk [97] 1 [[(0, [], [97])]] true ∧ ((newState [] 1 10).typ1 97).endOk.core.last = 3 ∧ ((newState [] 1 10).typ1 97).endOk.f.arg = -1 := by
  obtain ⟨_, _, _, h1, h2, h3, _⟩ := (Rest1.new 1 10).typed 97 (by decide) (by decide)
  exact ⟨h1, h2, h3⟩

theorem live_state {Z : Nat → Prop} {w : World} {e : Nat} (x : EdL Z w e ((newState [] 1 10).typ1 97).endOk) : Calls Tryz.prog 27 #[.pointer (some ⟨e, 0, none⟩)] w fun y w' =>
    ∃ cs a c, y = .returned (.agg cs) ∧ 17 = cs.size ∧ cs.all (·.oneCell') = true ∧ cs[0]? = some (.slice a 1 c) ∧ cs[7]? = some (.int .i64 (-1)) ∧
    cs[8]? = some (.int .i64 3) ∧ cs[14]? = some (.int .i64 1) ∧ Own w' 21 1 (.slice a 1 c) 1 [.int .i32 97] ∧ Fr nob w w' := by
  obtain ⟨h1, h2, h3⟩ := live_rest
  refine (L_state x h1).mono ?_
  rintro y w' ⟨lv, kv, sv, rfl, hl, rfl, rfl, hf⟩
  have hone := stateCells_one _ lv (.slice none 0 0) (.slice none 0 0) 1 hl ⟨_, _, _, rfl⟩ ⟨_, _, _, rfl⟩
  obtain ⟨a, c, rfl, ho⟩ := hl
  have ht := h1.text
  rw [ht] at ho hone ⊢
  refine ⟨_, a, c, rfl, rfl, hone, rfl, ?_, ?_, rfl, ho, hf⟩
  · rw [← h3]; rfl
  · rw [← h2]; rfl

theorem conv_a {W : World} {a : Option Addr} {c : Nat} (h : Own W 21 1 (.slice a 1 c) 1 [.int .i32 97]) : (convert 23 9 (.slice a 1 c)).run Tryz.prog W = .ok (.string ⟨#[97]⟩) W := by
  rcases h.sl.rd with h0 | ⟨g, off, rfl, hc⟩
  · cases h0
  · rw [run_convert_runes W 23 9 21 ⟨g, off, none⟩ 1 c [97] (by decide) (by kernel_rfl) (by kernel_rfl) (by kernel_rfl) (fun j hj => by
      obtain rfl : j = 0 := by simpa using hj
      rw [Addr.add_zero']
      exact hc 0 _ rfl)]
    rfl

set_option maxRecDepth 10000 in
set_option maxHeartbeats 1000000 in
theorem live_ok (w : World) : Calls Tryz.prog 22 #[] w fun x w' => x = .returned (.bool true) ∧ Fr nob w w' := by
  go_enter Tryz.func22, Tryz.ntmps22
  go_wp2_with (first
    | (go_at_call 20; refine (hist_new _ 10 (by decide) (by decide)).mono ?_; rintro y w1 ⟨rfl, hh, hf⟩; have HH := Lib.hid hh; have HF1 := Lib.hid hf; clear hh hf)
    | (go_at_call 21; refine (ed_new _ _ _ _ _ _ HH.out (by simp)).mono ?_; rintro y w2 hn; obtain ⟨e, rfl, hx, hf⟩ := newL hn HF1.out; have HX := Lib.hid hx; have HF2 := Lib.hid hf; clear hx hf hn)
    | (go_at_call 24; refine (L_begin HX.out (Rest1.new 1 10)).mono ?_; rintro y w3 ⟨rfl, hx, hf⟩; have HX3 := Lib.hid hx; have HF3 := Lib.hid (goL HF2.out hf); clear hx hf)
    | (go_at_call 40; refine (L_type (HX3.out.stayN ((Fr.refl _ _).alloc _)) (Rest1.new 1 10) 97 _ _ (sl_one _ _) (by decide) (by decide)).mono ?_; rintro y w4 ⟨rfl, hx, hf⟩; have HX4 := Lib.hid hx; have HF4 := Lib.hid (goL (HF3.out.alloc _) hf); clear hx hf)
    | (go_at_call 26; refine (L_end_typed HX4.out (Rest1.new 1 10) (by decide) (by decide)).mono ?_; rintro y w5 ⟨rfl, hx, hf⟩; have HX5 := Lib.hid hx; have HF5 := Lib.hid (goL HF4.out hf); clear hx hf)
    | (go_at_call 27; refine (live_state HX5.out).mono ?_; rintro y w6 ⟨cs, la, lc, rfl, hs, h1, hc0, hc7, hc8, hc14, ho, hf⟩; have HS := Lib.hid hs; have H1 := Lib.hid h1; have HC0 := Lib.hid hc0; have HC7 := Lib.hid hc7; have HC8 := Lib.hid hc8; have HC14 := Lib.hid hc14; have HO := Lib.hid ho; have HF6 := Lib.hid (HF5.out.then hf); have HSZ := Lib.hid (show (Tryz.prog.info? 60).map (·.size) = some cs.size from by rw [← hs]; kernel_rfl); clear hf hs h1 hc0 hc7 hc8 hc14 ho)
    | (refine wpList_store_row rfl 60 (.tmp 5) (.tmp 33) rfl _ cs rfl rfl 60 _ (heap_alloc_new _ _) HSZ.out HS.out H1.out ?_
       have hW := heap_setRow_same (c' := cs) (heap_alloc_new w6 (.cells #[.slice none 0 0, .int .i64 0, .int .i64 0, .int .i64 0, .bool false, .bool false, .bool false, .int .i64 0, .int .i64 0, .int .i64 0, .int .i64 0, .slice none 0 0, .int .i64 0, .slice none 0 0, .int .i64 0, .int .i64 0, .int .i64 0] 60))
       have hV : Fr nob w6 ((w6.alloc (.cells #[.slice none 0 0, .int .i64 0, .int .i64 0, .int .i64 0, .bool false, .bool false, .bool false, .int .i64 0, .int .i64 0, .int .i64 0, .int .i64 0, .slice none 0 0, .int .i64 0, .slice none 0 0, .int .i64 0, .int .i64 0, .int .i64 0] 60)).setRow w6.heap.size cs) := ((Fr.refl _ _).alloc _).setRow _ _ (fun h => by omega)
       generalize (w6.alloc (.cells #[.slice none 0 0, .int .i64 0, .int .i64 0, .int .i64 0, .bool false, .bool false, .bool false, .int .i64 0, .int .i64 0, .int .i64 0, .int .i64 0, .slice none 0 0, .int .i64 0, .slice none 0 0, .int .i64 0, .int .i64 0, .int .i64 0] 60)).setRow w6.heap.size cs = W at *
       have HCV := Lib.hid (conv_a (HO.out.stay hV (fun _ _ _ _ h => h)))
       have HFW := Lib.hid (HF6.out.then hV)
       have g0 := (blk_cells hW 0).trans HC0.out
       have g7 := (blk_cells hW 7).trans HC7.out
       have g8 := (blk_cells hW 8).trans HC8.out
       have g14 := (blk_cells hW 14).trans HC14.out
       clear hW hV)
    | (refine wpList_run (v := .string ⟨#[97]⟩) rfl (E_convert rfl rfl HCV.out) ?_; skip))
  go_ret
  exact ⟨rfl, HFW.out⟩
end Go.Proofs.YtbhklkolkclflaaGreatDoor
