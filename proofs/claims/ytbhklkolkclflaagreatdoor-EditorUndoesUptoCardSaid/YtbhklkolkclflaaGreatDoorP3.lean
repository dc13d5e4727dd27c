/- Plain: a line that is killed from one place on, and yanked. -/
import Derived.Test.YtbhklkolkclflaaGreatDoorE25
import Derived.Test.YtbhklkolkclflaaGreatDoorL1
namespace Go.Proofs.YtbhklkolkclflaaGreatDoor
open Go.RowKit

section
variable {S : EdState}
/-- Runes are replaced, where the list has room. -/
theorem EdState.replaced_room (h : EdsOk S) (hr : total S.lst.1 + S.put.length < 16384) (f t : Nat) (l : List Int) :
    S.replaced f t l = if t - f + l.length = 0 then S.bufd f t l else { (S.bufd f t l).listed with put := S.put ++ [((f : Int), (S.core.text.drop f).take (t - f), l)] } := by
  unfold EdState.replaced
  split
  · rfl
  · have h1 : (S.bufd f t l).roomed = (S.bufd f t l).listed := by
      unfold EdState.roomed
      rw [if_neg]
      show ¬ (16384 ≤ S.lst.2 + S.put.length)
      rw [h.lst.cnt]
      omega
    rw [h1]
    rfl
theorem EdState.replaced_ok (h : EdsOk S) (hr : total S.lst.1 + S.put.length < 16384) (f t : Nat) (l : List Int) (hl : l.length ≤ 1024) (hL : S.core.text.length ≤ 1024) (hft : t ≤ S.core.text.length) : EdsOk (S.replaced f t l) := by
  rw [EdState.replaced_room h hr]
  split
  · exact ⟨h.lists, h.put, h.room, h.place⟩
  · rename_i hne
    refine ⟨upd_ok h.lists h.lst, fun e he => ?_, ?_, h.place⟩
    · rcases List.mem_append.1 he with he | he
      · exact h.put e he
      · rw [List.mem_singleton.1 he]
        refine ⟨by show (0 : Int) ≤ (f : Int); omega, ?_, hl, ?_⟩
        · simp only [List.length_take, List.length_drop]
          omega
        · simp only [List.length_take, List.length_drop]
          omega
    · have : EdState.lst { (S.bufd f t l).listed with put := S.put ++ [((f : Int), (S.core.text.drop f).take (t - f), l)] } = S.lst := EdState.listed_lst (S.bufd f t l)
      rw [this]
      simp only [List.length_append, List.length_cons, List.length_nil]
      omega
theorem EdState.replaced_lst (h : EdsOk S) (hr : total S.lst.1 + S.put.length < 16384) (f t : Nat) (l : List Int) : (S.replaced f t l).lst = S.lst := by
  rw [EdState.replaced_room h hr]
  split
  · rfl
  · exact EdState.listed_lst (S.bufd f t l)
theorem EdState.replaced_put (h : EdsOk S) (hr : total S.lst.1 + S.put.length < 16384) (f t : Nat) (l : List Int) : (S.replaced f t l).put.length ≤ S.put.length + (t - f + l.length) := by
  rw [EdState.replaced_room h hr]
  split
  · exact Nat.le_add_right _ _
  · simp only [List.length_append, List.length_cons, List.length_nil]
    omega
theorem EdState.replaced_core (S : EdState) (h : EdsOk S) (hr : total S.lst.1 + S.put.length < 16384) (f t : Nat) (l : List Int) :
    (S.replaced f t l).core.run = S.core.run ∧ (S.replaced f t l).core.last = S.core.last ∧ (S.replaced f t l).core.ents = S.core.ents ∧ (S.replaced f t l).core.rpl = S.core.rpl ∧ (S.replaced f t l).core.place = S.core.place ∧ (S.replaced f t l).core.over = S.core.over ∧ (S.replaced f t l).core.mark = newMark S.core.mark f t l.length ∧ (S.replaced f t l).f = S.f ∧ (S.replaced f t l).hist = S.hist ∧ (S.replaced f t l).bells = S.bells := by
  rw [EdState.replaced_room h hr]
  split <;> exact ⟨rfl, rfl, rfl, rfl, rfl, rfl, rfl, rfl, rfl, rfl⟩
/-- A command that was done. -/
theorem EdState.endOk_ok (h : EdsOk S) : EdsOk S.endOk := by
  have h1 := (EdState.endA_ok h).flushed (S.types && S.core.run)
  exact ⟨h1.lists, h1.put, h1.room, h1.place⟩
theorem EdState.flushed_total (S : EdState) (on : Bool) : total (S.flushed on).lst.1 = total S.lst.1 + S.put.length := by
  unfold EdState.flushed
  split
  · rename_i h0
    rw [h0]
    rfl
  · have : EdState.lst { S.setLst (flushG on S.lst S.put) with put := [] } = flushG on S.lst S.put := EdState.lst_of (if_pos rfl)
    rw [this, flushG_eq]
    simp only [total_append, total_one, List.length_append]
    have := preG_total on S.lst.1
    omega
theorem EdState.endOk_total (S : EdState) : total S.endOk.lst.1 = total S.lst.1 + S.put.length := by
  have h1 := EdState.flushed_total S.endA (S.types && S.core.run)
  rw [EdState.endA_lst, EdState.endA_put] at h1
  exact h1
theorem EdState.endOk_core (S : EdState) : S.endOk.core.text = S.core.text ∧ S.endOk.core.point = S.core.point ∧ S.endOk.core.mark = S.core.mark ∧ S.endOk.core.ents = S.core.ents ∧ S.endOk.core.rpl = S.core.rpl ∧ S.endOk.core.place = S.core.place ∧ S.endOk.core.over = S.core.over ∧ S.endOk.core.last = S.f.cls ∧ S.endOk.f.inn = false ∧ S.endOk.hist = S.hist ∧ S.endOk.bells = S.bells ∧
    S.endOk.core.run = (S.types && (decide (S.put ≠ []) || S.core.run)) := by
  unfold EdState.endOk EdState.endB EdState.flushed EdState.endA
  split <;> split <;> exact ⟨rfl, rfl, rfl, rfl, rfl, rfl, rfl, rfl, rfl, rfl, rfl, rfl⟩
end

/-- An editor at rest, with one line of which the runes from a to b were killed. -/
structure RestK (S : EdState) (L : List Int) (a b : Nat) : Prop where
  ok : EdsOk S
  inn : S.f.inn = false
  over : S.core.over = false
  place : S.core.place = 0
  text : S.core.text = L.take a ++ L.drop b
  point : S.core.point = a
  ab : a ≤ b
  bl : b ≤ L.length
  len : L.length ≤ 1024
  run : S.core.run = false
  rpl : S.core.rpl = 0
  tot : total S.lst.1 ≤ b - a
  ents : S.core.ents = [] ∧ a = b ∨ S.core.ents = [(L.drop a).take (b - a)] ∧ S.core.last = 1
  bells : S.bells = 0

section
variable {S : EdState} {L : List Int} {a b : Nat}
/-- A kill, within the command. -/
def EdState.kill1 (S : EdState) (f t : Nat) (back : Bool) : EdState := (S.begun.copied f t back).replaced f t []
theorem RestK.begun_ok (h : RestK S L a b) : EdsOk S.begun := ⟨h.ok.lists, fun _ he => absurd he (by simp [EdState.begun]), by have := h.tot; have := h.bl; have := h.len; show total S.lst.1 + 0 ≤ 16384; omega, h.ok.place⟩
theorem RestK.textlen (h : RestK S L a b) : S.core.text.length = a + (L.length - b) := by
  have := h.ab
  have := h.bl
  rw [h.text, List.length_append, List.length_take, List.length_drop]
  omega
theorem RestK.room (h : RestK S L a b) : total S.lst.1 + 0 < 16384 := by
  have := h.tot; have := h.bl; have := h.len
  omega

/-- What a kill takes and what is killed then. -/
theorem kill_back (hab : a ≤ b) (hb : b ≤ L.length) (k : Nat) (hk : k ≤ a) : (L.take a ++ L.drop b).take (a - k) ++ [] ++ (L.take a ++ L.drop b).drop a = L.take (a - k) ++ L.drop b ∧ ((L.take a ++ L.drop b).drop (a - k)).take k = (L.drop (a - k)).take k ∧ (L.drop (a - k)).take k ++ (L.drop a).take (b - a) = (L.drop (a - k)).take (b - (a - k)) := by
  have hl : (L.take a).length = a := by rw [List.length_take]; omega
  refine ⟨?_, ?_, ?_⟩
  · rw [List.append_nil, List.take_append_of_le_length (by omega), List.take_take, List.drop_append, List.drop_of_length_le (by omega), hl]
    simp
  · rw [List.drop_append_of_le_length (by omega), List.take_append_of_le_length (by rw [List.length_drop]; omega), List.drop_take, List.take_take]
    congr 1
    omega
  · have h1 : L.drop a = (L.drop (a - k)).drop k := by rw [List.drop_drop]; congr 1; omega
    rw [h1, show b - (a - k) = k + (b - a) by omega, List.take_add]
theorem kill_fore (hab : a ≤ b) (k : Nat) (hb : b ≤ L.length) : (L.take a ++ L.drop b).take a ++ [] ++ (L.take a ++ L.drop b).drop (a + k) = L.take a ++ L.drop (b + k) ∧ ((L.take a ++ L.drop b).drop a).take k = (L.drop b).take k ∧ (L.drop a).take (b - a) ++ (L.drop b).take k = (L.drop a).take (b + k - a) := by
  have hl : (L.take a).length = a := by rw [List.length_take]; omega
  refine ⟨?_, ?_, ?_⟩
  · rw [List.append_nil, List.take_append_of_le_length (by omega), List.take_of_length_le (by omega), List.drop_append, List.drop_of_length_le (by omega), hl, List.drop_drop]
    simp
  · rw [List.drop_append, List.drop_of_length_le (by omega), hl]
    simp
  · have h1 : L.drop b = (L.drop a).drop (b - a) := by rw [List.drop_drop]; congr 1; omega
    rw [h1, show b + k - a = (b - a) + k by omega, List.take_add]

theorem EdState.copied_same (S : EdState) (f t : Nat) (back : Bool) : (S.copied f t back).lst = S.lst ∧ (S.copied f t back).put = S.put ∧ (S.copied f t back).core.text = S.core.text ∧ (S.copied f t back).core.point = S.core.point ∧ (S.copied f t back).core.run = S.core.run ∧ (S.copied f t back).core.place = S.core.place ∧ (S.copied f t back).core.over = S.core.over ∧ (S.copied f t back).core.mark = S.core.mark ∧ (S.copied f t back).f.cls = 1 ∧ (S.copied f t back).f.inn = S.f.inn ∧ (S.copied f t back).bells = S.bells ∧ (S.copied f t back).core.ents = (killE (S.killWay back) S.core.ents S.core.rpl ((S.core.text.drop f).take (t - f))).1 ∧ (S.copied f t back).core.rpl = (killE (S.killWay back) S.core.ents S.core.rpl ((S.core.text.drop f).take (t - f))).2 :=
  ⟨rfl, rfl, rfl, rfl, rfl, rfl, rfl, rfl, rfl, rfl, rfl, rfl, rfl⟩

/-- A kill, done. -/
theorem RestK.kill (h : RestK S L a b) (f t : Nat) (hft : f ≤ t) (ht : t ≤ S.core.text.length) (back : Bool) (a' b' : Nat) (hab : a' ≤ b') (hb' : b' ≤ L.length) (htx : S.core.text.take f ++ [] ++ S.core.text.drop t = L.take a' ++ L.drop b') (hp : newPoint (a : Int) f t 0 = a') (hw : b' - a' = (b - a) + (t - f))
    (he : (if back = true then (S.core.text.drop f).take (t - f) ++ (L.drop a).take (b - a) else (L.drop a).take (b - a) ++ (S.core.text.drop f).take (t - f)) = (L.drop a').take (b' - a')) :
    EdsOk (S.kill1 f t back) ∧ (S.kill1 f t back).f.inn = true ∧ (S.kill1 f t back).core.run = false ∧ RestK (S.kill1 f t back).endOk L a' b' := by
  have hok := h.begun_ok
  have hcp := EdState.copied_same S.begun f t back
  have hokc := EdState.copied_ok hok f t back
  obtain ⟨c1, c2, c3, c4, c5, c6, c7, c8, c9, c10, c11, c12, c13⟩ := hcp
  have hl0 : S.begun.lst = S.lst := rfl
  have hp0 : S.begun.put = [] := rfl
  have hrm : total (S.begun.copied f t back).lst.1 + (S.begun.copied f t back).put.length < 16384 := by
    rw [c1, c2, hl0, hp0]
    exact h.room
  have htl := h.textlen
  have hlen := h.len
  have hba := h.ab
  have hbl := h.bl
  have hL : (S.begun.copied f t back).core.text.length ≤ 1024 := by
    rw [c3]
    show S.core.text.length ≤ 1024
    omega
  have hok2 := EdState.replaced_ok hokc hrm f t [] (by simp) hL (by rw [c3]; exact ht)
  have hlst := EdState.replaced_lst hokc hrm f t []
  have hput := EdState.replaced_put hokc hrm f t []
  obtain ⟨r1, r2, r3, r4, r5, r6, r7, r8, r9, r10⟩ := EdState.replaced_core _ hokc hrm f t []
  obtain ⟨t1, t2⟩ := EdState.replaced_text (S.begun.copied f t back) f t []
  have e := EdState.endOk_core (S.kill1 f t back)
  have etot := EdState.endOk_total (S.kill1 f t back)
  change EdsOk (S.kill1 f t back) at hok2
  change (S.kill1 f t back).lst = _ at hlst
  change (S.kill1 f t back).put.length ≤ _ at hput
  change (S.kill1 f t back).core.run = _ at r1
  change (S.kill1 f t back).core.ents = _ at r3
  change (S.kill1 f t back).core.rpl = _ at r4
  change (S.kill1 f t back).core.place = _ at r5
  change (S.kill1 f t back).core.over = _ at r6
  change (S.kill1 f t back).f = _ at r8
  change (S.kill1 f t back).bells = _ at r10
  change (S.kill1 f t back).core.text = _ at t1
  change (S.kill1 f t back).core.point = _ at t2
  generalize S.kill1 f t back = K at *
  obtain ⟨e1, e2, e3, e4, e5, e6, e7, e8, e9, e10, e11, e12⟩ := e
  have hrun : K.core.run = false := by rw [r1, c5]; exact h.run
  have hcls : K.f.cls = 1 := by rw [r8, c9]
  have hkl : (S.begun.core.text.drop f).take (t - f) = (S.core.text.drop f).take (t - f) := rfl
  generalize hcut : (S.core.text.drop f).take (t - f) = cut at *
  have hcl : cut.length = t - f := by rw [← hcut, List.length_take, List.length_drop]; omega
  rw [hkl, show S.begun.core.ents = S.core.ents from rfl, show S.begun.core.rpl = S.core.rpl from rfl] at c12 c13
  refine ⟨hok2, by rw [r8, c10]; rfl, hrun, ⟨EdState.endOk_ok hok2, e9, ?_, ?_, ?_, ?_, hab, hb', hlen, ?_, ?_, ?_, ?_, ?_⟩⟩
  · rw [e7, r6, c7]; exact h.over
  · rw [e6, r5, c6]; exact h.place
  · rw [e1, t1, c3]; exact htx
  · rw [e2, t2, c4]
    show newPoint S.core.point f t 0 = _
    rw [h.point]
    exact hp
  · rw [e12, hrun]
    unfold EdState.types
    rw [hcls]
    rfl
  · rw [e5, r4, c13]
    show (killE _ S.core.ents S.core.rpl cut).2 = 0
    rw [h.rpl]
    unfold killE
    split
    · rfl
    · split <;> rfl
  · rw [etot, hlst, c1, hl0]
    have := h.tot
    rw [c2, hp0] at hput
    simp only [List.length_nil] at hput
    omega
  · rw [e4, e8, hcls, r3, c12]
    show (killE (S.begun.killWay back) S.core.ents S.core.rpl cut).1 = [] ∧ _ ∨ _
    rcases h.ents with ⟨h1, h2⟩ | ⟨h1, h2⟩
    · have hz : (L.drop a).take (b - a) = [] := by rw [h2]; simp
      rw [hz, List.append_nil, List.nil_append, ite_self] at he
      by_cases hk : S.begun.killWay back = 0 ∧ cut = []
      · left
        unfold killE
        rw [if_pos hk]
        refine ⟨h1, ?_⟩
        rw [hk.2] at hcl
        simp only [List.length_nil] at hcl
        omega
      · right
        unfold killE
        rw [if_neg hk, if_pos (.inr h1), h1, he]
        exact ⟨rfl, rfl⟩
    · right
      have hk : S.begun.killWay back = if back = true then 2 else 1 := by
        unfold EdState.killWay
        rw [if_pos (.inl (show S.begun.core.last = 1 from h2))]
      unfold killE
      rw [if_neg (by rw [hk]; split <;> simp), if_neg (by rw [hk, h1]; split <;> simp), h1]
      refine ⟨?_, rfl⟩
      rw [← he, hk]
      cases back <;> simp
  · rw [e11, r10, c11]; exact h.bells
/-- Room for the join. -/
theorem RestK.join (h : RestK S L a b) (n : Nat) (hn : n + (b - a) ≤ 1024) : n + (S.core.ents.headD []).length ≤ 1024 := by
  rcases h.ents with ⟨h1, h2⟩ | ⟨h1, h2⟩
  · rw [h1]; simp; omega
  · rw [h1]
    simp only [List.headD_cons, List.length_take]
    omega

/-- What was killed is put back. -/
theorem RestK.yanked (h : RestK S L a b) : EdsOk (S.begun.yankedTo a ((L.drop a).take (b - a))) ∧ (S.begun.yankedTo a ((L.drop a).take (b - a))).f.inn = true ∧ (S.begun.yankedTo a ((L.drop a).take (b - a))).core.run = false ∧
    (S.begun.yankedTo a ((L.drop a).take (b - a))).endOk.core.text = L ∧ (S.begun.yankedTo a ((L.drop a).take (b - a))).endOk.core.mark = a ∧ (S.begun.yankedTo a ((L.drop a).take (b - a))).endOk.core.point = b := by
  have hok := h.begun_ok
  have hba := h.ab
  have hbl := h.bl
  have hlen := h.len
  have htl := h.textlen
  have hrm : total S.begun.lst.1 + S.begun.put.length < 16384 := h.room
  have hcl : ((L.drop a).take (b - a)).length = b - a := by rw [List.length_take, List.length_drop]; omega
  have htx : S.core.text.take a ++ (L.drop a).take (b - a) ++ S.core.text.drop a = L := by
    have hl : (L.take a).length = a := by rw [List.length_take]; omega
    have e1 : (L.take a ++ L.drop b).take a = L.take a := by rw [List.take_append_of_le_length (by omega), List.take_of_length_le (by omega)]
    have e2 : (L.take a ++ L.drop b).drop a = L.drop b := by rw [List.drop_append_of_le_length (by omega), List.drop_of_length_le (by omega), List.nil_append]
    have h2 : L.drop b = (L.drop a).drop (b - a) := by rw [List.drop_drop]; congr 1; omega
    rw [h.text, e1, e2, h2, List.append_assoc, List.take_append_drop, List.take_append_drop]
  generalize hcut : (L.drop a).take (b - a) = cut at *
  have hok2 := EdState.replaced_ok hok hrm a a cut (by omega) (by show S.core.text.length ≤ 1024; omega) (by show a ≤ S.core.text.length; omega)
  obtain ⟨r1, r2, r3, r4, r5, r6, r7, r8, r9, r10⟩ := EdState.replaced_core _ hok hrm a a cut
  obtain ⟨t1, t2⟩ := EdState.replaced_text S.begun a a cut
  have e := EdState.endOk_core (S.begun.yankedTo a cut)
  obtain ⟨e1, e2, e3, e4, e5, e6, e7, e8, e9, e10, e11, e12⟩ := e
  refine ⟨⟨hok2.lists, hok2.put, hok2.room, hok2.place⟩, ?_, ?_, ?_, ?_, ?_⟩
  · show (S.begun.replaced a a cut).f.inn = true
    rw [r8]
    rfl
  · show (S.begun.replaced a a cut).core.run = false
    rw [r1]
    exact h.run
  · rw [e1]
    show (S.begun.replaced a a cut).core.text = L
    rw [t1]
    exact htx
  · rw [e3]; rfl
  · rw [e2]
    show (S.begun.replaced a a cut).core.point = b
    rw [t2, hcl]
    show newPoint S.core.point a a (b - a) = b
    rw [h.point]
    unfold newPoint
    rw [if_neg (by omega), if_pos (by omega)]
    omega
end
end Go.Proofs.YtbhklkolkclflaaGreatDoor
