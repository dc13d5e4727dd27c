/- Package editor: an editor laid open, and how its parts change. -/
import Derived.Test.YtbhklkolkclflaaE5
namespace Go.Proofs.Ytbhklkolkclflaa
open Go.RowKit

section
variable {w w' : World} {κ κ' : Col} {i b r k tm um : Nat} {S : CoreS} {M : Nat → Prop}
/-- The buffer alone is written. -/
theorem CoreAt.setBuf (h : CoreAt w κ i b r k tm um S) (hf : Fr (one b) w w') (hk : ∀ y, y < w.heap.size → κ' y = κ y) {L : List Int} {p m : Int} (hb : BufRep w' b L p m) :
    CoreAt w' κ' i b r k tm um { S with text := L, point := p, mark := m } := by
  have hr := h.buf.nr
  have hn : ∀ x j, j ≠ 0 → κ x = (i, j) → ¬ one b x := fun x j hj hx hM => by
    cases hM
    rw [h.cb] at hx
    injection hx with _ hx
    exact hj hx.symm
  have l1 := h.buf.lt
  have l2 := h.ring.lt
  have l3 := blk_lt h.walk
  have l4 := h.texts.lt
  obtain ⟨f, hu, h2, h3⟩ := h.undos
  have l5 := hu.lt
  refine ⟨(hk _ l1).trans h.cb, hb, (hk _ l2).trans h.cr, h.ring.stay hf hr (hn _ 1 (by omega) h.cr), (hk _ l3).trans h.ck, hf.keep h.walk (hn _ 2 (by omega) h.ck), (hk _ l4).trans h.ct,
    h.texts.stay hf (hn _ 3 (by omega) h.ct), (hk _ l5).trans h.cu, f, hu.stay hf (hn _ 4 (by omega) h.cu), h2, fun p g hp => ?_⟩
  obtain ⟨h0, l, h4, h5⟩ := h3 p g hp
  refine ⟨h0, l, h4, (h5.within.stay hf hr (fun y hy hM => hn _ (5 + p.toNat) (by omega) hy.1 hM)).mono (fun y hy => by rw [hk y hy.2]; exact hy.1)⟩

/-- The lists of undo by place, and the list at one of them. -/
def UndosL (w : World) (κ : Col) (i um : Nat) (u : Int → Option (List (List EditP) × Int)) (p : Int) (l : Nat) : Prop :=
  ∃ f : Int → Option Value, MapRep w um f ∧ (∀ p, u p = none → f p = none) ∧
    (∀ p g, u p = some g → 0 ≤ p ∧ ∃ l, f p = some (.pointer (some ⟨l, 0, none⟩)) ∧ ListRep w (fun b => κ b = (i, 5 + p.toNat)) l g.1 [] 0 g.2) ∧ f p = some (.pointer (some ⟨l, 0, none⟩))

theorem UndosL.at {u : Int → Option (List (List EditP) × Int)} {p : Int} {l : Nat} (h : UndosL w κ i um u p l) : UndosAt w κ i um u := by
  obtain ⟨f, h1, h2, h3, _⟩ := h
  exact ⟨f, h1, h2, h3⟩
theorem UndosL.list {u : Int → Option (List (List EditP) × Int)} {p : Int} {l : Nat} {g : List (List EditP) × Int} (h : UndosL w κ i um u p l) (hp : u p = some g) : 0 ≤ p ∧ ListRep w (fun b => κ b = (i, 5 + p.toNat)) l g.1 [] 0 g.2 := by
  obtain ⟨f, h1, h2, h3, h4⟩ := h
  obtain ⟨h0, l', h5, h6⟩ := h3 p g hp
  rw [h4] at h5
  injection h5 with h5
  injection h5 with h5
  injection h5 with h5
  injection h5 with h5
  subst h5
  exact ⟨h0, h6⟩

/-- Another value at one place. -/
def updU (u : Int → Option (List (List EditP) × Int)) (p : Int) (g : List (List EditP) × Int) : Int → Option (List (List EditP) × Int) := fun q => if q = p then some g else u q

theorem UndosL.stay {u : Int → Option (List (List EditP) × Int)} {p : Int} {l : Nat} (h : UndosL w κ i um u p l) (hf : Fr M w w') (hr : NR w M) (hm : ∀ b, M b → b < w.heap.size → (κ b).1 ≠ i) (hu : ¬ M um) (hk : ∀ b, b < w.heap.size → κ' b = κ b) : UndosL w' κ' i um u p l := by
  obtain ⟨f, h1, h2, h3, h4⟩ := h
  refine ⟨f, h1.stay hf hu, h2, fun p g hp => ?_, h4⟩
  obtain ⟨h0, l, h4, h5⟩ := h3 p g hp
  refine ⟨h0, l, h4, ?_⟩
  exact (h5.within.stay (M := M) hf hr (fun b hb hM => hm b hM hb.2 (by rw [hb.1]))).mono (fun b hb => by rw [hk b hb.2]; exact hb.1)

/-- The list at a place is changed. -/
theorem UndosL.set {u : Int → Option (List (List EditP) × Int)} {p : Int} {l : Nat} (h : UndosL w κ i um u p l) (hp : 0 ≤ p) (hu : κ um = (i, 4)) (hf : Fr (wr w (fun b => κ b = (i, 5 + p.toNat))) w w') {g : List (List EditP) × Int}
    (hl : ListRep w' (plus w (fun b => κ b = (i, 5 + p.toNat))) l g.1 [] 0 g.2) : UndosL w' (paint κ w.heap.size (i, 5 + p.toNat)) i um (updU u p g) p l := by
  obtain ⟨f, h1, h2, h3, h4⟩ := h
  have hum : ¬ wr w (fun b => κ b = (i, 5 + p.toNat)) um := fun hx => by
    have h5 : κ um = (i, 5 + p.toNat) := hx.1
    rw [hu] at h5
    injection h5 with _ h5
    omega
  refine ⟨f, h1.stay hf hum, fun q hq => ?_, fun q g' hq => ?_, h4⟩
  · unfold updU at hq
    split at hq
    · cases hq
    · exact h2 q hq
  · unfold updU at hq
    split at hq
    · rename_i e
      subst e
      injection hq with hq
      subst hq
      exact ⟨hp, l, h4, hl.mono (fun y hy => by
        rcases Nat.lt_or_ge y w.heap.size with hlt | hge
        · rw [paint_old _ _ _ _ hlt]
          exact hy.elim id (fun h => by omega)
        · exact paint_new _ _ _ _ hge)⟩
    · rename_i hne
      obtain ⟨h0, l', h5, h6⟩ := h3 q g' hq
      refine ⟨h0, l', h5, (h6.within.stay hf (NR.wr _ _) (fun y hy hM => ?_)).mono (fun y hy => by rw [paint_old _ _ _ _ hy.2]; exact hy.1)⟩
      have h7 := hy.1.symm.trans hM.1
      injection h7 with _ h7
      omega

/-- The lists alone are written. -/
theorem CoreAt.setUndos (h : CoreAt w κ i b r k tm um S) (hf : Fr M w w') (hr : NR w M) (hm : ∀ y, M y → y < w.heap.size → ∃ j, κ y = (i, 4 + j)) (hk : ∀ y, y < w.heap.size → κ' y = κ y) {u : Int → Option (List (List EditP) × Int)} (hu : UndosAt w' κ' i um u) :
    CoreAt w' κ' i b r k tm um { S with undos := u } := by
  have hn : ∀ x j, j < 4 → κ x = (i, j) → x < w.heap.size → ¬ M x := fun x j hj hx hl hM => by
    obtain ⟨j', h1⟩ := hm x hM hl
    rw [hx] at h1
    injection h1 with _ h1
    omega
  have l1 := h.buf.lt
  have l2 := h.ring.lt
  have l3 := blk_lt h.walk
  have l4 := h.texts.lt
  obtain ⟨f, hu0, _⟩ := h.undos
  have l5 := hu0.lt
  exact ⟨(hk _ l1).trans h.cb, h.buf.stay hf (hn _ 0 (by omega) h.cb l1) hr, (hk _ l2).trans h.cr, h.ring.stay hf hr (hn _ 1 (by omega) h.cr l2), (hk _ l3).trans h.ck, hf.keep h.walk (hn _ 2 (by omega) h.ck l3), (hk _ l4).trans h.ct,
    h.texts.stay hf (hn _ 3 (by omega) h.ct l4), (hk _ l5).trans h.cu, hu⟩
end

/-- The list at the editor's place. -/
def EdState.lst (S : EdState) : List (List EditP) × Int := (S.core.undos S.core.place).getD ([], 0)
def EdState.setLst (S : EdState) (g : List (List EditP) × Int) : EdState := { S with core := { S.core with undos := updU S.core.undos S.core.place g } }
/-- There is a list. -/
def EdState.listed (S : EdState) : EdState := S.setLst S.lst
/-- What flush does with the list. -/
def flushG (on : Bool) (g : List (List EditP) × Int) (put : List EditP) : List (List EditP) × Int :=
  if on = true ∧ g.1 ≠ [] then (g.1.dropLast ++ [g.1.getLast?.getD [] ++ put], g.2 + put.length) else (g.1 ++ [put], g.2 + put.length)
def EdState.flushed (S : EdState) (on : Bool) : EdState := if S.put = [] then S else { S.setLst (flushG on S.lst S.put) with put := [] }
/-- A command ends. -/
def EdState.unarg (S : EdState) : EdState := { S with f := { S.f with given := false, minus := false, arg := -1 } }
def EdState.ended (S : EdState) (err : Int) : EdState :=
  let S1 : EdState := { S with f := { S.f with inn := false } }
  let S2 := if S.f.argues = false ∨ err ≠ 0 then S1.unarg else S1
  if err ≠ 0 then { S2 with core := { S.was with last := 0, yf := 0, yt := 0 }, bells := S.bells + 1, put := [] }
  else
    let types := S.f.cls = 3 ∧ S.f.whole = true
    let S3 := S2.flushed (decide types && S.core.run)
    let S4 : EdState := { S3 with core := { S3.core with run := decide types && (decide (S.put ≠ []) || S.core.run), last := S.f.cls } }
    if S.f.cls = 2 then S4 else { S4 with core := { S4.core with yf := 0, yt := 0 } }
/-- Runes are put in the place of others. -/
def EdState.bufd (S : EdState) (f t : Nat) (l : List Int) : EdState :=
  { S with core := { S.core with text := S.core.text.take f ++ l ++ S.core.text.drop t, point := newPoint S.core.point f t l.length, mark := newMark S.core.mark f t l.length } }
def EdState.roomed (S : EdState) : EdState :=
  if 16384 ≤ S.lst.2 + S.put.length then { S.setLst ([], 0) with core := { (S.setLst ([], 0)).core with run := false }, put := [] } else S.listed
def EdState.replaced (S : EdState) (f t : Nat) (l : List Int) : EdState :=
  if t - f + l.length = 0 then S.bufd f t l else { (S.bufd f t l).roomed with put := (S.bufd f t l).roomed.put ++ [((f : Int), (S.core.text.drop f).take (t - f), l)] }
end Go.Proofs.Ytbhklkolkclflaa
