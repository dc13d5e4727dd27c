/- Package editor: what an editor's core is. -/
import Derived.Test.YtbhklkolkclflaaU10
import Derived.Test.YtbhklkolkclflaaB9
import Derived.Test.YtbhklkolkclflaaK1
import Derived.Test.YtbhklkolkclflaaH1
import Derived.Test.YtbhklkolkclflaaM2
namespace Go.Proofs.Ytbhklkolkclflaa
open Go.RowKit

/-- What a command that is refused leaves as it was. -/
structure CoreS where
  text : List Int
  point : Int
  mark : Int
  ents : List (List Int)
  rpl : Nat
  place : Int
  texts : Int → Option ByteArray
  undos : Int → Option (List (List EditP) × Int)
  mode : Int
  over : Bool
  last : Int
  yf : Int
  yt : Int
  res : Int
  run : Bool

/-- A core by value. -/
def coreCells (b r k um : Nat) (S : CoreS) : Array Value :=
  #[.pointer (some ⟨b, 0, none⟩), .pointer (some ⟨r, 0, none⟩), .pointer (some ⟨k, 0, none⟩), .map (some um), .int .i64 S.mode, .bool S.over, .int .i64 S.last, .int .i64 S.yf, .int .i64 S.yt, .int .i64 S.res, .bool S.run]

/-- Blocks by what they belong to. -/
abbrev Col := Nat → Nat × Nat

/-- The lists of undo by place. -/
def UndosAt (w : World) (κ : Col) (i um : Nat) (u : Int → Option (List (List EditP) × Int)) : Prop :=
  ∃ f : Int → Option Value, MapRep w um f ∧ (∀ p, u p = none → f p = none) ∧
    ∀ p g, u p = some g → 0 ≤ p ∧ ∃ l, f p = some (.pointer (some ⟨l, 0, none⟩)) ∧ ListRep w (fun b => κ b = (i, 5 + p.toNat)) l g.1 [] 0 g.2

structure CoreAt (w : World) (κ : Col) (i b r k tm um : Nat) (S : CoreS) : Prop where
  cb : κ b = (i, 0)
  buf : BufRep w b S.text S.point S.mark
  cr : κ r = (i, 1)
  ring : RingRep w r S.ents S.rpl
  ck : κ k = (i, 2)
  walk : w.heap[k]? = some (.cells #[.int .i64 S.place, .map (some tm)] 87 (0, 0))
  ct : κ tm = (i, 3)
  texts : MapRep w tm (fun p => (S.texts p).map Value.string)
  cu : κ um = (i, 4)
  undos : UndosAt w κ i um S.undos

/-- All that a list holds is there. -/
theorem EdS.ltF {w : World} {v : Value} {es : List EditP} (h : EdS w v es) : ∀ b, rowOf v b → b < w.heap.size := h.lt
theorem ListRep.within {w : World} {F : Nat → Prop} {l : Nat} {gs : List (List EditP)} {now : List EditP} {opn edits : Int} (h : ListRep w F l gs now opn edits) :
    ListRep w (fun b => F b ∧ b < w.heap.size) l gs now opn edits := by
  obtain ⟨gv, nv, vs, h1, h2⟩ := h.ex
  refine ⟨⟨gv, nv, vs, h1, h2.grp, h2.now, fun k hk => ?_, fun b hb => ⟨h2.mg b hb, ?_⟩, fun b hb => ⟨h2.mn b hb, h2.now.lt b hb⟩⟩, h.mem, blk_lt h1⟩
  · obtain ⟨v, g1, g2, g3⟩ := h2.each k hk
    exact ⟨v, g1, g2, fun b hb => ⟨⟨(g3 b hb).1, g2.lt b hb⟩, (g3 b hb).2⟩⟩
  · obtain ⟨c, fr, hc⟩ := h2.grp.own.rowTy hb
    exact blk_lt hc

section
variable {w w' : World} {κ κ' : Col} {i b r k tm um : Nat} {S : CoreS} {M : Nat → Prop}
theorem UndosAt.stay {u : Int → Option (List (List EditP) × Int)} (h : UndosAt w κ i um u) (hf : Fr M w w') (hr : NR w M) (hm : ∀ b, M b → b < w.heap.size → (κ b).1 ≠ i) (hu : ¬ M um) (hk : ∀ b, b < w.heap.size → κ' b = κ b) : UndosAt w' κ' i um u := by
  obtain ⟨f, h1, h2, h3⟩ := h
  refine ⟨f, h1.stay hf hu, h2, fun p g hp => ?_⟩
  obtain ⟨h0, l, h4, h5⟩ := h3 p g hp
  refine ⟨h0, l, h4, ?_⟩
  have h6 := h5.within.stay (M := M) hf hr (fun b hb hM => hm b hM hb.2 (by rw [hb.1]))
  exact h6.mono (fun b hb => by rw [hk b hb.2]; exact hb.1)

/-- What is written lies elsewhere; the colours of what was there are as before. -/
theorem CoreAt.stay (h : CoreAt w κ i b r k tm um S) (hf : Fr M w w') (hr : NR w M) (hm : ∀ b, M b → b < w.heap.size → (κ b).1 ≠ i) (hk : ∀ b, b < w.heap.size → κ' b = κ b) : CoreAt w' κ' i b r k tm um S := by
  have hn : ∀ x j, κ x = (i, j) → x < w.heap.size → ¬ M x := fun x j hx hl hM => hm x hM hl (by rw [hx])
  have l1 := h.buf.lt
  have l2 := h.ring.lt
  have l3 := blk_lt h.walk
  have l4 := h.texts.lt
  obtain ⟨f, hu, _⟩ := h.undos
  have l5 := hu.lt
  exact ⟨(hk _ l1).trans h.cb, h.buf.stay hf (hn _ _ h.cb l1) hr, (hk _ l2).trans h.cr, h.ring.stay hf hr (hn _ _ h.cr l2), (hk _ l3).trans h.ck, hf.keep h.walk (hn _ _ h.ck l3), (hk _ l4).trans h.ct,
    h.texts.stay hf (hn _ _ h.ct l4), (hk _ l5).trans h.cu, h.undos.stay hf hr hm (hn _ _ h.cu l5) hk⟩
theorem CoreAt.stayN (h : CoreAt w κ i b r k tm um S) (hf : Fr nob w w') (hk : ∀ b, b < w.heap.size → κ' b = κ b) : CoreAt w' κ' i b r k tm um S := h.stay hf (NR.nob w) (fun _ h => h.elim) hk
end

/-- New blocks are given a colour. -/
def paint (κ : Col) (n : Nat) (c : Nat × Nat) : Col := fun b => if b < n then κ b else c
theorem paint_old (κ : Col) (n : Nat) (c : Nat × Nat) : ∀ b, b < n → paint κ n c b = κ b := fun _ hb => if_pos hb
theorem paint_new (κ : Col) (n : Nat) (c : Nat × Nat) (b : Nat) (hb : n ≤ b) : paint κ n c b = c := if_neg (by omega)
end Go.Proofs.Ytbhklkolkclflaa
