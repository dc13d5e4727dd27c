/- The law EditorUndoes: scripts as they lie in memory; the editor's calls, whatever they leave. -/
import Derived.Test.YtbhklkolkclflaaGreatDoorP5
import Derived.Test.YtbhklkolkclflaaGreatDoorE35
import Derived.Test.YtbhklkolkclflaaGreatDoorL1
namespace Go.Proofs.YtbhklkolkclflaaGreatDoor
open Go.RowKit

/-- A part of a command; a command. -/
structure PartP where
  ki : Int
  A : Int
  B : Int
  back : Bool
  text : List Int
abbrev CmdP := List PartP × Int

def PartR (W : World) (g off : Nat) (p : PartP) : Prop :=
  W.cell? ⟨g, off, none⟩ = some (.int .i64 p.ki) ∧ W.cell? ⟨g, off + 1, none⟩ = some (.int .i64 p.A) ∧ W.cell? ⟨g, off + 2, none⟩ = some (.int .i64 p.B) ∧ W.cell? ⟨g, off + 3, none⟩ = some (.bool p.back) ∧ ∃ a c, W.cell? ⟨g, off + 4, none⟩ = some (.slice a p.text.length c) ∧ Sl W 1 a p.text.length c (runes p.text)
def PartsR (W : World) (a : Option Addr) (ps : List PartP) : Prop := ∀ j (h : j < ps.length), ∃ g off, a = some ⟨g, off, none⟩ ∧ PartR W g (off + j * 5) ps[j]
def CmdR (W : World) (g off : Nat) (c : CmdP) : Prop := ∃ a cc, W.cell? ⟨g, off, none⟩ = some (.slice a c.1.length cc) ∧ PartsR W a c.1 ∧ W.cell? ⟨g, off + 1, none⟩ = some (.int .i64 c.2)
def ScriptR (W : World) (a : Option Addr) (cs : List CmdP) : Prop := ∀ j (h : j < cs.length), ∃ g off, a = some ⟨g, off, none⟩ ∧ CmdR W g (off + j * 2) cs[j]
/-- How many parts a script has. -/
def partsOf (cs : List CmdP) : Nat := (cs.map fun c => c.1.length).sum

theorem cell_stay {W W' : World} (hf : Fr nob W W') {a : Addr} {v : Value} (h : W.cell? a = some v) : W'.cell? a = some v := by
  have hb : a.block < W.heap.size := by
    rcases Nat.lt_or_ge a.block W.heap.size with h1 | h1
    · exact h1
    · simp [World.cell?, Array.getElem?_eq_none h1] at h
  rw [World.cell?_of_block (w := W) (a := a) (hf.blk a.block hb (fun h => h))]
  exact h
section
variable {W W' : World}
theorem PartR.stay {g off : Nat} {p : PartP} (h : PartR W g off p) (hf : Fr nob W W') : PartR W' g off p := by
  obtain ⟨h0, h1, h2, h3, a, c, h4, h5⟩ := h
  exact ⟨cell_stay hf h0, cell_stay hf h1, cell_stay hf h2, cell_stay hf h3, a, c, cell_stay hf h4, h5.oldN hf⟩
theorem PartsR.stay {a : Option Addr} {ps : List PartP} (h : PartsR W a ps) (hf : Fr nob W W') : PartsR W' a ps := fun j hj => by
  obtain ⟨g, off, h1, h2⟩ := h j hj
  exact ⟨g, off, h1, h2.stay hf⟩
theorem ScriptR.stay {a : Option Addr} {cs : List CmdP} (h : ScriptR W a cs) (hf : Fr nob W W') : ScriptR W' a cs := fun j hj => by
  obtain ⟨g, off, h1, b, cc, h2, h3, h4⟩ := h j hj
  exact ⟨g, off, h1, b, cc, cell_stay hf h2, h3.stay hf, cell_stay hf h4⟩
end
theorem partsOf_take {cs : List CmdP} {k : Nat} (hk : k < cs.length) : partsOf (cs.take (k + 1)) = partsOf (cs.take k) + cs[k].1.length := by
  unfold partsOf
  rw [List.take_succ_eq_append_getElem hk, List.map_append, List.sum_append]
  simp only [List.map_cons, List.map_nil, List.sum_cons, List.sum_nil, Nat.add_zero]
theorem partsOf_le (cs : List CmdP) (k : Nat) : partsOf (cs.take k) ≤ partsOf cs := by
  have h : partsOf cs = partsOf (cs.take k) + partsOf (cs.drop k) := by
    unfold partsOf
    rw [← List.sum_append, ← List.map_append, List.take_append_drop]
  omega

section
variable {Z Z' : Nat → Prop} {w w' : World} {e : Nat} {S : EdState}
theorem EdL.mono (x : EdL Z w e S) (h : ∀ y, Z' y → Z y) : EdL Z' w e S := by
  obtain ⟨κ, h1, h2, h3⟩ := x
  exact ⟨κ, h1, fun y hy => h2 y (h y hy), h3⟩
/-- A law's call that leaves the editor one of several. -/
def EdGoE (Z : Nat → Prop) (w : World) (e : Nat) (v : Value) (Q : EdState → Prop) (x : Ending) (w' : World) : Prop :=
  x = .returned v ∧ ∃ S', Q S' ∧ EdL Z w' e S' ∧ Fr (wr w (fun y => ¬ Z y)) w w'
theorem EdL.callE {f : FuncId} {args : Array Value} {v : Value} {Q : EdState → Prop} (x : EdL Z w e S)
    (h : ∀ κ i b r k tm um h bl was putv, EdAt w κ i e b r k tm um h bl was putv S → Calls Tryz.prog f args w fun y w' => y = .returned v ∧ ∃ S', Q S' ∧ ∃ κ', EdRep w' κ' e S' ∧ (∀ y, y < w.heap.size → κ' y = κ y) ∧ Fr (edM w κ) w w') : Calls Tryz.prog f args w (EdGoE Z w e v Q) := by
  obtain ⟨κ, ⟨i, b, r, k, tm, um, hh, bl, was, putv, y⟩, h2, h3⟩ := x
  refine (h κ i b r k tm um hh bl was putv y).mono ?_
  rintro z w' ⟨rfl, S', hQ, κ', h4, h5, h6⟩
  refine ⟨rfl, S', hQ, ⟨paint κ' w'.heap.size (0, 0), h4.stay (Fr.refl nob w') (NR.nob _) (fun _ h _ => h.elim) (paint_old _ _ _), fun y hy => ?_, paint_new _ _ _⟩, h6.mono (fun y _ hy => ⟨fun hz => hy.1 (h2 y hz).1, hy.2⟩)⟩
  have h7 := (h2 y hy).2
  have h8 : y < w'.heap.size := Nat.lt_of_lt_of_le h7 h6.size
  exact ⟨by rw [paint_old _ _ _ _ h8, h5 y h7]; exact (h2 y hy).1, h8⟩
end

/-- Within a command, between commands. -/
structure CmdI (S : EdState) (T0 : List Int) (m b : Nat) : Prop where
  now : Inv S T0 m
  was : Inv S.wasS T0 m
  inn : S.f.inn = true
  b0 : 0 ≤ S.bells
  b1 : S.bells ≤ b
structure RestI (S : EdState) (T0 : List Int) (m b : Nat) : Prop where
  now : Inv S T0 m
  put : S.put = []
  inn : S.f.inn = false
  b0 : 0 ≤ S.bells
  b1 : S.bells ≤ b

section
variable {Z : Nat → Prop} {w : World} {e : Nat} {S : EdState} {T0 : List Int} {m b : Nat}
theorem U_begin (x : EdL Z w e S) (h : RestI S T0 m b) : Calls Tryz.prog 24 #[.pointer (some ⟨e, 0, none⟩)] w (EdGoE Z w e (.int .i64 0) fun S' => S' = S.begun ∧ CmdI S' T0 m b) :=
  (x.call fun _ _ _ _ _ _ _ _ _ _ _ y => ed_begin _ _ _ _ y.rep h.now.ok.core h.inn).mono fun _ _ ⟨h1, h2, h3⟩ => ⟨h1, _, ⟨rfl, ⟨(h.now.begun h.put).1, (h.now.begun h.put).2, rfl, h.b0, h.b1⟩⟩, h2, h3⟩
theorem U_edit (x : EdL Z w e S) (h : CmdI S T0 m b) (p : PartP) (hki : p.ki ≠ 13) (a : Option Addr) (n c : Nat) (hn : p.text.length = n) (hl : Sl w 1 a n c (runes p.text)) :
    Calls Tryz.prog 25 #[.pointer (some ⟨e, 0, none⟩), .agg #[.int .i64 p.ki, .int .i64 p.A, .int .i64 p.B, .bool p.back, .slice a n c]] w (EdGoE Z w e (.tuple #[]) fun S' => CmdI S' T0 (m + 1) b) := by
  refine x.callE fun κ i b r k tm um hh bl was putv y => ?_
  have hpt : S.core.point ≤ S.core.text.length := by
    obtain ⟨_, _, _, _, _, _, _, _, _, _, _, _, _, _, h3, _⟩ := y.core.buf
    exact h3
  refine (edit_any w κ i e b r k tm um hh bl was putv S p.A p.B p.back p.text a n c ⟨y, h.now.ok, h.inn, h.now.over, h.now.sm, hn, hl⟩ p.ki hki).mono ?_
  rintro z w' ⟨rfl, S', he, κ', putv', r', g1, g2, g3⟩
  obtain ⟨i1, i2⟩ := h.now.edit hpt he
  exact ⟨rfl, S', ⟨i1, (i2.wasS h.was).more (Nat.le_succ m), i2.inn.trans h.inn, by rw [i2.bells]; exact h.b0, by rw [i2.bells]; exact h.b1⟩, κ', g1.rep, g2, g3⟩
theorem U_end (x : EdL Z w e S) (h : CmdI S T0 m b) (hb : b < 9223372036854775807) (err : Int) : Calls Tryz.prog 26 #[.pointer (some ⟨e, 0, none⟩), .int .i64 err] w (EdGoE Z w e (.int .i64 err) fun S' => RestI S' T0 m (b + 1)) := by
  have hb1 := h.b1
  have hb0 := h.b0
  by_cases h0 : err = 0
  · subst h0
    obtain ⟨h1, h2, h3⟩ := h.now.endOk
    have h4 := S.endOk_core.2.2.2.2.2.2.2.2.2.2.1
    exact (x.call fun _ _ _ _ _ _ _ _ _ _ _ y => ed_end_ok _ _ _ _ _ _ _ _ _ _ _ _ _ _ y h.now.ok h.inn h.now.run).mono fun _ _ ⟨g1, g2, g3⟩ => ⟨g1, _, ⟨h1, h2, h3, by rw [h4]; exact hb0, by rw [h4]; omega⟩, g2, g3⟩
  · obtain ⟨h1, h2, h3⟩ := h.was.endErr
    exact (x.call fun _ _ _ _ _ _ _ _ _ _ _ y => ed_end_err _ _ _ _ _ _ _ _ _ _ _ _ _ _ y h.inn err h0 hb0 (by omega)).mono fun _ _ ⟨g1, g2, g3⟩ => ⟨g1, _, ⟨h1, h2, h3, by show 0 ≤ S.bells + 1; omega, by show S.bells + 1 ≤ ((b + 1 : Nat) : Int); omega⟩, g2, g3⟩
/-- How many groups a law reads. -/
theorem U_state (x : EdL Z w e S) (h : RestI S T0 m b) : Calls Tryz.prog 27 #[.pointer (some ⟨e, 0, none⟩)] w fun y w' =>
    ∃ x0 x1 x2 x3 x4 x5 x6 x7 x8 x9 x10 x11 x12 x13 x15 x16, y = .returned (.agg #[x0, x1, x2, x3, x4, x5, x6, x7, x8, x9, x10, x11, x12, x13, .int .i64 S.lst.1.length, x15, x16]) ∧ Fr nob w w' := by
  obtain ⟨κ, h1, _⟩ := x
  have hx : ∀ V, Fr nob w V → EdRep V κ e S := fun V hV => h1.stay hV (NR.nob _) (fun _ h _ => h.elim) (fun _ _ => rfl)
  refine (ed_state_rest w κ e S h1 h.inn (fun v w => RowsR w v (killsOf S.core.ents S.core.rpl)) (fun v _ => v = .slice none 0 0) S.lst.1.length (fun v w w' M hr hf hM => ?_) (fun _ _ _ _ h _ _ => h) (fun v _ ⟨a, c, _, h, _⟩ => ⟨a, _, c, h⟩) (fun v _ h => ⟨_, _, _, h⟩) (fun V hV => ?_) (fun V hV => ?_) (fun V hV => ?_)).mono ?_
  · refine hr.stay hf (fun b c fr hb hm => ?_) (fun b c fr hb hm => ?_)
    · have := hM b c _ fr hm hb
      exact absurd this (by decide)
    · have := hM b c _ fr hm hb
      exact absurd this (by decide)
  · exact ed_kills V κ e S (hx V hV) h.now.sm
  · exact (ed_saved_none V κ e S (hx V hV) h.now.hist h.now.place).mono fun _ _ h => ⟨_, h.1, rfl, h.2⟩
  · exact ed_undoes_rest V κ e S (hx V hV) h.now.ok h.inn
  · rintro y w' ⟨lv, kv, sv, rfl, _, _, _, hf⟩
    exact ⟨_, _, _, _, _, _, _, _, _, _, _, _, _, _, _, _, rfl, hf⟩
/-- The last group is taken back; a law's round. -/
theorem U_undo (x : EdL Z w e S.begun) (h : RestI S T0 m b) (pre : List (List EditP)) (g : List EditP) (hg : S.lst.1 = pre ++ [g]) :
    Calls Tryz.prog 28 #[.pointer (some ⟨e, 0, none⟩)] w (EdGoE Z w e (.int .i64 0) fun S' => CmdI S' T0 m b ∧ S'.lst.1 = pre ∧ S'.put = []) := by
  have hc := h.now.begun h.put
  refine x.callE fun κ i b r k tm um hh bl was putv y => ?_
  refine (ed_undo_some w κ i e b r k tm um hh bl was putv S.begun y hc.1.ok rfl pre g hg).mono ?_
  rintro z w' ⟨s, ⟨rfl, κ', putv', g1, g2, g3⟩, hs⟩
  have hi := hc.1.undone (.inr ⟨pre, g, s, hg, rfl, hs⟩)
  refine ⟨rfl, _, ⟨⟨hi, (show Keeps S.begun ((S.begun.flushed false).undoneTo pre s) from ⟨rfl, rfl, rfl, rfl, rfl, rfl⟩).wasS hc.2, rfl, h.b0, h.b1⟩, ?_, rfl⟩, κ', g1.rep, g2, g3⟩
  have hl : ((S.begun.flushed false).undoneTo pre s).lst = (pre, (total pre : Int)) := EdState.lst_of (if_pos rfl)
  rw [hl]
end
end Go.Proofs.YtbhklkolkclflaaGreatDoor
