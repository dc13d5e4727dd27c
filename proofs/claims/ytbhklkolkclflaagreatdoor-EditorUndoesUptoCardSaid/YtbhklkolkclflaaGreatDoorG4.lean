/- Package editor: what an editor's core is. Package editor: twin. Package editor: what an editor is; none, part. Package editor: an editor, whole; Begin. Package editor: Begin. Package editor: begins. Package editor: an editor laid open, and how its parts change. Package editor: New. Plain laws: edits of a line, done and taken back. Package editor: list. Plain: what an editor's state keeps. -/
import Derived.Test.YtbhklkolkclflaaGreatDoorG2
import Derived.Test.YtbhklkolkclflaaGreatDoorG1
import Derived.Test.YtbhklkolkclflaaGreatDoorG3
/- E1: Package editor: what an editor's core is. -/
namespace Go.Proofs.YtbhklkolkclflaaGreatDoor
open Go.RowKit

/-- What a command that is refused leaves as it was. -/
structure CoreS where
  text : List Int
  point : Int
  mark : Int
  ents : List (List Int)
  rpl : Nat
  place : Int
  texts : Int → Option ByteArray
  undos : Int → Option (List (List EditP) × Int)
  mode : Int
  over : Bool
  last : Int
  yf : Int
  yt : Int
  res : Int
  run : Bool

/-- A core by value. -/
def coreCells (b r k um : Nat) (S : CoreS) : Array Value :=
  #[.pointer (some ⟨b, 0, none⟩), .pointer (some ⟨r, 0, none⟩), .pointer (some ⟨k, 0, none⟩), .map (some um), .int .i64 S.mode, .bool S.over, .int .i64 S.last, .int .i64 S.yf, .int .i64 S.yt, .int .i64 S.res, .bool S.run]

/-- Blocks by what they belong to. -/
abbrev Col := Nat → Nat × Nat

/-- The lists of undo by place. -/
def UndosAt (w : World) (κ : Col) (i um : Nat) (u : Int → Option (List (List EditP) × Int)) : Prop :=
  ∃ f : Int → Option Value, MapRep w um f ∧ (∀ p, u p = none → f p = none) ∧
    ∀ p g, u p = some g → 0 ≤ p ∧ ∃ l, f p = some (.pointer (some ⟨l, 0, none⟩)) ∧ ListRep w (fun b => κ b = (i, 5 + p.toNat)) l g.1 [] 0 g.2

structure CoreAt (w : World) (κ : Col) (i b r k tm um : Nat) (S : CoreS) : Prop where
  cb : κ b = (i, 0)
  buf : BufRep w b S.text S.point S.mark
  cr : κ r = (i, 1)
  ring : RingRep w r S.ents S.rpl
  ck : κ k = (i, 2)
  walk : w.heap[k]? = some (.cells #[.int .i64 S.place, .map (some tm)] 160 (0, 0))
  ct : κ tm = (i, 3)
  texts : MapRep w tm (fun p => (S.texts p).map Value.string)
  cu : κ um = (i, 4)
  undos : UndosAt w κ i um S.undos

/-- All that a list holds is there. -/
theorem EdS.ltF {w : World} {v : Value} {es : List EditP} (h : EdS w v es) : ∀ b, rowOf v b → b < w.heap.size := h.lt
theorem ListRep.within {w : World} {F : Nat → Prop} {l : Nat} {gs : List (List EditP)} {now : List EditP} {opn edits : Int} (h : ListRep w F l gs now opn edits) :
    ListRep w (fun b => F b ∧ b < w.heap.size) l gs now opn edits := by
  obtain ⟨gv, nv, vs, h1, h2⟩ := h.ex
  refine ⟨⟨gv, nv, vs, h1, h2.grp, h2.now, fun k hk => ?_, fun b hb => ⟨h2.mg b hb, ?_⟩, fun b hb => ⟨h2.mn b hb, h2.now.lt b hb⟩⟩, h.mem, blk_lt h1⟩
  · obtain ⟨v, g1, g2, g3⟩ := h2.each k hk
    exact ⟨v, g1, g2, fun b hb => ⟨⟨(g3 b hb).1, g2.lt b hb⟩, (g3 b hb).2⟩⟩
  · obtain ⟨c, fr, hc⟩ := h2.grp.own.rowTy hb
    exact blk_lt hc

section
variable {w w' : World} {κ κ' : Col} {i b r k tm um : Nat} {S : CoreS} {M : Nat → Prop}
theorem UndosAt.stay {u : Int → Option (List (List EditP) × Int)} (h : UndosAt w κ i um u) (hf : Fr M w w') (hr : NR w M) (hm : ∀ b, M b → b < w.heap.size → (κ b).1 ≠ i) (hu : ¬ M um) (hk : ∀ b, b < w.heap.size → κ' b = κ b) : UndosAt w' κ' i um u := by
  obtain ⟨f, h1, h2, h3⟩ := h
  refine ⟨f, h1.stay hf hu, h2, fun p g hp => ?_⟩
  obtain ⟨h0, l, h4, h5⟩ := h3 p g hp
  refine ⟨h0, l, h4, ?_⟩
  have h6 := h5.within.stay (M := M) hf hr (fun b hb hM => hm b hM hb.2 (by rw [hb.1]))
  exact h6.mono (fun b hb => by rw [hk b hb.2]; exact hb.1)

/-- What is written lies elsewhere; the colours of what was there are as before. -/
theorem CoreAt.stay (h : CoreAt w κ i b r k tm um S) (hf : Fr M w w') (hr : NR w M) (hm : ∀ b, M b → b < w.heap.size → (κ b).1 ≠ i) (hk : ∀ b, b < w.heap.size → κ' b = κ b) : CoreAt w' κ' i b r k tm um S := by
  have hn : ∀ x j, κ x = (i, j) → x < w.heap.size → ¬ M x := fun x j hx hl hM => hm x hM hl (by rw [hx])
  have l1 := h.buf.lt
  have l2 := h.ring.lt
  have l3 := blk_lt h.walk
  have l4 := h.texts.lt
  obtain ⟨f, hu, _⟩ := h.undos
  have l5 := hu.lt
  exact ⟨(hk _ l1).trans h.cb, h.buf.stay hf (hn _ _ h.cb l1) hr, (hk _ l2).trans h.cr, h.ring.stay hf hr (hn _ _ h.cr l2), (hk _ l3).trans h.ck, hf.keep h.walk (hn _ _ h.ck l3), (hk _ l4).trans h.ct,
    h.texts.stay hf (hn _ _ h.ct l4), (hk _ l5).trans h.cu, h.undos.stay hf hr hm (hn _ _ h.cu l5) hk⟩
theorem CoreAt.stayN (h : CoreAt w κ i b r k tm um S) (hf : Fr nob w w') (hk : ∀ b, b < w.heap.size → κ' b = κ b) : CoreAt w' κ' i b r k tm um S := h.stay hf (NR.nob w) (fun _ h => h.elim) hk
end

/-- New blocks are given a colour. -/
def paint (κ : Col) (n : Nat) (c : Nat × Nat) : Col := fun b => if b < n then κ b else c
theorem paint_old (κ : Col) (n : Nat) (c : Nat × Nat) : ∀ b, b < n → paint κ n c b = κ b := fun _ hb => if_pos hb
theorem paint_new (κ : Col) (n : Nat) (c : Nat × Nat) (b : Nat) (hb : n ≤ b) : paint κ n c b = c := if_neg (by omega)
end Go.Proofs.YtbhklkolkclflaaGreatDoor
/- E2: Package editor: twin. -/
namespace Go.Proofs.YtbhklkolkclflaaGreatDoor
open Go.RowKit

/-- A core that can be copied. -/
def CoreOk (S : CoreS) : Prop := ∀ p g, S.undos p = some g → Smalls g.1

/-- A core of its own. -/
def Twinned (w : World) (κ : Col) (i' : Nat) (S : CoreS) (e : Ending) (w' : World) : Prop :=
  ∃ b r k tm um κ', e = .returned (.agg (coreCells b r k um S)) ∧ (∀ x, x < w.heap.size → κ' x = κ x) ∧ CoreAt w' κ' i' b r k tm um S ∧ Fr nob w w'

/-- Only blocks that are no rows are written. -/
def NoRows (W : World) (M : Nat → Prop) : Prop := ∀ b, M b → ∀ c T fr, W.heap[b]? ≠ some (.cells c T fr)

/-- What stands while twin goes through its maps: the core under way, its buffer, ring and walk. -/
structure TwB (w : World) (b r k um T kc : Nat) (S : CoreS) (W : World) : Prop where
  x : W.heap[w.heap.size]? = some (.cells #[.pointer (some ⟨b, 0, none⟩), .pointer (some ⟨r, 0, none⟩), .pointer (some ⟨kc, 0, none⟩), .map (some um), .int .i64 S.mode, .bool S.over, .int .i64 S.last, .int .i64 S.yf, .int .i64 S.yt, .int .i64 S.res, .bool S.run] 82 (0, 0))
  y : ∃ c : Array Value, c.size = 11 ∧ W.heap[w.heap.size + 1]? = some (.cells c 82 (0, 0))
  buf : BufRep W b S.text S.point S.mark
  ring : RingRep W r S.ents S.rpl
  walk : W.heap[k]? = some (.cells #[.int .i64 S.place, .map (some T)] 160 (0, 0))
  fr : Fr nob w W
theorem TwB.stay {w W W' : World} {M : Nat → Prop} {b r k um T kc : Nat} {S : CoreS} (h : TwB w b r k um T kc S W) (hf : Fr M W W') (hM : NoRows W M) (hw : ∀ b, M b → w.heap.size ≤ b) : TwB w b r k um T kc S W' := by
  have hn : ∀ b c T fr, W.heap[b]? = some (.cells c T fr) → ¬ M b := fun b c T fr e hb => hM b hb c T fr e
  have hr : NR W M := fun b c fr e => hn b c _ fr e
  obtain ⟨c, hc, hy⟩ := h.y
  obtain ⟨cb, hcb⟩ := h.buf.blk
  obtain ⟨cr, hcr, _⟩ := h.ring
  exact ⟨hf.keep h.x (hn _ _ _ _ h.x), ⟨c, hc, hf.keep hy (hn _ _ _ _ hy)⟩, h.buf.stay hf (hn _ _ _ _ hcb) hr, h.ring.stay hf hr (hn _ _ _ _ hcr), hf.keep h.walk (hn _ _ _ _ h.walk), h.fr.trans hf (fun b hb hm => absurd (hw b hm) (by omega))⟩
theorem TwB.n {w W W' : World} {b r k um T kc : Nat} {S : CoreS} (h : TwB w b r k um T kc S W) (hf : Fr nob W W') : TwB w b r k um T kc S W' := h.stay hf (fun _ h => h.elim) (fun _ h => h.elim)

/-- What a map holds after some entries of another were put to it. -/
def Visited (es : Array MapEntry) (seen : Array Nat) (f : Int → Option Value) : Prop :=
  (∀ e ∈ es.toList, seen.contains e.born = true → ∃ p, e.key = .int .i64 p ∧ f p = some e.val) ∧ ∀ p v, f p = some v → ∃ e ∈ es.toList, seen.contains e.born = true ∧ e.key = .int .i64 p ∧ e.val = v

theorem Visited.step {es : Array MapEntry} {clock : Nat} {seen : Array Nat} {f g : Int → Option Value} (hE : MapEs es clock g) (h : Visited es seen f) (e : MapEntry) (he : e ∈ es.toList) (p : Int) (hp : e.key = .int .i64 p) :
    Visited es (seen.push e.born) (upd f p e.val) := by
  refine ⟨fun x hx hs => ?_, fun q v hq => ?_⟩
  · rw [contains_push, Bool.or_eq_true] at hs
    by_cases hxe : x.born = e.born
    · have : x = e := born_inj hE.st.2.1 hx he hxe
      subst this
      exact ⟨p, hp, by simp [upd]⟩
    · rcases hs with hs | hs
      · obtain ⟨q, h1, h2⟩ := h.1 x hx hs
        refine ⟨q, h1, ?_⟩
        have hqp : q ≠ p := fun e1 => by
          have hn := List.pairwise_iff_getElem.1 hE.st.2.2
          obtain ⟨i, hi, rfl⟩ := List.mem_iff_getElem.1 hx
          obtain ⟨j, hj, rfl⟩ := List.mem_iff_getElem.1 he
          rcases Nat.lt_trichotomy i j with h3 | h3 | h3
          · have := hn i j (by simpa using hi) (by simpa using hj) h3
            simp only [List.getElem_map] at this
            exact this (by rw [h1, hp, e1])
          · subst h3
            exact hxe rfl
          · have := hn j i (by simpa using hj) (by simpa using hi) h3
            simp only [List.getElem_map] at this
            exact this (by rw [h1, hp, e1])
        simp [upd, hqp, h2]
      · exact absurd (by simpa using hs) hxe
  · unfold upd at hq
    split at hq
    · rename_i e1
      subst e1
      injection hq with hq
      exact ⟨e, he, by rw [contains_push]; simp, hp, hq⟩
    · obtain ⟨x, h1, h2, h3⟩ := h.2 q v hq
      exact ⟨x, h1, by rw [contains_push, h2]; rfl, h3⟩
theorem Visited.all {es : Array MapEntry} {clock : Nat} {seen : Array Nat} {f g : Int → Option Value} (hE : MapEs es clock g) (h : Visited es seen f) (h0 : (leftOf es seen).size = 0) : f = g := by
  funext p
  cases hg : g p with
  | some v =>
    obtain ⟨e, h1, h2, h3⟩ := hE.all p v hg
    obtain ⟨q, h4, h5⟩ := h.1 e h1 (all_seen es seen h0 e h1)
    rw [h2] at h4
    injection h4 with _ h4
    rw [h4, h5, h3]
  | none =>
    cases hf : f p with
    | none => rfl
    | some v =>
      obtain ⟨e, h1, _, h3, _⟩ := h.2 p v hf
      obtain ⟨q, h4, h5⟩ := hE.key e h1
      rw [h3] at h4
      injection h4 with _ h4
      rw [← h4, hg] at h5
      cases h5

theorem ListRep.stayC {w w' : World} {F M : Nat → Prop} {l : Nat} {gs : List (List EditP)} {now : List EditP} {opn edits : Int} (h : ListRep w F l gs now opn edits) (hf : Fr M w w') (hM : NoRows w M) : ListRep w' F l gs now opn edits := by
  have hn : ∀ b c T fr, w.heap[b]? = some (.cells c T fr) → ¬ M b := fun b c T fr e hb => hM b hb c T fr e
  obtain ⟨gv, nv, vs, h1, h2⟩ := h.ex
  refine ⟨⟨gv, nv, vs, hf.keep h1 (hn _ _ _ _ h1), h2.stay hf (fun b c fr e => hn b c _ fr e) ?_⟩, h.mem⟩
  rintro b _ ⟨c, fr, e | e⟩
  · exact hn _ _ _ _ e
  · exact hn _ _ _ _ e

/-- The clones that were made: each in blocks of its own. -/
def ClonesAt (V : World) (κ : Col) (i : Nat) (u : Int → Option (List (List EditP) × Int)) (f : Int → Option Value) : Prop :=
  ∀ p v, f p = some v → ∃ g l, u p = some g ∧ v = .pointer (some ⟨l, 0, none⟩) ∧ ListRep V (fun b => κ b = (i, 5 + p.toNat)) l g.1 [] 0 g.2
theorem ClonesAt.stay {V V' : World} {M : Nat → Prop} {κ κ' : Col} {i : Nat} {u : Int → Option (List (List EditP) × Int)} {f : Int → Option Value} (h : ClonesAt V κ i u f) (hf : Fr M V V') (hM : NoRows V M) (hk : ∀ b, b < V.heap.size → κ' b = κ b) :
    ClonesAt V' κ' i u f := fun p v hp => by
  obtain ⟨g, l, h1, h2, h3⟩ := h p v hp
  exact ⟨g, l, h1, h2, (h3.within.stayC hf hM).mono (fun b hb => by rw [hk b hb.2]; exact hb.1)⟩
theorem ClonesAt.add {V : World} {κ : Col} {i : Nat} {u : Int → Option (List (List EditP) × Int)} {f : Int → Option Value} (h : ClonesAt V κ i u f) (p : Int) (g : List (List EditP) × Int) (l : Nat) (hu : u p = some g)
    (hl : ListRep V (fun b => κ b = (i, 5 + p.toNat)) l g.1 [] 0 g.2) : ClonesAt V κ i u (upd f p (.pointer (some ⟨l, 0, none⟩))) := fun q v hq => by
  unfold upd at hq
  split at hq
  · rename_i e
    subst e
    injection hq with hq
    exact ⟨g, l, hu, hq.symm, hl⟩
  · exact h q v hq
/-- What was visited has a clone. -/
def Seen (es : Array MapEntry) (seen : Array Nat) (f : Int → Option Value) : Prop := ∀ e ∈ es.toList, seen.contains e.born = true → ∃ p v, e.key = .int .i64 p ∧ f p = some v
theorem Seen.step {es : Array MapEntry} {clock : Nat} {seen : Array Nat} {f g : Int → Option Value} (hE : MapEs es clock g) (h : Seen es seen f) (e : MapEntry) (he : e ∈ es.toList) (p : Int) (hp : e.key = .int .i64 p) (v : Value) : Seen es (seen.push e.born) (upd f p v) := by
  intro x hx hs
  rw [contains_push, Bool.or_eq_true] at hs
  rcases hs with hs | hs
  · obtain ⟨q, u, h1, h2⟩ := h x hx hs
    by_cases hq : q = p
    · exact ⟨q, v, h1, by simp [upd, hq]⟩
    · exact ⟨q, u, h1, by simp [upd, hq, h2]⟩
  · have : x = e := born_inj hE.st.2.1 hx he (by simpa using hs)
    subst this
    exact ⟨p, v, hp, by simp [upd]⟩

theorem Tryz.struct_core : isStruct Tryz.prog 82 = true ∧ (Tryz.prog.info? 82).map (·.size) = some 11 := ⟨by kernel_rfl, by kernel_rfl⟩

/-- The colours of a core that was copied, ahead of its lists. -/
def twinCol (κ : Col) (n i b r k t u : Nat) : Col := fun x => if x < n then κ x else if x = b then (i, 0) else if x = r then (i, 1) else if x = k then (i, 2) else if x = t then (i, 3) else if x = u then (i, 4) else (0, 0)

set_option maxRecDepth 10000 in
set_option maxHeartbeats 2000000 in
theorem core_twin (w : World) (κ : Col) (i i' b r k tm um : Nat) (S : CoreS) (h : CoreAt w κ i b r k tm um S) (hok : CoreOk S) :
    Calls Tryz.prog 82 #[.agg (coreCells b r k um S)] w (Twinned w κ i' S) := by
  have H := Lib.hid h
  have HOK := Lib.hid hok
  clear h hok
  unfold coreCells
  have hB : ∀ V, Fr nob w V → Calls Tryz.prog 168 #[.pointer (some ⟨b, 0, none⟩)] V (BufMade V S.text S.point S.mark) := fun V hV => buf_clone V b _ _ _ (H.out.buf.stayN hV)
  have hR : ∀ V, Fr nob w V → Calls Tryz.prog 111 #[.pointer (some ⟨r, 0, none⟩)] V fun e w' => e = .returned (.pointer (some ⟨V.heap.size, 0, none⟩)) ∧ RingRep w' V.heap.size S.ents S.rpl ∧ Fr nob V w' := fun V hV => ring_clone V r _ _ (H.out.ring.stayN hV)
  have HB := Lib.hid hB
  have HR := Lib.hid hR
  clear hB hR
  go_enter Tryz.func82, Tryz.ntmps82
  go_wp2
  go_cut [11, 14] (fun _ _ W => ∃ b' r' : Nat, Hid (W.heap[w.heap.size]? = some (.cells #[.pointer (some ⟨b', 0, none⟩), .pointer (some ⟨r', 0, none⟩), .pointer (some ⟨k, 0, none⟩), .map (some um), .int .i64 S.mode, .bool S.over, .int .i64 S.last, .int .i64 S.yf, .int .i64 S.yt, .int .i64 S.res, .bool S.run] 82 (0, 0))) ∧
    Hid (∃ c : Array Value, c.size = 11 ∧ W.heap[w.heap.size + 1]? = some (.cells c 82 (0, 0))) ∧ Hid (BufRep W b' S.text S.point S.mark) ∧ Hid (RingRep W r' S.ents S.rpl) ∧ w.heap.size + 2 ≤ b' ∧ b' < r' ∧ Fr nob w W)
  case first =>
    have hx := (heap_alloc_lt (.cells #[.pointer none, .pointer none, .pointer none, .map none, .int .i64 0, .bool false, .int .i64 0, .int .i64 0, .int .i64 0, .int .i64 0, .bool false] 82) (by simp)).trans (heap_alloc_new w (.cells (coreCells b r k um S) 82))
    have hy := heap_alloc_new (w.alloc (.cells (coreCells b r k um S) 82)) (.cells #[.pointer none, .pointer none, .pointer none, .map none, .int .i64 0, .bool false, .int .i64 0, .int .i64 0, .int .i64 0, .int .i64 0, .bool false] 82)
    rw [show (w.alloc (.cells (coreCells b r k um S) 82)).heap.size = w.heap.size + 1 by simp] at hy
    have hf0 : Fr nob w ((w.alloc (.cells (coreCells b r k um S) 82)).alloc (.cells #[.pointer none, .pointer none, .pointer none, .map none, .int .i64 0, .bool false, .int .i64 0, .int .i64 0, .int .i64 0, .int .i64 0, .bool false] 82)) := ((Fr.refl _ _).alloc _).alloc _
    have hsz : ((w.alloc (.cells (coreCells b r k um S) 82)).alloc (.cells #[.pointer none, .pointer none, .pointer none, .map none, .int .i64 0, .bool false, .int .i64 0, .int .i64 0, .int .i64 0, .int .i64 0, .bool false] 82)).heap.size = w.heap.size + 2 := by simp
    unfold coreCells at hx hy hf0 hsz
    refine forget (fun W => Hid (W.heap[w.heap.size]? = some (.cells (coreCells b r k um S) 82 (0, 0))) ∧ Hid (∃ c : Array Value, c.size = 11 ∧ W.heap[w.heap.size + 1]? = some (.cells c 82 (0, 0))) ∧ w.heap.size + 2 ≤ W.heap.size ∧ Fr nob w W) ⟨hx, ⟨_, rfl, hy⟩, by rw [hsz]; exact Nat.le_refl _, hf0⟩ ?_
    clear hx hy hf0 hsz
    rintro W ⟨HX, HY, hsW, hfW⟩
    have hx := HX.out
    unfold coreCells at hx
    have hc := blk_cells hx
    have hz := blk_free hx
    have hlt := blk_lt hx
    have hxk : ∀ V, Fr nob W V → V.heap[w.heap.size]? = some (.cells (coreCells b r k um S) 82 (0, 0)) := fun V hV => hV.keep HX.out (fun h => h)
    have HXK := Lib.hid hxk
    clear hx hxk
    go_region_law (first
      | (go_simp; go_at_call 168; refine (HB.out _ (hfW.then (by exact (Fr.refl _ _).drew))).mono ?_; rintro e V ⟨b', rfl, hb', hbr, hfV⟩; have hV := (Fr.refl nob W).drew.then hfV; have hc1 := blk_cells (HXK.out _ hV); have hz1 := blk_free (HXK.out _ hV); have hlt1 := blk_lt (HXK.out _ hV); unfold coreCells at hc1; have HV := Lib.hid hV; have HBR := Lib.hid hbr; clear hbr hfV hV)
      | (go_simp; go_at_call 111; refine (HR.out _ (hfW.then HV.out)).mono ?_; rintro e V2 ⟨rfl, hrr, hfV2⟩; have hV2 := HV.out.then hfV2; have hc2 := blk_cells (HXK.out _ hV2); have hz2 := blk_free (HXK.out _ hV2); have hlt2 := blk_lt (HXK.out _ hV2); unfold coreCells at hc2; have HV2 := Lib.hid hV2; have HRR := Lib.hid hrr; have HFV2 := Lib.hid hfV2; clear hrr hfV2 hV2))
    all_goals go_wp2
    all_goals go_meet
    all_goals
      have hx2 := HXK.out _ HV2.out
      unfold coreCells at hx2
      have hfs : Fr (one w.heap.size) V2 ((V2.setCell ⟨w.heap.size, 0, none⟩ (.pointer (some ⟨b', 0, none⟩))).setCell ⟨w.heap.size, 1, none⟩ (.pointer (some ⟨V.heap.size, 0, none⟩))) := ((Fr.refl _ _).setOne _ _).setOne _ _
      have hN : NR V2 (one w.heap.size) := NR.one hx2 (by decide)
      have hx3 := heap_setCell_same (o := 1) (heap_setCell_same (o := 0) hx2 (.pointer (some ⟨b', 0, none⟩))) (.pointer (some ⟨V.heap.size, 0, none⟩))
      have hVs := HV.out.size
      have hbV := HBR.out.lt
      have hb2 : W.heap.size ≤ b' := hb'
      obtain ⟨c0, hc0, hy0⟩ := HY.out
      refine ⟨b', V.heap.size, hx3, ⟨c0, hc0, hfs.keep (HV2.out.keep hy0 (fun h => h)) (fun e => absurd (show w.heap.size + 1 = w.heap.size from e) (by omega))⟩, (HBR.out.stayN HFV2.out).stay hfs (fun e => absurd (show b' = w.heap.size from e) (by omega)) hN,
        HRR.out.stay hfs hN (fun e => absurd (show V.heap.size = w.heap.size from e) (by omega)), by omega, hbV, ?_⟩
      exact ((hfW.then HV2.out).setNew _ _ _ (Nat.le_refl _)).setNew _ _ _ (Nat.le_refl _)
  case rest =>
    obtain ⟨b', r', HX, HY, HB', HR', hb', hr', hfW⟩ := hcut
    have hwk := hfW.keep H.out.walk (fun h => h)
    have hrT : r' < wc.heap.size := HR'.out.lt
    obtain ⟨es, clock, hes0, hE⟩ := H.out.texts
    have HE := Lib.hid hE
    have hes1 := hfW.keep hes0 (fun h => h)
    have html := blk_lt hes1
    have hc := blk_cells HX.out
    have hcw := blk_cells hwk
    have hlt := blk_lt HX.out
    have hltw := blk_lt hwk
    have hes2 : ∀ V, Fr nob wc V → V.heap[tm]? = some (.map es clock) := fun V hV => hV.keep hes1 (fun h => h)
    have HES := Lib.hid hes2
    clear hes0 hes1 hes2 hE hwk
    have hmk1 : ∀ W, (Instr.makeMap 158 none).run Tryz.prog W = .ok (.map (some W.heap.size)) (W.alloc (.map #[] 0)) := fun W => run_makeMap _ W
    go_wp2_with (refine wpList_range rfl 158 3 9 (.tmp 29) rfl tm es clock rfl Tryz.underlying158 (HES.out _ (((Fr.refl _ _).alloc _).alloc _)) ?_; simp only [Act.put, List.setIfInBounds_toArray, List.set_cons_zero, List.set_cons_succ, World.size_alloc, Nat.add_assoc, Nat.reduceAdd])
    have hT : Fr nob wc (((wc.alloc (.map #[] 0)).alloc (.cells #[.int .i64 S.place, .map (some wc.heap.size)] 160)).alloc (.mapIter (some tm) clock #[] clock)) := (((Fr.refl _ _).alloc _).alloc _).alloc _
    have hX0 : ∀ V, Fr nob wc V → V.heap[wc.heap.size + 1]? = some (.cells #[.int .i64 S.place, .map (some wc.heap.size)] 160 (0, 0)) → TwB w b' r' (wc.heap.size + 1) um wc.heap.size k S V := fun V hV hw => by
      obtain ⟨c, h1, h2⟩ := HY.out
      exact ⟨hV.keep HX.out (fun h => h), ⟨c, h1, hV.keep h2 (fun h => h)⟩, HB'.out.stayN hV, HR'.out.stayN hV, hw, hfW.then hV⟩
    have hk' := heap_alloc_new (wc.alloc (.map #[] 0)) (.cells #[.int .i64 S.place, .map (some wc.heap.size)] 160)
    rw [show (wc.alloc (.map #[] 0)).heap.size = wc.heap.size + 1 by simp] at hk'
    have hit := heap_alloc_new ((wc.alloc (.map #[] 0)).alloc (.cells #[.int .i64 S.place, .map (some wc.heap.size)] 160)) (.mapIter (some tm) clock #[] clock)
    rw [show ((wc.alloc (.map #[] 0)).alloc (.cells #[.int .i64 S.place, .map (some wc.heap.size)] 160)).heap.size = wc.heap.size + 2 by simp] at hit
    have hmp := (MapRep.new wc).stay (((Fr.refl nob (wc.alloc (.map #[] 0))).alloc (.cells #[.int .i64 S.place, .map (some wc.heap.size)] 160)).alloc (.mapIter (some tm) clock #[] clock)) (fun h => h)
    refine forget (fun W => Hid (TwB w b' r' (wc.heap.size + 1) um wc.heap.size k S W) ∧ Hid (MapRep W wc.heap.size (fun _ => none)) ∧ Hid (IterAt W (wc.heap.size + 2) tm clock #[] clock) ∧ Fr nob wc W) ⟨hX0 _ hT ((heap_alloc_lt _ (by simp)).trans hk'), hmp, hit, hT⟩ ?_
    clear hT hX0 hk' hit hmp hc hcw hlt hltw HX HY HB' HR' hmk1
    rintro W ⟨HTW, HMP, HIT, hfc⟩
    have hTn : w.heap.size ≤ wc.heap.size := hfW.size
    go_loopw [4, 5] (fun _ _ V => ∃ (seen : Array Nat) (c0 : Nat) (f : Int → Option Value), Hid (TwB w b' r' (wc.heap.size + 1) um wc.heap.size k S V) ∧ Hid (MapRep V wc.heap.size f) ∧ Hid (IterAt V (wc.heap.size + 2) tm clock seen c0) ∧ clock ≤ c0 ∧ Hid (Visited es seen f) ∧ Fr nob wc V)
      (fun _ _ V => (leftOf es (V.iterSeen (wc.heap.size + 2))).size)
    case atStart => exact ⟨#[], clock, fun _ => none, HTW.out, HMP.out, HIT.out, Nat.le_refl _, ⟨fun e _ h => absurd h (by simp), fun p v h => absurd h (by simp)⟩, hfc⟩
    case round =>
      obtain ⟨seen, c0, f, HTV, HMV, HIV, hcc, HVI, hfv⟩ := hrel
      have hbV := HES.out _ hfv
      have HBV := Lib.hid hbV
      have hcw := blk_cells HTV.out.walk
      clear hbV
      go_wp2_with (first
        | (refine wpList_next rfl (.tmp 30) rfl (wc.heap.size + 2) tm clock c0 seen es clock rfl HIV.out HBV.out HE.out.st.1 hcc ?_ ?_))
      · intro h0
        have hfx : f = fun p => (S.texts p).map Value.string := Visited.all HE.out HVI.out (by rw [show leftOf es seen = #[] from h0]; rfl)
        subst hfx
        obtain ⟨fu, hmu, hun, hus⟩ := H.out.undos
        obtain ⟨es2, clock2, hes2, hE2⟩ := hmu
        have HE2 := Lib.hid hE2
        have HUN := Lib.hid hun
        have HUS := Lib.hid hus
        have hes3 : ∀ V, Fr nob w V → V.heap[um]? = some (.map es2 clock2) := fun V hV => hV.keep hes2 (fun h => h)
        have HES2 := Lib.hid hes3
        have hcx := blk_cells HTV.out.x
        have hzx := blk_free HTV.out.x
        have hltx := blk_lt HTV.out.x
        have hmk2 : ∀ W, (Instr.makeMap 80 none).run Tryz.prog W = .ok (.map (some W.heap.size)) (W.alloc (.map #[] 0)) := fun W => run_makeMap _ W
        have HS1 := Lib.hid (((HTV.out.fr).setNew w.heap.size 2 (.pointer (some ⟨wc.heap.size + 1, 0, none⟩)) (Nat.le_refl _)).alloc (.map #[] 0))
        clear hes2 hE2 hun hus hes3 hcw h0
        go_wp2_with (refine wpList_range rfl 80 3 164 (.tmp 46) rfl um es2 clock2 rfl Tryz.underlying80 (HES2.out _ HS1.out) ?_; simp only [Act.put, List.setIfInBounds_toArray, List.set_cons_zero, List.set_cons_succ, World.size_alloc, World.size_setCell])
        have hUn : wc.heap.size + 3 ≤ wr.heap.size := by
          have := blk_lt HIV.out
          omega
        have HM0 := Lib.hid (show MapRep (((wr.setCell ⟨w.heap.size, 2, none⟩ (.pointer (some ⟨wc.heap.size + 1, 0, none⟩))).alloc (.map #[] 0)).alloc (.mapIter (some um) clock2 #[] clock2)) wr.heap.size (fun _ => none) from by
          have h := (MapRep.new (wr.setCell ⟨w.heap.size, 2, none⟩ (.pointer (some ⟨wc.heap.size + 1, 0, none⟩)))).stay ((Fr.refl nob _).alloc (.mapIter (some um) clock2 #[] clock2)) (fun h => h)
          rwa [World.size_setCell] at h)
        have HI0 := Lib.hid (show IterAt (((wr.setCell ⟨w.heap.size, 2, none⟩ (.pointer (some ⟨wc.heap.size + 1, 0, none⟩))).alloc (.map #[] 0)).alloc (.mapIter (some um) clock2 #[] clock2)) (wr.heap.size + 1) um clock2 #[] clock2 from by
          have h := Go.heap_alloc_new ((wr.setCell ⟨w.heap.size, 2, none⟩ (.pointer (some ⟨wc.heap.size + 1, 0, none⟩))).alloc (.map #[] 0)) (.mapIter (some um) clock2 #[] clock2)
          rwa [World.size_alloc, World.size_setCell] at h)
        have HTU := Lib.hid (show TwB w b' r' (wc.heap.size + 1) um wc.heap.size (wc.heap.size + 1) S (((wr.setCell ⟨w.heap.size, 2, none⟩ (.pointer (some ⟨wc.heap.size + 1, 0, none⟩))).alloc (.map #[] 0)).alloc (.mapIter (some um) clock2 #[] clock2)) from by
          have hfx : Fr (one w.heap.size) wr (wr.setCell ⟨w.heap.size, 2, none⟩ (.pointer (some ⟨wc.heap.size + 1, 0, none⟩))) := (Fr.refl _ _).setOne _ _
          have hN : NR wr (one w.heap.size) := NR.one HTV.out.x (by decide)
          obtain ⟨c, h1, h2⟩ := HTV.out.y
          have h3 : TwB w b' r' (wc.heap.size + 1) um wc.heap.size (wc.heap.size + 1) S (wr.setCell ⟨w.heap.size, 2, none⟩ (.pointer (some ⟨wc.heap.size + 1, 0, none⟩))) :=
            ⟨heap_setCell_same (o := 2) HTV.out.x _, ⟨c, h1, hfx.keep h2 (fun e => absurd (show w.heap.size + 1 = w.heap.size from e) (by omega))⟩, HTV.out.buf.stay hfx (fun e => absurd (show b' = w.heap.size from e) (by omega)) hN,
              HTV.out.ring.stay hfx hN (fun e => absurd (show r' = w.heap.size from e) (by omega)), hfx.keep HTV.out.walk (fun e => absurd (show wc.heap.size + 1 = w.heap.size from e) (by omega)), HTV.out.fr.setNew _ _ _ (Nat.le_refl _)⟩
          exact (h3.n ((Fr.refl _ _).alloc _)).n ((Fr.refl _ _).alloc _))
        have HMT := Lib.hid (show MapRep (((wr.setCell ⟨w.heap.size, 2, none⟩ (.pointer (some ⟨wc.heap.size + 1, 0, none⟩))).alloc (.map #[] 0)).alloc (.mapIter (some um) clock2 #[] clock2)) wc.heap.size (fun p => (S.texts p).map Value.string) from
          HMV.out.stay ((((Fr.refl (one w.heap.size) wr).setOne 2 (.pointer (some ⟨wc.heap.size + 1, 0, none⟩))).alloc (.map #[] 0)).alloc (.mapIter (some um) clock2 #[] clock2)) (fun e => absurd (show wc.heap.size = w.heap.size from e) (by omega)))
        refine forget (fun W => Hid (TwB w b' r' (wc.heap.size + 1) um wc.heap.size (wc.heap.size + 1) S W) ∧ Hid (MapRep W wc.heap.size (fun p => (S.texts p).map Value.string)) ∧ Hid (MapRep W wr.heap.size (fun _ => none)) ∧ Hid (IterAt W (wr.heap.size + 1) um clock2 #[] clock2) ∧ wr.heap.size + 2 ≤ W.heap.size)
          ⟨HTU.out, HMT.out, HM0.out, HI0.out, by simp [World.size_alloc, World.size_setCell]⟩ ?_
        clear HTU HMT HM0 HI0 hcx hzx hltx hmk2 HS1 HTV HMV HIV HBV HVI
        rintro W3 ⟨HTW3, HMT3, HMU3, HIT3, hsW3⟩
        generalize hUe : wr.heap.size = U at *
        clear hUe
        go_loopw [7, 8] (fun _ _ V => ∃ (seen : Array Nat) (c1 : Nat) (f : Int → Option Value) (κn : Col), Hid (TwB w b' r' (wc.heap.size + 1) um wc.heap.size (wc.heap.size + 1) S V) ∧ Hid (MapRep V wc.heap.size (fun p => (S.texts p).map Value.string)) ∧ Hid (MapRep V U f) ∧
            Hid (IterAt V (U + 1) um clock2 seen c1) ∧ clock2 ≤ c1 ∧ Hid (Seen es2 seen f) ∧ Hid (ClonesAt V κn i' S.undos f) ∧ Hid (∀ x, x < U + 2 → κn x = twinCol κ w.heap.size i' b' r' (wc.heap.size + 1) wc.heap.size U x) ∧ U + 2 ≤ V.heap.size)
          (fun _ _ V => (leftOf es2 (V.iterSeen (U + 1))).size)
        case atStart => exact ⟨#[], clock2, fun _ => none, _, HTW3.out, HMT3.out, HMU3.out, HIT3.out, Nat.le_refl _, fun e _ h => absurd h (by simp), fun p v h => absurd h (by simp), fun x _ => rfl, hsW3⟩
        case round =>
          obtain ⟨seen, c1, f, κn, HTV, HMT, HMU, HIV, hcc2, HSE, HCL, HKN, hsV⟩ := hrel
          have HBV := Lib.hid (HES2.out _ HTV.out.fr)
          go_wp2_with (first
            | (refine wpList_next rfl (.tmp 47) rfl (U + 1) um clock2 c1 seen es2 clock2 rfl HIV.out HBV.out HE2.out.st.1 hcc2 ?_ ?_))
          · intro h0
            have hx4 := heap_setCell_same (o := 3) HTV.out.x (.map (some U))
            have hcx := blk_cells HTV.out.x
            have hzx := blk_free HTV.out.x
            have hltx := blk_lt HTV.out.x
            have hfx : Fr (one w.heap.size) wr (wr.setCell ⟨w.heap.size, 3, none⟩ (.map (some U))) := (Fr.refl _ _).setOne _ _
            obtain ⟨c, hcs, hy⟩ := HTV.out.y
            have HX4 := Lib.hid (show (wr.setCell ⟨w.heap.size, 3, none⟩ (.map (some U))).heap[w.heap.size]? = some (.cells (coreCells b' r' (wc.heap.size + 1) U S) 82 (0, 0)) from hx4)
            have HY4 := Lib.hid (hfx.keep hy (fun e => absurd (show w.heap.size + 1 = w.heap.size from e) (by omega)))
            have HD := Lib.hid Tryz.struct_core.1
            have HSZ := Lib.hid (show (Tryz.prog.info? 82).map (·.size) = some (coreCells b' r' (wc.heap.size + 1) U S).size from Tryz.struct_core.2)
            have HCS := Lib.hid (show c.size = (coreCells b' r' (wc.heap.size + 1) U S).size from hcs)
            have HONE := Lib.hid (show (coreCells b' r' (wc.heap.size + 1) U S).all (·.oneCell') = true from by simp [coreCells, Value.oneCell'])
            have HFX := Lib.hid hfx
            have HH0 := Lib.hid (show leftOf es2 seen = #[] from h0)
            clear hx4 hy hcs h0 hfx
            go_wp2_with (first
              | (refine wpList_load_struct rfl 82 (.tmp 1) rfl w.heap.size rfl 82 (coreCells b' r' (wc.heap.size + 1) U S) (0, 0) HX4.out HD.out HSZ.out ?_; simp only [Act.put, List.setIfInBounds_toArray, List.set_cons_zero, List.set_cons_succ])
              | (refine wpList_store_row rfl 82 (.tmp 2) (.tmp 59) rfl (w.heap.size + 1) (coreCells b' r' (wc.heap.size + 1) U S) rfl rfl 82 c HY4.out HSZ.out HCS.out HONE.out ?_; simp only [Act.put]))
            obtain ⟨fs, hfs⟩ := isStruct_desc HD.out
            have hy5 := heap_setRow_same (c' := coreCells b' r' (wc.heap.size + 1) U S) HY4.out
            have hfin : Fr (fun z => z = w.heap.size ∨ z = w.heap.size + 1) wr ((wr.setCell ⟨w.heap.size, 3, none⟩ (.map (some U))).setRow (w.heap.size + 1) (coreCells b' r' (wc.heap.size + 1) U S)) :=
              (HFX.out.mono (fun _ _ h => .inl h)).setRow _ _ (fun _ => .inr rfl)
            obtain ⟨c5, _, hy6⟩ := HTV.out.y
            have hnr : NR wr (fun z => z = w.heap.size ∨ z = w.heap.size + 1) := by
              rintro z c6 fr6 h6 (rfl | rfl)
              · rw [HTV.out.x] at h6
                injection h6 with h6
                injection h6 with _ h6
                exact absurd h6 (by decide)
              · rw [hy6] at h6
                injection h6 with h6
                injection h6 with _ h6
                exact absurd h6 (by decide)
            have hcol : ∀ x, x < U + 2 → w.heap.size ≤ x → κn x = (if x = b' then (i', 0) else if x = r' then (i', 1) else if x = wc.heap.size + 1 then (i', 2) else if x = wc.heap.size then (i', 3) else if x = U then (i', 4) else (0, 0)) := fun x hx hw => by
              rw [HKN.out x hx]
              unfold twinCol
              rw [if_neg (by omega)]
            have hld : (leftOf es2 seen).size = 0 := by rw [HH0.out]; rfl
            have hall := all_seen es2 seen hld
            refine bodyPost_ret (results_cell_row rfl _ _ (w.heap.size + 1) 82 (coreCells b' r' (wc.heap.size + 1) U S) (0, 0) (.struct fs) rfl hy5 hfs rfl HSZ.out) rfl
              ⟨b', r', wc.heap.size + 1, wc.heap.size, U, κn, rfl, fun x hx => ?_, ⟨?_, ?_, ?_, ?_, ?_, ?_, ?_, ?_, ?_, ?_⟩, ?_⟩
            · rw [HKN.out x (by omega)]
              unfold twinCol
              rw [if_pos hx]
            · rw [hcol _ (by omega) (by omega), if_pos rfl]
            · exact HTV.out.buf.stay hfin (by rintro (h | h) <;> omega) hnr
            · rw [hcol _ (by omega) (by omega), if_neg (by omega), if_pos rfl]
            · exact HTV.out.ring.stay hfin hnr (by rintro (h | h) <;> omega)
            · rw [hcol _ (by omega) (by omega), if_neg (by omega), if_neg (by omega), if_pos rfl]
            · exact hfin.keep HTV.out.walk (by rintro (h | h) <;> omega)
            · rw [hcol _ (by omega) (by omega), if_neg (by omega), if_neg (by omega), if_neg (by omega), if_pos rfl]
            · exact HMT.out.stay hfin (by rintro (h | h) <;> omega)
            · rw [hcol _ (by omega) (by omega), if_neg (by omega), if_neg (by omega), if_neg (by omega), if_neg (by omega), if_pos rfl]
            · refine ⟨f, HMU.out.stay hfin (by rintro (h | h) <;> omega), fun p hp => ?_, fun p g hp => ?_⟩
              · cases hf : f p with
                | none => rfl
                | some v =>
                  obtain ⟨g, l, h1, _⟩ := HCL.out p v hf
                  rw [hp] at h1
                  cases h1
              · obtain ⟨h0, l, hl, _⟩ := HUS.out p g hp
                obtain ⟨e, he, hek, _⟩ := HE2.out.all p _ hl
                obtain ⟨q, v, hq, hfv⟩ := HSE.out e he (hall e he)
                rw [hek] at hq
                injection hq with _ hq
                subst hq
                obtain ⟨g', l', h1, h2, h3⟩ := HCL.out p v hfv
                rw [hp] at h1
                injection h1 with h1
                subst h1
                exact ⟨h0, l', by rw [hfv, h2], h3.stay hfin hnr (fun x hx => by
                  intro h
                  have hx2 := hcol x (by omega) (by omega)
                  rw [if_neg (by omega), if_neg (by omega), if_neg (by omega), if_neg (by omega), if_neg (by omega)] at hx2
                  rw [hx2] at hx
                  have := congrArg Prod.snd hx
                  simp only at this
                  omega)⟩
            · exact (HTV.out.fr.setNew _ _ _ (Nat.le_refl _)).setRow _ _ (fun h => absurd h (by omega))
          · intro e w1 he hi1 hf1
            have he1 := (mem_left (es := es2) (seen := seen) (e := e) (by simpa using he)).1
            obtain ⟨p, hp, hpv⟩ := HE2.out.key e he1
            have hlt2 := left_shrinks es2 seen e (by simpa using he)
            obtain ⟨g, hg⟩ : ∃ g, S.undos p = some g := by
              cases hu : S.undos p with
              | some g => exact ⟨g, rfl⟩
              | none =>
                have := HUN.out p hu
                rw [this] at hpv
                cases hpv
            obtain ⟨_, l, hfl, hlr⟩ := HUS.out p g hg
            have hel : e.val = .pointer (some ⟨l, 0, none⟩) := by
              rw [hfl] at hpv
              injection hpv with hpv
              exact hpv.symm
            have hnr : NoRows wr (one (U + 1)) := fun x hx c T fr h => by
              cases hx
              rw [show wr.heap[U + 1]? = _ from HIV.out] at h
              cases h
            have htw1 := HTV.out.stay hf1 hnr (fun x hx => by cases hx; omega)
            have hmt1 := HMT.out.stay hf1 (fun h => by have : wc.heap.size = U + 1 := h; omega)
            have hmu1 := HMU.out.stay hf1 (fun h => by have : U = U + 1 := h; omega)
            have hcl1 := HCL.out.stay (κ' := κn) hf1 hnr (fun _ _ => rfl)
            have hb1 : w1.heap[um]? = some (.map es2 clock2) := HES2.out _ htw1.fr
            have HTW1 := Lib.hid htw1
            have HMT1 := Lib.hid hmt1
            have HMU1 := Lib.hid hmu1
            have HCL1 := Lib.hid hcl1
            have HI1 := Lib.hid hi1
            have HF1 := Lib.hid hf1
            have HB1 := Lib.hid hb1
            have HE1 := Lib.hid he1
            have HLT := Lib.hid hlt2
            have HP := Lib.hid hp
            have HG := Lib.hid hg
            have HEL := Lib.hid hel
            have hcl : Calls Tryz.prog 169 #[.pointer (some ⟨l, 0, none⟩)] w1 fun e w' => ∃ l', e = .returned (.pointer (some ⟨l', 0, none⟩)) ∧ w1.heap.size ≤ l' ∧ ListRep w' (newIn w1) l' g.1 [] 0 g.2 ∧ Fr nob w1 w' := undo_clone w1 _ l g.1 [] 0 g.2 (hlr.stayN htw1.fr) (HOK.out p g hg) ⟨by simp, by simp⟩
            have HCLN := Lib.hid hcl
            have hs1 : U + 2 ≤ w1.heap.size := Nat.le_trans hsV hf1.size
            clear hnr htw1 hmt1 hmu1 hcl1 hb1 hi1 hf1 he he1 hlt2 hpv hlr hfl hg hcl
            rw [hp, hel]
            clear hp hel
            go_wp2_with (first
              | (refine wpList_entry rfl (.tmp 47) rfl (U + 1) um clock2 seen es2 clock2 e rfl HI1.out HB1.out HE1.out HE2.out.st.2.1 ?_; rw [HP.out, HEL.out]; simp only [Act.put, List.setIfInBounds_toArray, List.set_cons_zero, List.set_cons_succ])
              | (go_at_call 169; refine (HCLN.out).mono ?_; rintro e2 w2 ⟨l', rfl, hl', hlr', hf2⟩; have HL' := Lib.hid hl'; have HLR := Lib.hid hlr'; have HF2 := Lib.hid hf2; have HMU2 := Lib.hid (HMU1.out.stay hf2 (fun h => h)); clear hl' hlr' hf2)
              | (refine wpList_mapset rfl 80 3 164 (.tmp 53) (.tmp 54) (.tmp 56) rfl U f p (.pointer (some ⟨l', 0, none⟩)) rfl rfl rfl Tryz.underlying80 Tryz.underlying3 HMU2.out ?_; intro w3 hm3 hf3; simp only [Act.put]; have HM3 := Lib.hid hm3; have HF3 := Lib.hid hf3; clear hm3 hf3))
            have hi3 := (HI1.out.keep HF2.out (fun h => h)).keep HF3.out (fun h => by have : U + 1 = U := h; omega)
            have hnr2 : NoRows w2 (one U) := fun x hx c T fr h => by
              obtain ⟨es', cl', hb', _⟩ := HMU2.out
              cases hx
              rw [hb'] at h
              cases h
            have hcl3 : ClonesAt w3 (paint κn w1.heap.size (i', 5 + p.toNat)) i' S.undos (upd f p (.pointer (some ⟨l', 0, none⟩))) := by
              refine ((HCL1.out.stay (κ' := paint κn w1.heap.size (i', 5 + p.toNat)) HF2.out (fun _ h => h.elim) (paint_old _ _ _)).stay (κ' := paint κn w1.heap.size (i', 5 + p.toNat)) HF3.out hnr2 (fun _ _ => rfl)).add p g l' HG.out ?_
              exact (HLR.out.stayC HF3.out hnr2).mono (fun x hx => paint_new _ _ _ _ (by rcases hx with hx | hx; exact hx.elim; exact hx))
            have hs3 := Nat.le_trans hs1 (Nat.le_trans HF2.out.size HF3.out.size)
            refine ⟨⟨seen.push e.born, clock2, _, paint κn w1.heap.size (i', 5 + p.toNat), (HTW1.out.n HF2.out).stay HF3.out hnr2 (fun x hx => by cases hx; omega), (HMT1.out.stay HF2.out (fun h => h)).stay HF3.out (fun h => by have : wc.heap.size = U := h; omega), HM3.out, hi3, Nat.le_refl _,
              HSE.out.step HE2.out e HE1.out p HP.out _, hcl3, fun x hx => (paint_old _ _ _ x (by omega)).trans (HKN.out x hx), hs3⟩, ?_⟩
            rw [hi3.seen, HIV.out.seen]
            exact HLT.out
      · intro e w1 he hi1 hf1
        have he1 := (mem_left (es := es) (seen := seen) (e := e) (by simpa using he)).1
        obtain ⟨p, hp, hpv⟩ := HE.out.key e he1
        have hlt2 := left_shrinks es seen e (by simpa using he)
        have hst := Visited.step HE.out HVI.out e he1 p hp
        have hnr : NoRows wr (one (wc.heap.size + 2)) := fun x hx c T fr h => by
          cases hx
          rw [show wr.heap[wc.heap.size + 2]? = _ from HIV.out] at h
          cases h
        have htw1 := HTV.out.stay hf1 hnr (fun x hx => by cases hx; omega)
        have hmp1 := HMV.out.stay hf1 (fun h => by have : wc.heap.size = wc.heap.size + 2 := h; omega)
        have hcw1 := blk_cells htw1.walk
        have hb1 : w1.heap[tm]? = some (.map es clock) := hf1.keep HBV.out (fun h => by have : tm = wc.heap.size + 2 := h; omega)
        have HTW1 := Lib.hid htw1
        have HMP1 := Lib.hid hmp1
        have HI1 := Lib.hid hi1
        have HF1 := Lib.hid hf1
        have HB1 := Lib.hid hb1
        have HE1 := Lib.hid he1
        have HST := Lib.hid hst
        have HLT := Lib.hid hlt2
        have HP := Lib.hid hp
        have HMS : Hid (∀ x ∈ es.toList, x.born < clock) := HE.out.st.1
        clear hst hnr htw1 hmp1 hb1 hi1 hf1 he he1 hlt2 hpv hcw
        rw [hp]
        clear hp
        go_wp2_with (first
          | (refine wpList_entry rfl (.tmp 30) rfl (wc.heap.size + 2) tm clock seen es clock e rfl HI1.out HB1.out HE1.out HE.out.st.2.1 ?_; rw [HP.out]; simp only [Act.put, List.setIfInBounds_toArray, List.set_cons_zero, List.set_cons_succ])
          | (refine wpList_mapset rfl 158 3 9 (.tmp 39) (.tmp 40) (.tmp 41) rfl wc.heap.size f p e.val rfl rfl rfl Tryz.underlying158 Tryz.underlying3 HMP1.out ?_; intro w2 hm2 hf2; simp only [Act.put]; have HM2 := Lib.hid hm2; have HF2 := Lib.hid hf2; clear hm2 hf2))
        have hi2 := HI1.out.keep HF2.out (fun h => by have : wc.heap.size + 2 = wc.heap.size := h; omega)
        have hnr2 : NoRows w1 (one wc.heap.size) := fun x hx c T fr h => by
          obtain ⟨es', cl', hb', _⟩ := HMP1.out
          cases hx
          rw [hb'] at h
          cases h
        refine ⟨⟨seen.push e.born, clock, upd f p e.val, HTW1.out.stay HF2.out hnr2 (fun x hx => by cases hx; omega), HM2.out, hi2, Nat.le_refl _, HST.out, ?_⟩, ?_⟩
        · exact (hfv.trans HF1.out (fun x hx h => by cases h; omega)).trans HF2.out (fun x hx h => by cases h; omega)
        · rw [hi2.seen, HIV.out.seen]
          exact HLT.out
end Go.Proofs.YtbhklkolkclflaaGreatDoor
/- E3: Package editor: what an editor is; none, part. -/
namespace Go.Proofs.YtbhklkolkclflaaGreatDoor
open Go.RowKit

/-- An editor's own fields, beside its cores. -/
structure EdF where
  given : Bool
  minus : Bool
  arg : Int
  inn : Bool
  cls : Int
  killed : Bool
  yanked : Bool
  argues : Bool
  whole : Bool

/-- The cells of an editor's block. -/
def edArr (b r k um : Nat) (C : CoreS) (h bl : Nat) (f : EdF) (was : Nat → Value) (put : Value) : Array Value :=
  #[.pointer (some ⟨b, 0, none⟩), .pointer (some ⟨r, 0, none⟩), .pointer (some ⟨k, 0, none⟩), .map (some um), .int .i64 C.mode, .bool C.over, .int .i64 C.last, .int .i64 C.yf, .int .i64 C.yt, .int .i64 C.res, .bool C.run,
    .pointer (some ⟨h, 0, none⟩), .pointer (some ⟨bl, 0, none⟩), .bool f.given, .bool f.minus, .int .i64 f.arg, .bool f.inn,
    was 0, was 1, was 2, was 3, was 4, was 5, was 6, was 7, was 8, was 9, was 10,
    .int .i64 f.cls, .bool f.killed, .bool f.yanked, .bool f.argues, .bool f.whole, put]

def EdBlk (w : World) (e b r k um : Nat) (C : CoreS) (h bl : Nat) (f : EdF) (was : Nat → Value) (put : Value) : Prop := w.heap[e]? = some (.cells (edArr b r k um C h bl f was put) 86 (0, 0))

set_option maxRecDepth 10000 in
theorem ed_none (w : World) (e b r k um : Nat) (C : CoreS) (h bl : Nat) (f : EdF) (was : Nat → Value) (put : Value) (hb : EdBlk w e b r k um C h bl f was put) :
    Calls Tryz.prog 81 #[.pointer (some ⟨e, 0, none⟩)] w fun x w' => x = .returned (.bool false) ∧ w' = w := by
  have hc : w.cell? ⟨e, 11, none⟩ = some (.pointer (some ⟨h, 0, none⟩)) := by rw [blk_cells hb]; rfl
  clear hb
  go_enter Tryz.func81, Tryz.ntmps81
  go_wp2
  go_ret
  exact ⟨rfl, rfl⟩

set_option maxRecDepth 10000 in
theorem ed_part (w : World) (e b r k um : Nat) (C : CoreS) (h bl : Nat) (f : EdF) (was : Nat → Value) (put : Value) (hb : EdBlk w e b r k um C h bl f was put) :
    Calls Tryz.prog 88 #[.pointer (some ⟨e, 0, none⟩)] w fun x w' => x = .returned (.int .i64 (if f.inn then 0 else 1)) ∧ w' = w := by
  have hc : w.cell? ⟨e, 16, none⟩ = some (.bool f.inn) := by rw [blk_cells hb]; rfl
  have HN := Lib.hid (ed_none w e b r k um C h bl f was put hb)
  clear hb
  cases hi : f.inn
  all_goals rw [hi] at hc
  all_goals have HI := Lib.hid hi
  all_goals clear hi
  all_goals go_enter Tryz.func88, Tryz.ntmps88
  all_goals go_wp2_with (go_at_call 81; refine (HN.out).mono ?_; rintro x w' ⟨rfl, rfl⟩)
  all_goals go_ret
  all_goals exact ⟨rfl, rfl⟩
end Go.Proofs.YtbhklkolkclflaaGreatDoor
/- E4: Package editor: an editor, whole; Begin. -/
namespace Go.Proofs.YtbhklkolkclflaaGreatDoor
open Go.RowKit

/-- All that an editor is. -/
structure EdState where
  core : CoreS
  f : EdF
  hist : List (ByteArray × Int)
  base : Int
  most : Int
  bells : Int
  was : CoreS
  put : List EditP

/-- The editor's other parts, beside its block and its cores. -/
structure EdRest (w : World) (κ : Col) (h bl : Nat) (putv : Value) (S : EdState) : Prop where
  hist : HistRep w (fun x => κ x = (3, 1)) h S.hist S.base S.most
  cb : κ bl = (3, 2)
  bells : w.heap[bl]? = some (.cells #[.int .i64 S.bells] 150 (0, 0))
  put : EdS w putv S.put
  mp : ∀ x, rowOf putv x → κ x = (3, 3)

/-- An editor laid open; within a command its other core is what it was. -/
structure EdAt (w : World) (κ : Col) (i e b r k tm um h bl : Nat) (was : Nat → Value) (putv : Value) (S : EdState) : Prop where
  ci : i = 1 ∨ i = 2
  ce : κ e = (3, 0)
  blk : EdBlk w e b r k um S.core h bl S.f was putv
  core : CoreAt w κ i b r k tm um S.core
  rest : EdRest w κ h bl putv S
  wone : ∀ j, (was j).oneCell' = true
  inn : S.f.inn = true → ∃ b2 r2 k2 tm2 um2, (∀ j, j < 11 → (coreCells b2 r2 k2 um2 S.was)[j]? = some (was j)) ∧ CoreAt w κ (3 - i) b2 r2 k2 tm2 um2 S.was
/-- The editor at e. -/
def EdRep (w : World) (κ : Col) (e : Nat) (S : EdState) : Prop := ∃ i b r k tm um h bl was putv, EdAt w κ i e b r k tm um h bl was putv S

section
variable {w w' : World} {κ κ' : Col} {h bl : Nat} {putv : Value} {S : EdState} {M : Nat → Prop}
theorem EdRest.stay (r : EdRest w κ h bl putv S) (hf : Fr M w w') (hr : NR w M) (hm : ∀ x, M x → x < w.heap.size → κ x ≠ (3, 1) ∧ κ x ≠ (3, 2) ∧ κ x ≠ (3, 3)) (hk : ∀ x, x < w.heap.size → κ' x = κ x) : EdRest w' κ' h bl putv S := by
  have hlb := blk_lt r.bells
  refine ⟨?_, (hk _ hlb).trans r.cb, hf.keep r.bells (fun hx => (hm _ hx hlb).2.1 r.cb), r.put.stay hf hr (fun x hx hM => (hm x hM (r.put.lt x hx)).2.2 (r.mp x hx)), fun x hx => (hk x (r.put.lt x hx)).trans (r.mp x hx)⟩
  obtain ⟨a, c, h1, h2, h3⟩ := r.hist.ex
  have hlh := blk_lt h1
  by_cases hn : 0 < S.hist.length
  · have hal : ∀ ad, a = some ad → ad.block < w.heap.size := fun ad ea => by
      rcases h2.rd with h4 | ⟨g, off, e, h4⟩
      · have := congrArg List.length h4
        rw [hcells_length] at this
        simp at this
        omega
      · obtain ⟨u, hu⟩ : ∃ u, (hcells S.hist)[0]? = some u := ⟨_, List.getElem?_eq_getElem (by rw [hcells_length]; omega)⟩
        have h5 := h4 0 u hu
        rw [ea] at e
        injection e with e
        rw [e]
        simp only [World.cell?] at h5
        rcases Nat.lt_or_ge g w.heap.size with h6 | h6
        · exact h6
        · rw [Array.getElem?_eq_none h6] at h5
          simp at h5
    exact ⟨(hk _ hlh).trans r.hist.mem, r.hist.nz, a, c, hf.keep h1 (fun hx => (hm _ hx hlh).1 r.hist.mem), h2.old hf (fun ad e hx => (hm _ hx (hal ad e)).1 (h3 hn ad e)), fun hn ad e => (hk _ (hal ad e)).trans (h3 hn ad e)⟩
  · have h0 : hcells S.hist = [] := List.eq_nil_of_length_eq_zero (by rw [hcells_length]; omega)
    exact ⟨(hk _ hlh).trans r.hist.mem, r.hist.nz, a, c, hf.keep h1 (fun hx => (hm _ hx hlh).1 r.hist.mem), ⟨h2.len, h2.le, .inl h0, h2.one⟩, fun h => absurd h hn⟩
end

/-- What an editor's call may write. -/
def edM (w : World) (κ : Col) : Nat → Prop := wr w (fun x => κ x ≠ (0, 0))
section
variable {w w' : World} {κ κ' : Col} {i e b r k tm um h bl : Nat} {was : Nat → Value} {putv : Value} {S : EdState} {M : Nat → Prop}
theorem EdAt.rep (x : EdAt w κ i e b r k tm um h bl was putv S) : EdRep w κ e S := ⟨i, b, r, k, tm, um, h, bl, was, putv, x⟩

theorem EdAt.lt (x : EdAt w κ i e b r k tm um h bl was putv S) : e < w.heap.size := blk_lt x.blk

/-- What is written is not the editor's. -/
theorem EdAt.stay (x : EdAt w κ i e b r k tm um h bl was putv S) (hf : Fr M w w') (hr : NR w M) (hm : ∀ y, M y → y < w.heap.size → κ y = (0, 0)) (hk : ∀ y, y < w.heap.size → κ' y = κ y) : EdAt w' κ' i e b r k tm um h bl was putv S := by
  have hn : ∀ i, i ≠ 0 → ∀ y, M y → y < w.heap.size → (κ y).1 ≠ i := fun i hi y hy hl he => by
    rw [hm y hy hl] at he
    exact hi he.symm
  have hci := x.ci
  refine ⟨x.ci, (hk _ x.lt).trans x.ce, hf.keep x.blk (fun hx => by have := hm _ hx x.lt; rw [x.ce] at this; cases this), x.core.stay hf hr (hn i (by omega)) hk,
    x.rest.stay hf hr (fun y hy hl => by rw [hm y hy hl]; exact ⟨by decide, by decide, by decide⟩) hk, x.wone, fun hi => ?_⟩
  obtain ⟨b2, r2, k2, tm2, um2, h6, h7⟩ := x.inn hi
  exact ⟨b2, r2, k2, tm2, um2, h6, h7.stay hf hr (hn (3 - i) (by omega)) hk⟩
theorem EdAt.stayN (x : EdAt w κ i e b r k tm um h bl was putv S) (hf : Fr nob w w') (hk : ∀ y, y < w.heap.size → κ' y = κ y) : EdAt w' κ' i e b r k tm um h bl was putv S := x.stay hf (NR.nob _) (fun _ h => h.elim) hk

/-- Only the editor's own block is written: its parts stay. -/
theorem EdAt.setE (hci : i = 1 ∨ i = 2) {was' : Nat → Value} {putv' : Value} {S' : EdState} (hce : κ e = (3, 0)) {c0 : Array Value} (h0 : w.heap[e]? = some (.cells c0 86 (0, 0))) (hf : Fr (one e) w w') (hblk : EdBlk w' e b r k um S'.core h bl S'.f was' putv')
    (hc : CoreAt w κ i b r k tm um S'.core) (hr : EdRest w κ h bl putv' S') (hone : ∀ j, (was' j).oneCell' = true)
    (hin : S'.f.inn = true → ∃ b2 r2 k2 tm2 um2, (∀ j, j < 11 → (coreCells b2 r2 k2 um2 S'.was)[j]? = some (was' j)) ∧ CoreAt w κ (3 - i) b2 r2 k2 tm2 um2 S'.was) : EdAt w' κ i e b r k tm um h bl was' putv' S' := by
  have hne : NR w (one e) := NR.one h0 (by decide)
  have hx : ∀ i, i ≠ 3 → ∀ y, one e y → y < w.heap.size → (κ y).1 ≠ i := fun i hi y hy _ he => by
    cases hy
    rw [hce] at he
    exact hi he.symm
  refine ⟨hci, hce, hblk, hc.stay hf hne (hx i (by omega)) (fun _ _ => rfl), hr.stay hf hne (fun y hy _ => by cases hy; rw [hce]; exact ⟨by decide, by decide, by decide⟩) (fun _ _ => rfl), hone, fun hi => ?_⟩
  obtain ⟨b2, r2, k2, tm2, um2, h6, h7⟩ := hin hi
  exact ⟨b2, r2, k2, tm2, um2, h6, h7.stay hf hne (hx (3 - i) (by omega)) (fun _ _ => rfl)⟩

/-- Only the editor's core is written, and what it points to. -/
theorem EdAt.setCore (x : EdAt w κ i e b r k tm um h bl was putv S) (hf : Fr M w w') (hr : NR w M) (hm : ∀ y, M y → y < w.heap.size → (κ y).1 = i) (hk : ∀ y, y < w.heap.size → κ' y = κ y) {C : CoreS} {tm' : Nat}
    (hc : CoreAt w' κ' i b r k tm' um C) (he : edArr b r k um C h bl S.f was putv = edArr b r k um S.core h bl S.f was putv) : EdAt w' κ' i e b r k tm' um h bl was putv { S with core := C } := by
  have hci := x.ci
  have h3 : ∀ y j, κ y = (3, j) → y < w.heap.size → ¬ M y := fun y j hy hl hM => by
    have := hm y hM hl
    rw [hy] at this
    simp only at this
    omega
  refine ⟨x.ci, (hk _ x.lt).trans x.ce, ?_, hc, ?_, x.wone, fun hi => ?_⟩
  · unfold EdBlk
    rw [he]
    exact hf.keep x.blk (h3 _ _ x.ce x.lt)
  · have h1 := x.rest.stay (κ' := κ') hf hr (fun y hy hl => ⟨fun e => h3 _ _ e hl hy, fun e => h3 _ _ e hl hy, fun e => h3 _ _ e hl hy⟩) hk
    exact ⟨h1.hist, h1.cb, h1.bells, h1.put, h1.mp⟩
  · obtain ⟨b2, r2, k2, tm2, um2, h6, h7⟩ := x.inn hi
    exact ⟨b2, r2, k2, tm2, um2, h6, h7.stay hf hr (fun y hy hl he => by rw [hm y hy hl] at he; omega) hk⟩

/-- The editor stays where what is written is none of its. -/
theorem EdRep.stay {S : EdState} (h : EdRep w κ e S) (hf : Fr M w w') (hr : NR w M) (hm : ∀ x, M x → x < w.heap.size → κ x = (0, 0)) (hk : ∀ x, x < w.heap.size → κ' x = κ x) : EdRep w' κ' e S := by
  obtain ⟨i, b, r, k, tm, um, h, bl, was, putv, x⟩ := h
  exact (x.stay hf hr hm hk).rep
/-- The colours of the editor's blocks are not that of what is no editor's. -/
theorem edM.of (hf : Fr M w w') (hr : NR w M) (hm : ∀ y, y < w.heap.size → M y → κ y ≠ (0, 0)) : Fr (edM w κ) w w' := hf.wr hm hr
theorem edM.trans {w1 w2 : World} (h : Fr (edM w κ) w w1) (hk : ∀ y, y < w.heap.size → κ' y = κ y) (h1 : Fr (edM w1 κ') w1 w2) : Fr (edM w κ) w w2 :=
  h.trans h1 (fun y hb hm => ⟨by have h2 : κ' y ≠ (0, 0) := hm.1; rw [hk y hb] at h2; exact h2, fun c fr e => hm.2 c fr (h.keep e (fun hx => hx.2 c fr e))⟩)
theorem edM.nob (h : Fr nob w w') : Fr (edM w κ) w w' := edM.of h (NR.nob w) (fun _ _ h => h.elim)
end

end Go.Proofs.YtbhklkolkclflaaGreatDoor
/- E5: Package editor: Begin. -/
namespace Go.Proofs.YtbhklkolkclflaaGreatDoor
open Go.RowKit

/-- Several cells of a block are written. -/
def sets (w : World) (e : Nat) (l : List (Nat × Value)) : World := l.foldl (fun w x => w.setCell ⟨e, x.1, none⟩ x.2) w
theorem sets_blk {e : Nat} {T : TypeId} : ∀ (l : List (Nat × Value)) (w : World) (c : Array Value), w.heap[e]? = some (.cells c T (0, 0)) → (sets w e l).heap[e]? = some (.cells (l.foldl (fun c x => c.setIfInBounds x.1 x.2) c) T (0, 0))
  | [], _, _, h => h
  | x :: l, _, _, h => sets_blk l _ _ (heap_setCell_same (o := x.1) h x.2)
theorem sets_fr {e : Nat} : ∀ (l : List (Nat × Value)) (w w0 : World), Fr (one e) w0 w → Fr (one e) w0 (sets w e l)
  | [], _, _, h => h
  | x :: l, _, _, h => sets_fr l _ _ (h.setOne x.1 x.2)

/-- A call of an editor's: what it answers, and what the editor is then. -/
def EdDone (w : World) (κ : Col) (e : Nat) (v : Value) (S : EdState) (x : Ending) (w' : World) : Prop :=
  x = .returned v ∧ ∃ κ', EdRep w' κ' e S ∧ (∀ y, y < w.heap.size → κ' y = κ y) ∧ Fr (edM w κ) w w'

/-- Within a command. -/
def EdState.begun (S : EdState) : EdState := { S with f := { S.f with inn := true, cls := 0, killed := false, yanked := false, argues := false, whole := true }, was := S.core, put := [] }

/-- What Begin writes. -/
def beginSets (b2 r2 k2 um2 : Nat) (S : EdState) : List (Nat × Value) := [(16, .bool true), (17, .pointer (some ⟨b2, 0, none⟩)), (18, .pointer (some ⟨r2, 0, none⟩)), (19, .pointer (some ⟨k2, 0, none⟩)), (20, .map (some um2)), (21, .int .i64 S.core.mode), (22, .bool S.core.over), (23, .int .i64 S.core.last),
    (24, .int .i64 S.core.yf), (25, .int .i64 S.core.yt), (26, .int .i64 S.core.res), (27, .bool S.core.run), (28, .int .i64 0), (29, .bool false), (30, .bool false), (31, .bool false), (32, .bool true), (33, .slice none 0 0)]
set_option maxRecDepth 10000 in
theorem begin_arr (b r k um hh bl b2 r2 k2 um2 : Nat) (S : EdState) (was : Nat → Value) (putv : Value) :
    (beginSets b2 r2 k2 um2 S).foldl (fun c x => c.setIfInBounds x.1 x.2) (edArr b r k um S.core hh bl S.f was putv) = edArr b r k um S.begun.core hh bl S.begun.f (fun j => (coreCells b2 r2 k2 um2 S.core).getD j (.bool false)) (.slice none 0 0) := by
  simp [beginSets, edArr, EdState.begun, coreCells]

set_option maxRecDepth 10000 in
set_option maxHeartbeats 1000000 in
theorem ed_begin (w : World) (κ : Col) (e : Nat) (S : EdState) (h : EdRep w κ e S) (hok : CoreOk S.core) (hi : S.f.inn = false) :
    Calls Tryz.prog 24 #[.pointer (some ⟨e, 0, none⟩)] w (EdDone w κ e (.int .i64 0) S.begun) := by
  obtain ⟨i, b, r, k, tm, um, hh, bl, was, putv, hci, h0, hb, hcore, hrest, hone, _⟩ := h
  have HN := Lib.hid (ed_none w e b r k um S.core hh bl S.f was putv hb)
  have HT := Lib.hid (core_twin w κ i (3 - i) b r k tm um S.core hcore hok)
  have HB := Lib.hid hb
  have HC := Lib.hid hcore
  have HR := Lib.hid hrest
  have HO := Lib.hid hone
  have H0 := Lib.hid h0
  have hb2 := hb
  unfold EdBlk edArr at hb2
  rw [hi] at hb2
  have hc := blk_cells hb2
  have hlt := blk_lt hb2
  clear hb hcore hrest hone hok h0 hb2
  go_enter Tryz.func24, Tryz.ntmps24
  go_wp2_with (first
    | (go_at_call 81; refine (HN.out).mono ?_; rintro x w' ⟨rfl, rfl⟩)
    | (go_at_call 82; refine (HT.out).mono ?_; rintro x w2 ⟨b2, r2, k2, tm2, um2, κ2, rfl, hk2, hc2, hf2⟩; have HK2 := Lib.hid hk2; have HC2 := Lib.hid hc2; have HF2 := Lib.hid hf2; have HB2 := Lib.hid (hf2.keep HB.out (fun h => h)); have hz2 := blk_free HB2.out; have hlt2 := blk_lt HB2.out; have hcc := blk_cells HB2.out; unfold edArr at hcc; unfold coreCells; clear hk2 hc2 hf2))
  have hsb := sets_blk (beginSets b2 r2 k2 um2 S) w2 _ HB2.out
  rw [begin_arr] at hsb
  have hsf := sets_fr (e := e) (beginSets b2 r2 k2 um2 S) w2 w2 (Fr.refl _ _)
  have HSB := Lib.hid hsb
  have HSF := Lib.hid hsf
  clear hsb hsf hcc hz2 hlt2 hc
  have hne : NR w2 (one e) := NR.one HB2.out (by decide)
  have hes : e < w'.heap.size := blk_lt HB.out
  have hke : κ2 e = (3, 0) := (HK2.out e hes).trans H0.out
  have hx : ∀ i, i ≠ 3 → ∀ x, one e x → x < w2.heap.size → (κ2 x).1 ≠ i := fun i hi x hx _ he => by
    cases hx
    rw [hke] at he
    exact hi he.symm
  refine bodyPost_ret (results_tmp rfl _ _ _) rfl ⟨rfl, κ2, ⟨i, b, r, k, tm, um, hh, bl, fun j => (coreCells b2 r2 k2 um2 S.core).getD j (.bool false), .slice none 0 0, hci, hke, ?_, ?_, ?_, ?_, ?_⟩, HK2.out, ?_⟩
  · exact HSB.out
  · exact (HC.out.stayN HF2.out HK2.out).stay HSF.out hne (hx i (by omega)) (fun _ _ => rfl)
  · have h1 := (HR.out.stay (κ' := κ2) HF2.out (NR.nob _) (fun _ h => h.elim) HK2.out).stay (κ' := κ2) HSF.out hne (fun x hx _ => by cases hx; rw [hke]; exact ⟨by decide, by decide, by decide⟩) (fun _ _ => rfl)
    exact ⟨h1.hist, h1.cb, h1.bells, EdS.none _, fun x ⟨_, _, _, h, _⟩ => by cases h⟩
  · intro j
    unfold coreCells
    match j with
    | 0 | 1 | 2 | 3 | 4 | 5 | 6 | 7 | 8 | 9 | 10 => rfl
    | n + 11 => rfl
  · intro _
    refine ⟨b2, r2, k2, tm2, um2, fun j hj => ?_, HC2.out.stay HSF.out hne (hx (3 - i) (by omega)) (fun _ _ => rfl)⟩
    simp only [EdState.begun]
    match j, hj with
    | 0, _ | 1, _ | 2, _ | 3, _ | 4, _ | 5, _ | 6, _ | 7, _ | 8, _ | 9, _ | 10, _ => rfl
  · exact wr.nobAfter (F := fun x => κ x ≠ (0, 0)) HF2.out (HSF.out.wr (fun x _ hx => by cases hx; exact .inl (by show κ e ≠ (0, 0); rw [H0.out]; decide)) hne)
end Go.Proofs.YtbhklkolkclflaaGreatDoor
/- E6: Package editor: begins. -/
namespace Go.Proofs.YtbhklkolkclflaaGreatDoor
open Go.RowKit

theorem forgetE {K : Act → World → Prop} {Q : Exit → Act → World → Prop} {x : Exit} {a : Act} {W0 : World} (F : World → Prop) (h0 : F W0) (h : ∀ W, F W → Exit.then K Q x a W) : Exit.then K Q x a W0 := h W0 h0
/-- A block of 34 cells. -/
def arr34 (x : Nat → Value) : Array Value :=
  #[x 0, x 1, x 2, x 3, x 4, x 5, x 6, x 7, x 8, x 9, x 10, x 11, x 12, x 13, x 14, x 15, x 16, x 17, x 18, x 19, x 20, x 21, x 22, x 23, x 24, x 25, x 26, x 27, x 28, x 29, x 30, x 31, x 32, x 33]

/-- A core that begins with a line. -/
def CoreS.begun (C : CoreS) (L : List Int) (n : Nat) : CoreS :=
  { text := L, point := L.length, mark := -1, ents := C.ents, rpl := C.rpl, place := n, texts := fun _ => none, undos := fun _ => none, mode := C.mode, over := false, last := 0, yf := 0, yt := 0, res := 0, run := false }

theorem arr34_get (y : Nat → Value) : ∀ j, j < 34 → (arr34 y)[j]? = some (y j)
  | 0, _ => rfl | 1, _ => rfl | 2, _ => rfl | 3, _ => rfl | 4, _ => rfl | 5, _ => rfl | 6, _ => rfl | 7, _ => rfl | 8, _ => rfl | 9, _ => rfl | 10, _ => rfl | 11, _ => rfl | 12, _ => rfl | 13, _ => rfl | 14, _ => rfl
  | 15, _ => rfl | 16, _ => rfl | 17, _ => rfl | 18, _ => rfl | 19, _ => rfl | 20, _ => rfl | 21, _ => rfl | 22, _ => rfl | 23, _ => rfl | 24, _ => rfl | 25, _ => rfl | 26, _ => rfl | 27, _ => rfl | 28, _ => rfl | 29, _ => rfl
  | 30, _ => rfl | 31, _ => rfl | 32, _ => rfl | 33, _ => rfl
  | n + 34, h => absurd h (by omega)
theorem BegS.of {V : World} {e : Nat} {r m : Value} {y : Nat → Value} {T : TypeId} (h : V.heap[e]? = some (.cells (arr34 y) T (0, 0))) (h1 : y 1 = r) (h4 : y 4 = m) : V.cell? ⟨e, 1, none⟩ = some r ∧ V.cell? ⟨e, 4, none⟩ = some m := by
  have hc : ∀ j, j < 34 → V.cell? ⟨e, j, none⟩ = some (y j) := fun j hj => by rw [blk_cells h, arr34_get y j hj]
  exact ⟨by rw [hc 1 (by omega), h1], by rw [hc 4 (by omega), h4]⟩
/-- The cells after begins' store. -/
def begArr (x : Nat → Value) (h b r k um m : Value) : Array Value :=
  arr34 (fun j => if j = 0 then b else if j = 1 then r else if j = 2 then k else if j = 3 then um else if j = 4 then m else if j = 5 then .bool false else if j < 10 then .int .i64 0 else if j = 10 then .bool false else if j = 11 then h else x j)
def begSets (b r k um m : Value) : List (Nat × Value) :=
  [(0, b), (1, r), (2, k), (3, um), (4, m), (5, .bool false), (6, .int .i64 0), (7, .int .i64 0), (8, .int .i64 0), (9, .int .i64 0), (10, .bool false)]
theorem begSets_arr (x : Nat → Value) (h b r k um m : Value) : (begSets b r k um m).foldl (fun c x => c.setIfInBounds x.1 x.2) (arr34 (fun j => if j = 11 then h else x j)) = begArr x h b r k um m := by
  simp [begSets, begArr, arr34]
/-- What stands behind begins' store. -/
def BegF (W : World) (e : Nat) (x : Nat → Value) (h b r m : Value) (n : Int) (V : World) : Prop :=
  ∃ k tm um, V.heap[e]? = some (.cells (begArr x h b r (.pointer (some ⟨k, 0, none⟩)) (.map (some um)) m) 86 (0, 0)) ∧ V.heap[k]? = some (.cells #[.int .i64 n, .map (some tm)] 160 (0, 0)) ∧
    MapRep V tm (fun _ => none) ∧ MapRep V um (fun _ => none) ∧ k ≠ tm ∧ k ≠ um ∧ tm ≠ um ∧ W.heap.size ≤ k ∧ W.heap.size ≤ tm ∧ W.heap.size ≤ um ∧ Fr (one e) W V
theorem BegF.of {W W1 : World} {e : Nat} {x : Nat → Value} {h b r m : Value} {n : Int} (k tm um : Nat) (hW : W.heap[e]? = some (.cells (arr34 (fun j => if j = 11 then h else x j)) 86 (0, 0))) (hf : Fr nob W W1)
    (hk : W1.heap[k]? = some (.cells #[.int .i64 n, .map (some tm)] 160 (0, 0))) (ht : MapRep W1 tm (fun _ => none)) (hu : MapRep W1 um (fun _ => none)) (h1 : k ≠ tm) (h2 : k ≠ um) (h3 : tm ≠ um) (h4 : W.heap.size ≤ k) (h5 : W.heap.size ≤ tm) (h6 : W.heap.size ≤ um) :
    BegF W e x h b r m n (sets W1 e (begSets b r (.pointer (some ⟨k, 0, none⟩)) (.map (some um)) m)).drew := by
  have hl := blk_lt hW
  have hb := sets_blk (begSets b r (.pointer (some ⟨k, 0, none⟩)) (.map (some um)) m) W1 _ (hf.keep hW (fun h => h))
  rw [begSets_arr] at hb
  have hs := sets_fr (e := e) (begSets b r (.pointer (some ⟨k, 0, none⟩)) (.map (some um)) m) W1 W1 (Fr.refl _ _)
  have hd := hs.drew
  clear hs
  generalize sets W1 e (begSets b r (.pointer (some ⟨k, 0, none⟩)) (.map (some um)) m) = U at *
  exact ⟨k, tm, um, hb, hd.keep hk (fun h => by have : k = e := h; omega), ht.stay hd (fun h => by have : tm = e := h; omega), hu.stay hd (fun h => by have : um = e := h; omega), h1, h2, h3, h4, h5, h6, hf.after hd⟩
theorem beg1 {W : World} {e : Nat} {x : Nat → Value} {h b r m : Value} {n : Int} (hW : W.heap[e]? = some (.cells (arr34 (fun j => if j = 11 then h else x j)) 86 (0, 0))) :
    BegF W e x h b r m n (sets (((W.alloc (.map #[] 0)).alloc (.cells #[.int .i64 n, .map (some W.heap.size)] 160)).alloc (.map #[] 0)) e (begSets b r (.pointer (some ⟨W.heap.size + 1, 0, none⟩)) (.map (some (W.heap.size + 1 + 1))) m)).drew := by
  refine BegF.of (W.heap.size + 1) W.heap.size (W.heap.size + 1 + 1) hW ((((Fr.refl _ _).alloc _).alloc _).alloc _) ?_ ?_ ?_ (by omega) (by omega) (by omega) (by omega) (by omega) (by omega)
  · have := heap_alloc_new (W.alloc (.map #[] 0)) (.cells #[.int .i64 n, .map (some W.heap.size)] 160)
    rw [heap_alloc_lt _ (by simp)]
    simpa only [World.size_alloc] using this
  · exact ((MapRep.new W).stay ((Fr.refl nob _).alloc _) (fun h => h)).stay ((Fr.refl nob _).alloc _) (fun h => h)
  · have := MapRep.new ((W.alloc (.map #[] 0)).alloc (.cells #[.int .i64 n, .map (some W.heap.size)] 160))
    simpa only [World.size_alloc] using this
theorem beg2 {W : World} {e : Nat} {x : Nat → Value} {h b r m : Value} {n : Int} (hW : W.heap[e]? = some (.cells (arr34 (fun j => if j = 11 then h else x j)) 86 (0, 0))) :
    BegF W e x h b r m n (sets (((W.alloc (.map #[] 0)).alloc (.map #[] 0)).alloc (.cells #[.int .i64 n, .map (some W.heap.size)] 160)) e (begSets b r (.pointer (some ⟨W.heap.size + 1 + 1, 0, none⟩)) (.map (some (W.heap.size + 1))) m)).drew := by
  refine BegF.of (W.heap.size + 1 + 1) W.heap.size (W.heap.size + 1) hW ((((Fr.refl _ _).alloc _).alloc _).alloc _) ?_ ?_ ?_ (by omega) (by omega) (by omega) (by omega) (by omega) (by omega)
  · have := heap_alloc_new ((W.alloc (.map #[] 0)).alloc (.map #[] 0)) (.cells #[.int .i64 n, .map (some W.heap.size)] 160)
    simpa only [World.size_alloc] using this
  · exact ((MapRep.new W).stay ((Fr.refl nob _).alloc _) (fun h => h)).stay ((Fr.refl nob _).alloc _) (fun h => h)
  · have := (MapRep.new (W.alloc (.map #[] 0))).stay ((Fr.refl nob _).alloc (.cells #[.int .i64 n, .map (some W.heap.size)] 160)) (fun h => h)
    simpa only [World.size_alloc] using this
theorem beg3 {W : World} {e : Nat} {x : Nat → Value} {h b r m : Value} {n : Int} (hW : W.heap[e]? = some (.cells (arr34 (fun j => if j = 11 then h else x j)) 86 (0, 0))) :
    BegF W e x h b r m n (sets (((W.alloc (.map #[] 0)).alloc (.map #[] 0)).alloc (.cells #[.int .i64 n, .map (some (W.heap.size + 1))] 160)) e (begSets b r (.pointer (some ⟨W.heap.size + 1 + 1, 0, none⟩)) (.map (some W.heap.size)) m)).drew := by
  refine BegF.of (W.heap.size + 1 + 1) (W.heap.size + 1) W.heap.size hW ((((Fr.refl _ _).alloc _).alloc _).alloc _) ?_ ?_ ?_ (by omega) (by omega) (by omega) (by omega) (by omega) (by omega)
  · have := heap_alloc_new ((W.alloc (.map #[] 0)).alloc (.map #[] 0)) (.cells #[.int .i64 n, .map (some (W.heap.size + 1))] 160)
    simpa only [World.size_alloc] using this
  · have := (MapRep.new (W.alloc (.map #[] 0))).stay ((Fr.refl nob _).alloc (.cells #[.int .i64 n, .map (some (W.heap.size + 1))] 160)) (fun h => h)
    simpa only [World.size_alloc] using this
  · exact ((MapRep.new W).stay ((Fr.refl nob _).alloc _) (fun h => h)).stay ((Fr.refl nob _).alloc _) (fun h => h)
theorem BegS_sets {V : World} {e : Nat} {T : TypeId} {x : Nat → Value} {h b r k um m : Value} (hV : V.heap[e]? = some (.cells (arr34 (fun j => if j = 11 then h else x j)) T (0, 0))) : (sets V e (begSets b r k um m)).drew.cell? ⟨e, 1, none⟩ = some r ∧ (sets V e (begSets b r k um m)).drew.cell? ⟨e, 4, none⟩ = some m := by
  have h1 := sets_blk (begSets b r k um m) V _ hV
  rw [begSets_arr] at h1
  generalize sets V e (begSets b r k um m) = U at *
  unfold begArr at h1
  exact BegS.of (V := U.drew) h1 rfl rfl

/-- The cells that begins leaves. -/
def begArr2 (x : Nat → Value) (h b r k um m : Value) : Array Value :=
  arr34 (fun j => if j = 0 then b else if j = 1 then r else if j = 2 then k else if j = 3 then um else if j = 4 then m else if j = 5 then .bool false else if j < 10 then .int .i64 0 else if j = 10 then .bool false else if j = 11 then h else
    if j = 13 then .bool false else if j = 14 then .bool false else if j = 15 then .int .i64 (-1) else x j)
theorem begArr2_of (x : Nat → Value) (h b r k um m : Value) : (((begArr x h b r k um m).setIfInBounds 13 (.bool false)).setIfInBounds 14 (.bool false)).setIfInBounds 15 (.int .i64 (-1)) = begArr2 x h b r k um m := by
  simp [begArr, begArr2, arr34]
theorem HistRep.within {w : World} {F : Nat → Prop} {h : Nat} {hs : List (ByteArray × Int)} {base most : Int} (r : HistRep w F h hs base most) : HistRep w (fun y => F y ∧ y < w.heap.size) h hs base most := by
  obtain ⟨a, c, h1, h2, h3⟩ := r.ex
  refine ⟨⟨r.mem, blk_lt h1⟩, r.nz, a, c, h1, h2, fun hn ad ea => ⟨h3 hn ad ea, ?_⟩⟩
  rcases h2.rd with h4 | ⟨g, off, e, h4⟩
  · have := congrArg List.length h4
    rw [hcells_length] at this
    simp at this
    omega
  · obtain ⟨u, hu⟩ : ∃ u, (hcells hs)[0]? = some u := ⟨_, List.getElem?_eq_getElem (by rw [hcells_length]; omega)⟩
    have h5 := h4 0 u hu
    rw [ea] at e
    injection e with e
    rw [e]
    simp only [World.cell?] at h5
    rcases Nat.lt_or_ge g w.heap.size with h6 | h6
    · exact h6
    · rw [Array.getElem?_eq_none h6] at h5
      simp at h5
/-- What begins leaves. -/
def Begun (w : World) (κ : Col) (i e r : Nat) (x : Nat → Value) (C : CoreS) (hs : List (ByteArray × Int)) (base most : Int) (L : List Int) (y : Ending) (w' : World) : Prop :=
  y = .returned (.tuple #[]) ∧ ∃ b k tm um h' κ', (∀ z, z < w.heap.size → κ' z = κ z) ∧ CoreAt w' κ' i b r k tm um (C.begun L hs.length) ∧ HistRep w' (fun z => κ' z = (3, 1)) h' hs base most ∧
    w'.heap[e]? = some (.cells (begArr2 x (.pointer (some ⟨h', 0, none⟩)) (.pointer (some ⟨b, 0, none⟩)) (.pointer (some ⟨r, 0, none⟩)) (.pointer (some ⟨k, 0, none⟩)) (.map (some um)) (.int .i64 C.mode)) 86 (0, 0)) ∧ Fr (one e) w w'
theorem beg_end {w w1 w2 W V : World} {κ : Col} {i e r b h' k tm um : Nat} {x : Nat → Value} {C : CoreS} {hs : List (ByteArray × Int)} {base most : Int} {L : List Int} {c0 : Array Value} (hb0 : w.heap[e]? = some (.cells c0 86 (0, 0))) (hf1 : Fr nob w w1) (hb : w.heap.size ≤ b) (hbr : BufRep w1 b L L.length (-1))
    (hf2 : Fr nob w1 w2) (hh : HistRep w2 (newIn w1) h' hs base most) (hW : Fr (one e) w2 W) (hV : Fr (one e) W V)
    (hV0 : V.heap[e]? = some (.cells (begArr x (.pointer (some ⟨h', 0, none⟩)) (.pointer (some ⟨b, 0, none⟩)) (.pointer (some ⟨r, 0, none⟩)) (.pointer (some ⟨k, 0, none⟩)) (.map (some um)) (.int .i64 C.mode)) 86 (0, 0)))
    (hVk : V.heap[k]? = some (.cells #[.int .i64 hs.length, .map (some tm)] 160 (0, 0))) (hVt : MapRep V tm (fun _ => none)) (hVu : MapRep V um (fun _ => none)) (h1 : k ≠ tm) (h2 : k ≠ um) (h3 : tm ≠ um) (h4 : W.heap.size ≤ k) (h5 : W.heap.size ≤ tm) (h6 : W.heap.size ≤ um)
    (hr : RingRep w r C.ents C.rpl) (hκ : κ r = (i, 1)) (hre : r ≠ e) :
    Begun w κ i e r x C hs base most L (.returned (.tuple #[])) (((V.setCell ⟨e, 13, none⟩ (.bool false)).setCell ⟨e, 14, none⟩ (.bool false)).setCell ⟨e, 15, none⟩ (.int .i64 (-1))) := by
  have l1 := hbr.lt
  have l2 := hr.lt
  have s1 := hf1.size
  have s2 := hf2.size
  have s3 := hW.size
  have hf : Fr (one e) V (((V.setCell ⟨e, 13, none⟩ (.bool false)).setCell ⟨e, 14, none⟩ (.bool false)).setCell ⟨e, 15, none⟩ (.int .i64 (-1))) := (((Fr.refl _ _).setOne _ _).setOne _ _).setOne _ _
  have hblk : (((V.setCell ⟨e, 13, none⟩ (.bool false)).setCell ⟨e, 14, none⟩ (.bool false)).setCell ⟨e, 15, none⟩ (.int .i64 (-1))).heap[e]? = some (.cells (begArr2 x (.pointer (some ⟨h', 0, none⟩)) (.pointer (some ⟨b, 0, none⟩)) (.pointer (some ⟨r, 0, none⟩)) (.pointer (some ⟨k, 0, none⟩)) (.map (some um)) (.int .i64 C.mode)) 86 (0, 0)) := by
    rw [← begArr2_of]
    exact heap_setCell_same (o := 15) (heap_setCell_same (o := 14) (heap_setCell_same (o := 13) hV0 _) _) _
  generalize ((V.setCell ⟨e, 13, none⟩ (.bool false)).setCell ⟨e, 14, none⟩ (.bool false)).setCell ⟨e, 15, none⟩ (.int .i64 (-1)) = U at *
  have he := blk_lt hb0
  have hN : NR w2 (one e) := NR.one ((hf1.then hf2).keep hb0 (fun h => h)) (by decide)
  have hU : Fr (one e) w2 U := (hW.trans hV (fun _ _ h => h)).trans hf (fun _ _ h => h)
  have hne : ∀ z, w.heap.size ≤ z → ¬ one e z := fun z hz h => by
    have : z = e := h
    omega
  refine ⟨rfl, b, k, tm, um, h', fun z => if z < w.heap.size then κ z else if z < w1.heap.size then (i, 0) else if z < w2.heap.size then (3, 1) else if z = k then (i, 2) else if z = tm then (i, 3) else (i, 4), fun z hz => if_pos hz, ⟨?_, ?_, ?_, ?_, ?_, ?_, ?_, ?_, ?_, ?_⟩, ?_, hblk, (hf1.then hf2).after hU⟩
  · show (if b < w.heap.size then _ else _) = _
    rw [if_neg (by omega), if_pos l1]
  · exact (hbr.stayN hf2).stay hU (hne _ hb) hN
  · show (if r < w.heap.size then _ else _) = _
    rw [if_pos l2, hκ]
  · exact ((hr.stayN hf1).stayN hf2).stay hU hN (fun h => hre h)
  · show (if k < w.heap.size then _ else _) = _
    rw [if_neg (by omega), if_neg (by omega), if_neg (by omega), if_pos rfl]
  · exact hf.keep hVk (hne _ (by omega))
  · show (if tm < w.heap.size then _ else _) = _
    rw [if_neg (by omega), if_neg (by omega), if_neg (by omega), if_neg (by omega), if_pos rfl]
  · exact hVt.stay hf (hne _ (by omega))
  · show (if um < w.heap.size then _ else _) = _
    rw [if_neg (by omega), if_neg (by omega), if_neg (by omega), if_neg (by omega), if_neg (by omega)]
  · exact ⟨fun _ => none, hVu.stay hf (hne _ (by omega)), fun _ _ => rfl, fun p g h => by cases h⟩
  · refine (hh.within.stay hU (fun z hz => hne z ?_)).mono (fun z hz => ?_)
    · have := hz.1.elim (fun h => h.elim) id
      omega
    · have := hz.1.elim (fun h => h.elim) id
      have h8 := hz.2
      show (if z < w.heap.size then _ else _) = _
      rw [if_neg (by omega), if_neg (by omega), if_pos h8]

set_option maxRecDepth 10000 in
set_option maxHeartbeats 4000000 in
theorem ed_begins (w : World) (e r : Nat) (x : Nat → Value) (C : CoreS) (F : Nat → Prop) (h : Nat) (hs : List (ByteArray × Int)) (base most : Int) (a : Option Addr) (c : Nat) (L : List Int)
    (hb : w.heap[e]? = some (.cells (arr34 x) 86 (0, 0))) (h1 : x 1 = .pointer (some ⟨r, 0, none⟩)) (h4 : x 4 = .int .i64 C.mode) (hh : HistRep w F h hs base most) (hhl : hs.length ≤ 100000) (heh : ¬ F e)
    (hl : Sl w 1 a L.length c (runes L)) (hL : L.length ≤ 1024) (κ : Col) (i : Nat) (hr : RingRep w r C.ents C.rpl) (hκ : κ r = (i, 1)) (hre : r ≠ e) :
    Calls Tryz.prog 80 #[.pointer (some ⟨e, 0, none⟩), .pointer (some ⟨h, 0, none⟩), .slice a L.length c] w (Begun w κ i e r x C hs base most L) := by
  have HN := Lib.hid (buf_new w a c L hl hL)
  have HH := Lib.hid hh
  have HHL := Lib.hid hhl
  have HEH := Lib.hid heh
  have HB := Lib.hid hb
  have H1 := Lib.hid h1
  have H4 := Lib.hid h4
  have hcl : ∀ V, Fr nob w V → Calls Tryz.prog 78 #[.pointer (some ⟨h, 0, none⟩)] V fun y w' => ∃ h', y = .returned (.pointer (some ⟨h', 0, none⟩)) ∧ V.heap.size ≤ h' ∧ HistRep w' (newIn V) h' hs base most ∧ Fr nob V w' := fun V hV => hist_clone V F h hs base most (hh.stayN hV) hhl
  have HCL := Lib.hid hcl
  have HRR := Lib.hid hr
  have HKK := Lib.hid hκ
  have HRE := Lib.hid hre
  clear hh hl hb h1 h4 hcl hhl heh hr hκ hre
  go_enter Tryz.func80, Tryz.ntmps80
  go_wp2_with (first
    | (go_at_call 117; refine (HN.out).mono ?_; rintro y w1 ⟨b, rfl, hb1, hbr, hf1⟩; have HF1 := Lib.hid hf1; have HBR := Lib.hid hbr; have HB1 := Lib.hid hb1; clear hf1 hbr hb1)
    | (go_at_call 78; refine (HCL.out _ HF1.out).mono ?_; rintro y w2 ⟨h', rfl, hh', hhr, hf2⟩; have HF2 := Lib.hid hf2; have HHR := Lib.hid hhr; have HH' := Lib.hid hh'; have hb2 := (HF1.out.then hf2).keep HB.out (fun h => h); have hz2 := blk_free hb2; have hlt2 := blk_lt hb2; have hcc := blk_cells hb2; unfold arr34 at hcc; have HB2 := Lib.hid hb2; clear hf2 hhr hh' hb2))
  have hlh : e < w2.heap.size := blk_lt HB2.out
  have hW0 : (w2.setCell ⟨e, 11, none⟩ (.pointer (some ⟨h', 0, none⟩))).heap[e]? = some (.cells (arr34 (fun j => if j = 11 then .pointer (some ⟨h', 0, none⟩) else x j)) 86 (0, 0)) := by
    have h := heap_setCell_same (o := 11) HB2.out (.pointer (some ⟨h', 0, none⟩))
    simpa [arr34] using h
  have hf0 : Fr (one e) w2 (w2.setCell ⟨e, 11, none⟩ (.pointer (some ⟨h', 0, none⟩))) := (Fr.refl _ _).setOne _ _
  have hLen : ∀ V, Fr (one e) w2 V → Calls Tryz.prog 114 #[.pointer (some ⟨h, 0, none⟩)] V fun y w' => y = .returned (.int .i64 hs.length) ∧ w' = V := fun V hV =>
    hist_len V F h hs base most (((HH.out.stayN HF1.out).stayN HF2.out).stay hV (fun z hz hze => by cases hze; exact HEH.out hz))
  have HLEN := Lib.hid hLen
  refine forget (fun W => Hid (W.heap[e]? = some (.cells (arr34 (fun j => if j = 11 then .pointer (some ⟨h', 0, none⟩) else x j)) 86 (0, 0))) ∧ Fr (one e) w2 W) ⟨hW0, hf0⟩ ?_
  clear hW0 hf0 hLen hz2 hlt2 hcc
  rintro W ⟨HW, hfW⟩
  have hS2 : ∀ (A B D : Obj) (k um : Value), ((((((((((((((W.alloc A).alloc B).alloc D).setCell ⟨e, 0, none⟩ (.pointer (some ⟨b, 0, none⟩))).setCell ⟨e, 1, none⟩ (.pointer (some ⟨r, 0, none⟩))).setCell ⟨e, 2, none⟩ (k)).setCell ⟨e, 3, none⟩ (um)).setCell ⟨e, 4, none⟩ (.int .i64 C.mode)).setCell ⟨e, 5, none⟩ (.bool false)).setCell ⟨e, 6, none⟩ (.int .i64 0)).setCell ⟨e, 7, none⟩ (.int .i64 0)).setCell ⟨e, 8, none⟩ (.int .i64 0)).setCell ⟨e, 9, none⟩ (.int .i64 0)).setCell ⟨e, 10, none⟩ (.bool false)).drew.cell? ⟨e, 1, none⟩ = some (.pointer (some ⟨r, 0, none⟩)) ∧ ((((((((((((((W.alloc A).alloc B).alloc D).setCell ⟨e, 0, none⟩ (.pointer (some ⟨b, 0, none⟩))).setCell ⟨e, 1, none⟩ (.pointer (some ⟨r, 0, none⟩))).setCell ⟨e, 2, none⟩ (k)).setCell ⟨e, 3, none⟩ (um)).setCell ⟨e, 4, none⟩ (.int .i64 C.mode)).setCell ⟨e, 5, none⟩ (.bool false)).setCell ⟨e, 6, none⟩ (.int .i64 0)).setCell ⟨e, 7, none⟩ (.int .i64 0)).setCell ⟨e, 8, none⟩ (.int .i64 0)).setCell ⟨e, 9, none⟩ (.int .i64 0)).setCell ⟨e, 10, none⟩ (.bool false)).drew.cell? ⟨e, 4, none⟩ = some (.int .i64 C.mode) := fun A B D k um => BegS_sets (V := ((W.alloc A).alloc B).alloc D) (((((Fr.refl nob W).alloc A).alloc B).alloc D).keep HW.out (fun h => h))
  have HS2 := Lib.hid hS2
  clear hS2
  have hmk1 : ∀ W, (Instr.makeMap 158 none).run Tryz.prog W = .ok (.map (some W.heap.size)) (W.alloc (.map #[] 0)) := fun W => run_makeMap _ W
  have hmk2 : ∀ W, (Instr.makeMap 80 none).run Tryz.prog W = .ok (.map (some W.heap.size)) (W.alloc (.map #[] 0)) := fun W => run_makeMap _ W
  have hA0 : ∀ (o : Nat), W.cell? ⟨e, o, none⟩ = (arr34 (fun j => if j = 11 then .pointer (some ⟨h', 0, none⟩) else x j))[o]? := fun o => blk_cells HW.out o
  have hA1 : ∀ (A : Obj) (o : Nat), (W.alloc A).cell? ⟨e, o, none⟩ = (arr34 (fun j => if j = 11 then .pointer (some ⟨h', 0, none⟩) else x j))[o]? := fun A o => blk_cells (((Fr.refl nob W).alloc A).keep HW.out (fun h => h)) o
  have hA2 : ∀ (A B : Obj) (o : Nat), ((W.alloc A).alloc B).cell? ⟨e, o, none⟩ = (arr34 (fun j => if j = 11 then .pointer (some ⟨h', 0, none⟩) else x j))[o]? := fun A B o => blk_cells ((((Fr.refl nob W).alloc A).alloc B).keep HW.out (fun h => h)) o
  have hx1 := H1.out
  have hx4 := H4.out
  have hA : ∀ (A B D : Obj) (o : Nat), (((W.alloc A).alloc B).alloc D).cell? ⟨e, o, none⟩ = (arr34 (fun j => if j = 11 then .pointer (some ⟨h', 0, none⟩) else x j))[o]? := fun A B D o => blk_cells (((((Fr.refl nob W).alloc A).alloc B).alloc D).keep HW.out (fun h => h)) o
  have hZ : ∀ (A B D : Obj) (o : Nat), (((W.alloc A).alloc B).alloc D).frozen? ⟨e, o, none⟩ = false := fun A B D o => blk_free (((((Fr.refl nob W).alloc A).alloc B).alloc D).keep HW.out (fun h => h)) o
  have HF1 := Lib.hid (show BegF W e x (.pointer (some ⟨h', 0, none⟩)) (.pointer (some ⟨b, 0, none⟩)) (.pointer (some ⟨r, 0, none⟩)) (.int .i64 C.mode) hs.length ((((((((((((((W.alloc (.map #[] 0)).alloc (.cells #[.int .i64 hs.length, .map (some W.heap.size)] 160)).alloc (.map #[] 0)).setCell ⟨e, 0, none⟩ (.pointer (some ⟨b, 0, none⟩))).setCell ⟨e, 1, none⟩ (.pointer (some ⟨r, 0, none⟩))).setCell ⟨e, 2, none⟩ (.pointer (some ⟨W.heap.size + 1, 0, none⟩))).setCell ⟨e, 3, none⟩ (.map (some (W.heap.size + 1 + 1)))).setCell ⟨e, 4, none⟩ (.int .i64 C.mode)).setCell ⟨e, 5, none⟩ (.bool false)).setCell ⟨e, 6, none⟩ (.int .i64 0)).setCell ⟨e, 7, none⟩ (.int .i64 0)).setCell ⟨e, 8, none⟩ (.int .i64 0)).setCell ⟨e, 9, none⟩ (.int .i64 0)).setCell ⟨e, 10, none⟩ (.bool false)).drew from beg1 HW.out)
  have HF2 := Lib.hid (show BegF W e x (.pointer (some ⟨h', 0, none⟩)) (.pointer (some ⟨b, 0, none⟩)) (.pointer (some ⟨r, 0, none⟩)) (.int .i64 C.mode) hs.length ((((((((((((((W.alloc (.map #[] 0)).alloc (.map #[] 0)).alloc (.cells #[.int .i64 hs.length, .map (some W.heap.size)] 160)).setCell ⟨e, 0, none⟩ (.pointer (some ⟨b, 0, none⟩))).setCell ⟨e, 1, none⟩ (.pointer (some ⟨r, 0, none⟩))).setCell ⟨e, 2, none⟩ (.pointer (some ⟨W.heap.size + 1 + 1, 0, none⟩))).setCell ⟨e, 3, none⟩ (.map (some (W.heap.size + 1)))).setCell ⟨e, 4, none⟩ (.int .i64 C.mode)).setCell ⟨e, 5, none⟩ (.bool false)).setCell ⟨e, 6, none⟩ (.int .i64 0)).setCell ⟨e, 7, none⟩ (.int .i64 0)).setCell ⟨e, 8, none⟩ (.int .i64 0)).setCell ⟨e, 9, none⟩ (.int .i64 0)).setCell ⟨e, 10, none⟩ (.bool false)).drew from beg2 HW.out)
  have HF3 := Lib.hid (show BegF W e x (.pointer (some ⟨h', 0, none⟩)) (.pointer (some ⟨b, 0, none⟩)) (.pointer (some ⟨r, 0, none⟩)) (.int .i64 C.mode) hs.length ((((((((((((((W.alloc (.map #[] 0)).alloc (.map #[] 0)).alloc (.cells #[.int .i64 hs.length, .map (some (W.heap.size + 1))] 160)).setCell ⟨e, 0, none⟩ (.pointer (some ⟨b, 0, none⟩))).setCell ⟨e, 1, none⟩ (.pointer (some ⟨r, 0, none⟩))).setCell ⟨e, 2, none⟩ (.pointer (some ⟨W.heap.size + 1 + 1, 0, none⟩))).setCell ⟨e, 3, none⟩ (.map (some W.heap.size))).setCell ⟨e, 4, none⟩ (.int .i64 C.mode)).setCell ⟨e, 5, none⟩ (.bool false)).setCell ⟨e, 6, none⟩ (.int .i64 0)).setCell ⟨e, 7, none⟩ (.int .i64 0)).setCell ⟨e, 8, none⟩ (.int .i64 0)).setCell ⟨e, 9, none⟩ (.int .i64 0)).setCell ⟨e, 10, none⟩ (.bool false)).drew from beg3 HW.out)
  unfold arr34 at hA hA0 hA1 hA2
  clear hlh
  go_region_held3 (fun V => V.cell? ⟨e, 1, none⟩ = some (.pointer (some ⟨r, 0, none⟩)) ∧ V.cell? ⟨e, 4, none⟩ = some (.int .i64 C.mode))
    ((first | (go_keep; done) | with_reducible exact HS2.out _ _ _ _ _))
    (first
      | (go_at_call 114; refine (HLEN.out _ (by first | with_reducible exact hfW.drew | with_reducible exact (hfW.alloc _).drew | with_reducible exact ((hfW.alloc _).alloc _).drew | with_reducible exact (((hfW.alloc _).alloc _).alloc _).drew | with_reducible exact hfW.drew.alloc _ | with_reducible exact (hfW.drew.alloc _).alloc _ | with_reducible exact ((hfW.drew.alloc _).alloc _).alloc _)).mono ?_; rintro y w' ⟨rfl, rfl⟩))
  all_goals refine forgetE (BegF W e x (.pointer (some ⟨h', 0, none⟩)) (.pointer (some ⟨b, 0, none⟩)) (.pointer (some ⟨r, 0, none⟩)) (.int .i64 C.mode) hs.length) (by first | with_reducible exact HF1.out | with_reducible exact HF2.out | with_reducible exact HF3.out) ?_
  all_goals clear HF1 HF2 HF3 HS2 hA hA0 hA1 hA2 hZ hmk1 hmk2 hx1 hx4
  all_goals rintro V ⟨k, tm, um, hV0, hVk, hVt, hVu, hk1, hk2, hk3, hk4, hk5, hk6, hVf⟩
  all_goals have HV0 := Lib.hid hV0
  all_goals have HVK := Lib.hid hVk
  all_goals have HVT := Lib.hid hVt
  all_goals have HVU := Lib.hid hVu
  all_goals have HVF := Lib.hid hVf
  all_goals have hcV := blk_cells hV0
  all_goals have hzV := blk_free hV0
  all_goals have hlV := blk_lt hV0
  all_goals unfold begArr arr34 at hcV
  all_goals clear hV0 hVk hVt hVu hVf
  all_goals go_wp2
  all_goals refine bodyPost_end (results_none rfl _ _ _) rfl ?_
  all_goals exact beg_end HB.out HF1.out HB1.out HBR.out HF2.out HHR.out hfW HVF.out HV0.out HVK.out HVT.out HVU.out hk1 hk2 hk3 hk4 hk5 hk6 HRR.out HKK.out HRE.out
end Go.Proofs.YtbhklkolkclflaaGreatDoor
/- E7: Package editor: an editor laid open, and how its parts change. -/
namespace Go.Proofs.YtbhklkolkclflaaGreatDoor
open Go.RowKit

section
variable {w w' : World} {κ κ' : Col} {i b r k tm um : Nat} {S : CoreS} {M : Nat → Prop}
/-- The buffer alone is written. -/
theorem CoreAt.setBuf (h : CoreAt w κ i b r k tm um S) (hf : Fr (one b) w w') (hk : ∀ y, y < w.heap.size → κ' y = κ y) {L : List Int} {p m : Int} (hb : BufRep w' b L p m) :
    CoreAt w' κ' i b r k tm um { S with text := L, point := p, mark := m } := by
  have hr := h.buf.nr
  have hn : ∀ x j, j ≠ 0 → κ x = (i, j) → ¬ one b x := fun x j hj hx hM => by
    cases hM
    rw [h.cb] at hx
    injection hx with _ hx
    exact hj hx.symm
  have l1 := h.buf.lt
  have l2 := h.ring.lt
  have l3 := blk_lt h.walk
  have l4 := h.texts.lt
  obtain ⟨f, hu, h2, h3⟩ := h.undos
  have l5 := hu.lt
  refine ⟨(hk _ l1).trans h.cb, hb, (hk _ l2).trans h.cr, h.ring.stay hf hr (hn _ 1 (by omega) h.cr), (hk _ l3).trans h.ck, hf.keep h.walk (hn _ 2 (by omega) h.ck), (hk _ l4).trans h.ct,
    h.texts.stay hf (hn _ 3 (by omega) h.ct), (hk _ l5).trans h.cu, f, hu.stay hf (hn _ 4 (by omega) h.cu), h2, fun p g hp => ?_⟩
  obtain ⟨h0, l, h4, h5⟩ := h3 p g hp
  refine ⟨h0, l, h4, (h5.within.stay hf hr (fun y hy hM => hn _ (5 + p.toNat) (by omega) hy.1 hM)).mono (fun y hy => by rw [hk y hy.2]; exact hy.1)⟩

/-- The lists of undo by place, and the list at one of them. -/
def UndosL (w : World) (κ : Col) (i um : Nat) (u : Int → Option (List (List EditP) × Int)) (p : Int) (l : Nat) : Prop :=
  ∃ f : Int → Option Value, MapRep w um f ∧ (∀ p, u p = none → f p = none) ∧
    (∀ p g, u p = some g → 0 ≤ p ∧ ∃ l, f p = some (.pointer (some ⟨l, 0, none⟩)) ∧ ListRep w (fun b => κ b = (i, 5 + p.toNat)) l g.1 [] 0 g.2) ∧ f p = some (.pointer (some ⟨l, 0, none⟩))

theorem UndosL.at {u : Int → Option (List (List EditP) × Int)} {p : Int} {l : Nat} (h : UndosL w κ i um u p l) : UndosAt w κ i um u := by
  obtain ⟨f, h1, h2, h3, _⟩ := h
  exact ⟨f, h1, h2, h3⟩
theorem UndosL.list {u : Int → Option (List (List EditP) × Int)} {p : Int} {l : Nat} {g : List (List EditP) × Int} (h : UndosL w κ i um u p l) (hp : u p = some g) : 0 ≤ p ∧ ListRep w (fun b => κ b = (i, 5 + p.toNat)) l g.1 [] 0 g.2 := by
  obtain ⟨f, h1, h2, h3, h4⟩ := h
  obtain ⟨h0, l', h5, h6⟩ := h3 p g hp
  rw [h4] at h5
  injection h5 with h5
  injection h5 with h5
  injection h5 with h5
  injection h5 with h5
  subst h5
  exact ⟨h0, h6⟩

/-- Another value at one place. -/
def updU (u : Int → Option (List (List EditP) × Int)) (p : Int) (g : List (List EditP) × Int) : Int → Option (List (List EditP) × Int) := fun q => if q = p then some g else u q

theorem UndosL.stay {u : Int → Option (List (List EditP) × Int)} {p : Int} {l : Nat} (h : UndosL w κ i um u p l) (hf : Fr M w w') (hr : NR w M) (hm : ∀ b, M b → b < w.heap.size → (κ b).1 ≠ i) (hu : ¬ M um) (hk : ∀ b, b < w.heap.size → κ' b = κ b) : UndosL w' κ' i um u p l := by
  obtain ⟨f, h1, h2, h3, h4⟩ := h
  refine ⟨f, h1.stay hf hu, h2, fun p g hp => ?_, h4⟩
  obtain ⟨h0, l, h4, h5⟩ := h3 p g hp
  refine ⟨h0, l, h4, ?_⟩
  exact (h5.within.stay (M := M) hf hr (fun b hb hM => hm b hM hb.2 (by rw [hb.1]))).mono (fun b hb => by rw [hk b hb.2]; exact hb.1)

/-- The list at a place is changed. -/
theorem UndosL.set {u : Int → Option (List (List EditP) × Int)} {p : Int} {l : Nat} (h : UndosL w κ i um u p l) (hp : 0 ≤ p) (hu : κ um = (i, 4)) (hf : Fr (wr w (fun b => κ b = (i, 5 + p.toNat))) w w') {g : List (List EditP) × Int}
    (hl : ListRep w' (plus w (fun b => κ b = (i, 5 + p.toNat))) l g.1 [] 0 g.2) : UndosL w' (paint κ w.heap.size (i, 5 + p.toNat)) i um (updU u p g) p l := by
  obtain ⟨f, h1, h2, h3, h4⟩ := h
  have hum : ¬ wr w (fun b => κ b = (i, 5 + p.toNat)) um := fun hx => by
    have h5 : κ um = (i, 5 + p.toNat) := hx.1
    rw [hu] at h5
    injection h5 with _ h5
    omega
  refine ⟨f, h1.stay hf hum, fun q hq => ?_, fun q g' hq => ?_, h4⟩
  · unfold updU at hq
    split at hq
    · cases hq
    · exact h2 q hq
  · unfold updU at hq
    split at hq
    · rename_i e
      subst e
      injection hq with hq
      subst hq
      exact ⟨hp, l, h4, hl.mono (fun y hy => by
        rcases Nat.lt_or_ge y w.heap.size with hlt | hge
        · rw [paint_old _ _ _ _ hlt]
          exact hy.elim id (fun h => by omega)
        · exact paint_new _ _ _ _ hge)⟩
    · rename_i hne
      obtain ⟨h0, l', h5, h6⟩ := h3 q g' hq
      refine ⟨h0, l', h5, (h6.within.stay hf (NR.wr _ _) (fun y hy hM => ?_)).mono (fun y hy => by rw [paint_old _ _ _ _ hy.2]; exact hy.1)⟩
      have h7 := hy.1.symm.trans hM.1
      injection h7 with _ h7
      omega

/-- The lists alone are written. -/
theorem CoreAt.setUndos (h : CoreAt w κ i b r k tm um S) (hf : Fr M w w') (hr : NR w M) (hm : ∀ y, M y → y < w.heap.size → ∃ j, κ y = (i, 4 + j)) (hk : ∀ y, y < w.heap.size → κ' y = κ y) {u : Int → Option (List (List EditP) × Int)} (hu : UndosAt w' κ' i um u) :
    CoreAt w' κ' i b r k tm um { S with undos := u } := by
  have hn : ∀ x j, j < 4 → κ x = (i, j) → x < w.heap.size → ¬ M x := fun x j hj hx hl hM => by
    obtain ⟨j', h1⟩ := hm x hM hl
    rw [hx] at h1
    injection h1 with _ h1
    omega
  have l1 := h.buf.lt
  have l2 := h.ring.lt
  have l3 := blk_lt h.walk
  have l4 := h.texts.lt
  obtain ⟨f, hu0, _⟩ := h.undos
  have l5 := hu0.lt
  exact ⟨(hk _ l1).trans h.cb, h.buf.stay hf (hn _ 0 (by omega) h.cb l1) hr, (hk _ l2).trans h.cr, h.ring.stay hf hr (hn _ 1 (by omega) h.cr l2), (hk _ l3).trans h.ck, hf.keep h.walk (hn _ 2 (by omega) h.ck l3), (hk _ l4).trans h.ct,
    h.texts.stay hf (hn _ 3 (by omega) h.ct l4), (hk _ l5).trans h.cu, hu⟩
end

/-- The list at the editor's place. -/
def EdState.lst (S : EdState) : List (List EditP) × Int := (S.core.undos S.core.place).getD ([], 0)
def EdState.setLst (S : EdState) (g : List (List EditP) × Int) : EdState := { S with core := { S.core with undos := updU S.core.undos S.core.place g } }
/-- There is a list. -/
def EdState.listed (S : EdState) : EdState := S.setLst S.lst
/-- What flush does with the list. -/
def flushG (on : Bool) (g : List (List EditP) × Int) (put : List EditP) : List (List EditP) × Int :=
  if on = true ∧ g.1 ≠ [] then (g.1.dropLast ++ [g.1.getLast?.getD [] ++ put], g.2 + put.length) else (g.1 ++ [put], g.2 + put.length)
def EdState.flushed (S : EdState) (on : Bool) : EdState := if S.put = [] then S else { S.setLst (flushG on S.lst S.put) with put := [] }
/-- A command ends. -/
def EdState.unarg (S : EdState) : EdState := { S with f := { S.f with given := false, minus := false, arg := -1 } }
def EdState.ended (S : EdState) (err : Int) : EdState :=
  let S1 : EdState := { S with f := { S.f with inn := false } }
  let S2 := if S.f.argues = false ∨ err ≠ 0 then S1.unarg else S1
  if err ≠ 0 then { S2 with core := { S.was with last := 0, yf := 0, yt := 0 }, bells := S.bells + 1, put := [] }
  else
    let types := S.f.cls = 3 ∧ S.f.whole = true
    let S3 := S2.flushed (decide types && S.core.run)
    let S4 : EdState := { S3 with core := { S3.core with run := decide types && (decide (S.put ≠ []) || S.core.run), last := S.f.cls } }
    if S.f.cls = 2 then S4 else { S4 with core := { S4.core with yf := 0, yt := 0 } }
/-- Runes are put in the place of others. -/
def EdState.bufd (S : EdState) (f t : Nat) (l : List Int) : EdState :=
  { S with core := { S.core with text := S.core.text.take f ++ l ++ S.core.text.drop t, point := newPoint S.core.point f t l.length, mark := newMark S.core.mark f t l.length } }
def EdState.roomed (S : EdState) : EdState :=
  if 16384 ≤ S.lst.2 + S.put.length then { S.setLst ([], 0) with core := { (S.setLst ([], 0)).core with run := false }, put := [] } else S.listed
def EdState.replaced (S : EdState) (f t : Nat) (l : List Int) : EdState :=
  if t - f + l.length = 0 then S.bufd f t l else { (S.bufd f t l).roomed with put := (S.bufd f t l).roomed.put ++ [((f : Int), (S.core.text.drop f).take (t - f), l)] }
end Go.Proofs.YtbhklkolkclflaaGreatDoor
/- E8: Package editor: New. -/
namespace Go.Proofs.YtbhklkolkclflaaGreatDoor
open Go.RowKit

/-- A new editor. -/
def newState (hs : List (ByteArray × Int)) (base most : Int) : EdState :=
  { core := { text := [], point := 0, mark := -1, ents := [], rpl := 0, place := hs.length, texts := fun _ => none, undos := fun _ => none, mode := 0, over := false, last := 0, yf := 0, yt := 0, res := 0, run := false },
    f := { given := false, minus := false, arg := -1, inn := false, cls := 0, killed := false, yanked := false, argues := false, whole := false }, hist := hs, base := base, most := most, bells := 0,
    was := { text := [], point := 0, mark := -1, ents := [], rpl := 0, place := hs.length, texts := fun _ => none, undos := fun _ => none, mode := 0, over := false, last := 0, yf := 0, yt := 0, res := 0, run := false }, put := [] }
def zcore : CoreS := { text := [], point := 0, mark := -1, ents := [], rpl := 0, place := 0, texts := fun _ => none, undos := fun _ => none, mode := 0, over := false, last := 0, yf := 0, yt := 0, res := 0, run := false }
/-- What New answers. -/
def EdNew (w : World) (hs : List (ByteArray × Int)) (base most : Int) (x : Ending) (w' : World) : Prop :=
  ∃ e κ, x = .returned (.tuple #[.pointer (some ⟨e, 0, none⟩), .int .i64 0]) ∧ w.heap.size ≤ e ∧ (∀ y, y < w.heap.size → κ y = (0, 0)) ∧ EdRep w' κ e (newState hs base most) ∧ Fr nob w w'

/-- A new editor's cells ahead of its line. -/
def newX (bl r : Nat) : Nat → Value
  | 0 => .pointer none | 1 => .pointer (some ⟨r, 0, none⟩) | 2 => .pointer none | 3 => .map none | 4 => .int .i64 0 | 5 => .bool false | 6 => .int .i64 0 | 7 => .int .i64 0 | 8 => .int .i64 0 | 9 => .int .i64 0 | 10 => .bool false
  | 11 => .pointer none | 12 => .pointer (some ⟨bl, 0, none⟩) | 13 => .bool false | 14 => .bool false | 15 => .int .i64 0 | 16 => .bool false | 17 => .pointer none | 18 => .pointer none | 19 => .pointer none | 20 => .map none
  | 21 => .int .i64 0 | 22 => .bool false | 23 => .int .i64 0 | 24 => .int .i64 0 | 25 => .int .i64 0 | 26 => .int .i64 0 | 27 => .bool false | 28 => .int .i64 0 | 29 => .bool false | 30 => .bool false | 31 => .bool false | 32 => .bool false
  | _ => .slice none 0 0
def newWas (j : Nat) : Value := newX 0 0 (17 + j)
theorem newWas_one (j : Nat) : (newWas j).oneCell' = true := by
  match j with
  | 0 | 1 | 2 | 3 | 4 | 5 | 6 | 7 | 8 | 9 | 10 | 11 | 12 | 13 | 14 | 15 => rfl
  | n + 16 =>
    unfold newWas
    have : newX 0 0 (17 + (n + 16)) = .slice none 0 0 := by rw [show 17 + (n + 16) = n + 33 by omega]; rfl
    rw [this]
    rfl
theorem new_arr (bl r h b k um : Nat) (hs : List (ByteArray × Int)) (base most : Int) :
    begArr2 (newX bl r) (.pointer (some ⟨h, 0, none⟩)) (.pointer (some ⟨b, 0, none⟩)) (.pointer (some ⟨r, 0, none⟩)) (.pointer (some ⟨k, 0, none⟩)) (.map (some um)) (.int .i64 zcore.mode) = edArr b r k um (newState hs base most).core h bl (newState hs base most).f newWas (.slice none 0 0) := by
  simp [begArr2, arr34, edArr, newState, newX, newWas, zcore]
theorem new_ed {w W w' : World} {e r bl : Nat} {hs : List (ByteArray × Int)} {base most : Int} {x : Ending} (h0 : W.heap[bl]? = some (.cells #[.int .i64 0] 150 (0, 0))) (hbe : bl ≠ e) (hw : w.heap.size ≤ bl) (hw2 : w.heap.size ≤ e) (hw3 : w.heap.size ≤ r) (hf : Fr nob w W)
    (hel : e < W.heap.size)
    (h : Begun W (fun y => if y = bl then (3, 2) else if y = e then (3, 0) else if y = r then (1, 1) else (0, 0)) 1 e r (newX bl r) zcore hs base most [] x w') : x = .returned (.tuple #[]) ∧ ∃ κ, (∀ y, y < w.heap.size → κ y = (0, 0)) ∧ EdRep w' κ e (newState hs base most) ∧ Fr nob w w' := by
  obtain ⟨rfl, b, k, tm, um, h', κ', h1, h2, h3, h4, h5⟩ := h
  rw [new_arr bl r h' b k um hs base most] at h4
  have hlb := blk_lt h0
  have hs := hf.size
  have hke := h1 e hel
  have hkb := h1 bl hlb
  simp only [if_true] at hke hkb
  rw [if_neg (fun h => hbe h.symm)] at hke
  refine ⟨rfl, κ', fun y hy => ?_, ⟨1, b, r, k, tm, um, h', bl, newWas, .slice none 0 0, .inl rfl, hke, h4, h2, ⟨h3, hkb, h5.keep h0 (fun h => hbe h), EdS.none _, fun x ⟨_, _, _, h, _⟩ => by cases h⟩, newWas_one, fun h => by cases h⟩, hf.trans h5 (fun y hy hM => by cases hM; omega)⟩
  rw [h1 y (by omega)]
  show (if y = bl then _ else _) = _
  rw [if_neg (by omega), if_neg (by omega), if_neg (by omega)]

set_option maxRecDepth 10000 in
set_option maxHeartbeats 1000000 in
theorem ed_new (w : World) (F : Nat → Prop) (h : Nat) (hs : List (ByteArray × Int)) (base most : Int) (hh : HistRep w F h hs base most) (hhl : hs.length ≤ 100000) :
    Calls Tryz.prog 21 #[.pointer (some ⟨h, 0, none⟩)] w (EdNew w hs base most) := by
  have HC := Lib.hid (hist_clone w F h hs base most hh hhl)
  have HH := Lib.hid hh
  have HHL := Lib.hid hhl
  clear hh hhl
  go_enter Tryz.func21, Tryz.ntmps21
  go_wp2_with (first
    | (go_at_call 78; refine (HC.out).mono ?_; rintro y w1 ⟨h1, rfl, hh1, hr1, hf1⟩; have HF1 := Lib.hid hf1; clear hr1 hh1 hf1)
    | (go_at_call 79; refine (ring_new _).mono ?_; rintro y w2 ⟨rfl, hr2, hf2⟩; have hbe := hf2.keep (Go.heap_alloc_new _ _) (fun h => h); have hbb := hf2.keep ((heap_alloc_lt _ (by simp)).trans (Go.heap_alloc_new _ _)) (fun h => h); rw [World.size_alloc] at hbe hr2; rw [World.size_alloc] at hr2; have hc2 := blk_cells hbe; have hz2 := blk_free hbe; have hl2 := blk_lt hbe; have HBE := Lib.hid hbe; have HBB := Lib.hid hbb; have HR2 := Lib.hid hr2; have HF2 := Lib.hid hf2; clear hbe hbb hr2 hf2)
    | (go_at_call 0; skip))
  have hW : (w2.setCell ⟨w1.heap.size + 1, 1, none⟩ (.pointer (some ⟨w1.heap.size + 1 + 1, 0, none⟩))).heap[w1.heap.size + 1]? = some (.cells (arr34 (newX w1.heap.size (w1.heap.size + 1 + 1))) 86 (0, 0)) := by
    rw [heap_setCell_same (o := 1) HBE.out]
    rfl
  have hfo : Fr (one (w1.heap.size + 1)) w2 (w2.setCell ⟨w1.heap.size + 1, 1, none⟩ (.pointer (some ⟨w1.heap.size + 1 + 1, 0, none⟩))) := (Fr.refl _ _).setOne _ _
  have hs1 := HF1.out.size
  have hfn : Fr nob w (w2.setCell ⟨w1.heap.size + 1, 1, none⟩ (.pointer (some ⟨w1.heap.size + 1 + 1, 0, none⟩))) := (((HF1.out.alloc _).alloc _).then HF2.out).setNew _ _ _ (by omega)
  have hbl := hfo.keep HBB.out (fun h => by have : w1.heap.size = w1.heap.size + 1 := h; omega)
  have hrr := HR2.out.stay hfo (NR.one HBE.out (by decide)) (fun h => by have : w1.heap.size + 1 + 1 = w1.heap.size + 1 := h; omega)
  clear hc2 hz2 hl2
  generalize w2.setCell ⟨w1.heap.size + 1, 1, none⟩ (.pointer (some ⟨w1.heap.size + 1 + 1, 0, none⟩)) = W at *
  have hlt := blk_lt hW
  have hbg := ed_begins W (w1.heap.size + 1) (w1.heap.size + 1 + 1) (newX w1.heap.size (w1.heap.size + 1 + 1)) zcore (fun y => F y ∧ y < w.heap.size) h hs base most none 0 [] hW rfl rfl (HH.out.within.stayN hfn) HHL.out (fun hx => by have := hx.2; omega)
    ⟨rfl, Nat.le_refl _, .inl rfl, fun u hu => by cases hu⟩ (by simp) (fun y => if y = w1.heap.size then (3, 2) else if y = w1.heap.size + 1 then (3, 0) else if y = w1.heap.size + 1 + 1 then (1, 1) else (0, 0)) 1 hrr (by rw [if_neg (by omega), if_neg (by omega), if_pos rfl]) (by omega)
  refine hbg.mono ?_
  intro y w' hy
  obtain ⟨rfl, κ, hκ, hrep, hfw⟩ := new_ed hbl (by omega) hs1 (by omega) (by omega) hfn hlt hy
  have HREP := Lib.hid hrep
  have HK := Lib.hid hκ
  have HFW := Lib.hid hfw
  clear hrep hκ hfw hy hbg hW hfo hfn hbl hrr hlt
  go_wp2
  go_ret2
  exact ⟨_, κ, rfl, by omega, HK.out, HREP.out, HFW.out⟩
end Go.Proofs.YtbhklkolkclflaaGreatDoor
/- P1: Plain laws: edits of a line, done and taken back. -/
namespace Go.Proofs.YtbhklkolkclflaaGreatDoor
open Go.RowKit

/-- A line, its point, its mark. -/
structure LineS where
  text : List Int
  point : Int
  mark : Int

/-- An edit is done. -/
def LineS.edit (s : LineS) (e : EditP) : LineS :=
  ⟨s.text.take e.1.toNat ++ e.2.2 ++ s.text.drop (e.1.toNat + e.2.1.length), newPoint s.point e.1.toNat (e.1.toNat + e.2.1.length) e.2.2.length, newMark s.mark e.1.toNat (e.1.toNat + e.2.1.length) e.2.2.length⟩
/-- An edit fits a line. -/
def FitsE (L : List Int) (e : EditP) : Prop :=
  0 ≤ e.1 ∧ e.1.toNat + e.2.1.length ≤ L.length ∧ (L.drop e.1.toNat).take e.2.1.length = e.2.1 ∧ e.2.2.length + (L.length - e.2.1.length) ≤ 1024
def doE (L : List Int) (e : EditP) : List Int := L.take e.1.toNat ++ e.2.2 ++ L.drop (e.1.toNat + e.2.1.length)
/-- Edits, one behind the other. -/
def doAll (L : List Int) (es : List EditP) : List Int := es.foldl doE L
def FitAll : List Int → List EditP → Prop
  | _, [] => True
  | L, e :: es => FitsE L e ∧ FitAll (doE L e) es

theorem doE_length {L : List Int} {e : EditP} (h : FitsE L e) : (doE L e).length = e.2.2.length + (L.length - e.2.1.length) := by
  obtain ⟨h0, h1, h2, h3⟩ := h
  unfold doE
  simp only [List.length_append, List.length_take, List.length_drop]
  omega

theorem doE_inv {L : List Int} {e : EditP} (h : FitsE L e) (hl : L.length ≤ 1024) : FitsE (doE L e) (inv e) ∧ doE (doE L e) (inv e) = L := by
  have hlen := doE_length h
  obtain ⟨h0, h1, h2, h3⟩ := h
  obtain ⟨f, d, i⟩ := e
  replace h0 : 0 ≤ f := h0
  replace h1 : f.toNat + d.length ≤ L.length := h1
  replace h2 : (L.drop f.toNat).take d.length = d := h2
  replace h3 : i.length + (L.length - d.length) ≤ 1024 := h3
  replace hlen : (doE L (f, d, i)).length = i.length + (L.length - d.length) := hlen
  have e1 : (doE L (f, d, i)).take f.toNat = L.take f.toNat := by
    unfold doE
    simp only
    rw [List.append_assoc, List.take_append_of_le_length (by rw [List.length_take]; omega), List.take_take, Nat.min_self]
  have e2 : (doE L (f, d, i)).drop f.toNat = i ++ L.drop (f.toNat + d.length) := by
    unfold doE
    simp only
    rw [List.append_assoc]
    have hl2 : (L.take f.toNat).length = f.toNat := by rw [List.length_take]; omega
    have := List.drop_left (l₁ := L.take f.toNat) (l₂ := i ++ L.drop (f.toNat + d.length))
    rwa [hl2] at this
  refine ⟨⟨h0, show f.toNat + i.length ≤ (doE L (f, d, i)).length by omega, ?_, show d.length + ((doE L (f, d, i)).length - i.length) ≤ 1024 by omega⟩, ?_⟩
  · show ((doE L (f, d, i)).drop f.toNat).take i.length = i
    rw [e2]
    exact List.take_left
  · show (doE L (f, d, i)).take f.toNat ++ d ++ (doE L (f, d, i)).drop (f.toNat + i.length) = L
    rw [← List.drop_drop, e2, List.drop_left, e1]
    rw [List.append_assoc]
    conv => rhs; rw [← List.take_append_drop f.toNat L]
    congr 1
    conv => rhs; rw [← List.take_append_drop d.length (L.drop f.toNat)]
    rw [h2, List.drop_drop]

theorem FitAll.append {es fs : List EditP} : ∀ {L : List Int}, FitAll L (es ++ fs) ↔ FitAll L es ∧ FitAll (doAll L es) fs := by
  induction es with
  | nil => intro L; simp [FitAll, doAll]
  | cons e es ih => intro L; simp only [List.cons_append, FitAll, ih, doAll, List.foldl_cons]; exact and_assoc.symm
theorem doAll_append (L : List Int) (es fs : List EditP) : doAll L (es ++ fs) = doAll (doAll L es) fs := by unfold doAll; rw [List.foldl_append]
theorem FitAll.le {es : List EditP} : ∀ {L : List Int}, FitAll L es → L.length ≤ 1024 → (doAll L es).length ≤ 1024 := by
  induction es with
  | nil => intro L _ h; exact h
  | cons e es ih => intro L h hl; exact ih h.2 (by rw [doE_length h.1]; exact h.1.2.2.2)

/-- What was done is taken back. -/
theorem undo_all {es : List EditP} : ∀ {L : List Int}, FitAll L es → L.length ≤ 1024 → FitAll (doAll L es) (es.reverse.map inv) ∧ doAll (doAll L es) (es.reverse.map inv) = L := by
  induction es with
  | nil => intro L _ _; exact ⟨trivial, rfl⟩
  | cons e es ih =>
    intro L h hl
    obtain ⟨h1, h2⟩ := h
    have hle : (doE L e).length ≤ 1024 := by rw [doE_length h1]; exact h1.2.2.2
    obtain ⟨h3, h4⟩ := ih h2 hle
    obtain ⟨h5, h6⟩ := doE_inv h1 hl
    have h7 : doAll L (e :: es) = doAll (doE L e) es := rfl
    rw [List.reverse_cons, List.map_append, h7]
    refine ⟨FitAll.append.2 ⟨h3, ?_⟩, ?_⟩
    · rw [h4]
      exact ⟨h5, trivial⟩
    · rw [doAll_append, h4]
      exact h6
/-- A line after edits. -/
def LineS.edits (s : LineS) (es : List EditP) : LineS := es.foldl LineS.edit s
theorem LineS.edits_text (es : List EditP) : ∀ s : LineS, (s.edits es).text = doAll s.text es := by
  induction es with
  | nil => intro s; rfl
  | cons e es ih => intro s; exact ih (s.edit e)
end Go.Proofs.YtbhklkolkclflaaGreatDoor
/- E9: Package editor: list. -/
namespace Go.Proofs.YtbhklkolkclflaaGreatDoor
open Go.RowKit

theorem EdState.listed_eq {S : EdState} {g : List (List EditP) × Int} (h : S.core.undos S.core.place = some g) : S.listed = S := by
  have hu : updU S.core.undos S.core.place S.lst = S.core.undos := by
    funext q
    unfold updU EdState.lst
    split
    · rename_i e
      rw [e, h]
      rfl
    · rfl
  unfold EdState.listed EdState.setLst
  rw [hu]
theorem EdState.lst_of {S : EdState} {g : List (List EditP) × Int} (h : S.core.undos S.core.place = some g) : S.lst = g := by
  unfold EdState.lst
  rw [h]
  rfl
theorem EdState.lst_none {S : EdState} (h : S.core.undos S.core.place = none) : S.lst = ([], 0) := by
  unfold EdState.lst
  rw [h]
  rfl
theorem EdState.listed_at (S : EdState) : S.listed.core.undos S.core.place = some S.lst := if_pos rfl
theorem EdState.listed_lst (S : EdState) : S.listed.lst = S.lst := EdState.lst_of (S := S.listed) S.listed_at

/-- What list leaves. -/
def Listed (w : World) (κ : Col) (i e b r k tm um h bl : Nat) (was : Nat → Value) (putv : Value) (S : EdState) (x : Ending) (w' : World) : Prop :=
  ∃ l κ', x = .returned (.pointer (some ⟨l, 0, none⟩)) ∧ EdAt w' κ' i e b r k tm um h bl was putv S.listed ∧ UndosL w' κ' i um S.listed.core.undos S.core.place l ∧ (∀ y, y < w.heap.size → κ' y = κ y) ∧ Fr (edM w κ) w w'

set_option maxRecDepth 10000 in
set_option maxHeartbeats 1000000 in
theorem ed_list_some (w : World) (κ : Col) (i e b r k tm um h bl : Nat) (was : Nat → Value) (putv : Value) (S : EdState) (x : EdAt w κ i e b r k tm um h bl was putv S) (g : List (List EditP) × Int) (hg : S.core.undos S.core.place = some g) :
    Calls Tryz.prog 94 #[.pointer (some ⟨e, 0, none⟩)] w (Listed w κ i e b r k tm um h bl was putv S) := by
  obtain ⟨f, hf1, hf2, hf3⟩ := x.core.undos
  obtain ⟨h0, l, hfl, hl⟩ := hf3 _ _ hg
  have hu : UndosL w κ i um S.core.undos S.core.place l := ⟨f, hf1, hf2, hf3, hfl⟩
  have hlk : ∀ n, (Instr.lookup 80 (.map (some um)) (.int .i64 S.core.place) false).run Tryz.prog (w.drewN n) = .ok (.pointer (some ⟨l, 0, none⟩)) (w.drewN n) := fun n => by
    have := run_mapget (P := Tryz.prog) (w.drewN n) 80 3 164 (.pointer none) um f S.core.place false Tryz.underlying80 Tryz.underlying3 (fun _ => rfl) (hf1.stay ((Fr.refl nob w).drewN n) (fun h => h))
    rw [this, hfl]
    rfl
  have hce := blk_cells x.blk
  have hc3 : w.cell? ⟨e, 3, none⟩ = some (.map (some um)) := by rw [hce]; rfl
  have hc2 : w.cell? ⟨e, 2, none⟩ = some (.pointer (some ⟨k, 0, none⟩)) := by rw [hce]; rfl
  have hck : w.cell? ⟨k, 0, none⟩ = some (.int .i64 S.core.place) := by rw [blk_cells x.core.walk]; rfl
  have HX := Lib.hid x
  have HU := Lib.hid hu
  have HG := Lib.hid hg
  clear x hu hg hf1 hf2 hf3 hfl hl hce h0
  go_enter Tryz.func94, Tryz.ntmps94
  go_wp2
  go_quiet (fail)
  go_wp2
  go_ret
  unfold Listed
  rw [EdState.listed_eq HG.out]
  exact ⟨l, κ, rfl, HX.out.stayN ((Fr.refl nob w).drewN _) (fun _ _ => rfl), HU.out.stay ((Fr.refl nob w).drewN _) (NR.nob _) (fun _ h => h.elim) (fun h => h) (fun _ _ => rfl), fun _ _ => rfl, edM.nob ((Fr.refl nob w).drewN _)⟩

theorem UndosL.new {w w1 w2 : World} {κ : Col} {i um l : Nat} {u : Int → Option (List (List EditP) × Int)} {f : Int → Option Value} {p : Int} (h1 : MapRep w um f) (h2 : ∀ p, u p = none → f p = none)
    (h3 : ∀ p g, u p = some g → 0 ≤ p ∧ ∃ l, f p = some (.pointer (some ⟨l, 0, none⟩)) ∧ ListRep w (fun b => κ b = (i, 5 + p.toNat)) l g.1 [] 0 g.2) (hp : 0 ≤ p)
    (hf1 : Fr nob w w1) (hl : ListRep w1 (newIn w) l [] [] 0 0) (hf2 : Fr (one um) w1 w2) (hm : MapRep w2 um (upd f p (.pointer (some ⟨l, 0, none⟩)))) : UndosL w2 (paint κ w.heap.size (i, 5 + p.toNat)) i um (updU u p ([], 0)) p l := by
  obtain ⟨es, cl, hb, _⟩ := h1.stay hf1 (fun h => h)
  have hnr : NoRows w1 (one um) := fun x hx c T fr h => by
    cases hx
    rw [hb] at h
    cases h
  have hlu := h1.lt
  refine ⟨_, hm, fun q hq => ?_, fun q g hq => ?_, if_pos rfl⟩
  · unfold updU at hq
    split at hq
    · cases hq
    · rename_i hne
      unfold upd
      rw [if_neg hne]
      exact h2 q hq
  · unfold updU at hq
    split at hq
    · rename_i e
      subst e
      injection hq with hq
      subst hq
      refine ⟨hp, l, if_pos rfl, (hl.stayC hf2 hnr).mono (fun y hy => paint_new _ _ _ _ ?_)⟩
      exact hy.elim (fun h => h.elim) id
    · rename_i hne
      obtain ⟨h0, l', h5, h6⟩ := h3 q g hq
      refine ⟨h0, l', (if_neg hne).trans h5, ((h6.within.stayN hf1).stayC hf2 hnr).mono (fun y hy => by rw [paint_old _ _ _ _ hy.2]; exact hy.1)⟩

set_option maxRecDepth 10000 in
set_option maxHeartbeats 1000000 in
theorem ed_list_none (w : World) (κ : Col) (i e b r k tm um h bl : Nat) (was : Nat → Value) (putv : Value) (S : EdState) (x : EdAt w κ i e b r k tm um h bl was putv S) (hp : 0 ≤ S.core.place) (hg : S.core.undos S.core.place = none) :
    Calls Tryz.prog 94 #[.pointer (some ⟨e, 0, none⟩)] w (Listed w κ i e b r k tm um h bl was putv S) := by
  obtain ⟨f, hf1, hf2, hf3⟩ := x.core.undos
  have hfl := hf2 _ hg
  have hlk : ∀ n, (Instr.lookup 80 (.map (some um)) (.int .i64 S.core.place) false).run Tryz.prog (w.drewN n) = .ok (.pointer none) (w.drewN n) := fun n => by
    have := run_mapget (P := Tryz.prog) (w.drewN n) 80 3 164 (.pointer none) um f S.core.place false Tryz.underlying80 Tryz.underlying3 (fun _ => rfl) (hf1.stay ((Fr.refl nob w).drewN n) (fun h => h))
    rw [this, hfl]
    rfl
  have hce := blk_cells x.blk
  have hc3 : w.cell? ⟨e, 3, none⟩ = some (.map (some um)) := by rw [hce]; rfl
  have hc2 : w.cell? ⟨e, 2, none⟩ = some (.pointer (some ⟨k, 0, none⟩)) := by rw [hce]; rfl
  have hck : w.cell? ⟨k, 0, none⟩ = some (.int .i64 S.core.place) := by rw [blk_cells x.core.walk]; rfl
  have HCE : Hid (∀ V, Fr nob w V → V.cell? ⟨e, 3, none⟩ = some (.map (some um)) ∧ V.cell? ⟨e, 2, none⟩ = some (.pointer (some ⟨k, 0, none⟩)) ∧ V.cell? ⟨k, 0, none⟩ = some (.int .i64 S.core.place)) := fun V hV => by
    have h1 := blk_cells (hV.keep x.blk (fun h => h))
    have h2 := blk_cells (hV.keep x.core.walk (fun h => h))
    exact ⟨by rw [h1]; rfl, by rw [h1]; rfl, by rw [h2]; rfl⟩
  have HX := Lib.hid x
  have HG := Lib.hid hg
  have HM := Lib.hid hf1
  have HM2 := Lib.hid hf2
  have HM3 := Lib.hid hf3
  have HP := Lib.hid hp
  clear x hg hf1 hf2 hf3 hfl hce hp
  go_enter Tryz.func94, Tryz.ntmps94
  go_wp2
  go_quiet (fail)
  go_wp2_with (go_at_call 183; refine (undo_new _ nob).mono ?_; rintro y w1 ⟨rfl, hl1, hf1⟩; have hn1 := (Fr.ofDrewN hf1); obtain ⟨hc3', hc2', hck'⟩ := HCE.out _ hn1; have HL1 := Lib.hid (show ListRep w1 (newIn w) w.heap.size [] [] 0 0 from hl1); have HF1 := Lib.hid hn1; clear hl1 hf1 hn1)
  go_still_tail 14, (by kernel_rfl)
  refine wpList_mapset rfl 80 3 164 (.tmp 25) (.tmp 33) (.tmp 34) rfl um f S.core.place (.pointer (some ⟨w.heap.size, 0, none⟩)) rfl rfl rfl Tryz.underlying80 Tryz.underlying3 ((HM.out.stay HF1.out (fun h => h)).stay (by first | exact (Fr.refl nob w1).drew | exact (Fr.refl nob w1).drewN _) (fun h => h)) ?_
  intro w2 hm2 hf2
  simp only [Act.put]
  have hw2 : Fr (one um) w1 w2 := by first | exact Fr.ofDrew hf2 | exact Fr.ofDrewN hf2
  have HU := Lib.hid (UndosL.new HM.out HM2.out HM3.out HP.out HF1.out HL1.out hw2 hm2)
  have HF2 := Lib.hid (HF1.out.after hw2)
  clear hm2 hf2 hw2 hc3' hc2' hck' hc3 hc2 hck
  go_wp2
  go_ret
  have hlst := EdState.lst_none HG.out
  have hcu := HX.out.core.cu
  obtain ⟨es, cl, hb, _⟩ := HM.out
  have hnr : NR w (one um) := fun y c fr h hy => by
    cases hy
    rw [hb] at h
    cases h
  have hS : S.listed = { S with core := { S.core with undos := updU S.core.undos S.core.place ([], 0) } } := by
    unfold EdState.listed EdState.setLst
    rw [hlst]
  have hci := HX.out.ci
  refine ⟨w.heap.size, paint κ w.heap.size (i, 5 + S.core.place.toNat), rfl, ?_, ?_, paint_old _ _ _, edM.of HF2.out hnr (fun y hy hM => by cases hM; rw [hcu]; intro h0; injection h0 with h0 _; omega)⟩
  · rw [hS]
    refine HX.out.setCore HF2.out hnr (fun y hy _ => by cases hy; rw [hcu]) (paint_old _ _ _) (HX.out.core.setUndos HF2.out hnr (fun y hy _ => ⟨0, by cases hy; rw [hcu]⟩) (paint_old _ _ _) HU.out.at) rfl
  · rw [hS]
    exact HU.out

theorem ed_list (w : World) (κ : Col) (i e b r k tm um h bl : Nat) (was : Nat → Value) (putv : Value) (S : EdState) (x : EdAt w κ i e b r k tm um h bl was putv S) (hp : 0 ≤ S.core.place) :
    Calls Tryz.prog 94 #[.pointer (some ⟨e, 0, none⟩)] w (Listed w κ i e b r k tm um h bl was putv S) := by
  cases hg : S.core.undos S.core.place with
  | none => exact ed_list_none w κ i e b r k tm um h bl was putv S x hp hg
  | some g => exact ed_list_some w κ i e b r k tm um h bl was putv S x g hg
end Go.Proofs.YtbhklkolkclflaaGreatDoor
/- P2: Plain: what an editor's state keeps. -/
namespace Go.Proofs.YtbhklkolkclflaaGreatDoor
open Go.RowKit

/-- An edit that a list takes. -/
def EdOk (e : EditP) : Prop := 0 ≤ e.1 ∧ e.2.1.length ≤ 1024 ∧ e.2.2.length ≤ 1024 ∧ 0 < e.2.1.length + e.2.2.length
/-- How many edits groups have. -/
def total (gs : List (List EditP)) : Nat := (gs.map List.length).sum
structure LstOk (g : List (List EditP) × Int) : Prop where
  cnt : g.2 = total g.1
  ok : ∀ h ∈ g.1, ∀ e ∈ h, EdOk e
  ne : ∀ h ∈ g.1, h ≠ []
  le : total g.1 ≤ 16384

theorem total_append (a b : List (List EditP)) : total (a ++ b) = total a + total b := by simp [total]
theorem total_one (g : List EditP) : total [g] = g.length := by simp [total]
theorem total_len : ∀ {gs : List (List EditP)}, (∀ h ∈ gs, h ≠ []) → gs.length ≤ total gs
  | [], _ => Nat.zero_le _
  | g :: gs, h => by
    have h1 := total_len (gs := gs) (fun x hx => h x (List.mem_cons_of_mem _ hx))
    have h2 : 0 < g.length := List.length_pos_iff.2 (h g List.mem_cons_self)
    have h3 : total (g :: gs) = g.length + total gs := by simp [total]
    rw [List.length_cons, h3]
    omega
theorem total_mem : ∀ {gs : List (List EditP)} {g : List EditP}, g ∈ gs → g.length ≤ total gs
  | x :: gs, g, h => by
    have h3 : total (x :: gs) = x.length + total gs := by simp [total]
    rcases List.mem_cons.1 h with rfl | h
    · omega
    · have := total_mem h
      omega
theorem LstOk.empty : LstOk ([], 0) := ⟨rfl, (fun _ h => absurd h (by simp)), (fun _ h => absurd h (by simp)), Nat.zero_le _⟩
theorem LstOk.small {g : List (List EditP) × Int} (h : LstOk g) : ∀ x ∈ g.1, Small x := fun x hx => by
  have h1 := total_mem hx
  have h2 := h.le
  refine ⟨by omega, fun e he => ?_⟩
  have h3 := h.ok x hx e he
  exact ⟨Nat.le_trans h3.2.1 (by omega), Nat.le_trans h3.2.2.1 (by omega)⟩
theorem LstOk.smalls {g : List (List EditP) × Int} (h : LstOk g) : Smalls g.1 := by
  have h1 := total_len h.ne
  have h2 := h.le
  exact ⟨by omega, h.small⟩
/-- What an editor's state keeps. -/
structure EdsOk (S : EdState) : Prop where
  lists : ∀ p g, S.core.undos p = some g → LstOk g
  put : ∀ e ∈ S.put, EdOk e
  room : total S.lst.1 + S.put.length ≤ 16384
  place : 0 ≤ S.core.place
theorem EdsOk.lst {S : EdState} (h : EdsOk S) : LstOk S.lst := by
  cases hg : S.core.undos S.core.place with
  | none => rw [EdState.lst_none hg]; exact LstOk.empty
  | some g => rw [EdState.lst_of hg]; exact h.lists _ _ hg
theorem EdsOk.core {S : EdState} (h : EdsOk S) : CoreOk S.core := fun p g hp => (h.lists p g hp).smalls
/-- What flush takes off the list's end. -/
def oldG (on : Bool) (gs : List (List EditP)) : List EditP := if on = true then gs.getLast?.getD [] else []
def preG (on : Bool) (gs : List (List EditP)) : List (List EditP) := if on = true then gs.dropLast else gs
theorem flushG_eq (on : Bool) (g : List (List EditP) × Int) (put : List EditP) : flushG on g put = (preG on g.1 ++ [oldG on g.1 ++ put], g.2 + put.length) := by
  unfold flushG preG oldG
  cases on with
  | false => simp
  | true =>
    by_cases h : g.1 = []
    · simp [h]
    · simp [h]
theorem preG_total (on : Bool) (gs : List (List EditP)) : total (preG on gs) + (oldG on gs).length = total gs := by
  unfold preG oldG
  cases on with
  | false => simp
  | true =>
    rcases List.eq_nil_or_concat gs with h | ⟨l, x, h⟩
    · subst h; simp [total]
    · subst h
      rw [List.concat_eq_append]
      simp [total]
theorem LstOk.flush {on : Bool} {g : List (List EditP) × Int} {put : List EditP} (h : LstOk g) (hp : ∀ e ∈ put, EdOk e) (hr : total g.1 + put.length ≤ 16384) (hne : put ≠ []) : LstOk (flushG on g put) := by
  rw [flushG_eq]
  have ht := preG_total on g.1
  have hsub : ∀ x ∈ preG on g.1, x ∈ g.1 := fun x hx => by
    unfold preG at hx
    split at hx
    · exact List.dropLast_subset _ hx
    · exact hx
  have hold : ∀ e ∈ oldG on g.1, EdOk e := fun e he => by
    unfold oldG at he
    split at he
    · rcases List.eq_nil_or_concat g.1 with h1 | ⟨l, x, h1⟩
      · rw [h1] at he; cases he
      · rw [List.concat_eq_append] at h1
        rw [h1] at he
        simp at he
        exact h.ok x (by rw [h1]; simp) e he
    · cases he
  refine ⟨?_, fun x hx e he => ?_, fun x hx => ?_, ?_⟩
  · show g.2 + (put.length : Int) = _
    rw [h.cnt, total_append, total_one, List.length_append, ← ht]
    omega
  · rcases List.mem_append.1 hx with hx | hx
    · exact h.ok x (hsub x hx) e he
    · rw [List.mem_singleton.1 hx] at he
      exact (List.mem_append.1 he).elim (hold e) (hp e)
  · rcases List.mem_append.1 hx with hx | hx
    · exact h.ne x (hsub x hx)
    · rw [List.mem_singleton.1 hx]
      intro h0
      exact hne (List.append_eq_nil_iff.1 h0).2
  · show total (preG on g.1 ++ [oldG on g.1 ++ put]) ≤ 16384
    rw [total_append, total_one, List.length_append]
    omega
end Go.Proofs.YtbhklkolkclflaaGreatDoor
