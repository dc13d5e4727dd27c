/- Package editor: twin. -/
import Derived.Test.YtbhklkolkclflaaE1
namespace Go.Proofs.Ytbhklkolkclflaa
open Go.RowKit

/-- A core that can be copied. -/
def CoreOk (S : CoreS) : Prop := ∀ p g, S.undos p = some g → Smalls g.1

/-- A core of its own. -/
def Twinned (w : World) (κ : Col) (i' : Nat) (S : CoreS) (e : Ending) (w' : World) : Prop :=
  ∃ b r k tm um κ', e = .returned (.agg (coreCells b r k um S)) ∧ (∀ x, x < w.heap.size → κ' x = κ x) ∧ CoreAt w' κ' i' b r k tm um S ∧ Fr nob w w'

/-- Only blocks that are no rows are written. -/
def NoRows (W : World) (M : Nat → Prop) : Prop := ∀ b, M b → ∀ c T fr, W.heap[b]? ≠ some (.cells c T fr)

/-- What stands while twin goes through its maps: the core under way, its buffer, ring and walk. -/
structure TwB (w : World) (b r k um T kc : Nat) (S : CoreS) (W : World) : Prop where
  x : W.heap[w.heap.size]? = some (.cells #[.pointer (some ⟨b, 0, none⟩), .pointer (some ⟨r, 0, none⟩), .pointer (some ⟨kc, 0, none⟩), .map (some um), .int .i64 S.mode, .bool S.over, .int .i64 S.last, .int .i64 S.yf, .int .i64 S.yt, .int .i64 S.res, .bool S.run] 66 (0, 0))
  y : ∃ c : Array Value, c.size = 11 ∧ W.heap[w.heap.size + 1]? = some (.cells c 66 (0, 0))
  buf : BufRep W b S.text S.point S.mark
  ring : RingRep W r S.ents S.rpl
  walk : W.heap[k]? = some (.cells #[.int .i64 S.place, .map (some T)] 87 (0, 0))
  fr : Fr nob w W
theorem TwB.stay {w W W' : World} {M : Nat → Prop} {b r k um T kc : Nat} {S : CoreS} (h : TwB w b r k um T kc S W) (hf : Fr M W W') (hM : NoRows W M) (hw : ∀ b, M b → w.heap.size ≤ b) : TwB w b r k um T kc S W' := by
  have hn : ∀ b c T fr, W.heap[b]? = some (.cells c T fr) → ¬ M b := fun b c T fr e hb => hM b hb c T fr e
  have hr : NR W M := fun b c fr e => hn b c _ fr e
  obtain ⟨c, hc, hy⟩ := h.y
  obtain ⟨cb, hcb⟩ := h.buf.blk
  obtain ⟨cr, hcr, _⟩ := h.ring
  exact ⟨hf.keep h.x (hn _ _ _ _ h.x), ⟨c, hc, hf.keep hy (hn _ _ _ _ hy)⟩, h.buf.stay hf (hn _ _ _ _ hcb) hr, h.ring.stay hf hr (hn _ _ _ _ hcr), hf.keep h.walk (hn _ _ _ _ h.walk), h.fr.trans hf (fun b hb hm => absurd (hw b hm) (by omega))⟩
theorem TwB.n {w W W' : World} {b r k um T kc : Nat} {S : CoreS} (h : TwB w b r k um T kc S W) (hf : Fr nob W W') : TwB w b r k um T kc S W' := h.stay hf (fun _ h => h.elim) (fun _ h => h.elim)

/-- What a map holds after some entries of another were put to it. -/
def Visited (es : Array MapEntry) (seen : Array Nat) (f : Int → Option Value) : Prop :=
  (∀ e ∈ es.toList, seen.contains e.born = true → ∃ p, e.key = .int .i64 p ∧ f p = some e.val) ∧ ∀ p v, f p = some v → ∃ e ∈ es.toList, seen.contains e.born = true ∧ e.key = .int .i64 p ∧ e.val = v

theorem Visited.step {es : Array MapEntry} {clock : Nat} {seen : Array Nat} {f g : Int → Option Value} (hE : MapEs es clock g) (h : Visited es seen f) (e : MapEntry) (he : e ∈ es.toList) (p : Int) (hp : e.key = .int .i64 p) :
    Visited es (seen.push e.born) (upd f p e.val) := by
  refine ⟨fun x hx hs => ?_, fun q v hq => ?_⟩
  · rw [contains_push, Bool.or_eq_true] at hs
    by_cases hxe : x.born = e.born
    · have : x = e := born_inj hE.st.2.1 hx he hxe
      subst this
      exact ⟨p, hp, by simp [upd]⟩
    · rcases hs with hs | hs
      · obtain ⟨q, h1, h2⟩ := h.1 x hx hs
        refine ⟨q, h1, ?_⟩
        have hqp : q ≠ p := fun e1 => by
          have hn := List.pairwise_iff_getElem.1 hE.st.2.2
          obtain ⟨i, hi, rfl⟩ := List.mem_iff_getElem.1 hx
          obtain ⟨j, hj, rfl⟩ := List.mem_iff_getElem.1 he
          rcases Nat.lt_trichotomy i j with h3 | h3 | h3
          · have := hn i j (by simpa using hi) (by simpa using hj) h3
            simp only [List.getElem_map] at this
            exact this (by rw [h1, hp, e1])
          · subst h3
            exact hxe rfl
          · have := hn j i (by simpa using hj) (by simpa using hi) h3
            simp only [List.getElem_map] at this
            exact this (by rw [h1, hp, e1])
        simp [upd, hqp, h2]
      · exact absurd (by simpa using hs) hxe
  · unfold upd at hq
    split at hq
    · rename_i e1
      subst e1
      injection hq with hq
      exact ⟨e, he, by rw [contains_push]; simp, hp, hq⟩
    · obtain ⟨x, h1, h2, h3⟩ := h.2 q v hq
      exact ⟨x, h1, by rw [contains_push, h2]; rfl, h3⟩
theorem Visited.all {es : Array MapEntry} {clock : Nat} {seen : Array Nat} {f g : Int → Option Value} (hE : MapEs es clock g) (h : Visited es seen f) (h0 : (leftOf es seen).size = 0) : f = g := by
  funext p
  cases hg : g p with
  | some v =>
    obtain ⟨e, h1, h2, h3⟩ := hE.all p v hg
    obtain ⟨q, h4, h5⟩ := h.1 e h1 (all_seen es seen h0 e h1)
    rw [h2] at h4
    injection h4 with _ h4
    rw [h4, h5, h3]
  | none =>
    cases hf : f p with
    | none => rfl
    | some v =>
      obtain ⟨e, h1, _, h3, _⟩ := h.2 p v hf
      obtain ⟨q, h4, h5⟩ := hE.key e h1
      rw [h3] at h4
      injection h4 with _ h4
      rw [← h4, hg] at h5
      cases h5

theorem ListRep.stayC {w w' : World} {F M : Nat → Prop} {l : Nat} {gs : List (List EditP)} {now : List EditP} {opn edits : Int} (h : ListRep w F l gs now opn edits) (hf : Fr M w w') (hM : NoRows w M) : ListRep w' F l gs now opn edits := by
  have hn : ∀ b c T fr, w.heap[b]? = some (.cells c T fr) → ¬ M b := fun b c T fr e hb => hM b hb c T fr e
  obtain ⟨gv, nv, vs, h1, h2⟩ := h.ex
  refine ⟨⟨gv, nv, vs, hf.keep h1 (hn _ _ _ _ h1), h2.stay hf (fun b c fr e => hn b c _ fr e) ?_⟩, h.mem⟩
  rintro b _ ⟨c, fr, e | e⟩
  · exact hn _ _ _ _ e
  · exact hn _ _ _ _ e

/-- The clones that were made: each in blocks of its own. -/
def ClonesAt (V : World) (κ : Col) (i : Nat) (u : Int → Option (List (List EditP) × Int)) (f : Int → Option Value) : Prop :=
  ∀ p v, f p = some v → ∃ g l, u p = some g ∧ v = .pointer (some ⟨l, 0, none⟩) ∧ ListRep V (fun b => κ b = (i, 5 + p.toNat)) l g.1 [] 0 g.2
theorem ClonesAt.stay {V V' : World} {M : Nat → Prop} {κ κ' : Col} {i : Nat} {u : Int → Option (List (List EditP) × Int)} {f : Int → Option Value} (h : ClonesAt V κ i u f) (hf : Fr M V V') (hM : NoRows V M) (hk : ∀ b, b < V.heap.size → κ' b = κ b) :
    ClonesAt V' κ' i u f := fun p v hp => by
  obtain ⟨g, l, h1, h2, h3⟩ := h p v hp
  exact ⟨g, l, h1, h2, (h3.within.stayC hf hM).mono (fun b hb => by rw [hk b hb.2]; exact hb.1)⟩
theorem ClonesAt.add {V : World} {κ : Col} {i : Nat} {u : Int → Option (List (List EditP) × Int)} {f : Int → Option Value} (h : ClonesAt V κ i u f) (p : Int) (g : List (List EditP) × Int) (l : Nat) (hu : u p = some g)
    (hl : ListRep V (fun b => κ b = (i, 5 + p.toNat)) l g.1 [] 0 g.2) : ClonesAt V κ i u (upd f p (.pointer (some ⟨l, 0, none⟩))) := fun q v hq => by
  unfold upd at hq
  split at hq
  · rename_i e
    subst e
    injection hq with hq
    exact ⟨g, l, hu, hq.symm, hl⟩
  · exact h q v hq
/-- What was visited has a clone. -/
def Seen (es : Array MapEntry) (seen : Array Nat) (f : Int → Option Value) : Prop := ∀ e ∈ es.toList, seen.contains e.born = true → ∃ p v, e.key = .int .i64 p ∧ f p = some v
theorem Seen.step {es : Array MapEntry} {clock : Nat} {seen : Array Nat} {f g : Int → Option Value} (hE : MapEs es clock g) (h : Seen es seen f) (e : MapEntry) (he : e ∈ es.toList) (p : Int) (hp : e.key = .int .i64 p) (v : Value) : Seen es (seen.push e.born) (upd f p v) := by
  intro x hx hs
  rw [contains_push, Bool.or_eq_true] at hs
  rcases hs with hs | hs
  · obtain ⟨q, u, h1, h2⟩ := h x hx hs
    by_cases hq : q = p
    · exact ⟨q, v, h1, by simp [upd, hq]⟩
    · exact ⟨q, u, h1, by simp [upd, hq, h2]⟩
  · have : x = e := born_inj hE.st.2.1 hx he (by simpa using hs)
    subst this
    exact ⟨p, v, hp, by simp [upd]⟩

theorem Try.struct_core : isStruct Try.prog 66 = true ∧ (Try.prog.info? 66).map (·.size) = some 11 := ⟨by kernel_rfl, by kernel_rfl⟩

/-- The colours of a core that was copied, ahead of its lists. -/
def twinCol (κ : Col) (n i b r k t u : Nat) : Col := fun x => if x < n then κ x else if x = b then (i, 0) else if x = r then (i, 1) else if x = k then (i, 2) else if x = t then (i, 3) else if x = u then (i, 4) else (0, 0)

set_option maxRecDepth 10000 in
set_option maxHeartbeats 2000000 in
theorem core_twin (w : World) (κ : Col) (i i' b r k tm um : Nat) (S : CoreS) (h : CoreAt w κ i b r k tm um S) (hok : CoreOk S) :
    Calls Try.prog 24 #[.agg (coreCells b r k um S)] w (Twinned w κ i' S) := by
  have H := Lib.hid h
  have HOK := Lib.hid hok
  clear h hok
  unfold coreCells
  have hB : ∀ V, Fr nob w V → Calls Try.prog 49 #[.pointer (some ⟨b, 0, none⟩)] V (BufMade V S.text S.point S.mark) := fun V hV => buf_clone V b _ _ _ (H.out.buf.stayN hV)
  have hR : ∀ V, Fr nob w V → Calls Try.prog 50 #[.pointer (some ⟨r, 0, none⟩)] V fun e w' => e = .returned (.pointer (some ⟨V.heap.size, 0, none⟩)) ∧ RingRep w' V.heap.size S.ents S.rpl ∧ Fr nob V w' := fun V hV => ring_clone V r _ _ (H.out.ring.stayN hV)
  have HB := Lib.hid hB
  have HR := Lib.hid hR
  clear hB hR
  go_enter Try.func24, Try.ntmps24
  go_wp2
  go_cut [11, 14] (fun _ _ W => ∃ b' r' : Nat, Hid (W.heap[w.heap.size]? = some (.cells #[.pointer (some ⟨b', 0, none⟩), .pointer (some ⟨r', 0, none⟩), .pointer (some ⟨k, 0, none⟩), .map (some um), .int .i64 S.mode, .bool S.over, .int .i64 S.last, .int .i64 S.yf, .int .i64 S.yt, .int .i64 S.res, .bool S.run] 66 (0, 0))) ∧
    Hid (∃ c : Array Value, c.size = 11 ∧ W.heap[w.heap.size + 1]? = some (.cells c 66 (0, 0))) ∧ Hid (BufRep W b' S.text S.point S.mark) ∧ Hid (RingRep W r' S.ents S.rpl) ∧ w.heap.size + 2 ≤ b' ∧ b' < r' ∧ Fr nob w W)
  case first =>
    have hx := (heap_alloc_lt (.cells #[.pointer none, .pointer none, .pointer none, .map none, .int .i64 0, .bool false, .int .i64 0, .int .i64 0, .int .i64 0, .int .i64 0, .bool false] 66) (by simp)).trans (heap_alloc_new w (.cells (coreCells b r k um S) 66))
    have hy := heap_alloc_new (w.alloc (.cells (coreCells b r k um S) 66)) (.cells #[.pointer none, .pointer none, .pointer none, .map none, .int .i64 0, .bool false, .int .i64 0, .int .i64 0, .int .i64 0, .int .i64 0, .bool false] 66)
    rw [show (w.alloc (.cells (coreCells b r k um S) 66)).heap.size = w.heap.size + 1 by simp] at hy
    have hf0 : Fr nob w ((w.alloc (.cells (coreCells b r k um S) 66)).alloc (.cells #[.pointer none, .pointer none, .pointer none, .map none, .int .i64 0, .bool false, .int .i64 0, .int .i64 0, .int .i64 0, .int .i64 0, .bool false] 66)) := ((Fr.refl _ _).alloc _).alloc _
    have hsz : ((w.alloc (.cells (coreCells b r k um S) 66)).alloc (.cells #[.pointer none, .pointer none, .pointer none, .map none, .int .i64 0, .bool false, .int .i64 0, .int .i64 0, .int .i64 0, .int .i64 0, .bool false] 66)).heap.size = w.heap.size + 2 := by simp
    unfold coreCells at hx hy hf0 hsz
    refine forget (fun W => Hid (W.heap[w.heap.size]? = some (.cells (coreCells b r k um S) 66 (0, 0))) ∧ Hid (∃ c : Array Value, c.size = 11 ∧ W.heap[w.heap.size + 1]? = some (.cells c 66 (0, 0))) ∧ w.heap.size + 2 ≤ W.heap.size ∧ Fr nob w W) ⟨hx, ⟨_, rfl, hy⟩, by rw [hsz]; exact Nat.le_refl _, hf0⟩ ?_
    clear hx hy hf0 hsz
    rintro W ⟨HX, HY, hsW, hfW⟩
    have hx := HX.out
    unfold coreCells at hx
    have hc := blk_cells hx
    have hz := blk_free hx
    have hlt := blk_lt hx
    have hxk : ∀ V, Fr nob W V → V.heap[w.heap.size]? = some (.cells (coreCells b r k um S) 66 (0, 0)) := fun V hV => hV.keep HX.out (fun h => h)
    have HXK := Lib.hid hxk
    clear hx hxk
    go_region_law (first
      | (go_simp; go_at_call 49; refine (HB.out _ (hfW.then (by exact (Fr.refl _ _).drew))).mono ?_; rintro e V ⟨b', rfl, hb', hbr, hfV⟩; have hV := (Fr.refl nob W).drew.then hfV; have hc1 := blk_cells (HXK.out _ hV); have hz1 := blk_free (HXK.out _ hV); have hlt1 := blk_lt (HXK.out _ hV); unfold coreCells at hc1; have HV := Lib.hid hV; have HBR := Lib.hid hbr; clear hbr hfV hV)
      | (go_simp; go_at_call 50; refine (HR.out _ (hfW.then HV.out)).mono ?_; rintro e V2 ⟨rfl, hrr, hfV2⟩; have hV2 := HV.out.then hfV2; have hc2 := blk_cells (HXK.out _ hV2); have hz2 := blk_free (HXK.out _ hV2); have hlt2 := blk_lt (HXK.out _ hV2); unfold coreCells at hc2; have HV2 := Lib.hid hV2; have HRR := Lib.hid hrr; have HFV2 := Lib.hid hfV2; clear hrr hfV2 hV2))
    all_goals go_wp2
    all_goals go_meet
    all_goals
      have hx2 := HXK.out _ HV2.out
      unfold coreCells at hx2
      have hfs : Fr (one w.heap.size) V2 ((V2.setCell ⟨w.heap.size, 0, none⟩ (.pointer (some ⟨b', 0, none⟩))).setCell ⟨w.heap.size, 1, none⟩ (.pointer (some ⟨V.heap.size, 0, none⟩))) := ((Fr.refl _ _).setOne _ _).setOne _ _
      have hN : NR V2 (one w.heap.size) := NR.one hx2 (by decide)
      have hx3 := heap_setCell_same (o := 1) (heap_setCell_same (o := 0) hx2 (.pointer (some ⟨b', 0, none⟩))) (.pointer (some ⟨V.heap.size, 0, none⟩))
      have hVs := HV.out.size
      have hbV := HBR.out.lt
      have hb2 : W.heap.size ≤ b' := hb'
      obtain ⟨c0, hc0, hy0⟩ := HY.out
      refine ⟨b', V.heap.size, hx3, ⟨c0, hc0, hfs.keep (HV2.out.keep hy0 (fun h => h)) (fun e => absurd (show w.heap.size + 1 = w.heap.size from e) (by omega))⟩, (HBR.out.stayN HFV2.out).stay hfs (fun e => absurd (show b' = w.heap.size from e) (by omega)) hN,
        HRR.out.stay hfs hN (fun e => absurd (show V.heap.size = w.heap.size from e) (by omega)), by omega, hbV, ?_⟩
      exact ((hfW.then HV2.out).setNew _ _ _ (Nat.le_refl _)).setNew _ _ _ (Nat.le_refl _)
  case rest =>
    obtain ⟨b', r', HX, HY, HB', HR', hb', hr', hfW⟩ := hcut
    have hwk := hfW.keep H.out.walk (fun h => h)
    have hrT : r' < wc.heap.size := HR'.out.lt
    obtain ⟨es, clock, hes0, hE⟩ := H.out.texts
    have HE := Lib.hid hE
    have hes1 := hfW.keep hes0 (fun h => h)
    have html := blk_lt hes1
    have hc := blk_cells HX.out
    have hcw := blk_cells hwk
    have hlt := blk_lt HX.out
    have hltw := blk_lt hwk
    have hes2 : ∀ V, Fr nob wc V → V.heap[tm]? = some (.map es clock) := fun V hV => hV.keep hes1 (fun h => h)
    have HES := Lib.hid hes2
    clear hes0 hes1 hes2 hE hwk
    have hmk1 : ∀ W, (Instr.makeMap 85 none).run Try.prog W = .ok (.map (some W.heap.size)) (W.alloc (.map #[] 0)) := fun W => run_makeMap _ W
    go_wp2_with (refine wpList_range rfl 85 3 9 (.tmp 29) rfl tm es clock rfl Try.underlying85 (HES.out _ (((Fr.refl _ _).alloc _).alloc _)) ?_; simp only [Act.put, List.setIfInBounds_toArray, List.set_cons_zero, List.set_cons_succ, World.size_alloc, Nat.add_assoc, Nat.reduceAdd])
    have hT : Fr nob wc (((wc.alloc (.map #[] 0)).alloc (.cells #[.int .i64 S.place, .map (some wc.heap.size)] 87)).alloc (.mapIter (some tm) clock #[] clock)) := (((Fr.refl _ _).alloc _).alloc _).alloc _
    have hX0 : ∀ V, Fr nob wc V → V.heap[wc.heap.size + 1]? = some (.cells #[.int .i64 S.place, .map (some wc.heap.size)] 87 (0, 0)) → TwB w b' r' (wc.heap.size + 1) um wc.heap.size k S V := fun V hV hw => by
      obtain ⟨c, h1, h2⟩ := HY.out
      exact ⟨hV.keep HX.out (fun h => h), ⟨c, h1, hV.keep h2 (fun h => h)⟩, HB'.out.stayN hV, HR'.out.stayN hV, hw, hfW.then hV⟩
    have hk' := heap_alloc_new (wc.alloc (.map #[] 0)) (.cells #[.int .i64 S.place, .map (some wc.heap.size)] 87)
    rw [show (wc.alloc (.map #[] 0)).heap.size = wc.heap.size + 1 by simp] at hk'
    have hit := heap_alloc_new ((wc.alloc (.map #[] 0)).alloc (.cells #[.int .i64 S.place, .map (some wc.heap.size)] 87)) (.mapIter (some tm) clock #[] clock)
    rw [show ((wc.alloc (.map #[] 0)).alloc (.cells #[.int .i64 S.place, .map (some wc.heap.size)] 87)).heap.size = wc.heap.size + 2 by simp] at hit
    have hmp := (MapRep.new wc).stay (((Fr.refl nob (wc.alloc (.map #[] 0))).alloc (.cells #[.int .i64 S.place, .map (some wc.heap.size)] 87)).alloc (.mapIter (some tm) clock #[] clock)) (fun h => h)
    refine forget (fun W => Hid (TwB w b' r' (wc.heap.size + 1) um wc.heap.size k S W) ∧ Hid (MapRep W wc.heap.size (fun _ => none)) ∧ Hid (IterAt W (wc.heap.size + 2) tm clock #[] clock) ∧ Fr nob wc W) ⟨hX0 _ hT ((heap_alloc_lt _ (by simp)).trans hk'), hmp, hit, hT⟩ ?_
    clear hT hX0 hk' hit hmp hc hcw hlt hltw HX HY HB' HR' hmk1
    rintro W ⟨HTW, HMP, HIT, hfc⟩
    have hTn : w.heap.size ≤ wc.heap.size := hfW.size
    go_loopw [4, 5] (fun _ _ V => ∃ (seen : Array Nat) (c0 : Nat) (f : Int → Option Value), Hid (TwB w b' r' (wc.heap.size + 1) um wc.heap.size k S V) ∧ Hid (MapRep V wc.heap.size f) ∧ Hid (IterAt V (wc.heap.size + 2) tm clock seen c0) ∧ clock ≤ c0 ∧ Hid (Visited es seen f) ∧ Fr nob wc V)
      (fun _ _ V => (leftOf es (V.iterSeen (wc.heap.size + 2))).size)
    case atStart => exact ⟨#[], clock, fun _ => none, HTW.out, HMP.out, HIT.out, Nat.le_refl _, ⟨fun e _ h => absurd h (by simp), fun p v h => absurd h (by simp)⟩, hfc⟩
    case round =>
      obtain ⟨seen, c0, f, HTV, HMV, HIV, hcc, HVI, hfv⟩ := hrel
      have hbV := HES.out _ hfv
      have HBV := Lib.hid hbV
      have hcw := blk_cells HTV.out.walk
      clear hbV
      go_wp2_with (first
        | (refine wpList_next rfl (.tmp 30) rfl (wc.heap.size + 2) tm clock c0 seen es clock rfl HIV.out HBV.out HE.out.st.1 hcc ?_ ?_))
      · intro h0
        have hfx : f = fun p => (S.texts p).map Value.string := Visited.all HE.out HVI.out (by rw [show leftOf es seen = #[] from h0]; rfl)
        subst hfx
        obtain ⟨fu, hmu, hun, hus⟩ := H.out.undos
        obtain ⟨es2, clock2, hes2, hE2⟩ := hmu
        have HE2 := Lib.hid hE2
        have HUN := Lib.hid hun
        have HUS := Lib.hid hus
        have hes3 : ∀ V, Fr nob w V → V.heap[um]? = some (.map es2 clock2) := fun V hV => hV.keep hes2 (fun h => h)
        have HES2 := Lib.hid hes3
        have hcx := blk_cells HTV.out.x
        have hzx := blk_free HTV.out.x
        have hltx := blk_lt HTV.out.x
        have hmk2 : ∀ W, (Instr.makeMap 64 none).run Try.prog W = .ok (.map (some W.heap.size)) (W.alloc (.map #[] 0)) := fun W => run_makeMap _ W
        have HS1 := Lib.hid (((HTV.out.fr).setNew w.heap.size 2 (.pointer (some ⟨wc.heap.size + 1, 0, none⟩)) (Nat.le_refl _)).alloc (.map #[] 0))
        clear hes2 hE2 hun hus hes3 hcw h0
        go_wp2_with (refine wpList_range rfl 64 3 78 (.tmp 46) rfl um es2 clock2 rfl Try.underlying64 (HES2.out _ HS1.out) ?_; simp only [Act.put, List.setIfInBounds_toArray, List.set_cons_zero, List.set_cons_succ, World.size_alloc, World.size_setCell])
        have hUn : wc.heap.size + 3 ≤ wr.heap.size := by
          have := blk_lt HIV.out
          omega
        have HM0 := Lib.hid (show MapRep (((wr.setCell ⟨w.heap.size, 2, none⟩ (.pointer (some ⟨wc.heap.size + 1, 0, none⟩))).alloc (.map #[] 0)).alloc (.mapIter (some um) clock2 #[] clock2)) wr.heap.size (fun _ => none) from by
          have h := (MapRep.new (wr.setCell ⟨w.heap.size, 2, none⟩ (.pointer (some ⟨wc.heap.size + 1, 0, none⟩)))).stay ((Fr.refl nob _).alloc (.mapIter (some um) clock2 #[] clock2)) (fun h => h)
          rwa [World.size_setCell] at h)
        have HI0 := Lib.hid (show IterAt (((wr.setCell ⟨w.heap.size, 2, none⟩ (.pointer (some ⟨wc.heap.size + 1, 0, none⟩))).alloc (.map #[] 0)).alloc (.mapIter (some um) clock2 #[] clock2)) (wr.heap.size + 1) um clock2 #[] clock2 from by
          have h := Go.heap_alloc_new ((wr.setCell ⟨w.heap.size, 2, none⟩ (.pointer (some ⟨wc.heap.size + 1, 0, none⟩))).alloc (.map #[] 0)) (.mapIter (some um) clock2 #[] clock2)
          rwa [World.size_alloc, World.size_setCell] at h)
        have HTU := Lib.hid (show TwB w b' r' (wc.heap.size + 1) um wc.heap.size (wc.heap.size + 1) S (((wr.setCell ⟨w.heap.size, 2, none⟩ (.pointer (some ⟨wc.heap.size + 1, 0, none⟩))).alloc (.map #[] 0)).alloc (.mapIter (some um) clock2 #[] clock2)) from by
          have hfx : Fr (one w.heap.size) wr (wr.setCell ⟨w.heap.size, 2, none⟩ (.pointer (some ⟨wc.heap.size + 1, 0, none⟩))) := (Fr.refl _ _).setOne _ _
          have hN : NR wr (one w.heap.size) := NR.one HTV.out.x (by decide)
          obtain ⟨c, h1, h2⟩ := HTV.out.y
          have h3 : TwB w b' r' (wc.heap.size + 1) um wc.heap.size (wc.heap.size + 1) S (wr.setCell ⟨w.heap.size, 2, none⟩ (.pointer (some ⟨wc.heap.size + 1, 0, none⟩))) :=
            ⟨heap_setCell_same (o := 2) HTV.out.x _, ⟨c, h1, hfx.keep h2 (fun e => absurd (show w.heap.size + 1 = w.heap.size from e) (by omega))⟩, HTV.out.buf.stay hfx (fun e => absurd (show b' = w.heap.size from e) (by omega)) hN,
              HTV.out.ring.stay hfx hN (fun e => absurd (show r' = w.heap.size from e) (by omega)), hfx.keep HTV.out.walk (fun e => absurd (show wc.heap.size + 1 = w.heap.size from e) (by omega)), HTV.out.fr.setNew _ _ _ (Nat.le_refl _)⟩
          exact (h3.n ((Fr.refl _ _).alloc _)).n ((Fr.refl _ _).alloc _))
        have HMT := Lib.hid (show MapRep (((wr.setCell ⟨w.heap.size, 2, none⟩ (.pointer (some ⟨wc.heap.size + 1, 0, none⟩))).alloc (.map #[] 0)).alloc (.mapIter (some um) clock2 #[] clock2)) wc.heap.size (fun p => (S.texts p).map Value.string) from
          HMV.out.stay ((((Fr.refl (one w.heap.size) wr).setOne 2 (.pointer (some ⟨wc.heap.size + 1, 0, none⟩))).alloc (.map #[] 0)).alloc (.mapIter (some um) clock2 #[] clock2)) (fun e => absurd (show wc.heap.size = w.heap.size from e) (by omega)))
        refine forget (fun W => Hid (TwB w b' r' (wc.heap.size + 1) um wc.heap.size (wc.heap.size + 1) S W) ∧ Hid (MapRep W wc.heap.size (fun p => (S.texts p).map Value.string)) ∧ Hid (MapRep W wr.heap.size (fun _ => none)) ∧ Hid (IterAt W (wr.heap.size + 1) um clock2 #[] clock2) ∧ wr.heap.size + 2 ≤ W.heap.size)
          ⟨HTU.out, HMT.out, HM0.out, HI0.out, by simp [World.size_alloc, World.size_setCell]⟩ ?_
        clear HTU HMT HM0 HI0 hcx hzx hltx hmk2 HS1 HTV HMV HIV HBV HVI
        rintro W3 ⟨HTW3, HMT3, HMU3, HIT3, hsW3⟩
        generalize hUe : wr.heap.size = U at *
        clear hUe
        go_loopw [7, 8] (fun _ _ V => ∃ (seen : Array Nat) (c1 : Nat) (f : Int → Option Value) (κn : Col), Hid (TwB w b' r' (wc.heap.size + 1) um wc.heap.size (wc.heap.size + 1) S V) ∧ Hid (MapRep V wc.heap.size (fun p => (S.texts p).map Value.string)) ∧ Hid (MapRep V U f) ∧
            Hid (IterAt V (U + 1) um clock2 seen c1) ∧ clock2 ≤ c1 ∧ Hid (Seen es2 seen f) ∧ Hid (ClonesAt V κn i' S.undos f) ∧ Hid (∀ x, x < U + 2 → κn x = twinCol κ w.heap.size i' b' r' (wc.heap.size + 1) wc.heap.size U x) ∧ U + 2 ≤ V.heap.size)
          (fun _ _ V => (leftOf es2 (V.iterSeen (U + 1))).size)
        case atStart => exact ⟨#[], clock2, fun _ => none, _, HTW3.out, HMT3.out, HMU3.out, HIT3.out, Nat.le_refl _, fun e _ h => absurd h (by simp), fun p v h => absurd h (by simp), fun x _ => rfl, hsW3⟩
        case round =>
          obtain ⟨seen, c1, f, κn, HTV, HMT, HMU, HIV, hcc2, HSE, HCL, HKN, hsV⟩ := hrel
          have HBV := Lib.hid (HES2.out _ HTV.out.fr)
          go_wp2_with (first
            | (refine wpList_next rfl (.tmp 47) rfl (U + 1) um clock2 c1 seen es2 clock2 rfl HIV.out HBV.out HE2.out.st.1 hcc2 ?_ ?_))
          · intro h0
            have hx4 := heap_setCell_same (o := 3) HTV.out.x (.map (some U))
            have hcx := blk_cells HTV.out.x
            have hzx := blk_free HTV.out.x
            have hltx := blk_lt HTV.out.x
            have hfx : Fr (one w.heap.size) wr (wr.setCell ⟨w.heap.size, 3, none⟩ (.map (some U))) := (Fr.refl _ _).setOne _ _
            obtain ⟨c, hcs, hy⟩ := HTV.out.y
            have HX4 := Lib.hid (show (wr.setCell ⟨w.heap.size, 3, none⟩ (.map (some U))).heap[w.heap.size]? = some (.cells (coreCells b' r' (wc.heap.size + 1) U S) 66 (0, 0)) from hx4)
            have HY4 := Lib.hid (hfx.keep hy (fun e => absurd (show w.heap.size + 1 = w.heap.size from e) (by omega)))
            have HD := Lib.hid Try.struct_core.1
            have HSZ := Lib.hid (show (Try.prog.info? 66).map (·.size) = some (coreCells b' r' (wc.heap.size + 1) U S).size from Try.struct_core.2)
            have HCS := Lib.hid (show c.size = (coreCells b' r' (wc.heap.size + 1) U S).size from hcs)
            have HONE := Lib.hid (show (coreCells b' r' (wc.heap.size + 1) U S).all (·.oneCell') = true from by simp [coreCells, Value.oneCell'])
            have HFX := Lib.hid hfx
            have HH0 := Lib.hid (show leftOf es2 seen = #[] from h0)
            clear hx4 hy hcs h0 hfx
            go_wp2_with (first
              | (refine wpList_load_struct rfl 66 (.tmp 1) rfl w.heap.size rfl 66 (coreCells b' r' (wc.heap.size + 1) U S) (0, 0) HX4.out HD.out HSZ.out ?_; simp only [Act.put, List.setIfInBounds_toArray, List.set_cons_zero, List.set_cons_succ])
              | (refine wpList_store_row rfl 66 (.tmp 2) (.tmp 59) rfl (w.heap.size + 1) (coreCells b' r' (wc.heap.size + 1) U S) rfl rfl 66 c HY4.out HSZ.out HCS.out HONE.out ?_; simp only [Act.put]))
            obtain ⟨fs, hfs⟩ := isStruct_desc HD.out
            have hy5 := heap_setRow_same (c' := coreCells b' r' (wc.heap.size + 1) U S) HY4.out
            have hfin : Fr (fun z => z = w.heap.size ∨ z = w.heap.size + 1) wr ((wr.setCell ⟨w.heap.size, 3, none⟩ (.map (some U))).setRow (w.heap.size + 1) (coreCells b' r' (wc.heap.size + 1) U S)) :=
              (HFX.out.mono (fun _ _ h => .inl h)).setRow _ _ (fun _ => .inr rfl)
            obtain ⟨c5, _, hy6⟩ := HTV.out.y
            have hnr : NR wr (fun z => z = w.heap.size ∨ z = w.heap.size + 1) := by
              rintro z c6 fr6 h6 (rfl | rfl)
              · rw [HTV.out.x] at h6
                injection h6 with h6
                injection h6 with _ h6
                exact absurd h6 (by decide)
              · rw [hy6] at h6
                injection h6 with h6
                injection h6 with _ h6
                exact absurd h6 (by decide)
            have hcol : ∀ x, x < U + 2 → w.heap.size ≤ x → κn x = (if x = b' then (i', 0) else if x = r' then (i', 1) else if x = wc.heap.size + 1 then (i', 2) else if x = wc.heap.size then (i', 3) else if x = U then (i', 4) else (0, 0)) := fun x hx hw => by
              rw [HKN.out x hx]
              unfold twinCol
              rw [if_neg (by omega)]
            have hld : (leftOf es2 seen).size = 0 := by rw [HH0.out]; rfl
            have hall := all_seen es2 seen hld
            refine bodyPost_ret (results_cell_row rfl _ _ (w.heap.size + 1) 66 (coreCells b' r' (wc.heap.size + 1) U S) (0, 0) (.struct fs) rfl hy5 hfs rfl HSZ.out) rfl
              ⟨b', r', wc.heap.size + 1, wc.heap.size, U, κn, rfl, fun x hx => ?_, ⟨?_, ?_, ?_, ?_, ?_, ?_, ?_, ?_, ?_, ?_⟩, ?_⟩
            · rw [HKN.out x (by omega)]
              unfold twinCol
              rw [if_pos hx]
            · rw [hcol _ (by omega) (by omega), if_pos rfl]
            · exact HTV.out.buf.stay hfin (by rintro (h | h) <;> omega) hnr
            · rw [hcol _ (by omega) (by omega), if_neg (by omega), if_pos rfl]
            · exact HTV.out.ring.stay hfin hnr (by rintro (h | h) <;> omega)
            · rw [hcol _ (by omega) (by omega), if_neg (by omega), if_neg (by omega), if_pos rfl]
            · exact hfin.keep HTV.out.walk (by rintro (h | h) <;> omega)
            · rw [hcol _ (by omega) (by omega), if_neg (by omega), if_neg (by omega), if_neg (by omega), if_pos rfl]
            · exact HMT.out.stay hfin (by rintro (h | h) <;> omega)
            · rw [hcol _ (by omega) (by omega), if_neg (by omega), if_neg (by omega), if_neg (by omega), if_neg (by omega), if_pos rfl]
            · refine ⟨f, HMU.out.stay hfin (by rintro (h | h) <;> omega), fun p hp => ?_, fun p g hp => ?_⟩
              · cases hf : f p with
                | none => rfl
                | some v =>
                  obtain ⟨g, l, h1, _⟩ := HCL.out p v hf
                  rw [hp] at h1
                  cases h1
              · obtain ⟨h0, l, hl, _⟩ := HUS.out p g hp
                obtain ⟨e, he, hek, _⟩ := HE2.out.all p _ hl
                obtain ⟨q, v, hq, hfv⟩ := HSE.out e he (hall e he)
                rw [hek] at hq
                injection hq with _ hq
                subst hq
                obtain ⟨g', l', h1, h2, h3⟩ := HCL.out p v hfv
                rw [hp] at h1
                injection h1 with h1
                subst h1
                exact ⟨h0, l', by rw [hfv, h2], h3.stay hfin hnr (fun x hx => by
                  intro h
                  have hx2 := hcol x (by omega) (by omega)
                  rw [if_neg (by omega), if_neg (by omega), if_neg (by omega), if_neg (by omega), if_neg (by omega)] at hx2
                  rw [hx2] at hx
                  have := congrArg Prod.snd hx
                  simp only at this
                  omega)⟩
            · exact (HTV.out.fr.setNew _ _ _ (Nat.le_refl _)).setRow _ _ (fun h => absurd h (by omega))
          · intro e w1 he hi1 hf1
            have he1 := (mem_left (es := es2) (seen := seen) (e := e) (by simpa using he)).1
            obtain ⟨p, hp, hpv⟩ := HE2.out.key e he1
            have hlt2 := left_shrinks es2 seen e (by simpa using he)
            obtain ⟨g, hg⟩ : ∃ g, S.undos p = some g := by
              cases hu : S.undos p with
              | some g => exact ⟨g, rfl⟩
              | none =>
                have := HUN.out p hu
                rw [this] at hpv
                cases hpv
            obtain ⟨_, l, hfl, hlr⟩ := HUS.out p g hg
            have hel : e.val = .pointer (some ⟨l, 0, none⟩) := by
              rw [hfl] at hpv
              injection hpv with hpv
              exact hpv.symm
            have hnr : NoRows wr (one (U + 1)) := fun x hx c T fr h => by
              cases hx
              rw [show wr.heap[U + 1]? = _ from HIV.out] at h
              cases h
            have htw1 := HTV.out.stay hf1 hnr (fun x hx => by cases hx; omega)
            have hmt1 := HMT.out.stay hf1 (fun h => by have : wc.heap.size = U + 1 := h; omega)
            have hmu1 := HMU.out.stay hf1 (fun h => by have : U = U + 1 := h; omega)
            have hcl1 := HCL.out.stay (κ' := κn) hf1 hnr (fun _ _ => rfl)
            have hb1 : w1.heap[um]? = some (.map es2 clock2) := HES2.out _ htw1.fr
            have HTW1 := Lib.hid htw1
            have HMT1 := Lib.hid hmt1
            have HMU1 := Lib.hid hmu1
            have HCL1 := Lib.hid hcl1
            have HI1 := Lib.hid hi1
            have HF1 := Lib.hid hf1
            have HB1 := Lib.hid hb1
            have HE1 := Lib.hid he1
            have HLT := Lib.hid hlt2
            have HP := Lib.hid hp
            have HG := Lib.hid hg
            have HEL := Lib.hid hel
            have hcl : Calls Try.prog 51 #[.pointer (some ⟨l, 0, none⟩)] w1 fun e w' => ∃ l', e = .returned (.pointer (some ⟨l', 0, none⟩)) ∧ w1.heap.size ≤ l' ∧ ListRep w' (newIn w1) l' g.1 [] 0 g.2 ∧ Fr nob w1 w' := undo_clone w1 _ l g.1 [] 0 g.2 (hlr.stayN htw1.fr) (HOK.out p g hg) ⟨by simp, by simp⟩
            have HCLN := Lib.hid hcl
            have hs1 : U + 2 ≤ w1.heap.size := Nat.le_trans hsV hf1.size
            clear hnr htw1 hmt1 hmu1 hcl1 hb1 hi1 hf1 he he1 hlt2 hpv hlr hfl hg hcl
            rw [hp, hel]
            clear hp hel
            go_wp2_with (first
              | (refine wpList_entry rfl (.tmp 47) rfl (U + 1) um clock2 seen es2 clock2 e rfl HI1.out HB1.out HE1.out HE2.out.st.2.1 ?_; rw [HP.out, HEL.out]; simp only [Act.put, List.setIfInBounds_toArray, List.set_cons_zero, List.set_cons_succ])
              | (go_at_call 51; refine (HCLN.out).mono ?_; rintro e2 w2 ⟨l', rfl, hl', hlr', hf2⟩; have HL' := Lib.hid hl'; have HLR := Lib.hid hlr'; have HF2 := Lib.hid hf2; have HMU2 := Lib.hid (HMU1.out.stay hf2 (fun h => h)); clear hl' hlr' hf2)
              | (refine wpList_mapset rfl 64 3 78 (.tmp 53) (.tmp 54) (.tmp 56) rfl U f p (.pointer (some ⟨l', 0, none⟩)) rfl rfl rfl Try.underlying64 Try.underlying3 HMU2.out ?_; intro w3 hm3 hf3; simp only [Act.put]; have HM3 := Lib.hid hm3; have HF3 := Lib.hid hf3; clear hm3 hf3))
            have hi3 := (HI1.out.keep HF2.out (fun h => h)).keep HF3.out (fun h => by have : U + 1 = U := h; omega)
            have hnr2 : NoRows w2 (one U) := fun x hx c T fr h => by
              obtain ⟨es', cl', hb', _⟩ := HMU2.out
              cases hx
              rw [hb'] at h
              cases h
            have hcl3 : ClonesAt w3 (paint κn w1.heap.size (i', 5 + p.toNat)) i' S.undos (upd f p (.pointer (some ⟨l', 0, none⟩))) := by
              refine ((HCL1.out.stay (κ' := paint κn w1.heap.size (i', 5 + p.toNat)) HF2.out (fun _ h => h.elim) (paint_old _ _ _)).stay (κ' := paint κn w1.heap.size (i', 5 + p.toNat)) HF3.out hnr2 (fun _ _ => rfl)).add p g l' HG.out ?_
              exact (HLR.out.stayC HF3.out hnr2).mono (fun x hx => paint_new _ _ _ _ (by rcases hx with hx | hx; exact hx.elim; exact hx))
            have hs3 := Nat.le_trans hs1 (Nat.le_trans HF2.out.size HF3.out.size)
            refine ⟨⟨seen.push e.born, clock2, _, paint κn w1.heap.size (i', 5 + p.toNat), (HTW1.out.n HF2.out).stay HF3.out hnr2 (fun x hx => by cases hx; omega), (HMT1.out.stay HF2.out (fun h => h)).stay HF3.out (fun h => by have : wc.heap.size = U := h; omega), HM3.out, hi3, Nat.le_refl _,
              HSE.out.step HE2.out e HE1.out p HP.out _, hcl3, fun x hx => (paint_old _ _ _ x (by omega)).trans (HKN.out x hx), hs3⟩, ?_⟩
            rw [hi3.seen, HIV.out.seen]
            exact HLT.out
      · intro e w1 he hi1 hf1
        have he1 := (mem_left (es := es) (seen := seen) (e := e) (by simpa using he)).1
        obtain ⟨p, hp, hpv⟩ := HE.out.key e he1
        have hlt2 := left_shrinks es seen e (by simpa using he)
        have hst := Visited.step HE.out HVI.out e he1 p hp
        have hnr : NoRows wr (one (wc.heap.size + 2)) := fun x hx c T fr h => by
          cases hx
          rw [show wr.heap[wc.heap.size + 2]? = _ from HIV.out] at h
          cases h
        have htw1 := HTV.out.stay hf1 hnr (fun x hx => by cases hx; omega)
        have hmp1 := HMV.out.stay hf1 (fun h => by have : wc.heap.size = wc.heap.size + 2 := h; omega)
        have hcw1 := blk_cells htw1.walk
        have hb1 : w1.heap[tm]? = some (.map es clock) := hf1.keep HBV.out (fun h => by have : tm = wc.heap.size + 2 := h; omega)
        have HTW1 := Lib.hid htw1
        have HMP1 := Lib.hid hmp1
        have HI1 := Lib.hid hi1
        have HF1 := Lib.hid hf1
        have HB1 := Lib.hid hb1
        have HE1 := Lib.hid he1
        have HST := Lib.hid hst
        have HLT := Lib.hid hlt2
        have HP := Lib.hid hp
        have HMS : Hid (∀ x ∈ es.toList, x.born < clock) := HE.out.st.1
        clear hst hnr htw1 hmp1 hb1 hi1 hf1 he he1 hlt2 hpv hcw
        rw [hp]
        clear hp
        go_wp2_with (first
          | (refine wpList_entry rfl (.tmp 30) rfl (wc.heap.size + 2) tm clock seen es clock e rfl HI1.out HB1.out HE1.out HE.out.st.2.1 ?_; rw [HP.out]; simp only [Act.put, List.setIfInBounds_toArray, List.set_cons_zero, List.set_cons_succ])
          | (refine wpList_mapset rfl 85 3 9 (.tmp 39) (.tmp 40) (.tmp 41) rfl wc.heap.size f p e.val rfl rfl rfl Try.underlying85 Try.underlying3 HMP1.out ?_; intro w2 hm2 hf2; simp only [Act.put]; have HM2 := Lib.hid hm2; have HF2 := Lib.hid hf2; clear hm2 hf2))
        have hi2 := HI1.out.keep HF2.out (fun h => by have : wc.heap.size + 2 = wc.heap.size := h; omega)
        have hnr2 : NoRows w1 (one wc.heap.size) := fun x hx c T fr h => by
          obtain ⟨es', cl', hb', _⟩ := HMP1.out
          cases hx
          rw [hb'] at h
          cases h
        refine ⟨⟨seen.push e.born, clock, upd f p e.val, HTW1.out.stay HF2.out hnr2 (fun x hx => by cases hx; omega), HM2.out, hi2, Nat.le_refl _, HST.out, ?_⟩, ?_⟩
        · exact (hfv.trans HF1.out (fun x hx h => by cases h; omega)).trans HF2.out (fun x hx h => by cases h; omega)
        · rw [hi2.seen, HIV.out.seen]
          exact HLT.out
end Go.Proofs.Ytbhklkolkclflaa
