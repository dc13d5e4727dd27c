/- Package editor: an editor, whole; Begin. -/
import Derived.Test.YtbhklkolkclflaaE3
namespace Go.Proofs.Ytbhklkolkclflaa
open Go.RowKit

/-- All that an editor is. -/
structure EdState where
  core : CoreS
  f : EdF
  hist : List (ByteArray × Int)
  base : Int
  most : Int
  bells : Int
  was : CoreS
  put : List EditP

/-- The editor's other parts, beside its block and its cores. -/
structure EdRest (w : World) (κ : Col) (h bl : Nat) (putv : Value) (S : EdState) : Prop where
  hist : HistRep w (fun x => κ x = (3, 1)) h S.hist S.base S.most
  cb : κ bl = (3, 2)
  bells : w.heap[bl]? = some (.cells #[.int .i64 S.bells] 60 (0, 0))
  put : EdS w putv S.put
  mp : ∀ x, rowOf putv x → κ x = (3, 3)

/-- An editor laid open; within a command its other core is what it was. -/
structure EdAt (w : World) (κ : Col) (i e b r k tm um h bl : Nat) (was : Nat → Value) (putv : Value) (S : EdState) : Prop where
  ci : i = 1 ∨ i = 2
  ce : κ e = (3, 0)
  blk : EdBlk w e b r k um S.core h bl S.f was putv
  core : CoreAt w κ i b r k tm um S.core
  rest : EdRest w κ h bl putv S
  wone : ∀ j, (was j).oneCell' = true
  inn : S.f.inn = true → ∃ b2 r2 k2 tm2 um2, (∀ j, j < 11 → (coreCells b2 r2 k2 um2 S.was)[j]? = some (was j)) ∧ CoreAt w κ (3 - i) b2 r2 k2 tm2 um2 S.was
/-- The editor at e. -/
def EdRep (w : World) (κ : Col) (e : Nat) (S : EdState) : Prop := ∃ i b r k tm um h bl was putv, EdAt w κ i e b r k tm um h bl was putv S

section
variable {w w' : World} {κ κ' : Col} {h bl : Nat} {putv : Value} {S : EdState} {M : Nat → Prop}
theorem EdRest.stay (r : EdRest w κ h bl putv S) (hf : Fr M w w') (hr : NR w M) (hm : ∀ x, M x → x < w.heap.size → κ x ≠ (3, 1) ∧ κ x ≠ (3, 2) ∧ κ x ≠ (3, 3)) (hk : ∀ x, x < w.heap.size → κ' x = κ x) : EdRest w' κ' h bl putv S := by
  have hlb := blk_lt r.bells
  refine ⟨?_, (hk _ hlb).trans r.cb, hf.keep r.bells (fun hx => (hm _ hx hlb).2.1 r.cb), r.put.stay hf hr (fun x hx hM => (hm x hM (r.put.lt x hx)).2.2 (r.mp x hx)), fun x hx => (hk x (r.put.lt x hx)).trans (r.mp x hx)⟩
  obtain ⟨a, c, h1, h2, h3⟩ := r.hist.ex
  have hlh := blk_lt h1
  by_cases hn : 0 < S.hist.length
  · have hal : ∀ ad, a = some ad → ad.block < w.heap.size := fun ad ea => by
      rcases h2.rd with h4 | ⟨g, off, e, h4⟩
      · have := congrArg List.length h4
        rw [hcells_length] at this
        simp at this
        omega
      · obtain ⟨u, hu⟩ : ∃ u, (hcells S.hist)[0]? = some u := ⟨_, List.getElem?_eq_getElem (by rw [hcells_length]; omega)⟩
        have h5 := h4 0 u hu
        rw [ea] at e
        injection e with e
        rw [e]
        simp only [World.cell?] at h5
        rcases Nat.lt_or_ge g w.heap.size with h6 | h6
        · exact h6
        · rw [Array.getElem?_eq_none h6] at h5
          simp at h5
    exact ⟨(hk _ hlh).trans r.hist.mem, r.hist.nz, a, c, hf.keep h1 (fun hx => (hm _ hx hlh).1 r.hist.mem), h2.old hf (fun ad e hx => (hm _ hx (hal ad e)).1 (h3 hn ad e)), fun hn ad e => (hk _ (hal ad e)).trans (h3 hn ad e)⟩
  · have h0 : hcells S.hist = [] := List.eq_nil_of_length_eq_zero (by rw [hcells_length]; omega)
    exact ⟨(hk _ hlh).trans r.hist.mem, r.hist.nz, a, c, hf.keep h1 (fun hx => (hm _ hx hlh).1 r.hist.mem), ⟨h2.len, h2.le, .inl h0, h2.one⟩, fun h => absurd h hn⟩
end

/-- What an editor's call may write. -/
def edM (w : World) (κ : Col) : Nat → Prop := wr w (fun x => κ x ≠ (0, 0))
section
variable {w w' : World} {κ κ' : Col} {i e b r k tm um h bl : Nat} {was : Nat → Value} {putv : Value} {S : EdState} {M : Nat → Prop}
theorem EdAt.rep (x : EdAt w κ i e b r k tm um h bl was putv S) : EdRep w κ e S := ⟨i, b, r, k, tm, um, h, bl, was, putv, x⟩

theorem EdAt.lt (x : EdAt w κ i e b r k tm um h bl was putv S) : e < w.heap.size := blk_lt x.blk

/-- What is written is not the editor's. -/
theorem EdAt.stay (x : EdAt w κ i e b r k tm um h bl was putv S) (hf : Fr M w w') (hr : NR w M) (hm : ∀ y, M y → y < w.heap.size → κ y = (0, 0)) (hk : ∀ y, y < w.heap.size → κ' y = κ y) : EdAt w' κ' i e b r k tm um h bl was putv S := by
  have hn : ∀ i, i ≠ 0 → ∀ y, M y → y < w.heap.size → (κ y).1 ≠ i := fun i hi y hy hl he => by
    rw [hm y hy hl] at he
    exact hi he.symm
  have hci := x.ci
  refine ⟨x.ci, (hk _ x.lt).trans x.ce, hf.keep x.blk (fun hx => by have := hm _ hx x.lt; rw [x.ce] at this; cases this), x.core.stay hf hr (hn i (by omega)) hk,
    x.rest.stay hf hr (fun y hy hl => by rw [hm y hy hl]; exact ⟨by decide, by decide, by decide⟩) hk, x.wone, fun hi => ?_⟩
  obtain ⟨b2, r2, k2, tm2, um2, h6, h7⟩ := x.inn hi
  exact ⟨b2, r2, k2, tm2, um2, h6, h7.stay hf hr (hn (3 - i) (by omega)) hk⟩
theorem EdAt.stayN (x : EdAt w κ i e b r k tm um h bl was putv S) (hf : Fr nob w w') (hk : ∀ y, y < w.heap.size → κ' y = κ y) : EdAt w' κ' i e b r k tm um h bl was putv S := x.stay hf (NR.nob _) (fun _ h => h.elim) hk

/-- Only the editor's own block is written: its parts stay. -/
theorem EdAt.setE (hci : i = 1 ∨ i = 2) {was' : Nat → Value} {putv' : Value} {S' : EdState} (hce : κ e = (3, 0)) {c0 : Array Value} (h0 : w.heap[e]? = some (.cells c0 69 (0, 0))) (hf : Fr (one e) w w') (hblk : EdBlk w' e b r k um S'.core h bl S'.f was' putv')
    (hc : CoreAt w κ i b r k tm um S'.core) (hr : EdRest w κ h bl putv' S') (hone : ∀ j, (was' j).oneCell' = true)
    (hin : S'.f.inn = true → ∃ b2 r2 k2 tm2 um2, (∀ j, j < 11 → (coreCells b2 r2 k2 um2 S'.was)[j]? = some (was' j)) ∧ CoreAt w κ (3 - i) b2 r2 k2 tm2 um2 S'.was) : EdAt w' κ i e b r k tm um h bl was' putv' S' := by
  have hne : NR w (one e) := NR.one h0 (by decide)
  have hx : ∀ i, i ≠ 3 → ∀ y, one e y → y < w.heap.size → (κ y).1 ≠ i := fun i hi y hy _ he => by
    cases hy
    rw [hce] at he
    exact hi he.symm
  refine ⟨hci, hce, hblk, hc.stay hf hne (hx i (by omega)) (fun _ _ => rfl), hr.stay hf hne (fun y hy _ => by cases hy; rw [hce]; exact ⟨by decide, by decide, by decide⟩) (fun _ _ => rfl), hone, fun hi => ?_⟩
  obtain ⟨b2, r2, k2, tm2, um2, h6, h7⟩ := hin hi
  exact ⟨b2, r2, k2, tm2, um2, h6, h7.stay hf hne (hx (3 - i) (by omega)) (fun _ _ => rfl)⟩

/-- Only the editor's core is written, and what it points to. -/
theorem EdAt.setCore (x : EdAt w κ i e b r k tm um h bl was putv S) (hf : Fr M w w') (hr : NR w M) (hm : ∀ y, M y → y < w.heap.size → (κ y).1 = i) (hk : ∀ y, y < w.heap.size → κ' y = κ y) {C : CoreS} {tm' : Nat}
    (hc : CoreAt w' κ' i b r k tm' um C) (he : edArr b r k um C h bl S.f was putv = edArr b r k um S.core h bl S.f was putv) : EdAt w' κ' i e b r k tm' um h bl was putv { S with core := C } := by
  have hci := x.ci
  have h3 : ∀ y j, κ y = (3, j) → y < w.heap.size → ¬ M y := fun y j hy hl hM => by
    have := hm y hM hl
    rw [hy] at this
    simp only at this
    omega
  refine ⟨x.ci, (hk _ x.lt).trans x.ce, ?_, hc, ?_, x.wone, fun hi => ?_⟩
  · unfold EdBlk
    rw [he]
    exact hf.keep x.blk (h3 _ _ x.ce x.lt)
  · have h1 := x.rest.stay (κ' := κ') hf hr (fun y hy hl => ⟨fun e => h3 _ _ e hl hy, fun e => h3 _ _ e hl hy, fun e => h3 _ _ e hl hy⟩) hk
    exact ⟨h1.hist, h1.cb, h1.bells, h1.put, h1.mp⟩
  · obtain ⟨b2, r2, k2, tm2, um2, h6, h7⟩ := x.inn hi
    exact ⟨b2, r2, k2, tm2, um2, h6, h7.stay hf hr (fun y hy hl he => by rw [hm y hy hl] at he; omega) hk⟩

/-- The editor stays where what is written is none of its. -/
theorem EdRep.stay {S : EdState} (h : EdRep w κ e S) (hf : Fr M w w') (hr : NR w M) (hm : ∀ x, M x → x < w.heap.size → κ x = (0, 0)) (hk : ∀ x, x < w.heap.size → κ' x = κ x) : EdRep w' κ' e S := by
  obtain ⟨i, b, r, k, tm, um, h, bl, was, putv, x⟩ := h
  exact (x.stay hf hr hm hk).rep
/-- The colours of the editor's blocks are not that of what is no editor's. -/
theorem edM.of (hf : Fr M w w') (hr : NR w M) (hm : ∀ y, y < w.heap.size → M y → κ y ≠ (0, 0)) : Fr (edM w κ) w w' := hf.wr hm hr
theorem edM.trans {w1 w2 : World} (h : Fr (edM w κ) w w1) (hk : ∀ y, y < w.heap.size → κ' y = κ y) (h1 : Fr (edM w1 κ') w1 w2) : Fr (edM w κ) w w2 :=
  h.trans h1 (fun y hb hm => ⟨by have h2 : κ' y ≠ (0, 0) := hm.1; rw [hk y hb] at h2; exact h2, fun c fr e => hm.2 c fr (h.keep e (fun hx => hx.2 c fr e))⟩)
theorem edM.nob (h : Fr nob w w') : Fr (edM w κ) w w' := edM.of h (NR.nob w) (fun _ _ h => h.elim)
end

end Go.Proofs.Ytbhklkolkclflaa
