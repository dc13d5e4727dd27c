/- Contracts of package buffer, first part: what only reads. -/
import Derived.Test.YtbhklkolkclflaaB3
namespace Go.Proofs.Ytbhklkolkclflaa
open Go.RowKit

/-- M holds no row of runes. -/
def NR (w : World) (M : Nat → Prop) : Prop := ∀ b c fr, w.heap[b]? = some (.cells c 21 fr) → ¬ M b
theorem NR.nob (w : World) : NR w nob := fun _ _ _ _ h => h
theorem NR.one {w : World} {b T : Nat} {c : Array Value} {fr : Nat × Nat} (h : w.heap[b]? = some (.cells c T fr)) (hT : T ≠ 21) : NR w (one b) :=
  fun x c' fr' hx hb => by cases hb; rw [h] at hx; injection hx with hx; injection hx with _ hx _; exact hT hx

def BufBlk (w : World) (b : Nat) (v : Value) (f t : Nat) (p m : Int) : Prop :=
  w.heap[b]? = some (.cells #[.bool true, v, .int .i64 f, .int .i64 t, .int .i64 p, .int .i64 m] 109 (0, 0))

/-- The buffer at b reads as the line L with point p and mark m. -/
def BufRep (w : World) (b : Nat) (L : List Int) (p m : Int) : Prop :=
  ∃ (a : Option Addr) (n c f t : Nat) (cs : List Int), BufBlk w b (.slice a n c) f t p m ∧ Own w 21 1 (.slice a n c) n (runes cs) ∧ f ≤ t ∧ t ≤ n ∧ n ≤ 4000 ∧
    L = cs.take f ++ cs.drop t ∧ L.length ≤ 1024 ∧ 0 ≤ p ∧ p ≤ L.length ∧ -1 ≤ m ∧ m ≤ L.length

theorem Own.len1 {w : World} {e : TypeId} {v : Value} {n : Nat} {cs : List Int} (h : Own w e 1 v n (runes cs)) : cs.length = n := by
  have := h.1
  simpa using this

theorem Own.lt {w : World} {e size : Nat} {a : Option Addr} {n c : Nat} {xs : List Value} (h : Own w e size (.slice a n c) n xs) : ∀ ad, a = some ad → ad.block < w.heap.size := by
  intro ad ea
  rcases h.imm 0 ad ea with h | ⟨c, fr, h⟩
  · omega
  · exact blk_lt h
theorem Own.stayA {w w' : World} {M : Nat → Prop} {e size : Nat} {a : Option Addr} {n c : Nat} {xs : List Value} (h : Own w e size (.slice a n c) n xs) (hf : Fr M w w') (hm : ∀ ad, a = some ad → ¬ M ad.block) : Own w' e size (.slice a n c) n xs := by
  refine ⟨h.1, h.2.1, ?_⟩
  rcases h.2.2 with ⟨a', hv, hn, hi⟩ | ⟨g, cap, cur, hv, hg, rest⟩
  · refine .inl ⟨a', hv, hn, fun ad ea => ?_⟩
    injection hv with hv _ _
    rcases hi ad ea with h | ⟨c, fr, h⟩
    · omega
    · exact .inr ⟨c, fr, hf.keep h (hm _ (hv.trans ea))⟩
  · refine .inr ⟨g, cap, cur, hv, hf.keep hg ?_, rest⟩
    injection hv with hv _ _
    exact hm _ hv
theorem Own.le {w : World} {e size : Nat} {a : Option Addr} {n c : Nat} {xs : List Value} (h : Own w e size (.slice a n c) n xs) : n ≤ c := by
  obtain ⟨_, _, hv, hnc, _⟩ := h.val
  injection hv with _ _ hv
  omega

theorem BufRep.len {w : World} {b : Nat} {L : List Int} {p m : Int} (h : BufRep w b L p m) :
    ∃ (a : Option Addr) (n c f t : Nat) (cs : List Int), BufBlk w b (.slice a n c) f t p m ∧ Own w 21 1 (.slice a n c) n (runes cs) ∧ f ≤ t ∧ t ≤ n ∧ n ≤ 4000 ∧
    L = cs.take f ++ cs.drop t ∧ cs.length = n ∧ L.length = n - (t - f) ∧ L.length ≤ 1024 ∧ 0 ≤ p ∧ p ≤ L.length ∧ -1 ≤ m ∧ m ≤ L.length := by
  obtain ⟨a, n, c, f, t, cs, h1, h2, h3, h4, h5, h6, h7⟩ := h
  have hl := h2.len1
  exact ⟨a, n, c, f, t, cs, h1, h2, h3, h4, h5, h6, hl, by rw [h6, List.length_append, List.length_take, List.length_drop]; omega, h7⟩

theorem BufRep.blk {w : World} {b : Nat} {L : List Int} {p m : Int} (h : BufRep w b L p m) : ∃ c, w.heap[b]? = some (.cells c 109 (0, 0)) := by
  obtain ⟨a, n, c, f, t, cs, h1, _⟩ := h
  exact ⟨_, h1⟩
theorem BufRep.at {w : World} {b : Nat} {L : List Int} {p m : Int} (h : BufRep w b L p m) : ∃ (a : Option Addr) (n c f t : Nat), BufBlk w b (.slice a n c) f t p m := by
  obtain ⟨a, n, c, f, t, cs, h1, _⟩ := h
  exact ⟨a, n, c, f, t, h1⟩
theorem BufRep.lt {w : World} {b : Nat} {L : List Int} {p m : Int} (h : BufRep w b L p m) : b < w.heap.size := by
  obtain ⟨c, h⟩ := h.blk
  exact blk_lt h
theorem BufRep.nr {w : World} {b : Nat} {L : List Int} {p m : Int} (h : BufRep w b L p m) : NR w (one b) := by
  obtain ⟨c, h⟩ := h.blk
  exact NR.one h (by decide)
theorem BufRep.stay {w w' : World} {M : Nat → Prop} {b : Nat} {L : List Int} {p m : Int} (h : BufRep w b L p m) (hf : Fr M w w') (hb : ¬ M b) (hr : NR w M) : BufRep w' b L p m := by
  obtain ⟨a, n, c, f, t, cs, h1, h2, h3⟩ := h
  exact ⟨a, n, c, f, t, cs, hf.keep h1 hb, h2.stay hf hr, h3⟩
theorem BufRep.stayN {w w' : World} {b : Nat} {L : List Int} {p m : Int} (h : BufRep w b L p m) (hf : Fr nob w w') : BufRep w' b L p m := h.stay hf (fun h => h) (NR.nob w)

theorem buf_none (w : World) (b : Nat) {v : Value} {f t : Nat} {p m : Int} (h : BufBlk w b v f t p m) :
    Calls Try.prog 58 #[.pointer (some ⟨b, 0, none⟩)] w fun e w' => e = .returned (.bool false) ∧ w = w' := by
  have hc := blk_cells h
  go_enter Try.func58, Try.ntmps58
  go_wp2
  go_ret
  exact ⟨rfl, rfl⟩

theorem buf_len (w : World) (b : Nat) (L : List Int) (p m : Int) (h : BufRep w b L p m) :
    Calls Try.prog 29 #[.pointer (some ⟨b, 0, none⟩)] w fun e w' => e = .returned (.int .i64 L.length) ∧ ∃ k, w' = w.drewN k := by
  obtain ⟨a, n, c, f, t, cs, h1, h2, hft, htn, hn, hL, hcl, hlen, _⟩ := h.len
  have H := Lib.hid hlen
  have HL := Lib.hid hL
  have hc := blk_cells h1
  clear h h2 hL hcl hlen
  go_enter Try.func29, Try.ntmps29
  go_wp2_with (go_at_call 58; refine (buf_none _ _ h1).mono ?_; rintro e w' ⟨rfl, rfl⟩)
  go_quiet (fail)
  go_wp2
  go_ret
  exact ⟨ret_int (by have := H.out; omega), _, rfl⟩

theorem buf_point (w : World) (b : Nat) (L : List Int) (p m : Int) (h : BufRep w b L p m) :
    Calls Try.prog 28 #[.pointer (some ⟨b, 0, none⟩)] w fun e w' => e = .returned (.int .i64 p) ∧ w = w' := by
  obtain ⟨a, n, c, f, t, cs, h1, _⟩ := h
  have hc := blk_cells h1
  go_enter Try.func28, Try.ntmps28
  go_wp2_with (go_at_call 58; refine (buf_none _ _ h1).mono ?_; rintro e w' ⟨rfl, rfl⟩)
  go_ret
  exact ⟨rfl, rfl⟩

theorem buf_mark (w : World) (b : Nat) (L : List Int) (p m : Int) (h : BufRep w b L p m) :
    Calls Try.prog 63 #[.pointer (some ⟨b, 0, none⟩)] w fun e w' => e = .returned (.int .i64 m) ∧ w = w' := by
  obtain ⟨a, n, c, f, t, cs, h1, _⟩ := h
  have hc := blk_cells h1
  go_enter Try.func63, Try.ntmps63
  go_wp2_with (go_at_call 58; refine (buf_none _ _ h1).mono ?_; rintro e w' ⟨rfl, rfl⟩)
  go_ret
  exact ⟨rfl, rfl⟩

set_option maxRecDepth 10000 in
theorem buf_text (w : World) (b : Nat) (L : List Int) (p m : Int) (h : BufRep w b L p m) :
    Calls Try.prog 62 #[.pointer (some ⟨b, 0, none⟩)] w (MadeS w 21 1 L.length (runes L)) := by
  obtain ⟨a, n, c, f, t, cs, h1, h2, hft, htn, hn, hL, hcl, hlen, hL2, _⟩ := h.len
  have hnc := h2.le
  have i1 : (f : Int) ≤ c := by omega
  have i2 : (t : Int) ≤ n := by omega
  have hl : L.length = f + (n - t) := by omega
  refine Calls.mono (R := MadeS w 21 1 (f + (n - t)) (runes (cs.take f ++ cs.drop t))) ?_ (by rw [hl, hL]; exact fun _ _ h => h)
  have HO := Lib.hid h2
  have hc := blk_cells h1
  have hb0 := blk_lt h1
  clear h h2 hL hcl hlen hl
  go_enter Try.func62, Try.ntmps62
  go_wp2_with (go_at_call 58; refine (buf_none _ _ h1).mono ?_; rintro e w' ⟨rfl, rfl⟩)
  go_still_tail 18, (by kernel_rfl)
  go_wp2_with fail
  all_goals
    refine (concat2 _ w.heap.size _ _ f _ (n - t) _ (cs.take f) (cs.drop t) (by exact heap_alloc_new w _) (by first | exact (HO.out.sl.pre1 f (by omega)).oldN ((Fr.refl _ _).alloc _).drew | exact (‹c = t› ▸ HO.out.sl.pre1 f (by omega) : Sl w 1 a f t _).oldN ((Fr.refl _ _).alloc _).drew) (by first | exact (HO.out.sl.suf1 t htn).oldN ((Fr.refl _ _).alloc _).drew | exact (HO.out.sl.sufEnd1 t htn (by assumption)).oldN ((Fr.refl _ _).alloc _).drew) (by omega)).mono ?_
    rintro e w' ⟨a', c', rfl, hown, hfr, hfresh⟩
    have HO2 := Lib.hid hown
    clear hown
    go_wp2
    go_ret
    exact ⟨a', c', rfl, HO2.out, ((Fr.refl nob w).alloc _).drew.then hfr, fun b hb => Nat.le_of_succ_le (by have := hfresh b hb; simpa using this)⟩
end Go.Proofs.Ytbhklkolkclflaa
