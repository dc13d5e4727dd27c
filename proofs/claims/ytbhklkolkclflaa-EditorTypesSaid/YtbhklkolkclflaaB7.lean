/- Contracts of package buffer, fourth part: Replace. -/
import Derived.Test.YtbhklkolkclflaaB6
namespace Go.Proofs.Ytbhklkolkclflaa
open Go.RowKit

theorem forgetC {P : Program} {f : FuncId} {args : Array Value} {R : Ending → World → Prop} {W0 : World} (F : World → Prop) (h0 : F W0) (h : ∀ W, F W → Calls P f args W R) : Calls P f args W0 R := h W0 h0

/-- Where a point comes to. -/
def newPoint (p : Int) (f t k : Nat) : Int := if (t : Int) < p then p + (k - (t - f)) else if (f : Int) ≤ p then f + k else p
def newMark (m : Int) (f t k : Nat) : Int := if (t : Int) < m then m + (k - (t - f)) else if (f : Int) < m then f else m

/-- An edit by value: At, Del, Ins. -/
def EditV (w : World) (v : Value) (f : Int) (del ins : List Int) : Prop :=
  ∃ d i cd ci, v = .agg #[.int .i64 f, .slice d del.length cd, .slice i ins.length ci] ∧ Own w 21 1 (.slice d del.length cd) del.length (runes del) ∧ Own w 21 1 (.slice i ins.length ci) ins.length (runes ins)

/-- What Replace leaves where it replaces. -/
def Replaced (w : World) (b : Nat) (L : List Int) (p m : Int) (f t : Nat) (l : List Int) (e : Ending) (w' : World) : Prop :=
  ∃ v, e = .returned (.tuple #[v, .int .i64 0]) ∧ EditV w' v f ((L.drop f).take (t - f)) l ∧ BufRep w' b (L.take f ++ l ++ L.drop t) (newPoint p f t l.length) (newMark m f t l.length) ∧ Fr (one b) w w'

/-- The text, whatever point and mark. -/
def BufTxt (w : World) (b : Nat) (L : List Int) (p m : Int) : Prop :=
  ∃ (a : Option Addr) (n c f t : Nat) (cs : List Int), BufBlk w b (.slice a n c) f t p m ∧ Own w 21 1 (.slice a n c) n (runes cs) ∧ f ≤ t ∧ t ≤ n ∧ n ≤ 4000 ∧
    L = cs.take f ++ cs.drop t ∧ L.length ≤ 1024
theorem BufTxt.at {w : World} {b : Nat} {L : List Int} {p m : Int} (h : BufTxt w b L p m) : ∃ (a : Option Addr) (n c f t : Nat), BufBlk w b (.slice a n c) f t p m := by
  obtain ⟨a, n, c, f, t, cs, h1, _⟩ := h
  exact ⟨a, n, c, f, t, h1⟩
theorem BufTxt.stay {w w' : World} {M : Nat → Prop} {b : Nat} {L : List Int} {p m : Int} (h : BufTxt w b L p m) (hf : Fr M w w') (hb : ¬ M b) (hr : NR w M) : BufTxt w' b L p m := by
  obtain ⟨a, n, c, f, t, cs, h1, h2, h3⟩ := h
  exact ⟨a, n, c, f, t, cs, hf.keep h1 hb, h2.stay hf hr, h3⟩
theorem BufTxt.set4 {w : World} {b : Nat} {L : List Int} {p m : Int} (h : BufTxt w b L p m) (q : Int) : BufTxt (w.setCell ⟨b, 4, none⟩ (.int .i64 q)) b L q m := by
  obtain ⟨a, n, c, f, t, cs, h1, h2, h3⟩ := h
  exact ⟨a, n, c, f, t, cs, h1.set4 q, h2.stay ((Fr.refl (one b) w).setOne _ _) (BufBlk.nr h1), h3⟩
theorem BufTxt.set5 {w : World} {b : Nat} {L : List Int} {p m : Int} (h : BufTxt w b L p m) (q : Int) : BufTxt (w.setCell ⟨b, 5, none⟩ (.int .i64 q)) b L p q := by
  obtain ⟨a, n, c, f, t, cs, h1, h2, h3⟩ := h
  exact ⟨a, n, c, f, t, cs, h1.set5 q, h2.stay ((Fr.refl (one b) w).setOne _ _) (BufBlk.nr h1), h3⟩
theorem BufTxt.rep {w : World} {b : Nat} {L : List Int} {p m : Int} (h : BufTxt w b L p m) (h0 : 0 ≤ p) (h1 : p ≤ L.length) (h2 : -1 ≤ m) (h3 : m ≤ L.length) : BufRep w b L p m := by
  obtain ⟨a, n, c, f, t, cs, g1, g2, g3, g4, g5, g6, g7⟩ := h
  exact ⟨a, n, c, f, t, cs, g1, g2, g3, g4, g5, g6, g7, h0, h1, h2, h3⟩

/-- What open made and Replace filled. -/
theorem filled (L l : List Int) (f t : Nat) (hft : f ≤ t) (ht : t ≤ L.length) :
    splice (runes (L.take f ++ List.replicate (l.length + 16) 0 ++ L.drop f)) f (runes l) = runes (L.take f ++ l ++ List.replicate 16 0 ++ L.drop f) := by
  have hl : (L.take f).length = f := by rw [List.length_take]; omega
  simp only [splice, runes_length]
  rw [← runes_take, ← runes_drop, ← runes_append, ← runes_append]
  congr 1
  rw [List.append_assoc, List.take_append, List.take_of_length_le (by omega), hl, Nat.sub_self, List.take_zero, List.append_nil, List.drop_append, List.drop_of_length_le (by omega), hl, List.nil_append, List.drop_append, List.drop_replicate, List.length_replicate]
  have e1 : l.length + 16 - (f + l.length - f) = 16 := by omega
  have e2 : f + l.length - f - (l.length + 16) = 0 := by omega
  rw [e1, e2, List.drop_zero]
  simp [List.append_assoc]

theorem filled_take (L l : List Int) (f : Nat) (ht : f ≤ L.length) : (L.take f ++ l ++ List.replicate 16 0 ++ L.drop f).take (f + l.length) = L.take f ++ l := by
  have hl : (L.take f ++ l).length = f + l.length := by rw [List.length_append, List.length_take]; omega
  rw [List.append_assoc, ← hl, List.take_left]
theorem filled_drop (L l : List Int) (f t : Nat) (hft : f ≤ t) (ht : t ≤ L.length) : (L.take f ++ l ++ List.replicate 16 0 ++ L.drop f).drop (t + l.length + 16) = L.drop t := by
  have hl : (L.take f ++ l ++ List.replicate 16 (0 : Int)).length = f + l.length + 16 := by rw [List.length_append, List.length_append, List.length_take, List.length_replicate]; omega
  rw [List.drop_append, List.drop_of_length_le (by omega), hl, List.nil_append, List.drop_drop]
  congr 1
  omega

/-- Runes are no part of a buffer's block. -/
theorem runes_oldBuf {w w' : World} {b n c : Nat} {a : Option Addr} {l : List Int} {p m : Int} (h : Sl w 1 a n c (runes l)) (hb : ∃ (a : Option Addr) (n c f t : Nat), BufBlk w b (.slice a n c) f t p m) (hf : Fr (one b) w w') : Sl w' 1 a n c (runes l) := by
  obtain ⟨a2, n2, c2, f, t, hb⟩ := hb
  by_cases h0 : l = []
  · subst h0
    exact ⟨h.len, h.le, .inl rfl, h.one⟩
  · rcases h.rd with h1 | ⟨g, off, rfl, h1⟩
    · exact absurd (List.map_eq_nil_iff.1 h1) h0
    · refine h.old hf (fun ad e hM => ?_)
      injection e with e
      subst e
      have hg : g = b := hM
      subst hg
      obtain ⟨x, xs, rfl⟩ := List.exists_cons_of_ne_nil h0
      have h2 := h1 0 (.int .i32 x) rfl
      rw [blk_cells hb] at h2
      have h3 : off + 0 < 6 := (Array.getElem?_eq_some_iff.1 h2).1
      match off, h3, h2 with
      | 0, _, h2 | 1, _, h2 | 2, _, h2 | 3, _, h2 | 4, _, h2 | 5, _, h2 => simp at h2

set_option maxRecDepth 10000 in
set_option maxHeartbeats 800000 in
theorem buf_replace_ok (w : World) (b : Nat) (L : List Int) (p m : Int) (f t : Nat) (l : List Int) (al : Option Addr) (cl : Nat) (h : BufRep w b L p m)
    (hl : Sl w 1 al l.length cl (runes l)) (hft : f ≤ t) (ht : t ≤ L.length) (hlen : l.length + (L.length - (t - f)) ≤ 1024) :
    Calls Try.prog 59 #[.pointer (some ⟨b, 0, none⟩), .int .i64 f, .int .i64 t, .slice al l.length cl] w (Replaced w b L p m f t l) := by
  have H := Lib.hid h
  have hL : L.length ≤ 1024 ∧ 0 ≤ p ∧ p ≤ L.length ∧ -1 ≤ m ∧ m ≤ L.length := by obtain ⟨_, _, _, _, _, _, _, _, _, _, _, _, h⟩ := h; exact h
  obtain ⟨hL, hp0, hp1, hm0, hm1⟩ := hL
  have hb := h.lt
  obtain ⟨a0, n0, c0, f0, t0, h1⟩ := h.at
  have HL := Lib.hid hl
  have HLB := Lib.hid h.at
  clear h hl
  generalize hn : L.length = n at *
  generalize hk : l.length = k at *
  have HN := Lib.hid hn
  have HK := Lib.hid hk
  clear hn hk
  have i1 : (t : Int) - f ≤ n := by omega
  have i2 : (k : Int) ≤ 1024 - (n - (t - f)) := by omega
  go_enter Try.func59, Try.ntmps59
  have F0 : ∀ o n, Fr nob w ((w.alloc o).drewN n) := fun o n => ((Fr.refl _ _).alloc o).drewN n
  have HF0 := Lib.hid F0
  clear F0
  go_upto_region 8 with (first
    | (go_at_call 29; refine (buf_len _ _ L p m (H.out.stayN (HF0.out _ 0))).mono ?_; rintro e w' ⟨rfl, k1, rfl⟩; rw [HN.out])
    | (go_at_call 58; refine (buf_none _ b (H.out.stayN (HF0.out _ _)).at.choose_spec.choose_spec.choose_spec.choose_spec.choose_spec).mono ?_; rintro e w' ⟨rfl, rfl⟩))
  go_ways
  go_cut [11, 18, 37] (fun s11 _ _ W => ∃ (g : Nat) (d i : Option Addr) (cd ci : Nat), s11 = .pointer (some ⟨g, 0, none⟩) ∧ w.heap.size < g ∧ Hid (W.heap[w.heap.size]? = some (.cells #[.int .i64 0, .slice none 0 0, .slice none 0 0] 82 (0, 0))) ∧
    Hid (W.heap[g]? = some (.cells #[.int .i64 f, .slice d (t - f) cd, .slice i k ci] 82 (0, 0))) ∧ Hid (Own W 21 1 (.slice d (t - f) cd) (t - f) (runes ((L.drop f).take (t - f)))) ∧ Hid (Own W 21 1 (.slice i k ci) k (runes l)) ∧ Fr nob w W)
  case first =>
    go_wp2_with fail
    refine (buf_text _ _ L p m (H.out.stayN (HF0.out _ _))).mono ?_
    rintro e w1 ⟨a1, c1, rfl, hown1, hfr1, _⟩
    rw [HN.out] at hown1 ⊢
    have HO1 := Lib.hid hown1
    clear hown1
    have i3 := HO1.out.le
    go_wp2_with fail
    all_goals
      refine (clone_runes _ _ (t - f) _ (runes ((L.drop f).take (t - f))) (by first | exact HO1.out.sl.mid1 f t hft ht | exact HO1.out.sl.midEnd1 f t hft ht (by assumption)) (by omega)).mono ?_
      rintro e w2 ⟨d, cd, rfl, hown2, hfr2, _⟩
      have HO2 := Lib.hid hown2
      clear hown2
      go_wp2_with fail
      have hfw2 : Fr nob w w2 := ((HF0.out _ _).then hfr1).then hfr2
      refine (clone_runes _ _ k _ (runes l) (HL.out.oldN hfw2) (by omega)).mono ?_
      rintro e w3 ⟨i, ci, rfl, hown3, hfr3, _⟩
      have HO3 := Lib.hid hown3
      clear hown3
      have hE := (hfr3.keep ((hfr2.keep (hfr1.keep (heap_alloc_new w (.cells #[.int .i64 0, .slice none 0 0, .slice none 0 0] 82)) (fun h => h))) (fun h => h)) (fun h => h))
      go_wp2
      go_meet
      case rel =>
        have hsz := (hfw2.then hfr3).size
        have hlt := blk_lt hE
        exact ⟨w3.heap.size, d, i, cd, ci, rfl, hlt, (heap_alloc_lt _ hlt).trans hE, heap_alloc_new w3 _, (HO2.out.stay hfr3 (NR.nob _)).stay (M := nob) ((Fr.refl _ _).alloc _) (NR.nob _), HO3.out.stay (M := nob) ((Fr.refl _ _).alloc _) (NR.nob _), (hfw2.then hfr3).alloc _⟩
  case rest =>
    obtain ⟨g, d, i, cd, ci, rfl, hgw, HE1, HE2, HD, HI, hfW⟩ := hcut
    go_wp2_with fail
    refine (buf_open _ b L p m f k (H.out.stayN hfW) (by rw [HN.out]; omega) (by omega)).mono ?_
    rintro e w4 ⟨rfl, gg, hgg, hB4, hG4, hf4⟩
    rw [HN.out] at hB4
    obtain ⟨N, hN⟩ : ∃ N : Nat, N = n + k + 16 := ⟨_, rfl⟩
    obtain ⟨T, hT⟩ : ∃ T : Nat, T = f + k + 16 := ⟨_, rfl⟩
    obtain ⟨T', hT'⟩ : ∃ T' : Nat, T' = t + k + 16 := ⟨_, rfl⟩
    rw [← hN, ← hT] at hB4
    have hTT : (T : Int) + (t - f) = T' := by omega
    have hTN : T' ≤ N := by omega
    have hfT : f + k ≤ T' := by omega
    have hfN : f + k ≤ N := by omega
    have hNb : N ≤ 4000 := by omega
    have hTb : T ≤ 4000 := by omega
    have hTb' : T' ≤ 4000 := by omega
    have i4 : (f : Int) ≤ N := by omega
    have HT1 := Lib.hid hTT
    have HT' := Lib.hid hT'
    have HNN := Lib.hid hN
    have HG4 := Lib.hid hG4
    have HB4 := Lib.hid hB4
    clear hG4 hB4 hT hT' hN hTT
    have hc4 := blk_cells HB4.out
    have hz4 := blk_free HB4.out
    have hl4 := blk_lt HB4.out
    have hfw4 : Fr (one b) w w4 := (hfW.mono (fun _ _ h => h.elim)).trans hf4 (fun _ _ h => h)
    have hbw : b ≠ w.heap.size := by omega
    have hbg : b ≠ g := by omega
    have hsW := hfW.size
    have HDg : Hid (∀ ad, d = some ad → ad.block ≠ gg) := fun ad e => by have := HD.out.lt ad e; omega
    have HIg : Hid (∀ ad, i = some ad → ad.block ≠ gg) := fun ad e => by have := HI.out.lt ad e; omega
    go_upto_region 11 with fail
    refine forget (fun W => Hid (BufBlk W b (.slice (some ⟨gg, 0, none⟩) N N) f T' p m) ∧ Hid (W.heap[gg]? = some (.cells (runes (L.take f ++ List.replicate (k + 16) 0 ++ L.drop f)).toArray 21 (0, 0))) ∧ Hid (Sl W 1 al k cl (runes l)) ∧
      Hid (W.heap[w.heap.size]? = some (.cells #[.int .i64 0, .slice none 0 0, .slice none 0 0] 82 (0, 0))) ∧
      Hid (W.heap[g]? = some (.cells #[.int .i64 f, .slice d (t - f) cd, .slice i k ci] 82 (0, 0))) ∧ Hid (Own W 21 1 (.slice d (t - f) cd) (t - f) (runes ((L.drop f).take (t - f)))) ∧ Hid (Own W 21 1 (.slice i k ci) k (runes l)) ∧ Fr (one b) w W) ?_ ?_
    · have hne := BufBlk.ne HB4.out HG4.out
      have hs := (BufBlk.set3 HB4.out T' HT1.out)
      have hf5 : Fr (one b) w4 (w4.setCell ⟨b, 3, none⟩ (.int .i64 (↑T + (↑t - ↑f)))) := (Fr.refl _ _).setOne _ _
      have hf6 := hf4.trans hf5 (fun _ _ h => h)
      refine ⟨hs, hf5.keep HG4.out hne, runes_oldBuf HL.out HLB.out (hfw4.trans hf5 (fun _ _ h => h)), hf6.keep HE1.out (Ne.symm hbw), hf6.keep HE2.out (Ne.symm hbg), HD.out.stay hf6 (hfW.keep h1 (fun h => h) |> fun h => BufBlk.nr h), HI.out.stay hf6 (hfW.keep h1 (fun h => h) |> fun h => BufBlk.nr h), hfw4.trans hf5 (fun _ _ h => h)⟩
    rintro W ⟨HB5, HG5, HL5, HE15, HE25, HD5, HI5, hfw5⟩
    clear HB4 HG4 HE1 HE2 HD HI hc4 hz4 hl4 hfw4 hf4
    have hc5 := blk_cells HB5.out
    have hl5 := blk_lt HB5.out
    go_still_tail 10, (by kernel_rfl)
    refine wpList_cpy rfl (.tmp 81) (.tmp 82) 22 22 rfl 21 Try.underlying22 Try.one_runes _ _ _ _ _ _ rfl rfl gg f _ 21 HG5.out (runes l) (HL5.out.oldN (Fr.refl _ _).drew) ?hn ?pos ?fit ?_
    case hn => omega
    case pos =>
      intro h0
      rw [if_neg (by omega)]
    case fit =>
      rw [runes_length, List.length_append, List.length_append, List.length_take, List.length_drop, List.length_replicate, HN.out]
      omega
    intro w6 HG6 hf6'
    have hf6 := Fr.ofDrew (w := W) hf6'
    clear hf6'
    have hne : gg ≠ b := BufBlk.ne HB5.out HG5.out
    have HB6 := Lib.hid (hf6.keep HB5.out (fun e => hne e.symm))
    have hc6 := blk_cells HB6.out
    have hz6 := blk_free HB6.out
    have hl6 := blk_lt HB6.out
    have hgwg : w.heap.size ≤ gg := by omega
    go_upto_block 1 with fail
    all_goals
      refine forget (fun V => Hid (BufTxt V b (L.take f ++ l ++ L.drop t) p m) ∧
        Hid (V.heap[w.heap.size]? = some (.cells #[.int .i64 0, .slice none 0 0, .slice none 0 0] 82 (0, 0))) ∧
        Hid (V.heap[g]? = some (.cells #[.int .i64 f, .slice d (t - f) cd, .slice i k ci] 82 (0, 0))) ∧ Hid (Own V 21 1 (.slice d (t - f) cd) (t - f) (runes ((L.drop f).take (t - f)))) ∧ Hid (Own V 21 1 (.slice i k ci) k (runes l)) ∧ Fr (one b) w V) ?_ ?_
      case refine_1 =>
        have hf7 : Fr (one b) w6 (w6.setCell ⟨b, 2, none⟩ (.int .i64 (↑f + ↑k))) := (Fr.refl _ _).setOne _ _
        have hnr : NR w6 (one b) := BufBlk.nr HB6.out
        have g1 : gg ≠ w.heap.size := fun e => by
          have h1 := HG5.out
          rw [e, HE15.out] at h1
          injection h1 with h1
          injection h1 with _ h1 _
          exact absurd h1 (by decide)
        have g2 : gg ≠ g := fun e => by
          have h1 := HG5.out
          rw [e, HE25.out] at h1
          injection h1 with h1
          injection h1 with _ h1 _
          exact absurd h1 (by decide)
        have hlk : (L.take f ++ l ++ List.replicate 16 0 ++ L.drop f).length = N := by
          simp only [List.length_append, List.length_take, List.length_drop, List.length_replicate, HN.out, HK.out]
          have := HNN.out
          omega
        have hfill := filled L l f t hft (by rw [HN.out]; exact ht)
        rw [HK.out] at hfill
        have hrow := HG6.out
        rw [hfill] at hrow
        refine ⟨⟨some ⟨gg, 0, none⟩, N, N, f + k, T', L.take f ++ l ++ List.replicate 16 0 ++ L.drop f, BufBlk.set2 HB6.out (f + k) (by omega), ?_, hfT, hTN, hNb, ?_, ?_⟩, ?_, ?_, ?_, ?_, ?_⟩
        · exact ⟨by rw [runes_length, hlk, Nat.mul_one], runes_one _, .inr ⟨gg, N, _, rfl, hf7.keep hrow (fun e => hne e), Nat.le_refl _, by unfold maxLen; omega, by simp only [List.size_toArray, runes_length, hlk, Nat.mul_one], by rw [Nat.mul_one, ← hlk, ← runes_length]; exact List.take_length⟩⟩
        · rw [← HK.out, filled_take L l f (by rw [HN.out]; omega), HT'.out, ← HK.out, filled_drop L l f t hft (by rw [HN.out]; exact ht)]
        · simp only [List.length_append, List.length_take, List.length_drop, HN.out, HK.out]
          omega
        · exact hf7.keep (hf6.keep HE15.out (fun e => g1 e.symm)) (fun e => hbw e.symm)
        · exact hf7.keep (hf6.keep HE25.out (fun e => g2 e.symm)) (fun e => hbg e.symm)
        · exact (HD5.out.stayA hf6 (fun ad e => HDg.out ad e)).stay hf7 hnr
        · exact (HI5.out.stayA hf6 (fun ad e => HIg.out ad e)).stay hf7 hnr
        · exact (hfw5.trans hf6 (fun x hx e => by cases e; omega)).trans hf7 (fun _ _ h => h)
      rintro V ⟨HB7, HE17, HE27, HD7, HI7, hfw7⟩
      clear HG6 hf6 HB6 hc6 hz6 hl6 HB5 HG5 HL5 HE15 HE25 HD5 HI5 hfw5 hc5 hl5
      obtain ⟨a7, n7, c7, f7, t7, h7⟩ := HB7.out.at
      have hc7 := blk_cells h7
      have hz7 := blk_free h7
      have hl7 := blk_lt h7
      go_cut [93, 113] (fun _ _ V => Hid (BufTxt V b (L.take f ++ l ++ L.drop t) (newPoint p f t k) m) ∧
        Hid (V.heap[w.heap.size]? = some (.cells #[.int .i64 0, .slice none 0 0, .slice none 0 0] 82 (0, 0))) ∧
        Hid (V.heap[g]? = some (.cells #[.int .i64 f, .slice d (t - f) cd, .slice i k ci] 82 (0, 0))) ∧ Hid (Own V 21 1 (.slice d (t - f) cd) (t - f) (runes ((L.drop f).take (t - f)))) ∧ Hid (Own V 21 1 (.slice i k ci) k (runes l)) ∧ Fr (one b) w V)
      case first =>
        go_wp2
        all_goals
          go_meet
          case rel =>
            have hnr : NR V (one b) := BufBlk.nr h7
            have hff : ∀ o v, Fr (one b) V (World.setCell V ⟨b, o, none⟩ v) := fun o v => (Fr.refl _ _).setOne o v
            unfold newPoint
            first
              | (rw [if_pos (by assumption)]; exact ⟨HB7.out.set4 _, (hff _ _).keep HE17.out (fun e => hbw e.symm), (hff _ _).keep HE27.out (fun e => hbg e.symm), HD7.out.stay (hff _ _) hnr, HI7.out.stay (hff _ _) hnr, hfw7.trans (hff _ _) (fun _ _ h => h)⟩)
              | (rw [if_neg (by assumption), if_pos (by assumption)]; exact ⟨HB7.out.set4 _, (hff _ _).keep HE17.out (fun e => hbw e.symm), (hff _ _).keep HE27.out (fun e => hbg e.symm), HD7.out.stay (hff _ _) hnr, HI7.out.stay (hff _ _) hnr, hfw7.trans (hff _ _) (fun _ _ h => h)⟩)
              | (rw [if_neg (by omega), if_pos (by omega)]; exact ⟨HB7.out.set4 _, (hff _ _).keep HE17.out (fun e => hbw e.symm), (hff _ _).keep HE27.out (fun e => hbg e.symm), HD7.out.stay (hff _ _) hnr, HI7.out.stay (hff _ _) hnr, hfw7.trans (hff _ _) (fun _ _ h => h)⟩)
              | (rw [if_neg (by omega), if_neg (by omega)]; exact ⟨HB7, HE17, HE27, HD7, HI7, hfw7⟩)
      case rest =>
        obtain ⟨HB8, HE18, HE28, HD8, HI8, hfw8⟩ := hcut
        clear HB7 HE17 HE27 HD7 HI7 hfw7 h7 hc7 hz7 hl7
        obtain ⟨a8, n8, c8, f8, t8, h8⟩ := HB8.out.at
        have hc8 := blk_cells h8
        have hz8 := blk_free h8
        have hl8 := blk_lt h8
        go_upto_block 2 with fail
        go_cut [127, 147] (fun _ _ V => Hid (BufTxt V b (L.take f ++ l ++ L.drop t) (newPoint p f t k) (newMark m f t k)) ∧
        Hid (V.heap[w.heap.size]? = some (.cells #[.int .i64 0, .slice none 0 0, .slice none 0 0] 82 (0, 0))) ∧
        Hid (V.heap[g]? = some (.cells #[.int .i64 f, .slice d (t - f) cd, .slice i k ci] 82 (0, 0))) ∧ Hid (Own V 21 1 (.slice d (t - f) cd) (t - f) (runes ((L.drop f).take (t - f)))) ∧ Hid (Own V 21 1 (.slice i k ci) k (runes l)) ∧ Fr (one b) w V)
        case first =>
          go_wp2
          all_goals
            go_meet
            case rel =>
              have hnr : NR wc (one b) := BufBlk.nr h8
              have hff : ∀ o v, Fr (one b) wc (World.setCell wc ⟨b, o, none⟩ v) := fun o v => (Fr.refl _ _).setOne o v
              unfold newMark
              first
                | (rw [if_pos (by assumption)]; exact ⟨HB8.out.set5 _, (hff _ _).keep HE18.out (fun e => hbw e.symm), (hff _ _).keep HE28.out (fun e => hbg e.symm), HD8.out.stay (hff _ _) hnr, HI8.out.stay (hff _ _) hnr, hfw8.trans (hff _ _) (fun _ _ h => h)⟩)
                | (rw [if_neg (by assumption), if_pos (by assumption)]; exact ⟨HB8.out.set5 _, (hff _ _).keep HE18.out (fun e => hbw e.symm), (hff _ _).keep HE28.out (fun e => hbg e.symm), HD8.out.stay (hff _ _) hnr, HI8.out.stay (hff _ _) hnr, hfw8.trans (hff _ _) (fun _ _ h => h)⟩)
                | (rw [if_neg (by omega), if_pos (by omega)]; exact ⟨HB8.out.set5 _, (hff _ _).keep HE18.out (fun e => hbw e.symm), (hff _ _).keep HE28.out (fun e => hbg e.symm), HD8.out.stay (hff _ _) hnr, HI8.out.stay (hff _ _) hnr, hfw8.trans (hff _ _) (fun _ _ h => h)⟩)
                | (rw [if_neg (by omega), if_neg (by omega)]; exact ⟨HB8, HE18, HE28, HD8, HI8, hfw8⟩)
        case rest =>
          obtain ⟨HB9, HE19, HE29, HD9, HI9, hfw9⟩ := hcut
          clear HB8 HE18 HE28 HD8 HI8 hfw8 h8 hc8 hz8 hl8
          rename_i wc2
          have hce := blk_cells HE29.out
          have hcr := blk_cells HE19.out
          have hzr := blk_free HE19.out
          have hlr := blk_lt HE19.out
          go_wp2
          have hE : EditV wc (.agg #[.int .i64 f, .slice d (t - f) cd, .slice i k ci]) f ((L.drop f).take (t - f)) l := by
            have e1 : ((L.drop f).take (t - f)).length = t - f := by rw [List.length_take, List.length_drop, HN.out]; omega
            refine ⟨d, i, cd, ci, by rw [e1, HK.out], by rw [e1]; exact HD9.out, by rw [HK.out]; exact HI9.out⟩
          have hle : (L.take f ++ l ++ L.drop t).length = f + k + (n - t) := by
            simp only [List.length_append, List.length_take, List.length_drop, HN.out, HK.out]
            omega
          have hff : ∀ x y z, Fr (one w.heap.size) wc (((wc.setCell ⟨w.heap.size, 0, none⟩ x).setCell ⟨w.heap.size, 1, none⟩ y).setCell ⟨w.heap.size, 2, none⟩ z) := fun x y z => (((Fr.refl _ _).setOne _ _).setOne _ _).setOne _ _
          have hnr : NR wc (one w.heap.size) := NR.one HE19.out (by decide)
          refine bodyPost_ret (v := .tuple #[.agg #[.int .i64 f, .slice d (t - f) cd, .slice i k ci], .int .i64 0]) (by simp [results, Try.results59, go_sem, hcr]) rfl ⟨_, rfl, ?_, ?_, ?_⟩
          · obtain ⟨d', i', cd', ci', h1, h2, h3⟩ := hE
            exact ⟨d', i', cd', ci', h1, h2.stay (hff _ _ _) hnr, h3.stay (hff _ _ _) hnr⟩
          · rw [HK.out]
            refine (HB9.out.stay (hff _ _ _) (fun e => hbw e) hnr).rep ?_ ?_ ?_ ?_
            all_goals
              try rw [hle]
              first | unfold newPoint | unfold newMark
              split
              · omega
              · split <;> omega
          · exact hfw9.trans (hff _ _ _) (fun x hx e => by cases e; exact absurd hx (Nat.lt_irrefl _))
end Go.Proofs.Ytbhklkolkclflaa
