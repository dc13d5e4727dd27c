/- Contracts of package buffer, third part: open. -/
import Derived.Test.YtbhklkolkclflaaB5
namespace Go.Proofs.Ytbhklkolkclflaa
open Go.RowKit

theorem wpList_cpy {P : Program} {w : World} {ops : Array Oper} {rest : List Oper} {o : Oper} {a : Act} {Q : Exit → Act → World → Prop} (hgd : o.guard = none) (d s : Operand) (dT sT : TypeId)
    (ho : o.op = .call { callee := .builtin .copy, args := #[d, s], argTypes := #[dT, sT] }) (elem : TypeId) (hu : P.underlying dT = some (.slice elem)) (hsz : (P.info? elem).map (·.size) = some 1)
    (dp sp : Option Addr) (dLen dCap sLen sCap : Nat) (hd : a.eval d = .slice dp dLen dCap) (hs : a.eval s = .slice sp sLen sCap)
    (g off : Nat) (cur : List Value) (t : TypeId) (hg : w.heap[g]? = some (.cells cur.toArray t (0, 0))) (cs : List Value) (hsl : Sl w 1 sp sLen sCap cs) (hn : sLen ≤ dLen)
    (hpos : 0 < sLen → dp = some ⟨g, off, none⟩) (hfit : off + sLen ≤ cur.length)
    (h : ∀ w', Hid (w'.heap[g]? = some (.cells (splice cur off cs).toArray t (0, 0))) → Fr (one g) w w' → wpList P ops Q rest (a.put o.dst (goInt cs.length)) w') :
    wpList P ops Q (o :: rest) a w := by
  have hl : cs.length = sLen := by have := hsl.len; omega
  by_cases h0 : cs.length = 0
  · obtain rfl : cs = [] := List.eq_nil_of_length_eq_zero h0
    refine wpList_copy_nothing hgd d s dT sT ho elem hu hsz dp sp dLen dCap sLen sCap hd hs (by simp only [List.length_nil] at hl; rw [← hl]; exact Nat.zero_min _) ?_
    exact h w (show _ = _ by simpa [splice] using hg) (Fr.refl _ _)
  · obtain rfl := hpos (by omega)
    obtain ⟨g2, o2, rfl, hc⟩ := hsl.at (by omega) (by decide)
    refine wpList_copy_own hgd d s dT sT ho elem hu hsz g off dLen dCap _ sLen sCap hd hs cur.toArray t hg cs (by rw [hl]; exact (Nat.min_eq_left hn).symm) (fun j v hv => by rw [Addr.add_lit]; exact hc j v hv) (by simp; omega) hsl.one ?_
    exact h _ (show _ = _ by simpa [splice] using setRow_heap w g _ _ t _ hg) ((Fr.refl _ _).setRow g _ (fun _ => rfl))

theorem wpList_mak {P : Program} {w : World} {ops : Array Oper} {rest : List Oper} {o : Oper} {a : Act} {Q : Exit → Act → World → Prop}
    (hg : o.guard = none) (l c : Operand) (t : TypeId) (hop : o.op = Op.makeSlice t l c)
    (e : TypeId) (i : TypeInfo) (z : Value) (h1 : P.underlying t = some (.slice e)) (h2 : P.info? e = some i) (h3 : i.zero = some z) (h4 : i.size = 1) (hz : z.cells = #[z])
    (n : Nat) (X : Int) (hl : a.eval l = .int .i64 X) (hc : a.eval c = .int .i64 X) (hX : X = n) (b2 : i.bytes * n ≤ 281474976710656) (b3 : n ≤ maxLen)
    (hK : ∀ w', Hid (w'.heap[w.heap.size]? = some (.cells (List.replicate n z).toArray e (0, 0))) → Fr nob w w' → wpList P ops Q rest (a.put o.dst (.slice (some ⟨w.heap.size, 0, none⟩) n n)) w') :
    wpList P ops Q (o :: rest) a w := by
  refine wpList_make_full w hg l c t hop 0 e i z 1 h1 h2 h3 h4 .i64 .i64 X X n hl hc hX hX b2 b3 (Nat.zero_le _) ?_
  intro w' hown hgr
  refine hK w' ?_ ((Fr.ofGrown hgr).mono (fun _ _ hx => by cases hx))
  rcases hown.2 with ⟨h0, _⟩ | ⟨g, cap, cur, hv, _, hh, _, _, hs, ht⟩
  · cases h0
  · injection hv with hv1 _ hv3
    injection hv1 with hv1
    injection hv1 with hv1
    subst hv1; subst hv3
    rw [hz, Nat.mul_one, toList_madeCells_one] at ht
    show _ = _
    rw [hh, ← ht, List.take_of_length_le (by simp; omega)]

theorem Try.one_runes : (Try.prog.info? 21).map (·.size) = some 1 := by kernel_rfl

/-- All that is known of the world from here on is 'F'. -/
theorem forget {P : Program} {c : Code} {Q : Exit → Act → World → Prop} {a : Act} {W0 : World} (F : World → Prop) (h0 : F W0) (h : ∀ W, F W → Code.wp P c Q a W) : Code.wp P c Q a W0 := h W0 h0
theorem forgetL {P : Program} {ops : Array Oper} {l : List Oper} {Q : Exit → Act → World → Prop} {a : Act} {W0 : World} (F : World → Prop) (h0 : F W0) (h : ∀ W, F W → wpList P ops Q l a W) : wpList P ops Q l a W0 := h W0 h0

section
variable {w : World} {b : Nat} {v : Value} {f t : Nat} {p m : Int}
theorem BufBlk.set1 (h : BufBlk w b v f t p m) (u : Value) : BufBlk (w.setCell ⟨b, 1, none⟩ u) b u f t p m := by
  have h := heap_setCell_same (o := 1) h u
  simpa [BufBlk] using h
theorem BufBlk.set2 (h : BufBlk w b v f t p m) {x : Int} (u : Nat) (hx : x = u) : BufBlk (w.setCell ⟨b, 2, none⟩ (.int .i64 x)) b v u t p m := by
  have h := heap_setCell_same (o := 2) h (.int .i64 u)
  rw [hx]
  simpa [BufBlk] using h
theorem BufBlk.set3 (h : BufBlk w b v f t p m) {x : Int} (u : Nat) (hx : x = u) : BufBlk (w.setCell ⟨b, 3, none⟩ (.int .i64 x)) b v f u p m := by
  have h := heap_setCell_same (o := 3) h (.int .i64 u)
  rw [hx]
  simpa [BufBlk] using h
theorem BufBlk.set4 (h : BufBlk w b v f t p m) (u : Int) : BufBlk (w.setCell ⟨b, 4, none⟩ (.int .i64 u)) b v f t u m := by
  have h := heap_setCell_same (o := 4) h (.int .i64 u)
  simpa [BufBlk] using h
theorem BufBlk.set5 (h : BufBlk w b v f t p m) (u : Int) : BufBlk (w.setCell ⟨b, 5, none⟩ (.int .i64 u)) b v f t p u := by
  have h := heap_setCell_same (o := 5) h (.int .i64 u)
  simpa [BufBlk] using h
theorem BufBlk.nr (h : BufBlk w b v f t p m) : NR w (one b) := NR.one h (by decide)
theorem BufBlk.ne {g : Nat} {c : Array Value} {fr : Nat × Nat} (h : BufBlk w b v f t p m) (hg : w.heap[g]? = some (.cells c 21 fr)) : g ≠ b := fun e => by
  rw [e, show w.heap[b]? = _ from h] at hg
  injection hg with hg
  injection hg with _ hg _
  exact absurd hg (by decide)
end

/-- Two ends laid into a row of zeros. -/
theorem two_ends (A B : List Int) (k N : Nat) (h : N = A.length + k + B.length) :
    splice (splice (List.replicate N (Value.int .i32 0)) 0 (runes A)) (A.length + k) (runes B) = runes (A ++ List.replicate k 0 ++ B) := by
  have h1 : List.replicate N (Value.int .i32 0) = runes (List.replicate N 0) := by simp [runes]
  rw [h1]
  simp only [splice, runes_length, List.take_zero, List.nil_append, Nat.zero_add]
  rw [← runes_drop, ← runes_append, ← runes_take, ← runes_drop, ← runes_append, ← runes_append]
  congr 1
  rw [List.drop_replicate, List.take_append, List.take_of_length_le (by omega), List.take_replicate, List.drop_append, List.drop_of_length_le (by omega), List.drop_replicate]
  have e1 : min (A.length + k - A.length) (N - A.length) = k := by omega
  have e2 : N - A.length - (A.length + k + B.length - A.length) = 0 := by omega
  rw [e1, e2]
  simp [List.append_assoc]

/-- What open leaves. -/
def Opened (w : World) (b : Nat) (L : List Int) (p m : Int) (at' room : Nat) (e : Ending) (w' : World) : Prop :=
  e = .returned (.tuple #[]) ∧ ∃ g, w.heap.size ≤ g ∧ BufBlk w' b (.slice (some ⟨g, 0, none⟩) (L.length + room + 16) (L.length + room + 16)) at' (at' + room + 16) p m ∧
    w'.heap[g]? = some (.cells (runes (L.take at' ++ List.replicate (room + 16) 0 ++ L.drop at')).toArray 21 (0, 0)) ∧ Fr (one b) w w'

set_option maxRecDepth 10000 in
set_option maxHeartbeats 800000 in
theorem buf_open (w : World) (b : Nat) (L : List Int) (p m : Int) (at' room : Nat) (h : BufRep w b L p m) (hat : at' ≤ L.length) (hroom : room ≤ 1024) :
    Calls Try.prog 80 #[.pointer (some ⟨b, 0, none⟩), .int .i64 at', .int .i64 room] w (Opened w b L p m at' room) := by
  have H := Lib.hid h
  have hL : L.length ≤ 1024 := by obtain ⟨_, _, _, _, _, _, _, _, _, _, _, _, h, _⟩ := h; exact h
  obtain ⟨a0, n0, c0, f0, t0, h1⟩ := h.at
  have hb := h.lt
  clear h
  obtain ⟨i0, hi, hz0, hz1, hz2⟩ := info_parts Try.info_runes
  go_enter Try.func80, Try.ntmps80
  go_wp2_with fail
  refine (buf_text _ _ L p m H.out).mono ?_
  rintro e w1 ⟨a, c, rfl, hown, hfr, hfresh⟩
  have HO := Lib.hid hown
  have hB := hfr.keep h1 (fun h => h)
  have hc1 := blk_cells hB
  have hz1' := blk_free hB
  have hlt1 := blk_lt hB
  clear hown
  generalize hn : L.length = n at *
  have HN := Lib.hid hn
  clear hn
  obtain ⟨N, hN⟩ : ∃ N : Nat, N = n + room + 16 := ⟨_, rfl⟩
  obtain ⟨T, hT⟩ : ∃ T : Nat, T = at' + room + 16 := ⟨_, rfl⟩
  have hX : (n : Int) + room + 16 = N := by omega
  have hY : (N : Int) - (n - at') = T := by omega
  have i3 : (T : Int) ≤ N := by omega
  have hND : n - at' ≤ N - T := by omega
  have hNT : N = at' + (room + 16) + (n - at') := by omega
  have hT2 : T = at' + (room + 16) := by omega
  have hNb : N ≤ 4000 := by omega
  have haN : at' ≤ N := by omega
  have HX := Lib.hid hX
  have HY := Lib.hid hY
  have HNN := Lib.hid hN
  have HT := Lib.hid hT
  have HNT := Lib.hid hNT
  have HT2 := Lib.hid hT2
  clear hX hY hN hT hNT hT2
  have hpost : ∀ e w', (e = .returned (.tuple #[]) ∧ ∃ g, w.heap.size ≤ g ∧ BufBlk w' b (.slice (some ⟨g, 0, none⟩) N N) at' T p m ∧
    w'.heap[g]? = some (.cells (runes (L.take at' ++ List.replicate (room + 16) 0 ++ L.drop at')).toArray 21 (0, 0)) ∧ Fr (one b) w w') → Opened w b L p m at' room e w' := by
    unfold Opened
    rw [HN.out, ← HNN.out, ← HT.out]
    exact fun _ _ h => h
  have HPost := Lib.hid hpost
  clear hpost
  go_wp2_with (at_make; refine wpList_mak rfl (.tmp 14) (.tmp 14) 22 rfl 21 i0 (.int .i32 0) Try.underlying22 hi hz0 hz1 rfl N _ rfl rfl HX.out (by rw [hz2]; omega) (by unfold maxLen; omega) ?_; intro w2 hg2 hf2; have hB2 := hf2.keep hB (fun h => h); have hc2 := blk_cells hB2; have hz2' := blk_free hB2; have hlt2 := blk_lt hB2)
  refine forget (fun W => Hid (BufBlk W b (.slice (some ⟨w1.heap.size, 0, none⟩) N N) at' T p m) ∧ Hid (W.heap[w1.heap.size]? = some (.cells (List.replicate N (.int .i32 0)).toArray 21 (0, 0))) ∧ Hid (Own W 21 1 (.slice a n c) n (runes L)) ∧ Fr (one b) w W) ?_ ?_
  · have hfw : Fr (one b) w w2 := (hfr.then hf2).mono (fun _ _ h => h.elim)
    have hs := ((BufBlk.set1 hB2 (.slice (some ⟨w1.heap.size, 0, none⟩) N N)).set2 at' rfl).set3 T HY.out
    have hne := BufBlk.ne hB2 hg2.out
    refine ⟨hs, ?_, ?_, ?_⟩
    · show _ = _
      rw [heap_setCell_ne hne, heap_setCell_ne hne, heap_setCell_ne hne]
      exact hg2.out
    · exact (HO.out.stay hf2 (NR.nob _)).stay (M := one b) ((((Fr.refl _ _).setOne _ _).setOne _ _).setOne _ _) (BufBlk.nr hB2)
    · exact ((hfw.setOne _ _).setOne _ _).setOne _ _
  rintro W ⟨HB, HG, HOW, hfW⟩
  have hgw := hfr.size
  have hag : ∀ ad, a = some ad → ad.block ≠ w1.heap.size := fun ad e => by have := HO.out.lt ad e; omega
  have HAG := Lib.hid hag
  clear hag
  generalize w1.heap.size = g at *
  have hcn := HOW.out.le
  have hcW := blk_cells HB.out
  have hltW := blk_lt HB.out
  have i1 : (at' : Int) ≤ c := by omega
  have i2 : (at' : Int) ≤ n := by omega
  go_still_tail 7, (by kernel_rfl)
  refine wpList_cpy rfl (.tmp 38) (.tmp 41) 22 22 rfl 21 Try.underlying22 Try.one_runes _ _ _ _ _ _ rfl rfl g 0 _ 21 HG.out (runes (L.take at')) ((HOW.out.sl.pre1 at' hat).oldN (Fr.refl _ _).drew) (by omega) (fun _ => rfl) (by rw [List.length_replicate]; omega) ?_
  intro w3 HG3 hf3'
  have hf3 := Fr.ofDrew (w := W) hf3'
  have hne := BufBlk.ne HB.out HG.out
  refine forgetL (fun V => Hid (BufBlk V b (.slice (some ⟨g, 0, none⟩) N N) at' T p m) ∧ Hid (V.heap[g]? = some (.cells (splice (List.replicate N (.int .i32 0)) 0 (runes (L.take at'))).toArray 21 (0, 0))) ∧ Hid (Sl V 1 a n c (runes L)) ∧ Fr (one b) w V) ?_ ?_
  · refine ⟨hf3.keep HB.out (fun e => hne e.symm), HG3, ?_, ?_⟩
    · exact (HOW.out.sl.old hf3 (fun ad e => HAG.out ad e))
    · exact hfW.trans hf3 (fun x hx e => by cases e; omega)
  rintro V ⟨HBV, HGV, HOV, hfV⟩
  have hcV := blk_cells HBV.out
  have hltV := blk_lt HBV.out
  clear HB HG HOW hfW hcW hltW HG3 hf3 hf3'
  go_wp2
  go_still_tail 12, (by kernel_rfl)
  refine wpList_cpy rfl (.tmp 51) (.tmp 54) 22 22 rfl 21 Try.underlying22 Try.one_runes _ _ _ _ _ _ rfl rfl g T _ 21 HGV.out (runes (L.drop at')) ((HOV.out.cut1 at' hat).oldN (Fr.refl _ _).drew) ?hn ?pos ?fit ?_
  case hn => omega
  case pos =>
    intro h0
    rw [if_neg (by omega)]
  case fit =>
    have hlt' : (L.take at').length = at' := by rw [List.length_take, HN.out]; omega
    rw [length_splice _ _ _ (by rw [runes_length, List.length_replicate, hlt']; omega), List.length_replicate]
    omega
  intro w5 HG5 hf5'
  have hf5 := Fr.ofDrew (w := V) hf5'
  clear hf5'
  have hfin : w5.heap[g]? = some (.cells (runes (L.take at' ++ List.replicate (room + 16) 0 ++ L.drop at')).toArray 21 (0, 0)) := by
    rw [HG5.out]
    have h1 : (L.take at').length = at' := by rw [List.length_take, HN.out]; omega
    have h2 : (L.drop at').length = n - at' := by rw [List.length_drop, HN.out]
    have h3 := two_ends (L.take at') (L.drop at') (room + 16) N (by rw [h1, h2]; exact HNT.out)
    rw [h1, ← HT2.out] at h3
    rw [h3]
  have HF := Lib.hid hfin
  clear hfin
  go_wp2
  all_goals
    go_end0
    exact HPost.out _ _ ⟨rfl, g, hgw, hf5.keep HBV.out (fun e => hne e.symm), HF.out, hfV.trans hf5 (fun x hx e => by cases e; omega)⟩
end Go.Proofs.Ytbhklkolkclflaa
