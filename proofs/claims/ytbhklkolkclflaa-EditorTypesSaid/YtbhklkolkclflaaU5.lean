/- Package undo, fifth part: copied. -/
import Derived.Test.YtbhklkolkclflaaU4
namespace Go.Proofs.Ytbhklkolkclflaa
open Go.RowKit

/-- No edit is too long to be copied. -/
def Small (es : List EditP) : Prop := es.length ≤ 100000 ∧ ∀ e ∈ es, e.2.1.length ≤ 100000 ∧ e.2.2.length ≤ 100000

theorem EdS.sl {w : World} {a : Option Addr} {n c : Nat} {es : List EditP} (h : EdS w (.slice a n c) es) : n = es.length ∧ ∃ xs, Sl w 3 a n c xs ∧ edCells w xs es := by
  obtain ⟨⟨xs, h1, h2⟩, _⟩ := h
  obtain ⟨_, _, hv, _⟩ := h1.val
  injection hv with _ hn _
  subst hn
  exact ⟨rfl, xs, h1.sl, h2⟩

/-- The k-th edit of a slice, as it is read. -/
theorem edit_at {w : World} {a : Option Addr} {n c : Nat} {xs : List Value} {es : List EditP} (h : Sl w 3 a n c xs) (he : edCells w xs es) (k : Nat) (hk : k < es.length) :
    ∃ g off d cd i ci, a = some ⟨g, off, none⟩ ∧ w.cell? ⟨g, off + k * 3, none⟩ = some (.int .i64 es[k].1) ∧ w.cell? ⟨g, off + k * 3 + 1, none⟩ = some (.slice d es[k].2.1.length cd) ∧
      w.cell? ⟨g, off + k * 3 + 2, none⟩ = some (.slice i es[k].2.2.length ci) ∧ EditV w (.agg #[.int .i64 es[k].1, .slice d es[k].2.1.length cd, .slice i es[k].2.2.length ci]) es[k].1 es[k].2.1 es[k].2.2 := by
  obtain ⟨d, cd, i, ci, h0, h1, h2, h3, h4⟩ := he.at k hk
  rcases h.rd with rfl | ⟨g, off, rfl, hc⟩
  · simp at h0
  · exact ⟨g, off, d, cd, i, ci, rfl, hc _ _ h0, by have := hc _ _ h1; rwa [← Nat.add_assoc] at this, by have := hc _ _ h2; rwa [← Nat.add_assoc] at this, d, i, cd, ci, rfl, h3, h4⟩

theorem EdS.snoc {V w' : World} {a : Option Addr} {k c : Nat} {nv' : Value} {xs news : List Value} {es : List EditP} {e : EditP} (hk : k = es.length)
    (hx : Own V 82 3 (.slice a k c) k xs) (hxe : edCells V xs es) (hn : edCells V news [e]) (ho : Own w' 82 3 nv' (k + 1) (xs ++ news)) (hf : Fr (rowOf (.slice a k c)) V w') : EdS w' nv' (es ++ [e]) := by
  subst hk
  have hN := hx.nrRow (by decide)
  exact EdS.ofMade (by simpa using ho) ((hxe.stay hf hN).append (hn.stay hf hN)) (by simp)

/-- A call that makes a slice of edits. -/
def EdMade (w : World) (es : List EditP) (e : Ending) (w' : World) : Prop :=
  ∃ a c, e = .returned (.slice a es.length c) ∧ EdS w' (.slice a es.length c) es ∧ Fr nob w w' ∧ ∀ b, rowOf (.slice a es.length c) b → w.heap.size ≤ b

set_option maxRecDepth 10000 in
set_option maxHeartbeats 1000000 in
theorem undo_copied (w : World) (a : Option Addr) (n c : Nat) (es : List EditP) (h : EdS w (.slice a n c) es) (hs : Small es) :
    Calls Try.prog 76 #[.slice a n c] w (EdMade w es) := by
  obtain ⟨hn, xs, h1, h2⟩ := h.sl
  clear h
  have HL := Lib.hid hn
  have H1 := Lib.hid h1
  have H2 := Lib.hid h2
  have HS := Lib.hid hs
  have hn1 : n ≤ 100000 := by rw [hn]; exact hs.1
  have HN1 := Lib.hid hn1
  have hnI : (n : Int) ≤ 100000 := by omega
  clear h1 h2 hs hn hn1
  obtain ⟨i0, hi0, hz0, hz1, hz2⟩ := info_parts Try.info_edits
  have hSrc : ∀ (V : World) (f : Int) (da2 ia2 : Option Addr) (dc2 ic2 x y : Nat), Src Try.prog 3 67 (.slice (some ⟨V.heap.size, 0, none⟩) 1 1) 1 [.int .i64 f, .slice da2 x dc2, .slice ia2 y ic2] (V.alloc (.cells #[.int .i64 f, .slice da2 x dc2, .slice ia2 y ic2] 82)) := fun V f da2 ia2 dc2 ic2 x y =>
    (Sl.ofRow V #[.int .i64 f, .slice da2 x dc2, .slice ia2 y ic2] 82 (by simp [Value.oneCell'])).src (P := Try.prog) (tx := 67) (by simp) Try.underlying67
  have HSrc := Lib.hid hSrc
  clear hSrc
  go_enter Try.func76, Try.ntmps76
  go_wp2
  go_loopw [3, 5, 8] (fun v _ i wr => ∃ (k : Nat) (a' : Option Addr) (cc : Nat), k ≤ n ∧ i = .int .i64 k ∧ v = .slice a' k cc ∧ Hid (EdS wr (.slice a' k cc) (es.take k)) ∧ Fr nob w wr ∧ ∀ b, rowOf (.slice a' k cc) b → w.heap.size ≤ b) (fun _ _ i _ => n - (intOf i).toNat)
  case atStart => exact ⟨0, none, 0, Nat.zero_le _, rfl, rfl, EdS.none _, Fr.refl _ _, fun b ⟨_, _, _, h, _⟩ => by cases h⟩
  case round =>
    obtain ⟨k, a', cc, hk, rfl, rfl, HV, hfr, hfresh⟩ := hrel
    by_cases hkt : k < n
    · have hke : k < es.length := by have := HL.out; omega
      obtain ⟨g, off, d, cd, i, ci, rfl, c0, c1, c2, hE⟩ := edit_at (H1.out.oldN hfr) (H2.out.stay hfr (NR.nob _)) k hke
      have hsm := HS.out.2 _ (List.getElem_mem hke)
      have htk : es.take (k + 1) = es.take k ++ [es[k]] := by rw [List.take_succ_eq_append_getElem hke]
      have HT := Lib.hid htk
      obtain ⟨⟨ys, hy1, hy2⟩, _⟩ := HV.out
      have hlen : (es.take k).length = k := by rw [List.length_take]; omega
      rw [hlen] at hy1
      have HLE := Lib.hid hlen
      generalize hp : es[k] = p at *
      obtain ⟨f, ds, is⟩ := p
      simp only at c0 c1 c2 hE hsm
      have HE := Lib.hid hE
      have HSM := Lib.hid hsm
      have HY1 := Lib.hid hy1
      have HY2 := Lib.hid hy2
      generalize hx : ds.length = nd at *
      generalize hy : is.length = ni at *
      have HX := Lib.hid hx
      have HY := Lib.hid hy
      clear hE hsm hy1 hy2 htk hp hx hy hlen
      go_wp2_with fail
      refine (undo_own _ _ f ds is (HE.out.stay ((Fr.refl _ _).alloc _) (NR.nob _)) (by rw [HX.out]; exact HSM.out.1) (by rw [HY.out]; exact HSM.out.2)).mono ?_
      rintro e V ⟨v2, rfl, ⟨da2, ia2, dc2, ic2, rfl, g1, g2⟩, hfrV⟩
      have HG := Lib.hid (show EditV V (.agg #[.int .i64 f, .slice da2 ds.length dc2, .slice ia2 is.length ic2]) f ds is from ⟨da2, ia2, dc2, ic2, rfl, g1, g2⟩)
      have hfV := ((Fr.refl nob wr).alloc (.cells #[.int .i64 f, .slice d nd cd, .slice i ni ci] 82)).then hfrV
      have HFV := Lib.hid (hfV.alloc (.cells #[.int .i64 f, .slice da2 ds.length dc2, .slice ia2 is.length ic2] 82))
      have hO := HY1.out.stay HFV.out (fun _ _ _ _ h => h)
      have HO := Lib.hid hO
      have b1 : k + 1 ≤ maxLen := by have := HN1.out; unfold maxLen; omega
      have b2 : (k + 1) * 56 ≤ 140737488355328 := by have := HN1.out; omega
      have HB1 := Lib.hid b1
      have HB2 := Lib.hid b2
      clear g1 g2 hfrV hfV hO b1 b2
      go_wp2_with (at_builtin; refine wpList_app _ rfl (.tmp 12) (.tmp 15) 67 67 rfl 82 i0 _ 3 56 Try.underlying67 hi0 hz0 hz1 hz2 rfl (by decide) _ k _ rfl HO.out _ 1 _ rfl (by exact HSrc.out _ _ _ _ _ _ _ _) HB1.out HB2.out ?_; intro av c' w' hown' hfr' hrow'; have HO' := Lib.hid hown'; have HF' := Lib.hid hfr'; have HR' := Lib.hid hrow'; clear hown' hfr' hrow')
      go_roundw
      case rel =>
        refine ⟨k + 1, av, c', by omega, by go_num, rfl, ?_, ?_, ?_⟩
        · show EdS _ _ _
          rw [HT.out]
          exact EdS.snoc (e := (f, ds, is)) HLE.out.symm HO.out (HY2.out.stay HFV.out (NR.nob _)) (HG.out.stay ((Fr.refl _ _).alloc _) (NR.nob _)).cells HO'.out HF'.out
        · exact (hfr.then HFV.out).trans HF'.out (fun b hb hx => absurd (hfresh b hx) (by omega))
        · exact fresh_of (w2 := w) (hfr.then HFV.out).size HR'.out hfresh
      case measure => simp [intOf]; omega
    · have hq : k = n := by omega
      subst hq
      have hV := HV.out
      rw [List.take_of_length_le (by have := HL.out; omega)] at hV
      have HV2 := Lib.hid hV
      clear hV HV
      go_wp2
      go_ret
      refine ⟨a', cc, ?_, ?_, hfr, ?_⟩
      · rw [← HL.out]
        rfl
      · rw [← HL.out]
        exact HV2.out
      · rw [← HL.out]
        exact hfresh
end Go.Proofs.Ytbhklkolkclflaa
