/- The references' Same: runes, lines, states of nothing. -/
import Derived.Test.YtbhklkolkclflaaGreatDoorN1
namespace Go.Proofs.YtbhklkolkclflaaGreatDoor
open Go.RowKit

theorem same07 (w : World) (a b : Option Addr) (c d : Nat) (l k : List Int) (h : Sl w 1 a l.length c (runes l)) (h2 : Sl w 1 b k.length d (runes k)) (hb : l.length * 4 ≤ 140737488355328) :
    Calls Tryz.prog 106 #[.slice a l.length c, .slice b k.length d] w (Says w (.bool (decide (l = k)))) := by
  by_cases hn : l.length = k.length
  case neg =>
    have hne : l ≠ k := fun e => hn (by rw [e])
    have hd : decide (l = k) = false := by simpa using hne
    have hb2 : ((l.length : Int) != (k.length : Int)) = true := by simp; omega
    have HD := Lib.hid hd
    clear hd hn hne h h2
    go_enter Tryz.func106, Tryz.ntmps106
    go_wp2
    go_ret
    exact ⟨ret_bool HD.out.symm, Fr.refl _ _⟩
  case pos =>
    have H := Lib.hid h
    have H2 := Lib.hid h2
    have HN := Lib.hid hn
    generalize hlen : l.length = n at hb
    have hlen2 : k.length = n := by omega
    have HL := Lib.hid hlen
    have HL2 := Lib.hid hlen2
    rw [hlen2]
    clear h h2 hn hlen hlen2
    go_enter Tryz.func106, Tryz.ntmps106
    go_wp2
    go_loopw [5] (fun i wr => ∃ (j q : Nat), j ≤ n ∧ i = .int .i64 j ∧ wr = w.drewN q ∧ ∀ m, m < j → l.getD m 0 = k.getD m 0) (fun i _ => n - (intOf i).toNat)
    case atStart => exact ⟨0, 0, Nat.zero_le _, rfl, rfl, fun m hm => by omega⟩
    case round =>
      obtain ⟨j, q, hj, rfl, rfl, hm⟩ := hrel
      have HM := Lib.hid hm
      clear hm
      by_cases hlt : j < n
      · obtain ⟨g, o, rfl, hc⟩ := H.out.at (by have := HL.out; omega) (by decide)
        obtain ⟨g2, o2, rfl, hc2⟩ := H2.out.at (by have := HL2.out; omega) (by decide)
        have c1 := hc j _ (runes_get (by have := HL.out; omega))
        have c2 := hc2 j _ (runes_get (by have := HL2.out; omega))
        clear hc hc2
        generalize hx : l.getD j 0 = x at c1
        generalize hy : k.getD j 0 = y at c2
        have HX := Lib.hid hx
        have HY := Lib.hid hy
        clear hx hy
        by_cases he : x = y
        · have he2 : (x != y) = false := by simpa using he
          have HE := Lib.hid he
          clear he
          go_wp2
          go_quiet (fail)
          go_wp2
          go_roundw
          case rel => exact ⟨j + 1, _, by omega, by go_num, rfl, fun m hm => by
            by_cases hmj : m = j
            · rw [hmj, HX.out, HY.out, HE.out]
            · exact HM.out m (by omega)⟩
          case measure => simp [intOf]; omega
        · have he2 : (x != y) = true := by simpa using he
          have HE := Lib.hid he
          clear he
          go_wp2
          go_quiet (fail)
          go_wp2
          go_ret
          exact ⟨ret_bool (decide_eq_false (list_ne_of (m := j) (by rw [HX.out, HY.out]; exact HE.out))).symm, ((Fr.refl _ _).drewN _).drewN _⟩
      · go_wp2
        go_ret
        exact ⟨ret_bool (decide_eq_true (list_eq_of HN.out (fun m hm => HM.out m (by have := HL.out; omega)))).symm, (Fr.refl _ _).drewN _⟩

set_option maxRecDepth 10000 in
theorem sameLine_eq (w : World) (a b : Option Addr) (n c d : Nat) (l : List Int) (p m : Int) (h : Sl w 1 a n c (runes l)) (h2 : Sl w 1 b n d (runes l)) (hb : n * 4 ≤ 140737488355328) :
    Calls Tryz.prog 105 #[.agg #[.slice a n c, .int .i64 p, .int .i64 m], .agg #[.slice b n d, .int .i64 p, .int .i64 m]] w (Says w (.bool true)) := by
  have hn : l.length = n := by have := h.len; simpa [runes] using this
  subst hn
  have hs := fun (V : World) (hV : Fr nob w V) => same07 V a b c d l l (h.oldN hV) (h2.oldN hV) hb
  generalize l.length = n at *
  have HS := Lib.hid hs
  clear hs h h2
  go_enter Tryz.func105, Tryz.ntmps105
  go_wp2_with (go_at_call 106; refine (HS.out _ (((Fr.refl _ _).alloc _).alloc _)).mono ?_; rintro y w' ⟨rfl, hf⟩; rw [decide_eq_true (rfl : l = l)]; have g0 := hf.keep (heap_alloc_new (w.alloc (.cells #[.slice a n c, .int .i64 p, .int .i64 m] 57)) (.cells #[.slice b n d, .int .i64 p, .int .i64 m] 57)) (fun h => h); have g1 := hf.keep ((heap_alloc_lt _ (by simp)).trans (heap_alloc_new w (.cells #[.slice a n c, .int .i64 p, .int .i64 m] 57))) (fun h => h); have b0 := blk_cells g0; have b1 := blk_cells g1; rw [World.size_alloc] at b0; have HF := Lib.hid hf; clear hf g0 g1)
  go_ret
  exact ⟨rfl, (((Fr.refl _ _).alloc _).alloc _).then HF.out⟩
end Go.Proofs.YtbhklkolkclflaaGreatDoor
