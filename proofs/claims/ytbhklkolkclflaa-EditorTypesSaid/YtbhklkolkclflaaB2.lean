/- slices.Equal, Grow, Concat at runes. -/
import Derived.Test.YtbhklkolkclflaaB1
namespace Go.Proofs.Ytbhklkolkclflaa
open Go.RowKit

theorem runes_get {l : List Int} {j : Nat} (h : j < l.length) : (runes l)[j]? = some (.int .i32 (l.getD j 0)) := by
  simp [runes, h]

/-- A slice that is not empty has an address. -/
theorem Sl.at {w : World} {size : Nat} {a : Option Addr} {n c : Nat} {cs : List Value} (h : Sl w size a n c cs) (hn : 0 < n) (hs : 0 < size) :
    ∃ g off, a = some ⟨g, off, none⟩ ∧ ∀ j u, cs[j]? = some u → w.cell? ⟨g, off + j, none⟩ = some u := by
  rcases h.rd with h0 | h0
  · have hl := h.len
    rw [h0] at hl
    have := Nat.mul_pos hn hs
    simp at hl
    omega
  · exact h0

theorem list_eq_of {l k : List Int} (hl : l.length = k.length) (h : ∀ m, m < l.length → l.getD m 0 = k.getD m 0) : l = k := by
  apply List.ext_getElem hl
  intro i h1 h2
  have := h i h1
  simpa [List.getD, h1, h2] using this

theorem list_ne_of {l k : List Int} {m : Nat} (h : l.getD m 0 ≠ k.getD m 0) : l ≠ k := fun e => h (by rw [e])

set_option maxRecDepth 10000 in
theorem equal_runes (w : World) (a b : Option Addr) (c d : Nat) (l k : List Int) (h : Sl w 1 a l.length c (runes l)) (h2 : Sl w 1 b k.length d (runes k)) (hb : l.length * 4 ≤ 140737488355328) :
    Calls Try.prog 13 #[.slice a l.length c, .slice b k.length d] w fun e w' => e = .returned (.bool (decide (l = k))) ∧ ∃ n, w' = w.drewN n := by
  by_cases hn : l.length = k.length
  case neg =>
    have hne : l ≠ k := fun e => hn (by rw [e])
    have hd : decide (l = k) = false := by simpa using hne
    have hb1 : ((l.length : Int) == (k.length : Int)) = false := by simp; omega
    have hb2 : ((l.length : Int) != (k.length : Int)) = true := by simp; omega
    have HD := Lib.hid hd
    have HN := Lib.hid hn
    clear hd hn hne
    go_enter Try.func13, Try.ntmps13
    go_wp2
    go_ret
    exact ⟨ret_bool HD.out.symm, 0, rfl⟩
  case pos =>
    have H := Lib.hid h
    have H2 := Lib.hid h2
    have HN := Lib.hid hn
    generalize hlen : l.length = n at hb
    have hlen2 : k.length = n := by omega
    have HL := Lib.hid hlen
    have HL2 := Lib.hid hlen2
    rw [hlen2]
    clear h h2 hn hlen hlen2
    go_enter Try.func13, Try.ntmps13
    go_wp2
    go_loopw [13] (fun i wr => ∃ (j q : Nat), j ≤ n ∧ i = .int .i64 j ∧ wr = w.drewN q ∧ ∀ m, m < j → l.getD m 0 = k.getD m 0) (fun i _ => n - (intOf i).toNat)
    case atStart => exact ⟨0, 0, Nat.zero_le _, rfl, rfl, fun m hm => by omega⟩
    case round =>
      obtain ⟨j, q, hj, rfl, rfl, hm⟩ := hrel
      have HM := Lib.hid hm
      clear hm
      by_cases hlt : j < n
      · obtain ⟨g, o, rfl, hc⟩ := H.out.at (by have := HL.out; omega) (by decide)
        obtain ⟨g2, o2, rfl, hc2⟩ := H2.out.at (by have := HL2.out; omega) (by decide)
        have c1 := hc j _ (runes_get (by have := HL.out; omega))
        have c2 := hc2 j _ (runes_get (by have := HL2.out; omega))
        clear hc hc2
        generalize hx : l.getD j 0 = x at c1
        generalize hy : k.getD j 0 = y at c2
        have HX := Lib.hid hx
        have HY := Lib.hid hy
        clear hx hy
        by_cases he : x = y
        · have he2 : (x != y) = false := by simpa using he
          have HE := Lib.hid he
          clear he
          go_wp2
          go_quiet (fail)
          go_wp2
          go_roundw
          case rel => exact ⟨j + 1, _, by omega, by go_num, rfl, fun m hm => by
            by_cases hmj : m = j
            · rw [hmj, HX.out, HY.out, HE.out]
            · exact HM.out m (by omega)⟩
          case measure => simp [intOf]; omega
        · have he2 : (x != y) = true := by simpa using he
          have HE := Lib.hid he
          clear he
          go_wp2
          go_quiet (fail)
          go_wp2
          go_ret
          exact ⟨ret_bool (decide_eq_false (list_ne_of (m := j) (by rw [HX.out, HY.out]; exact HE.out))).symm, _, World.drewN_drewN _ _ _⟩
      · go_wp2
        go_ret
        exact ⟨ret_bool (decide_eq_true (list_eq_of HN.out (fun m hm => HM.out m (by have := HL.out; omega)))).symm, _, rfl⟩
end Go.Proofs.Ytbhklkolkclflaa
