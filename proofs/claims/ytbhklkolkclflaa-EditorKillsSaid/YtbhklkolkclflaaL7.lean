/- The law EditorKills: the walk. -/
import Derived.Test.YtbhklkolkclflaaL6
namespace Go.Proofs.Ytbhklkolkclflaa
open Go.RowKit

/-- Integers as Go has them in memory. -/
def nums (l : List Int) : List Value := l.map (Value.int .i64)

set_option maxRecDepth 10000 in
set_option maxHeartbeats 4000000 in
theorem kills_ok (w : World) (a1 a2 : Option Addr) (c1 c2 : Nat) (L st : List Int) (at' : Int) (hL : Sl w 1 a1 L.length c1 (runes L)) (hst : Sl w 1 a2 st.length c2 (nums st)) (hr : ∀ x ∈ st, -9223372036854775808 ≤ x ∧ x ≤ 9223372036854775807) (hsz : st.length ≤ maxLen) :
    Calls Try.prog 4 #[.slice a1 L.length c1, .int .i64 at', .slice a2 st.length c2] w fun x w' => x = .returned (.bool true) ∧ Fr nob w w' := by
  generalize hn1 : L.length = n1 at *
  generalize hn2 : st.length = n2 at *
  have HN1 := Lib.hid hn1
  have HN2 := Lib.hid hn2
  have HLS := Lib.hid hL
  have HSS := Lib.hid hst
  have HRR := Lib.hid hr
  unfold maxLen at hsz
  clear hn1 hn2 hL hst hr
  by_cases hb : n1 ≤ 1024
  case neg =>
    have i1 : decide (1024 < (n1 : Int)) = true := decide_eq_true (by omega)
    go_enter Try.func4, Try.ntmps4
    go_wp2_with (first
      | (go_at_call 5; refine (hist_new _ 5 (by decide) (by decide)).mono ?_; rintro y w1 ⟨rfl, hh, hf⟩; have HH := Lib.hid hh; have HF1 := Lib.hid hf; clear hh hf)
      | (go_at_call 6; refine (ed_new _ _ _ _ _ _ HH.out (by simp)).mono ?_; rintro y w2 hn; obtain ⟨e, rfl, hx, he, hf⟩ := newL2 hn HF1.out; have HX := Lib.hid hx; have HF2 := Lib.hid hf; have HE := Lib.hid he; clear hx hf he hn)
      | (go_at_call 7; refine (live_ok _).mono ?_; rintro y w3 ⟨rfl, hf⟩; have HX3 := Lib.hid (HX.out.stayN hf); have HF3 := Lib.hid (HF1.out.then (HF2.out.then hf)); have HH3 := Lib.hid ((HH.out.stayN HF2.out).stayN hf); clear hf)
      | (go_at_call 17; refine (K_start_long HX3.out rfl HH3.out (by simp) a1 n1 c1 (by omega)).mono ?_; rintro y w4 ⟨rfl, hx, hf⟩; have HF4 := Lib.hid (goL HF3.out hf); clear hx hf))
    go_ret
    exact ⟨rfl, HF4.out⟩
  case pos =>
    have i1 : decide (1024 < (n1 : Int)) = false := decide_eq_false (by omega)
    by_cases hat : at' < 0 ∨ (n1 : Int) < at'
    · have i2 : decide (at' < 0) = true ∨ decide (at' < 0) = false ∧ decide ((n1 : Int) < at') = true := by
        by_cases h0 : at' < 0
        · exact .inl (decide_eq_true h0)
        · exact .inr ⟨decide_eq_false h0, decide_eq_true (hat.resolve_left h0)⟩
      rcases i2 with i2 | ⟨i2, i3⟩
      all_goals go_enter Try.func4, Try.ntmps4
      all_goals go_wp2_with (first
        | (go_at_call 5; refine (hist_new _ 5 (by decide) (by decide)).mono ?_; rintro y w1 ⟨rfl, hh, hf⟩; have HH := Lib.hid hh; have HF1 := Lib.hid hf; clear hh hf)
        | (go_at_call 6; refine (ed_new _ _ _ _ _ _ HH.out (by simp)).mono ?_; rintro y w2 hn; obtain ⟨e, rfl, hx, he, hf⟩ := newL2 hn HF1.out; have HX := Lib.hid hx; have HF2 := Lib.hid hf; have HE := Lib.hid he; clear hx hf he hn)
        | (go_at_call 7; refine (live_ok _).mono ?_; rintro y w3 ⟨rfl, hf⟩; have HX3 := Lib.hid (HX.out.stayN hf); have HF3 := Lib.hid (HF1.out.then (HF2.out.then hf)); have HH3 := Lib.hid ((HH.out.within.stayN HF2.out).stayN hf); clear hf)
        | (go_at_call 17; refine (K_start HX3.out rfl HH3.out (by simp) (fun h => by have := h.2; have := HE.out; omega) a1 n1 c1 HN1.out (HLS.out.oldN HF3.out) hb).mono ?_; rintro y w4 ⟨rfl, hx, hf⟩; have HF4 := Lib.hid (goL HF3.out hf); clear hx hf))
      all_goals go_ret
      all_goals exact ⟨rfl, HF4.out⟩
    · obtain ⟨at0, rfl⟩ : ∃ k : Nat, at' = k := ⟨at'.toNat, by omega⟩
      have hatn : at0 ≤ n1 := by omega
      have i2 : decide ((at0 : Int) < 0) = false := decide_eq_false (by omega)
      have i3 : decide ((n1 : Int) < (at0 : Int)) = false := decide_eq_false (by omega)
      clear hat
      go_enter Try.func4, Try.ntmps4
      go_wp2_with (first
        | (go_at_call 5; refine (hist_new _ 5 (by decide) (by decide)).mono ?_; rintro y w1 ⟨rfl, hh, hf⟩; have HH := Lib.hid hh; have HF1 := Lib.hid hf; clear hh hf)
        | (go_at_call 6; refine (ed_new _ _ _ _ _ _ HH.out (by simp)).mono ?_; rintro y w2 hn; obtain ⟨e, rfl, hx, he, hf⟩ := newL2 hn HF1.out; have HX := Lib.hid hx; have HF2 := Lib.hid hf; have HE := Lib.hid he; clear hx hf he hn)
        | (go_at_call 7; refine (live_ok _).mono ?_; rintro y w3 ⟨rfl, hf⟩; have HX3 := Lib.hid (HX.out.stayN hf); have HF3 := Lib.hid (HF1.out.then (HF2.out.then hf)); have HH3 := Lib.hid ((HH.out.within.stayN HF2.out).stayN hf); clear hf)
        | (go_at_call 17; refine (K_start HX3.out rfl HH3.out (by simp) (fun h => by have := h.2; have := HE.out; omega) a1 n1 c1 HN1.out (HLS.out.oldN HF3.out) hb).mono ?_; rintro y w4 ⟨rfl, hx, hf⟩; have HX4 := Lib.hid hx; have HF4 := Lib.hid (goL HF3.out hf); have HR4 := Lib.hid (Rest1.started L (by rw [HN1.out]; exact hb) 1 5 1 5); clear hx hf)
        | (go_at_call 8; refine (L_begin HX4.out HR4.out).mono ?_; rintro y w5 ⟨rfl, hx, hf⟩; have HX5 := Lib.hid hx; have HF5 := Lib.hid (goL HF4.out hf); clear hx hf)
        | (go_at_call 11; refine (L_move HX5.out HR4.out at0 (by rw [HN1.out]; exact hatn)).mono ?_; rintro y w6 ⟨rfl, hx, hf⟩; have HX6 := Lib.hid hx; have HF6 := Lib.hid (goL HF5.out hf); clear hx hf)
        | (go_at_call 9; refine (L_end_moved HX6.out HR4.out (by rw [HN1.out]; exact hatn)).mono ?_; rintro y w7 ⟨rfl, hx, hf⟩; have HX7 := Lib.hid hx; have HF7 := Lib.hid (goL HF6.out hf); clear hx hf))
      have hr7 : RestK (((newState [] 1 5).started L [] 1 5).begun.moved at0).endOk L at0 at0 := RestK.of (HR4.out.moved at0 (by rw [HN1.out]; exact hatn)).2.2 rfl rfl
      have HR7 := Lib.hid hr7
      clear hr7 HX3 HX4 HX5 HX6 HX HH HH3 HF1 HF2 HF3 HF4 HF5 HF6 HR4 HE
      have hfp := Try.field_point
      go_loopw [11, 12, 14, 15, 16, 17, 76] (fun fi ti _ _ _ _ ki V => ∃ k a b : Nat, ∃ S, k ≤ n2 ∧ fi = .int .i64 a ∧ ti = .int .i64 b ∧ ki = .int .i64 k ∧ Hid (EdL (fun y => y < w.heap.size) V e S) ∧ Hid (RestK S L a b) ∧ Hid (Fr nob w V)) (fun _ _ _ _ _ _ ki _ => n2 - (intOf ki).toNat)
      case atStart => exact ⟨0, at0, at0, _, Nat.zero_le _, rfl, rfl, rfl, HX7.out, HR7.out, HF7.out⟩
      case round =>
        clear HX7 HR7 HF7
        obtain ⟨k, a, b, S, hk, rfl, rfl, rfl, HXV, HRV, HFV⟩ := hrel
        by_cases hkt : k < n2
        · have hkf : k < st.length := by rw [HN2.out]; exact hkt
          obtain ⟨g, off, rfl, hc⟩ := (HSS.out.oldN HFV.out).at (by omega) (by decide)
          have hck := hc k (.int .i64 st[k]) (by simp [nums, hkf])
          have hxr := HRR.out st[k] (List.getElem_mem hkf)
          generalize st[k] = x at *
          clear hc
          have hbl : b ≤ n1 := by have := HRV.out.bl; rw [HN1.out] at this; exact this
          have ha1 : a ≤ n1 := by have := HRV.out.ab; omega
          by_cases hneg : x < 0
          · have i4 : decide (x < 0) = true := decide_eq_true hneg
            go_wp2_with (first
              | (go_at_call 8; refine (K_begin HXV.out HRV.out).mono ?_; rintro y V1 ⟨rfl, hx, hf⟩; have HX1 := Lib.hid hx; have HF1 := Lib.hid (goL HFV.out hf); clear hx hf)
              | (go_at_call 14; refine (K_line HX1.out _ rfl _ rfl _ _ HRV.out.point rfl).mono ?_; rintro y V2 ⟨la, lc, rfl, _, hf⟩; have HX2 := Lib.hid (HX1.out.stayN hf); have HF2 := Lib.hid (HF1.out.then hf); clear hf)
              | (go_at_call 18; refine (K_killB HX2.out HRV.out _ (by first | omega | (rw [IntWalk.wrap64_in _ (by omega)]; omega)) (by first | omega | (rw [IntWalk.wrap64_in _ (by omega)]; omega))).mono ?_; rintro y V3 ⟨rfl, T, hx, hf, h1, h2, h3, h4⟩; have HX3 := Lib.hid hx; have HF3 := Lib.hid (goL HF2.out hf); have H1 := Lib.hid h1; have H2 := Lib.hid h2; have H3 := Lib.hid h3; have H4 := Lib.hid h4; clear hx hf h1 h2 h3 h4)
              | (go_at_call 9; refine (K_end HX3.out H1.out H2.out H3.out).mono ?_; rintro y V4 ⟨rfl, hx, hf⟩; have HX4 := Lib.hid hx; have HF4 := Lib.hid (goL HF3.out hf); clear hx hf))
            all_goals go_roundw
            case rel => exact ⟨k + 1, _, b, _, by omega, by congr 1; rw [Int.toNat_of_nonneg]; first | omega | (rw [IntWalk.wrap64_in _ (by omega)]; omega), rfl, by go_num, HX4.out, H4.out, HF4.out⟩
            case measure => simp [intOf]; omega
          · have i4 : decide (x < 0) = false := decide_eq_false hneg
            go_wp2_with (first
              | (go_at_call 8; refine (K_begin HXV.out HRV.out).mono ?_; rintro y V1 ⟨rfl, hx, hf⟩; have HX1 := Lib.hid hx; have HF1 := Lib.hid (goL HFV.out hf); clear hx hf)
              | (go_at_call 14; refine (K_line HX1.out _ rfl _ rfl _ _ HRV.out.point rfl).mono ?_; rintro y V2 ⟨la, lc, rfl, _, hf⟩; have HX2 := Lib.hid (HX1.out.stayN hf); have HF2 := Lib.hid (HF1.out.then hf); clear hf)
              | (go_at_call 18; refine (K_killF HX2.out HRV.out _ (by first | omega | (rw [IntWalk.wrap64_in _ (by omega)]; omega)) (by rw [HN1.out]; first | omega | (rw [IntWalk.wrap64_in _ (by omega)]; omega))).mono ?_; rintro y V3 ⟨rfl, T, hx, hf, h1, h2, h3, h4⟩; have HX3 := Lib.hid hx; have HF3 := Lib.hid (goL HF2.out hf); have H1 := Lib.hid h1; have H2 := Lib.hid h2; have H3 := Lib.hid h3; have H4 := Lib.hid h4; clear hx hf h1 h2 h3 h4)
              | (go_at_call 9; refine (K_end HX3.out H1.out H2.out H3.out).mono ?_; rintro y V4 ⟨rfl, hx, hf⟩; have HX4 := Lib.hid hx; have HF4 := Lib.hid (goL HF3.out hf); clear hx hf))
            all_goals go_roundw
            case rel => exact ⟨k + 1, a, _, _, by omega, rfl, by congr 1; first | omega | (simp (disch := omega) only [IntWalk.wrap64_in]; omega), by go_num, HX4.out, H4.out, HF4.out⟩
            case measure => simp [intOf]; omega
        · obtain rfl : k = n2 := by omega
          have hfm := Try.field_mark
          have hft := Try.field_text
          have hab := HRV.out.ab
          have hbl : b ≤ n1 := by have := HRV.out.bl; rw [HN1.out] at this; exact this
          have hen := HRV.out.ents
          have HLW := Lib.hid (HLS.out.oldN HFV.out)
          rcases hen with ⟨he, rfl⟩ | ⟨he, _⟩
          · have HEN := Lib.hid he
            have htl : S.begun.endErr.core.text.length = n1 := by
              show S.core.text.length = n1
              rw [HRV.out.textlen, HN1.out]
              omega
            have HTL := Lib.hid htl
            clear he htl
            go_wp2_with (first
              | (go_at_call 8; refine (K_begin HXV.out HRV.out).mono ?_; rintro y V1 ⟨rfl, hx, hf⟩; have HX1 := Lib.hid hx; have HF1 := Lib.hid (goL HFV.out hf); clear hx hf)
              | (go_at_call 19; refine (K_yank_none HX1.out rfl HEN.out).mono ?_; rintro y V2 ⟨rfl, hx, hf⟩; have HX2 := Lib.hid hx; have HF2 := Lib.hid (goL HF1.out hf); clear hx hf)
              | (go_at_call 9; refine (K_end_err HX2.out rfl HRV.out.bells).mono ?_; rintro y V3 ⟨rfl, hx, hf⟩; have HX3 := Lib.hid hx; have HF3 := Lib.hid (goL HF2.out hf); clear hx hf)
              | (go_at_call 14; refine (K_line HX3.out n1 HTL.out _ rfl _ _ rfl rfl).mono ?_; rintro y V4 ⟨la, lc, rfl, _, hf⟩; have HF4 := Lib.hid (HF3.out.then hf); clear hf))
            go_ret
            exact ⟨rfl, HF4.out⟩
          · have HEN := Lib.hid he
            obtain ⟨y1, y2, y3, y4, y5, y6⟩ := HRV.out.yanked
            have Y1 := Lib.hid y1
            have Y2 := Lib.hid y2
            have Y3 := Lib.hid y3
            have Y4 := Lib.hid y4
            have Y5 := Lib.hid y5
            have Y6 := Lib.hid y6
            have htl : (S.begun.yankedTo a ((L.drop a).take (b - a))).endOk.core.text.length = n1 := by rw [y4, HN1.out]
            have HTL := Lib.hid htl
            clear he htl y1 y2 y3 y4 y5 y6
            by_cases hab2 : a = b
            · have i5 : ((a : Int) == (b : Int)) = true := by simp [hab2]
              go_wp2_with (first
                | (go_at_call 8; refine (K_begin HXV.out HRV.out).mono ?_; rintro y V1 ⟨rfl, hx, hf⟩; have HX1 := Lib.hid hx; have HF1 := Lib.hid (goL HFV.out hf); clear hx hf)
                | (go_at_call 19; refine (K_yank HX1.out HRV.out HEN.out).mono ?_; rintro y V2 ⟨rfl, hx, hf⟩; have HX2 := Lib.hid hx; have HF2 := Lib.hid (goL HF1.out hf); clear hx hf)
                | (go_at_call 9; refine (K_end HX2.out Y1.out Y2.out Y3.out).mono ?_; rintro y V3 ⟨rfl, hx, hf⟩; have HX3 := Lib.hid hx; have HF3 := Lib.hid (goL HF2.out hf); clear hx hf)
                | (go_at_call 14; refine (K_line HX3.out n1 HTL.out _ rfl _ _ rfl rfl).mono ?_; rintro y V4 ⟨la, lc, rfl, _, hf⟩; have HF4 := Lib.hid (HF3.out.then hf); clear hf))
              go_ret
              exact ⟨rfl, HF4.out⟩
            · have i5 : ((a : Int) == (b : Int)) = false := by simp; omega
              go_wp2_with (first
                | (go_at_call 8; refine (K_begin HXV.out HRV.out).mono ?_; rintro y V1 ⟨rfl, hx, hf⟩; have HX1 := Lib.hid hx; have HF1 := Lib.hid (goL HFV.out hf); clear hx hf)
                | (go_at_call 19; refine (K_yank HX1.out HRV.out HEN.out).mono ?_; rintro y V2 ⟨rfl, hx, hf⟩; have HX2 := Lib.hid hx; have HF2 := Lib.hid (goL HF1.out hf); clear hx hf)
                | (go_at_call 9; refine (K_end HX2.out Y1.out Y2.out Y3.out).mono ?_; rintro y V3 ⟨rfl, hx, hf⟩; have HX3 := Lib.hid hx; have HF3 := Lib.hid (goL HF2.out hf); clear hx hf)
                | (go_at_call 13; refine (eqV _ _ _ _ _ _ _ _ HS4.out ((HLS.out.oldN HF4.out)) (by omega)).mono ?_; rintro y V5 ⟨rfl, hf⟩; have HX5 := Lib.hid (HX4.out.stayN hf); have HF5 := Lib.hid (HF4.out.then hf); clear hf)
                | (go_at_call 14; refine (K_line HX6.out n1 HTL.out L Y4.out _ _ Y6.out Y5.out).mono ?_; rintro y V7 ⟨la7, lc7, rfl, _, hf⟩; have HF7 := Lib.hid (HF6.out.then hf); clear hf)
                | (go_at_call 14; refine (K_line HX5.out n1 HTL.out L Y4.out _ _ Y6.out Y5.out).mono ?_; rintro y V6 ⟨la6, lc6, rfl, _, hf⟩; have HX6 := Lib.hid (HX5.out.stayN hf); have HF6 := Lib.hid (HF5.out.then hf); clear hf)
                | (go_at_call 14; refine (K_line HX3.out n1 HTL.out L Y4.out _ _ Y6.out Y5.out).mono ?_; rintro y V4 ⟨la, lc, rfl, hs, hf⟩; have HS4 := Lib.hid hs; have HX4 := Lib.hid (HX3.out.stayN hf); have HF4 := Lib.hid (HF3.out.then hf); clear hf hs))
              go_ret
              exact ⟨rfl, HF7.out⟩
end Go.Proofs.Ytbhklkolkclflaa
