/- The law EditorUndoes: the walk. -/
import Derived.Test.YtbhklkolkclflaaGreatDoorL9
import Derived.Test.YtbhklkolkclflaaGreatDoorL6
namespace Go.Proofs.YtbhklkolkclflaaGreatDoor
open Go.RowKit

theorem Tryz.field_undos2 (x0 x1 x2 x3 x4 x5 x6 x7 x8 x9 x10 x11 x12 x13 x14 x15 x16 : Value) (w : World) : (Instr.field 60 (.agg #[x0, x1, x2, x3, x4, x5, x6, x7, x8, x9, x10, x11, x12, x13, x14, x15, x16]) 12).run Tryz.prog w = .ok x14 w := by kernel_rfl
theorem Inv.started (L : List Int) (hL : L.length ≤ 1024) (b m b2 m2 : Int) : RestI ((newState [] b m).started L [] b2 m2) L 0 0 := by
  refine ⟨⟨⟨(fun p g hp => by cases hp), (fun e he => absurd he (by simp [EdState.started, newState])), ?_, Int.le_refl 0⟩, rfl, rfl, rfl, fun h => (by cases h), (fun y hy => by cases hy), hL, ⟨L, hL, trivial, rfl, fun _ => rfl⟩, Nat.le_refl _⟩, rfl, rfl, Int.le_refl _, Int.le_refl _⟩
  show total [] + 0 ≤ 16384
  decide

section
variable {Z : Nat → Prop} {w : World} {e : Nat} {S : EdState} {T0 : List Int} {m b : Nat}
theorem CmdI.fl (hp : S.put = []) : S.flushed false = S := if_pos hp
theorem CmdI.listed (h : CmdI S T0 m b) (hp : S.put = []) (hg : S.lst.1 = []) : CmdI S.listed T0 m b ∧ S.listed.put = [] ∧ S.listed.lst.1 = [] := by
  have hi := h.now.undone (S' := S.listed) (.inl ⟨by rw [CmdI.fl hp]; exact hg, by rw [CmdI.fl hp]⟩)
  refine ⟨⟨hi, (show Keeps S S.listed from ⟨rfl, rfl, rfl, rfl, rfl, rfl⟩).wasS h.was, h.inn, h.b0, h.b1⟩, hp, ?_⟩
  rw [EdState.listed_lst]
  exact hg
theorem U_undo_none (x : EdL Z w e S) (h : CmdI S T0 m b) (hp : S.put = []) (hg : S.lst.1 = []) : Calls Tryz.prog 28 #[.pointer (some ⟨e, 0, none⟩)] w (EdGoE Z w e (.int .i64 6) fun S' => CmdI S' T0 m b ∧ S'.put = [] ∧ S'.lst.1 = []) := by
  refine x.callE fun κ i b' r k tm um hh bl was putv y => ?_
  have hu := ed_undo_none w κ i e b' r k tm um hh bl was putv S y h.now.ok h.inn (by rw [CmdI.fl hp]; exact hg)
  rw [CmdI.fl hp] at hu
  refine hu.mono ?_
  rintro z w' ⟨rfl, κ', putv', g1, g2, g3⟩
  exact ⟨rfl, _, h.listed hp hg, κ', g1.rep, g2, g3⟩
theorem U_revert_none (x : EdL Z w e S) (h : CmdI S T0 m b) (hp : S.put = []) (hg : S.lst.1 = []) : Calls Tryz.prog 29 #[.pointer (some ⟨e, 0, none⟩)] w (EdGoE Z w e (.int .i64 6) fun S' => CmdI S' T0 m b ∧ S'.put = [] ∧ S'.lst.1 = []) := by
  refine x.callE fun κ i b' r k tm um hh bl was putv y => ?_
  have hu := ed_revert_none w κ i e b' r k tm um hh bl was putv S y h.now.ok h.inn (by rw [CmdI.fl hp]; exact hg)
  rw [CmdI.fl hp] at hu
  refine hu.mono ?_
  rintro z w' ⟨rfl, κ', putv', g1, g2, g3⟩
  exact ⟨rfl, _, h.listed hp hg, κ', g1.rep, g2, g3⟩
/-- A command that left no edits ends. -/
theorem U_end0 (x : EdL Z w e S) (h : CmdI S T0 m b) (hp : S.put = []) : Calls Tryz.prog 26 #[.pointer (some ⟨e, 0, none⟩), .int .i64 0] w (EdGoE Z w e (.int .i64 0) fun S' => RestI S' T0 m (b + 1) ∧ S'.lst.1 = S.lst.1) := by
  obtain ⟨h1, h2, h3⟩ := h.now.endOk
  have h4 := S.endOk_core.2.2.2.2.2.2.2.2.2.2.1
  have hb1 := h.b1
  have hl : S.endOk.lst = S.lst := by
    show (S.endA.flushed (S.types && S.core.run)).lst = _
    unfold EdState.flushed
    rw [if_pos (by rw [EdState.endA_put]; exact hp), EdState.endA_lst]
  exact (x.call fun _ _ _ _ _ _ _ _ _ _ _ y => ed_end_ok _ _ _ _ _ _ _ _ _ _ _ _ _ _ y h.now.ok h.inn h.now.run).mono fun _ _ ⟨g1, g2, g3⟩ => ⟨g1, _, ⟨⟨h1, h2, h3, by rw [h4]; exact h.b0, by rw [h4]; omega⟩, by rw [hl]⟩, g2, g3⟩
theorem RestI.text (h : RestI S T0 m b) (hg : S.lst.1 = []) (hm : m < 16384) : S.core.text = T0 := by
  obtain ⟨L0, g1, g2, g3, g4⟩ := h.now.fit
  rw [hg, h.put] at g3
  rw [← g3, ← g4 hm]
  rfl
end

set_option maxRecDepth 10000 in
set_option maxHeartbeats 8000000 in
theorem undoes_ok (w : World) (a1 a2 : Option Addr) (c1 c2 : Nat) (L : List Int) (cs : List CmdP) (hL : Sl w 1 a1 L.length c1 (runes L)) (hS : ScriptR w a2 cs) (hsz : cs.length ≤ 1048576) (hps : partsOf cs ≤ 1048576) :
    Calls Tryz.prog 5 #[.slice a1 L.length c1, .slice a2 cs.length c2] w fun x w' => x = .returned (.bool true) ∧ Fr nob w w' := by
  generalize hn1 : L.length = n1 at *
  generalize hn2 : cs.length = n2 at *
  have HN1 := Lib.hid hn1
  have HN2 := Lib.hid hn2
  have HLS := Lib.hid hL
  have HSS := Lib.hid hS
  have HPS := Lib.hid hps
  clear hn1 hn2 hL hS hps
  by_cases hb : n1 ≤ 1024
  case neg =>
    have i1 : decide (1024 < (n1 : Int)) = true := decide_eq_true (by omega)
    go_enter Tryz.func5, Tryz.ntmps5
    go_wp2_with (first
      | (go_at_call 20; refine (hist_new _ 5 (by decide) (by decide)).mono ?_; rintro y w1 ⟨rfl, hh, hf⟩; have HH := Lib.hid hh; have HF1 := Lib.hid hf; clear hh hf)
      | (go_at_call 21; refine (ed_new _ _ _ _ _ _ HH.out (by simp)).mono ?_; rintro y w2 hn; obtain ⟨e, rfl, hx, he, hf⟩ := newL2 hn HF1.out; have HX := Lib.hid hx; have HF2 := Lib.hid hf; have HE := Lib.hid he; clear hx hf he hn)
      | (go_at_call 22; refine (live_ok _).mono ?_; rintro y w3 ⟨rfl, hf⟩; have HX3 := Lib.hid (HX.out.stayN hf); have HF3 := Lib.hid (HF1.out.then (HF2.out.then hf)); have HH3 := Lib.hid ((HH.out.stayN HF2.out).stayN hf); clear hf)
      | (go_at_call 23; refine (K_start_long HX3.out rfl HH3.out (by simp) a1 n1 c1 (by omega)).mono ?_; rintro y w4 ⟨rfl, hx, hf⟩; have HF4 := Lib.hid (goL HF3.out hf); clear hx hf))
    go_ret
    exact ⟨rfl, HF4.out⟩
  case pos =>
    go_enter Tryz.func5, Tryz.ntmps5
    go_wp2_with (first
      | (go_at_call 20; refine (hist_new _ 5 (by decide) (by decide)).mono ?_; rintro y w1 ⟨rfl, hh, hf⟩; have HH := Lib.hid hh; have HF1 := Lib.hid hf; clear hh hf)
      | (go_at_call 21; refine (ed_new _ _ _ _ _ _ HH.out (by simp)).mono ?_; rintro y w2 hn; obtain ⟨e, rfl, hx, he, hf⟩ := newL2 hn HF1.out; have HX := Lib.hid hx; have HF2 := Lib.hid hf; have HE := Lib.hid he; clear hx hf he hn)
      | (go_at_call 22; refine (live_ok _).mono ?_; rintro y w3 ⟨rfl, hf⟩; have HX3 := Lib.hid (HX.out.stayN hf); have HF3 := Lib.hid (HF1.out.then (HF2.out.then hf)); have HH3 := Lib.hid ((HH.out.within.stayN HF2.out).stayN hf); clear hf)
      | (go_at_call 23; refine (K_start HX3.out rfl HH3.out (by simp) (fun h => by have := h.2; have := HE.out; omega) a1 n1 c1 HN1.out (HLS.out.oldN HF3.out) hb).mono ?_; rintro y w4 ⟨rfl, hx, hf⟩; have HX4 := Lib.hid hx; have HF4 := Lib.hid (goL HF3.out hf); have HR4 := Lib.hid (Inv.started L (by rw [HN1.out]; exact hb) 1 5 1 5); clear hx hf))
    clear HX HX3 HF1 HF2 HF3 HH HH3 HE
    go_loopw [10, 12, 46] (fun _ _ ki V => ∃ k : Nat, ∃ S, k ≤ n2 ∧ ki = .int .i64 k ∧ Hid (EdL (fun y => y < w.heap.size) V e S) ∧ Hid (RestI S L (partsOf (cs.take k)) k) ∧ Hid (Fr nob w V)) (fun _ _ ki _ => n2 - (intOf ki).toNat)
    case atStart => exact ⟨0, _, Nat.zero_le _, rfl, HX4.out, HR4.out, HF4.out⟩
    case round =>
      clear HX4 HR4 HF4
      obtain ⟨k, S, hk, rfl, HXV, HRV, HFV⟩ := hrel
      by_cases hkt : k < n2
      · have hkf : k < cs.length := by rw [HN2.out]; exact hkt
        obtain ⟨g, off, rfl, pa, pc, hc0, hpp, hc1⟩ := HSS.out k hkf
        replace hc0 := cell_stay HFV.out hc0
        replace hc1 := cell_stay HFV.out hc1
        have HPP := Lib.hid hpp
        have hpt := partsOf_take hkf
        have HPT := Lib.hid hpt
        have hpl : cs[k].1.length ≤ 1048576 := by have := partsOf_le cs (k + 1); have := HPS.out; omega
        generalize hcmd : cs[k] = cmd at *
        obtain ⟨ps, err⟩ := cmd
        simp only at hc0 hc1 hpl HPP HPT
        generalize hpn : ps.length = pn at *
        have HPN := Lib.hid hpn
        clear hpp hpt hcmd hpn
        go_wp2_with fail
        refine forgetC (fun W => Hid (EdL (fun y => y < w.heap.size ∨ y = wr.heap.size) W e S) ∧ Hid (W.heap[wr.heap.size]? = some (.cells #[.slice pa pn pc, .int .i64 err] 50 (0, 0))) ∧ Hid (Fr nob w W)) ⟨HXV.out.add ((Fr.refl nob wr).alloc _) wr.heap.size (Nat.le_refl _) (by rw [World.size_alloc]; omega), heap_alloc_new _ _, HFV.out.alloc _⟩ ?_
        have hwo : w.heap.size ≤ wr.heap.size := HFV.out.size
        generalize wr.heap.size = o at *
        clear hc0 hc1 HXV
        rintro W ⟨HXW, HOW, HFW⟩
        have hZ : ∀ y, y < w.heap.size → (y < w.heap.size ∨ y = o) := fun y hy => .inl hy
        have HZ := Lib.hid hZ
        clear hZ
        refine (U_begin HXW.out HRV.out).mono ?_
        rintro y V1 ⟨rfl, S1, ⟨_, hc⟩, hx, hf⟩
        have HX1 := Lib.hid hx
        have HF1 := Lib.hid (goZ HFW.out HZ.out hf)
        have HO1 := Lib.hid (hf.keep HOW.out (fun hm => hm.1 (.inr rfl)))
        have HC1 := Lib.hid hc
        have b1 := blk_cells HO1.out
        clear hx hf hc HXW HFW HOW
        go_wp2
        clear b1
        go_loopw [12, 55] (fun _ ji V => ∃ j : Nat, ∃ S', j ≤ pn ∧ ji = .int .i64 j ∧ Hid (EdL (fun y => y < w.heap.size ∨ y = o) V e S') ∧ Hid (CmdI S' L (partsOf (cs.take k) + j) k) ∧ Hid (V.heap[o]? = some (.cells #[.slice pa pn pc, .int .i64 err] 50 (0, 0))) ∧ Hid (Fr nob w V)) (fun _ ji _ => pn - (intOf ji).toNat)
        case atStart => exact ⟨0, _, Nat.zero_le _, rfl, HX1.out, HC1.out, HO1.out, HF1.out⟩
        case round =>
          clear HX1 HC1 HO1 HF1
          obtain ⟨j, S', hj, rfl, HXj, HCj, HOj, HFj⟩ := hrel
          by_cases hjt : j < pn
          · obtain ⟨g2, off2, hpa, hp0, hp1, hp2, hp3, ta, tc, hp4, htx⟩ := HPP.out j (by rw [HPN.out]; exact hjt)
            have hpa0 : pa = some ⟨g2, off2, none⟩ := hpa
            replace hp0 := cell_stay HFj.out hp0
            replace hp1 := cell_stay HFj.out hp1
            replace hp2 := cell_stay HFj.out hp2
            replace hp3 := cell_stay HFj.out hp3
            replace hp4 := cell_stay HFj.out hp4
            have HTX := Lib.hid (htx.oldN (HFj.out.alloc (.cells #[.int .i64 (ps[j]'(by rw [HPN.out]; exact hjt)).ki, .int .i64 (ps[j]'(by rw [HPN.out]; exact hjt)).A, .int .i64 (ps[j]'(by rw [HPN.out]; exact hjt)).B, .bool (ps[j]'(by rw [HPN.out]; exact hjt)).back, .slice ta (ps[j]'(by rw [HPN.out]; exact hjt)).text.length tc] 53)))
            subst hpa0
            generalize ps[j]'(by rw [HPN.out]; exact hjt) = pt at *
            obtain ⟨ki, A, B, back, text⟩ := pt
            simp only at hp0 hp1 hp2 hp3 hp4 HTX
            generalize htn : text.length = tn at *
            have HTN := Lib.hid htn
            clear htx htn hpa
            by_cases h13 : ki = 13
            · have i13 : (ki != 13) = false := by simp [h13]
              go_wp2
              go_roundw
              case rel => exact ⟨j + 1, S', by omega, by go_num, HXj.out.stayN ((Fr.refl _ _).alloc _), ⟨HCj.out.now.more (by omega), HCj.out.was.more (by omega), HCj.out.inn, HCj.out.b0, HCj.out.b1⟩, ((Fr.refl nob _).alloc _).keep HOj.out (fun h => h), HFj.out.alloc _⟩
              case measure => simp [intOf]; omega
            · have i13 : (ki != 13) = true := by simp [h13]
              by_cases h20 : ki < 20
              · have i20 : decide (ki < 20) = true := decide_eq_true h20
                have H13 := Lib.hid h13
                clear h13 h20
                go_wp2_with (go_at_call 25; refine (U_edit (HXj.out.stayN ((Fr.refl _ _).alloc _)) HCj.out ⟨ki, A, B, back, text⟩ H13.out ta tn tc HTN.out HTX.out).mono ?_; rintro y V2 ⟨rfl, S2, hc2, hx2, hf2⟩; have HC2 := Lib.hid hc2; have HX2 := Lib.hid hx2; have HF2 := Lib.hid (goZ (HFj.out.alloc _) HZ.out hf2); have HO2 := Lib.hid (hf2.keep (((Fr.refl nob _).alloc _).keep HOj.out (fun h => h)) (fun hm => hm.1 (.inr rfl))); clear hc2 hx2 hf2)
                go_roundw
                case rel => exact ⟨j + 1, S2, by omega, by go_num, HX2.out, HC2.out, HO2.out, HF2.out⟩
                case measure => simp [intOf]; omega
              · have i20 : decide (ki < 20) = false := decide_eq_false h20
                go_wp2
                go_roundw
                case rel => exact ⟨j + 1, S', by omega, by go_num, HXj.out.stayN ((Fr.refl _ _).alloc _), ⟨HCj.out.now.more (by omega), HCj.out.was.more (by omega), HCj.out.inn, HCj.out.b0, HCj.out.b1⟩, ((Fr.refl nob _).alloc _).keep HOj.out (fun h => h), HFj.out.alloc _⟩
                case measure => simp [intOf]; omega
          · obtain rfl : j = pn := by omega
            have b2 := blk_cells HOj.out
            go_wp2_with (go_at_call 26; refine (U_end HXj.out HCj.out (by omega) err).mono ?_; rintro y V3 ⟨rfl, S3, hr3, hx3, hf3⟩; have HR3 := Lib.hid hr3; have HX3 := Lib.hid hx3; have HF3 := Lib.hid (goZ HFj.out HZ.out hf3); clear hr3 hx3 hf3)
            go_roundw
            case rel => exact ⟨k + 1, S3, by omega, by go_num, HX3.out.mono HZ.out, by rw [HPT.out]; exact HR3.out, HF3.out⟩
            case measure => simp [intOf]; omega
      · obtain rfl : k = n2 := by omega
        have hr := HRV.out
        rw [List.take_of_length_le (by rw [HN2.out]; exact Nat.le_refl _)] at hr
        have HR := Lib.hid hr
        clear hr HRV
        go_wp2
        go_loopw [13, 15, 78] (fun qi _ ji V => ∃ j : Nat, j ≤ k ∧ ji = .int .i64 j ∧ qi = .int .i64 (partsOf (cs.take j) : Nat) ∧ Hid (EdL (fun y => y < w.heap.size) V e S) ∧ Hid (Fr nob w V)) (fun _ _ ji _ => k - (intOf ji).toNat)
        case atStart => exact ⟨0, Nat.zero_le _, rfl, rfl, HXV.out, HFV.out⟩
        case round =>
          clear HXV HFV
          obtain ⟨j, hj, rfl, rfl, HXV, HFV⟩ := hrel
          by_cases hjt : j < k
          · have hjf : j < cs.length := by rw [HN2.out]; exact hjt
            obtain ⟨g, off, rfl, pa, pc, hc0, hpp, hc1⟩ := HSS.out j hjf
            replace hc0 := cell_stay HFV.out hc0
            replace hc1 := cell_stay HFV.out hc1
            have hpt := partsOf_take hjf
            have hle := partsOf_le cs (j + 1)
            have hps := HPS.out
            rw [hpt] at hle
            have HPT := Lib.hid hpt
            generalize hcmd : cs[j] = cmd at *
            obtain ⟨ps, err⟩ := cmd
            simp only at hc0 hc1 hle HPT
            generalize ps.length = pn at *
            generalize hq : partsOf (cs.take j) = q at *
            have hqi : (q : Int) + (pn : Int) ≤ 1048576 := by omega
            clear hpp hpt hcmd hps hle hq
            go_wp2
            go_roundw
            case rel => exact ⟨j + 1, by omega, by go_num, by rw [HPT.out]; go_num, HXV.out.stayN ((Fr.refl _ _).alloc _), HFV.out.alloc _⟩
            case measure => simp [intOf]; omega
          · obtain rfl : j = k := by omega
            have hqe : partsOf (cs.take j) = partsOf cs := by rw [List.take_of_length_le (by rw [HN2.out]; exact Nat.le_refl _)]
            rw [hqe]
            have hqs := HPS.out
            by_cases hq : 1000 < partsOf cs
            · generalize partsOf cs = q at *
              have i4 : decide ((1000 : Int) < (q : Int)) = true := decide_eq_true (by omega)
              go_wp2
              go_ret
              exact ⟨rfl, HFV.out⟩
            · have i4 : decide ((1000 : Int) < ((partsOf cs : Nat) : Int)) = false := decide_eq_false (by omega)
              have HQ := Lib.hid (show partsOf cs < 16384 by omega)
              generalize partsOf cs = q at *
              have hfu := Tryz.field_undos2
              have hgl : S.lst.1.length ≤ 1048576 := by
                have h1 := total_len HR.out.now.ok.lst.ne
                have h2 := HR.out.now.cnt
                omega
              go_wp2_with (go_at_call 27; refine (U_state HXV.out HR.out).mono ?_; rintro y V1 ⟨x0, x1, x2, x3, x4, x5, x6, x7, x8, x9, x10, x11, x12, x13, x15, x16, rfl, hf1⟩; have HX1 := Lib.hid (HXV.out.stayN hf1); have HF1 := Lib.hid (HFV.out.then hf1); clear hf1)
              clear HXV HFV i4 hqe hqs hq
              go_loopw [16] (fun ni V => ∃ T : EdState, ∃ bb : Nat, bb + T.lst.1.length ≤ j + 1048576 ∧ ni = .int .i64 T.lst.1.length ∧ Hid (EdL (fun y => y < w.heap.size) V e T) ∧ Hid (RestI T L q bb) ∧ Hid (Fr nob w V)) (fun ni _ => (intOf ni).toNat)
              case atStart => exact ⟨S, j, by omega, rfl, HX1.out, HR.out, HF1.out⟩
              case round =>
                clear HX1 HF1 HR
                obtain ⟨T, bb, hbb, rfl, HXT, HRT, HFT⟩ := hrel
                rcases List.eq_nil_or_concat T.lst.1 with h0 | ⟨pre, g, h0⟩
                · have H0 := Lib.hid h0
                  rw [h0]
                  clear h0
                  have hft := Tryz.field_text
                  have htl : L.length = n1 := HN1.out
                  go_wp2_with (first
                    | (go_at_call 24; refine (U_begin HXT.out HRT.out).mono ?_; rintro y V1 ⟨rfl, S1, ⟨rfl, hc⟩, hx, hf⟩; have HX1 := Lib.hid hx; have HF1 := Lib.hid (goL HFT.out hf); have HC1 := Lib.hid hc; clear hx hf hc)
                    | (go_at_call 28; refine (U_undo_none HX1.out HC1.out rfl H0.out).mono ?_; rintro y V2 ⟨rfl, S2, ⟨hc2, hp2, hl2⟩, hx, hf⟩; have HX2 := Lib.hid hx; have HF2 := Lib.hid (goL HF1.out hf); have HC2 := Lib.hid hc2; have HL2 := Lib.hid hl2; have HP2 := Lib.hid hp2; clear hx hf hc2 hl2 hp2)
                    | (go_at_call 29; refine (U_revert_none HX2.out HC2.out HP2.out HL2.out).mono ?_; rintro y V3 ⟨rfl, S3, ⟨hc3, hp3, hl3⟩, hx, hf⟩; have HX3 := Lib.hid hx; have HF3 := Lib.hid (goL HF2.out hf); have HC3 := Lib.hid hc3; have HL3 := Lib.hid hl3; have HP3 := Lib.hid hp3; clear hx hf hc3 hl3 hp3)
                    | (go_at_call 26; refine (U_end0 HX3.out HC3.out HP3.out).mono ?_; rintro y V4 ⟨rfl, S4, ⟨hr4, hl4⟩, hx, hf⟩; have HX4 := Lib.hid hx; have HF4 := Lib.hid (goL HF3.out hf); have HT4 := Lib.hid (hr4.text (hl4.trans HL3.out) HQ.out); clear hx hf hr4 hl4)
                    | (go_at_call 31; refine (L_lineV HX4.out HT4.out htl).mono ?_; rintro y V5 ⟨la, lc, lp, lm, rfl, hs5, hf5⟩; have HS5 := Lib.hid hs5; have HF5 := Lib.hid (HF4.out.then hf5); clear hs5 hf5)
                    | (go_at_call 30; refine (eqV _ _ _ _ _ _ _ _ HS5.out (HLS.out.oldN HF5.out) (by omega)).mono ?_; rintro y V6 ⟨rfl, hf6⟩; have HF6 := Lib.hid (HF5.out.then hf6); clear hf6))
                  go_ret
                  exact ⟨rfl, HF6.out⟩
                · rw [List.concat_eq_append] at h0
                  have H0 := Lib.hid h0
                  have hl : T.lst.1.length = pre.length + 1 := by rw [h0]; simp
                  rw [hl]
                  rw [hl] at hbb
                  generalize hpl : pre.length = pl at *
                  have HPL := Lib.hid hpl
                  clear h0 hl hpl
                  go_wp2_with (first
                    | (go_at_call 24; refine (U_begin HXT.out HRT.out).mono ?_; rintro y V1 ⟨rfl, S1, ⟨rfl, hc⟩, hx, hf⟩; have HX1 := Lib.hid hx; have HF1 := Lib.hid (goL HFT.out hf); clear hx hf hc)
                    | (go_at_call 28; refine (U_undo HX1.out HRT.out pre g H0.out).mono ?_; rintro y V2 ⟨rfl, S2, ⟨hc2, hl2, hp2⟩, hx, hf⟩; have HX2 := Lib.hid hx; have HF2 := Lib.hid (goL HF1.out hf); have HC2 := Lib.hid hc2; have HL2 := Lib.hid hl2; have HP2 := Lib.hid hp2; clear hx hf hc2 hl2 hp2)
                    | (go_at_call 26; refine (U_end0 HX2.out HC2.out HP2.out).mono ?_; rintro y V3 ⟨rfl, S3, ⟨hr3, hl3⟩, hx, hf⟩; have HX3 := Lib.hid hx; have HF3 := Lib.hid (goL HF2.out hf); have HR3 := Lib.hid hr3; have HL3 := Lib.hid (show S3.lst.1.length = pl by rw [hl3, HL2.out, HPL.out]); clear hx hf hr3 hl3)
                    | (go_at_call 27; refine (U_state HX3.out HR3.out).mono ?_; rintro y V4 ⟨x0', x1', x2', x3', x4', x5', x6', x7', x8', x9', x10', x11', x12', x13', x15', x16', rfl, hf⟩; rw [HL3.out]; have HX4 := Lib.hid (HX3.out.stayN hf); have HF4 := Lib.hid (HF3.out.then hf); clear hf))
                  go_roundw
                  case rel => exact ⟨S3, bb + 1, by rw [HL3.out]; omega, by rw [HL3.out], HX4.out, HR3.out, HF4.out⟩
                  case measure => simp [intOf]
end Go.Proofs.YtbhklkolkclflaaGreatDoor
