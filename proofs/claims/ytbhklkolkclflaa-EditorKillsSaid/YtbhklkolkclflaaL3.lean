/- The law EditorTypes: the walk. -/
import Derived.Test.YtbhklkolkclflaaL1
namespace Go.Proofs.Ytbhklkolkclflaa
open Go.RowKit

/-- A rune more is typed. -/
theorem Rest1.more {S : EdState} {l L0 : List Int} {k : Nat} {gs : List (List EditP)} (h : Rest1 S (l.take k ++ L0) k (grpK gs (l.take k)) (decide (l.take k ≠ []))) (hk : k < l.length) (hl : l.length + L0.length ≤ 1000) (ht : total gs ≤ 1000) :
    (l.take k ++ L0).length < 1024 ∧ total (grpK gs (l.take k)) < 16384 ∧ Rest1 (S.typ1 l[k]).endOk (l.take (k + 1) ++ L0) (k + 1) (grpK gs (l.take (k + 1))) (decide (l.take (k + 1) ≠ [])) := by
  have hkl : (l.take k).length = k := by rw [List.length_take]; omega
  have h1 : (l.take k ++ L0).length < 1024 := by rw [List.length_append, hkl]; omega
  have h2 : total (grpK gs (l.take k)) < 16384 := by rw [grpK_total, hkl]; omega
  have h3 := (h.typed l[k] h1 h2).2.2.2.1
  have htk : l.take (k + 1) = l.take k ++ [l[k]] := by rw [List.take_succ_eq_append_getElem hk]
  have e1 : (l.take k ++ L0).take k ++ [l[k]] ++ (l.take k ++ L0).drop k = l.take (k + 1) ++ L0 := by
    have t1 : (l.take k ++ L0).take k = l.take k := by rw [List.take_append_of_le_length (by omega), List.take_of_length_le (by omega)]
    have t2 : (l.take k ++ L0).drop k = L0 := by rw [List.drop_append_of_le_length (by omega), List.drop_of_length_le (by omega), List.nil_append]
    rw [t1, t2, htk]
  have e2 := grpK_snoc gs (l.take k) l[k]
  rw [hkl, ← htk] at e2
  have e3 : decide (l.take (k + 1) ≠ []) = true := decide_eq_true (fun h0 => by have := congrArg List.length h0; rw [List.length_take] at this; simp only [List.length_nil] at this; omega)
  rw [e1, e2] at h3
  rw [e3]
  exact ⟨h1, h2, h3⟩

section
variable {Z : Nat → Prop} {w : World} {e : Nat} {S : EdState}
/-- The line as a law reads it. -/
theorem L_lineV (x : EdL Z w e S) {L : List Int} {n : Nat} (h : S.core.text = L) (hn : L.length = n) : Calls Try.prog 14 #[.pointer (some ⟨e, 0, none⟩)] w fun y w' =>
    ∃ a c p m, y = .returned (.agg #[.slice a n c, p, m]) ∧ Sl w' 1 a n c (runes L) ∧ Fr nob w w' := by
  subst h
  subst hn
  refine (L_line x).mono ?_
  rintro y w' ⟨a, c, rfl, ho, hf⟩
  exact ⟨a, c, _, _, rfl, ho.sl, hf⟩
/-- How many groups a law reads. -/
theorem L_stateV (x : EdL Z w e S) {L : List Int} {p : Nat} {gs : List (List EditP)} {R : Bool} (h : Rest1 S L p gs R) : Calls Try.prog 16 #[.pointer (some ⟨e, 0, none⟩)] w fun y w' =>
    ∃ x0 x1 x2 x3 x4 x5 x6 x7 x8 x9 x10 x11 x12 x13 x15 x16, y = .returned (.agg #[x0, x1, x2, x3, x4, x5, x6, x7, x8, x9, x10, x11, x12, x13, .int .i64 gs.length, x15, x16]) ∧ Fr nob w w' := by
  refine (L_state x h).mono ?_
  rintro y w' ⟨lv, kv, sv, rfl, _, _, _, hf⟩
  exact ⟨_, _, _, _, _, _, _, _, _, _, _, _, _, _, _, _, rfl, hf⟩
end

theorem Try.field_text (x y z : Value) (w : World) : (Instr.field 38 (.agg #[x, y, z]) 0).run Try.prog w = .ok x w := by kernel_rfl
theorem Try.field_undos (x0 x1 x2 x3 x4 x5 x6 x7 x8 x9 x10 x11 x12 x13 x14 x15 x16 : Value) (w : World) : (Instr.field 43 (.agg #[x0, x1, x2, x3, x4, x5, x6, x7, x8, x9, x10, x11, x12, x13, x14, x15, x16]) 12).run Try.prog w = .ok x14 w := by kernel_rfl
/-- The same line. -/
theorem eqV (w : World) (a b : Option Addr) (n m c d : Nat) (l : List Int) (h : Sl w 1 a n c (runes l)) (h2 : Sl w 1 b m d (runes l)) (hb : n * 4 ≤ 140737488355328) :
    Calls Try.prog 13 #[.slice a n c, .slice b m d] w fun e w' => e = .returned (.bool true) ∧ Fr nob w w' := by
  have hn : l.length = n := by have := h.len; simpa [runes] using this
  have hm : l.length = m := by have := h2.len; simpa [runes] using this
  subst hn
  subst hm
  refine (equal_runes w a b c d l l h h2 hb).mono ?_
  rintro e w' ⟨rfl, q, rfl⟩
  exact ⟨by simp, (Fr.refl _ _).drewN q⟩

/-- What the line and the groups are, as the groups are taken back. -/
def lawL (f s : List Int) : Nat → List Int
  | 0 => s ++ f
  | 1 => f
  | _ => []
def lawG (f s : List Int) : Nat → List (List EditP)
  | 0 => grpK (grpK [] f) s
  | 1 => grpK [] f
  | _ => []
theorem law_at (f s : List Int) (a1 a2 : Option Addr) (n1 n2 c1 c2 : Nat) (h1 : f.length = n1) (h2 : s.length = n2) (hb1 : n1 ≤ 50) (hb2 : n2 ≤ 50) (q : Nat) (hq : q < 2) :
    ∃ m M G am nm ml cm, (#[.slice a2 n2 c2, .slice a1 n1 c1] : Array Value)[q]? = some (.slice am nm cm) ∧ m.length = nm ∧ M.length = ml ∧ nm ≤ 50 ∧ ml ≤ 50 ∧ lawL f s q = m ++ M ∧ lawL f s (q + 1) = M ∧ lawG f s q = grpK G m ∧ lawG f s (q + 1) = G := by
  rcases (by omega : q = 0 ∨ q = 1) with rfl | rfl
  · exact ⟨s, f, grpK [] f, a2, n2, n1, c2, rfl, h2, h1, hb2, hb1, rfl, rfl, rfl, rfl⟩
  · exact ⟨f, [], [], a1, n1, 0, c1, rfl, h1, rfl, hb1, by decide, (List.append_nil f).symm, rfl, rfl, rfl⟩
theorem goZ {Z : Nat → Prop} {w0 w w' : World} (hf : Fr nob w0 w) (hZ : ∀ y, y < w0.heap.size → Z y) (h : Fr (wr w (fun y => ¬ Z y)) w w') : Fr nob w0 w' :=
  hf.trans h (fun b hb hm => (hm.1 (hZ b hb)).elim)

set_option maxRecDepth 10000 in
set_option maxHeartbeats 4000000 in
theorem types_ok (w : World) (a1 a2 : Option Addr) (c1 c2 : Nat) (f s : List Int) (hf : Sl w 1 a1 f.length c1 (runes f)) (hs : Sl w 1 a2 s.length c2 (runes s)) :
    Calls Try.prog 3 #[.slice a1 f.length c1, .slice a2 s.length c2] w fun x w' => x = .returned (.bool true) ∧ Fr nob w w' := by
  generalize hn1 : f.length = n1 at *
  generalize hn2 : s.length = n2 at *
  have HN1 := Lib.hid hn1
  have HN2 := Lib.hid hn2
  have HFS := Lib.hid hf
  have HSS := Lib.hid hs
  clear hn1 hn2 hf hs
  by_cases hb : n1 ≤ 50 ∧ n2 ≤ 50
  case neg =>
    go_enter Try.func3, Try.ntmps3
    by_cases hb1 : n1 ≤ 50
    · have i1 : decide (50 < (n1 : Int)) = false := decide_eq_false (by omega)
      have i2 : decide (50 < (n2 : Int)) = true := decide_eq_true (by omega)
      clear hb hb1
      go_wp2_with (first
        | (go_at_call 5; refine (hist_new _ 5 (by decide) (by decide)).mono ?_; rintro y w1 ⟨rfl, hh, hf⟩; have HH := Lib.hid hh; have HF1 := Lib.hid hf; clear hh hf)
        | (go_at_call 6; refine (ed_new _ _ _ _ _ _ HH.out (by simp)).mono ?_; rintro y w2 hn; obtain ⟨e, rfl, hx, hf⟩ := newL hn HF1.out; have HX := Lib.hid hx; have HF2 := Lib.hid hf; clear hx hf hn)
        | (go_at_call 7; refine (live_ok _).mono ?_; rintro y w3 ⟨rfl, hf⟩; have HF3 := Lib.hid (HF2.out.then hf); clear hf))
      go_ret
      exact ⟨rfl, HF3.out⟩
    · have i1 : decide (50 < (n1 : Int)) = true := decide_eq_true (by omega)
      clear hb hb1
      go_wp2_with (first
        | (go_at_call 5; refine (hist_new _ 5 (by decide) (by decide)).mono ?_; rintro y w1 ⟨rfl, hh, hf⟩; have HH := Lib.hid hh; have HF1 := Lib.hid hf; clear hh hf)
        | (go_at_call 6; refine (ed_new _ _ _ _ _ _ HH.out (by simp)).mono ?_; rintro y w2 hn; obtain ⟨e, rfl, hx, hf⟩ := newL hn HF1.out; have HX := Lib.hid hx; have HF2 := Lib.hid hf; clear hx hf hn)
        | (go_at_call 7; refine (live_ok _).mono ?_; rintro y w3 ⟨rfl, hf⟩; have HF3 := Lib.hid (HF2.out.then hf); clear hf))
      go_ret
      exact ⟨rfl, HF3.out⟩
  case pos =>
    obtain ⟨hb1, hb2⟩ := hb
    have i1 : decide (50 < (n1 : Int)) = false := decide_eq_false (by omega)
    have i2 : decide (50 < (n2 : Int)) = false := decide_eq_false (by omega)
    have hfd := Try.field_text
    go_enter Try.func3, Try.ntmps3
    go_wp2_with (first
      | (go_at_call 5; refine (hist_new _ 5 (by decide) (by decide)).mono ?_; rintro y w1 ⟨rfl, hh, hf⟩; have HH := Lib.hid hh; have HF1 := Lib.hid hf; clear hh hf)
      | (go_at_call 6; refine (ed_new _ _ _ _ _ _ HH.out (by simp)).mono ?_; rintro y w2 hn; obtain ⟨e, rfl, hx, hf⟩ := newL hn HF1.out; have HX := Lib.hid hx; have HF2 := Lib.hid hf; clear hx hf hn)
      | (go_at_call 7; refine (live_ok _).mono ?_; rintro y w3 ⟨rfl, hf⟩; have HX3 := Lib.hid (HX.out.stayN hf); have HF3 := Lib.hid (HF2.out.then hf); clear hf))
    go_loopw [10, 49] (fun _ ki V => ∃ k : Nat, k ≤ n1 ∧ ki = .int .i64 k ∧ ∃ S, Hid (EdL (fun y => y < w.heap.size) V e S) ∧ Hid (Rest1 S (f.take k ++ []) k (grpK [] (f.take k)) (decide (f.take k ≠ []))) ∧ Hid (Fr nob w V)) (fun _ ki _ => n1 - (intOf ki).toNat)
    case atStart => exact ⟨0, Nat.zero_le _, rfl, _, HX3.out, Rest1.new 1 5, HF3.out⟩
    case round =>
      obtain ⟨k, hk, rfl, S, HXV, HRV, HFV⟩ := hrel
      by_cases hkt : k < n1
      · have hkf : k < f.length := by rw [HN1.out]; exact hkt
        obtain ⟨hl1, hl2, hr'⟩ := HRV.out.more hkf (by rw [HN1.out]; simp; omega) (by decide)
        have HL1 := Lib.hid hl1
        have HL2 := Lib.hid hl2
        have HR2 := Lib.hid hr'
        obtain ⟨g, off, rfl, hc⟩ := (HFS.out.oldN HFV.out).at (by omega) (by decide)
        have hck := hc k (.int .i32 f[k]) (by simp [runes, hkf])
        generalize f[k] = r at *
        clear hl1 hl2 hr' hc
        go_wp2_with (first
          | (go_at_call 8; refine (L_begin HXV.out HRV.out).mono ?_; rintro y V1 ⟨rfl, hx, hf⟩; have HX1 := Lib.hid hx; have HF1 := Lib.hid (goL HFV.out hf); clear hx hf)
          | (go_at_call 10; refine (L_type (HX1.out.stayN ((Fr.refl _ _).alloc _)) HRV.out r _ _ (sl_one _ _) HL1.out HL2.out).mono ?_; rintro y V2 ⟨rfl, hx, hf⟩; have HX2 := Lib.hid hx; have HF2 := Lib.hid (goL (HF1.out.alloc _) hf); clear hx hf)
          | (go_at_call 9; refine (L_end_typed HX2.out HRV.out HL1.out HL2.out).mono ?_; rintro y V3 ⟨rfl, hx, hf⟩; have HX3 := Lib.hid hx; have HF3 := Lib.hid (goL HF2.out hf); clear hx hf))
        go_roundw
        case rel => exact ⟨k + 1, by omega, by go_num, _, HX3.out, HR2.out, HF3.out⟩
        case measure => simp [intOf]; omega
      · obtain rfl : k = n1 := by omega
        have hr1 := HRV.out
        rw [List.take_of_length_le (by rw [HN1.out]; exact Nat.le_refl _), List.append_nil] at hr1
        have HR1 := Lib.hid hr1
        clear hr1 HRV
        have hN : total (grpK [] f) ≤ 1000 := by rw [grpK_total, HN1.out]; simp [total]; omega
        have HN := Lib.hid hN
        clear hN
        go_wp2_with (first
          | (go_at_call 8; refine (L_begin HXV.out HR1.out).mono ?_; rintro y V1 ⟨rfl, hx, hf⟩; have HX1 := Lib.hid hx; have HF1 := Lib.hid (goL HFV.out hf); clear hx hf)
          | (go_at_call 11; refine (show Calls _ _ #[_, .int .i64 0] _ _ from L_move HX1.out HR1.out 0 (Nat.zero_le _)).mono ?_; rintro y V2 ⟨rfl, hx, hf⟩; have HX2 := Lib.hid hx; have HF2 := Lib.hid (goL HF1.out hf); clear hx hf)
          | (go_at_call 9; refine (L_end_moved HX2.out HR1.out (Nat.zero_le _)).mono ?_; rintro y V3 ⟨rfl, hx, hf⟩; have HX3' := Lib.hid hx; have HF3' := Lib.hid (goL HF2.out hf); clear hx hf))
        have hr3 := (HR1.out.moved 0 (Nat.zero_le _)).2.2
        have HR3 := Lib.hid hr3
        clear hr3
        go_loopw [12, 70] (fun _ ki V => ∃ j : Nat, j ≤ n2 ∧ ki = .int .i64 j ∧ ∃ S, Hid (EdL (fun y => y < w.heap.size) V e S) ∧ Hid (Rest1 S (s.take j ++ f) j (grpK (grpK [] f) (s.take j)) (decide (s.take j ≠ []))) ∧ Hid (Fr nob w V)) (fun _ ki _ => n2 - (intOf ki).toNat)
        case atStart => exact ⟨0, Nat.zero_le _, rfl, _, HX3'.out, HR3.out, HF3'.out⟩
        case round =>
          clear HXV HFV HX1 HF1 HX2 HF2 HX3' HF3' HR1 HR3
          obtain ⟨j, hj, rfl, T, HXV, HRV, HFV⟩ := hrel
          by_cases hjt : j < n2
          · have hjf : j < s.length := by rw [HN2.out]; exact hjt
            obtain ⟨hl1, hl2, hr'⟩ := HRV.out.more hjf (by rw [HN1.out, HN2.out]; omega) HN.out
            have HL1 := Lib.hid hl1
            have HL2 := Lib.hid hl2
            have HR2 := Lib.hid hr'
            obtain ⟨g, off, rfl, hc⟩ := (HSS.out.oldN HFV.out).at (by omega) (by decide)
            have hck := hc j (.int .i32 s[j]) (by simp [runes, hjf])
            generalize s[j] = r at *
            clear hl1 hl2 hr' hc
            go_wp2_with (first
              | (go_at_call 8; refine (L_begin HXV.out HRV.out).mono ?_; rintro y V1 ⟨rfl, hx, hf⟩; have HX1 := Lib.hid hx; have HF1 := Lib.hid (goL HFV.out hf); clear hx hf)
              | (go_at_call 10; refine (L_type (HX1.out.stayN ((Fr.refl _ _).alloc _)) HRV.out r _ _ (sl_one _ _) HL1.out HL2.out).mono ?_; rintro y V2 ⟨rfl, hx, hf⟩; have HX2 := Lib.hid hx; have HF2 := Lib.hid (goL (HF1.out.alloc _) hf); clear hx hf)
              | (go_at_call 9; refine (L_end_typed HX2.out HRV.out HL1.out HL2.out).mono ?_; rintro y V3 ⟨rfl, hx, hf⟩; have HX3 := Lib.hid hx; have HF3 := Lib.hid (goL HF2.out hf); clear hx hf))
            go_roundw
            case rel => exact ⟨j + 1, by omega, by go_num, _, HX3.out, HR2.out, HF3.out⟩
            case measure => simp [intOf]; omega
          · obtain rfl : j = n2 := by omega
            have hr1 := HRV.out
            rw [List.take_of_length_le (by rw [HN2.out]; exact Nat.le_refl _)] at hr1
            have HR1 := Lib.hid hr1
            clear hr1 HRV
            have hsf : (s ++ f).length = j + k := by rw [List.length_append, HN1.out, HN2.out]
            have HSF := Lib.hid hsf
            obtain ⟨i0, hi, hz0, hz1, hz2⟩ := info_parts Try.info_runes
            clear hsf
            go_wp2_with (first
              | (go_at_call 12; refine (clone_runes _ _ _ _ _ (HSS.out.oldN HFV.out) (by omega)).mono ?_; rintro y V1 ⟨ca, cc, rfl, ho, hf, hfresh⟩; have HO := Lib.hid ho; have HFC := Lib.hid hf; have HFRE := Lib.hid hfresh; have hsrc := ((HFS.out.oldN HFV.out).oldN hf).src (P := Try.prog) (tx := 22) (by decide) Try.underlying22; have HSRC := Lib.hid hsrc; clear ho hf hfresh hsrc)
              | (at_builtin; refine wpList_app _ rfl (.tmp 84) (.tmp 85) 22 22 rfl 21 i0 (.int .i32 0) 1 4 Try.underlying22 hi hz0 hz1 hz2 rfl (by decide) _ j _ rfl HO.out _ k _ rfl HSRC.out (by unfold maxLen; omega) (by omega) ?_; intro av c' V2 hown' hfr' hrow'; have HW := Lib.hid hown'; have HFA := Lib.hid (HFC.out.trans hfr' (fun b hb hx => absurd (HFRE.out b hx) (by omega))); clear hown' hfr' hrow')
              | (go_at_call 14; refine (L_lineV (HXV.out.stayN HFA.out) HR1.out.text HSF.out).mono ?_; rintro y V3 ⟨la, lc, lp, lm, rfl, hs3, hf3⟩; have HS3 := Lib.hid hs3; have HF3 := Lib.hid hf3; have hw3 := (show Sl V2 1 av (j + k) c' (runes (s ++ f)) from (by rw [runes_append]; exact HW.out.sl)).oldN hf3; have HW3 := Lib.hid hw3; clear hs3 hf3 hw3)
              | (go_at_call 13; refine (eqV _ _ _ _ _ _ _ _ HS3.out HW3.out (by omega)).mono ?_; rintro y V4 ⟨rfl, hf4⟩; have HF4 := Lib.hid (HFA.out.then (HF3.out.then hf4)); clear hf4))
            have hor : (V4.alloc (.cells #[.slice a2 j c2, .slice a1 k c1] 22)).heap[V4.heap.size]? = some (.cells #[.slice a2 j c2, .slice a1 k c1] 22 (0, 0)) := heap_alloc_new _ _
            have hxo := ((HXV.out.stayN HF4.out)).add (o := V4.heap.size) ((Fr.refl nob V4).alloc (.cells #[.slice a2 j c2, .slice a1 k c1] 22)) (Nat.le_refl _) (blk_lt hor)
            have hfo : Fr nob w (V4.alloc (.cells #[.slice a2 j c2, .slice a1 k c1] 22)) := (HFV.out.then HF4.out).alloc _
            have hr1 := HR1.out
            have hW4 : w.heap.size ≤ V4.heap.size := (HFV.out.then HF4.out).size
            generalize V4.alloc (.cells #[.slice a2 j c2, .slice a1 k c1] 22) = W at *
            generalize V4.heap.size = o at *
            have HXO := Lib.hid hxo
            have HFO := Lib.hid hfo
            have HOR := Lib.hid hor
            have hr2 : Rest1 T (lawL f s 0) j (lawG f s 0) (decide (s ≠ [])) := hr1
            have HR2 := Lib.hid hr2
            clear hr1 hr2 hxo hfo hor HXV HFV HR1 HW HO HFC HFRE HSRC HFA HS3 HF3 HW3 HF4
            go_loopw [15, 16, 97] (fun _ _ ki V => ∃ q : Nat, q ≤ 2 ∧ ki = .int .i64 q ∧ ∃ T p R, Hid (EdL (fun y => y < w.heap.size ∨ y = o) V e T) ∧ Hid (Rest1 T (lawL f s q) p (lawG f s q) R) ∧ Hid (Fr nob w V) ∧ Hid (V.heap[o]? = some (.cells #[.slice a2 j c2, .slice a1 k c1] 22 (0, 0)))) (fun _ _ ki _ => 2 - (intOf ki).toNat)
            case atStart => exact ⟨0, by omega, rfl, _, _, _, HXO.out, HR2.out, HFO.out, HOR.out⟩
            case round =>
              clear HXO HR2 HFO HOR
              obtain ⟨q, hq, rfl, T, p, R, HXV, HRV, HFV, HOV⟩ := hrel
              have hZ : ∀ y, y < w.heap.size → (y < w.heap.size ∨ y = o) := fun y hy => .inl hy
              have HZ := Lib.hid hZ
              clear hZ
              by_cases hqt : q < 2
              · obtain ⟨m, M, G, am, nm, ml, cm, hcell, hm, hM, hnm, hml, hL, hL', hG, hG'⟩ := law_at f s a1 a2 k j c1 c2 HN1.out HN2.out hb1 hb2 q hqt
                have hc1 : wr.cell? ⟨o, q, none⟩ = some (.slice am nm cm) := (blk_cells HOV.out q).trans hcell
                have hr := HRV.out
                rw [hL, hG] at hr
                have HR := Lib.hid hr
                have HL' := Lib.hid hL'
                have HG' := Lib.hid hG'
                have HM := Lib.hid hM
                have HMM := Lib.hid hm
                clear hr hL hL' hG hG' hcell hM hm HRV
                by_cases hz : nm = 0
                · have hm0 : m = [] := List.length_eq_zero_iff.1 (HMM.out.trans hz)
                  subst hz
                  have hr := HR.out
                  rw [hm0] at hr
                  have hr' : Rest1 T (lawL f s (q + 1)) p (lawG f s (q + 1)) R := by
                    rw [HL'.out, HG'.out]
                    exact hr
                  have HR' := Lib.hid hr'
                  clear hr hr' hm0
                  go_wp2
                  go_roundw
                  case rel => exact ⟨q + 1, by omega, by go_num, _, _, _, HXV.out, HR'.out, HFV.out, HOV.out⟩
                  case measure => simp [intOf]; omega
                · have hnz : m ≠ [] := fun h0 => hz (by rw [← HMM.out, h0]; rfl)
                  have hgr : grpK G m = G ++ [tyE m] := if_neg hnz
                  obtain ⟨hfit, hdo⟩ := tyE_do M m.length m rfl (by rw [HMM.out, HM.out]; omega)
                  have hML : M.length ≤ 1024 := by rw [HM.out]; omega
                  have hmM : (m ++ M).length = nm + ml := by rw [List.length_append, HMM.out, HM.out]
                  obtain ⟨q', hq'⟩ := (HR.out.undone G (tyE m) hgr M hML hfit hdo).2.2.2.2.2.2.2
                  have hr' : Rest1 (T.begun.undone G (tyE m)).endOk (lawL f s (q + 1)) q' (lawG f s (q + 1)) false := by
                    rw [HL'.out, HG'.out]
                    exact hq'
                  have HR' := Lib.hid hr'
                  have HT := Lib.hid hq'.text
                  have HGR := Lib.hid hgr
                  have HFIT := Lib.hid hfit
                  have HDO := Lib.hid hdo
                  have HML := Lib.hid hML
                  have HMM2 := Lib.hid hmM
                  have k0 : ((nm : Int) == 0) = false := by simp; omega
                  have k1 : (((nm + ml : Nat) : Int) - (nm : Int)) = (ml : Int) := by omega
                  clear hnz hgr hfit hdo hML hmM hq' hr'
                  go_wp2_with (first
                    | (go_at_call 8; refine (L_begin HX0.out HR.out).mono ?_; rintro y V1 ⟨rfl, hx, hf⟩; have HX1 := Lib.hid hx; have HF1 := Lib.hid (goZ HF0.out HZ.out hf); have HO1 := Lib.hid (hf.keep HO0.out (fun hm => hm.1 (.inr rfl))); clear hx hf)
                    | (go_at_call 15; refine (L_undo HX1.out HR.out HGR.out HML.out HFIT.out HDO.out).mono ?_; rintro y V2 ⟨rfl, hx, hf⟩; have HX2 := Lib.hid hx; have HF2 := Lib.hid (goZ HF1.out HZ.out hf); have HO2 := Lib.hid (hf.keep HO1.out (fun hm => hm.1 (.inr rfl))); clear hx hf)
                    | (go_at_call 9; refine (L_end_undone HX2.out HR.out HGR.out HML.out HFIT.out HDO.out).mono ?_; rintro y V3 ⟨rfl, hx, hf⟩; have HX3 := Lib.hid hx; have HF3 := Lib.hid (goZ HF2.out HZ.out hf); have HO3 := Lib.hid (hf.keep HO2.out (fun hm => hm.1 (.inr rfl))); clear hx hf)
                    | (go_at_call 14; refine (L_lineV HX3.out HT.out HM.out).mono ?_; rintro y V4 ⟨la, lc, lp, lm, rfl, hs4, hf4⟩; have HX4 := Lib.hid (HX3.out.stayN hf4); have HF4 := Lib.hid (HF3.out.then hf4); have HO4 := Lib.hid (hf4.keep HO3.out (fun h => h)); clear hs4 hf4)
                    | (go_at_call 14; refine (L_lineV HXV.out HR.out.text HMM2.out).mono ?_; rintro y V0 ⟨la0, lc0, lp0, lm0, rfl, hs0, hf0⟩; have HX0 := Lib.hid (HXV.out.stayN hf0); have HF0 := Lib.hid (HFV.out.then hf0); have HO0 := Lib.hid (hf0.keep HOV.out (fun h => h)); clear hs0 hf0))
                  go_roundw
                  case rel => exact ⟨q + 1, by omega, by go_num, _, _, _, HX4.out, HR'.out, HF4.out, HO4.out⟩
                  case measure => simp [intOf]; omega
              · obtain rfl : q = 2 := by omega
                have hr : Rest1 T [] p [] R := HRV.out
                have HR := Lib.hid hr
                have hfu := Try.field_undos
                clear hr HRV
                go_wp2_with (first
                  | (go_at_call 16; refine (L_stateV HXV.out HR.out).mono ?_; rintro y V1 ⟨x0, x1, x2, x3, x4, x5, x6, x7, x8, x9, x10, x11, x12, x13, x15, x16, rfl, hf1⟩; have HX1 := Lib.hid (HXV.out.stayN hf1); have HF1 := Lib.hid (HFV.out.then hf1); clear hf1)
                  | (go_at_call 14; refine (L_lineV HX1.out HR.out.text (rfl : ([] : List Int).length = 0)).mono ?_; rintro y V2 ⟨la, lc, lp, lm, rfl, hs2, hf2⟩; have HF2 := Lib.hid (HF1.out.then hf2); clear hs2 hf2))
                go_ret
                exact ⟨rfl, HF2.out⟩
end Go.Proofs.Ytbhklkolkclflaa
