/- Package editor: flush, typed on. -/
import Derived.Test.YtbhklkolkclflaaE11
import Derived.RangeFuncBound
import Derived.RangeFuncCalls
import Derived.RangeFuncLeaves
import Derived.RangeFuncNested
namespace Go.Proofs.Ytbhklkolkclflaa
open Go.RowKit
attribute [local go_sem] Oper.semAt_some

theorem UndosL.setTo {w w' : World} {κ κ' : Col} {i um : Nat} {u : Int → Option (List (List EditP) × Int)} {p : Int} {l : Nat} (h : UndosL w κ i um u p l) (hp : 0 ≤ p) (hu : κ um = (i, 4)) (hf : Fr (wr w (fun b => κ b = (i, 5 + p.toNat))) w w') (hk : ∀ y, y < w.heap.size → κ' y = κ y)
    {g : List (List EditP) × Int} (hl : ListRep w' (fun b => κ' b = (i, 5 + p.toNat)) l g.1 [] 0 g.2) : UndosL w' κ' i um (updU u p g) p l := by
  obtain ⟨f, h1, h2, h3, h4⟩ := h
  have hum : ¬ wr w (fun b => κ b = (i, 5 + p.toNat)) um := fun hx => by
    have h5 : κ um = (i, 5 + p.toNat) := hx.1
    rw [hu] at h5
    injection h5 with _ h5
    omega
  refine ⟨f, h1.stay hf hum, fun q hq => ?_, fun q g' hq => ?_, h4⟩
  · unfold updU at hq
    split at hq
    · cases hq
    · exact h2 q hq
  · unfold updU at hq
    split at hq
    · rename_i e
      subst e
      injection hq with hq
      subst hq
      exact ⟨hp, l, h4, hl⟩
    · rename_i hne
      obtain ⟨h0, l', h5, h6⟩ := h3 q g' hq
      refine ⟨h0, l', h5, (h6.within.stay hf (NR.wr _ _) (fun y hy hM => ?_)).mono (fun y hy => by rw [hk y hy.2]; exact hy.1)⟩
      have h7 := hy.1.symm.trans hM.1
      injection h7 with _ h7
      omega

theorem flush_end2 {w w1 V : World} {κ κ1 : Col} {i e b r k tm um h bl l D : Nat} {was : Nat → Value} {putv : Value} {S : EdState} {on : Bool} {N : Int} {F9 : Nat → Prop} (x1 : EdAt w1 κ1 i e b r k tm um h bl was putv S.listed) (u1 : UndosL w1 κ1 i um S.listed.core.undos S.core.place l)
    (hk1 : ∀ y, y < w.heap.size → κ1 y = κ y) (f1 : Fr (edM w κ) w w1) (hok : EdsOk S) (hp : S.put ≠ []) (hV : Fr (wr w1 (fun y => κ1 y = (i, 5 + S.core.place.toNat))) w1 V)
    (hl : ListRep V F9 l (preG on S.lst.1 ++ [oldG on S.lst.1 ++ S.put]) [] 0 N) (hF9 : ∀ y, F9 y → κ1 y = (i, 5 + S.core.place.toNat) ∨ w1.heap.size ≤ y) (hD9 : ¬ F9 D) (hD1 : w1.heap.size ≤ D) (hD : V.heap[D]? = some (.deferred (some []))) (hN : N = S.lst.2 + S.put.length) :
    Flushed w κ i e b r k tm um h bl was S on (.returned (.tuple #[])) (World.putObj (V.setCell ⟨e, 33, none⟩ (.slice none 0 0)) D (.deferred none)) := by
  subst hN
  have hg : flushG on S.lst S.put = (preG on S.lst.1 ++ [oldG on S.lst.1 ++ S.put], S.lst.2 + S.put.length) := flushG_eq on S.lst S.put
  have hpo : ∀ y, y < w1.heap.size → (fun y => if y < w1.heap.size then κ1 y else if y = D then (0, 0) else (i, 5 + S.core.place.toNat)) y = κ1 y := fun y hy => if_pos hy
  have hu2 := u1.setTo (κ' := fun y => if y < w1.heap.size then κ1 y else if y = D then (0, 0) else (i, 5 + S.core.place.toNat)) (g := flushG on S.lst S.put) hok.place x1.core.cu hV hpo (by
    rw [hg]
    refine hl.mono (fun y hy => ?_)
    show (if y < w1.heap.size then κ1 y else if y = D then (0, 0) else (i, 5 + S.core.place.toNat)) = _
    by_cases hlt : y < w1.heap.size
    · rw [if_pos hlt]
      exact (hF9 y hy).elim id (fun h => by omega)
    · rw [if_neg hlt, if_neg (fun h => hD9 (by rw [← h]; exact hy))])
  have hci := x1.ci
  have hnr : NR w1 (wr w1 (fun y => κ1 y = (i, 5 + S.core.place.toNat))) := NR.wr _ _
  have hm4 : ∀ y, wr w1 (fun y => κ1 y = (i, 5 + S.core.place.toNat)) y → y < w1.heap.size → ∃ j, κ1 y = (i, 4 + j) := fun y hy _ => ⟨1 + S.core.place.toNat, by rw [hy.1]; congr 1; omega⟩
  have hmi : ∀ y, wr w1 (fun y => κ1 y = (i, 5 + S.core.place.toNat)) y → y < w1.heap.size → (κ1 y).1 = i := fun y hy _ => by rw [hy.1]
  have hx2 := x1.setCore hV hnr hmi hpo (x1.core.setUndos hV hnr hm4 hpo hu2.at) rfl
  have hκD : (fun y => if y < w1.heap.size then κ1 y else if y = D then (0, 0) else (i, 5 + S.core.place.toNat)) D = (0, 0) := by
    show (if D < w1.heap.size then _ else _) = _
    rw [if_neg (by omega), if_pos rfl]
  generalize (fun y => if y < w1.heap.size then κ1 y else if y = D then (0, 0) else (i, 5 + S.core.place.toNat)) = κ2 at *
  rw [show updU S.listed.core.undos S.core.place (flushG on S.lst S.put) = updU S.core.undos S.core.place (flushG on S.lst S.put) from updU_twice _ _ _ _] at hx2
  have hS : S.flushed on = { S with core := { S.core with undos := updU S.core.undos S.core.place (flushG on S.lst S.put) }, put := [] } := by
    unfold EdState.flushed
    rw [if_neg hp]
    rfl
  have hblk := heap_setCell_same (o := 33) hx2.blk (.slice none 0 0)
  have hfe : Fr (one e) V (V.setCell ⟨e, 33, none⟩ (.slice none 0 0)) := (Fr.refl _ _).setOne _ _
  have hke : κ2 e ≠ (0, 0) := by rw [hx2.ce]; decide
  have hf2 : Fr (edM w1 κ1) w1 V := hV.wr (fun y _ hy => by rw [show κ1 y = _ from hy.1]; intro h0; injection h0 with h0 _; omega) hnr
  have hk2 : ∀ y, y < w.heap.size → κ2 y = κ y := fun y hy => (hpo y (Nat.lt_of_lt_of_le hy f1.size)).trans (hk1 y hy)
  have hDe : D ≠ e := fun h => by rw [h, hx2.ce] at hκD; cases hκD
  have hD2 : (V.setCell ⟨e, 33, none⟩ (.slice none 0 0)).heap[D]? = some (.deferred (some [])) := hfe.keep hD (fun h => hDe h)
  have hfD : Fr (one D) (V.setCell ⟨e, 33, none⟩ (.slice none 0 0)) (World.putObj (V.setCell ⟨e, 33, none⟩ (.slice none 0 0)) D (.deferred none)) := (Fr.refl _ _).putObj _ _ (fun _ => rfl)
  have hnD : NR (V.setCell ⟨e, 33, none⟩ (.slice none 0 0)) (one D) := fun y c fr hb hy => by
    cases hy
    rw [hD2] at hb
    cases hb
  have hx3 : EdAt (V.setCell ⟨e, 33, none⟩ (.slice none 0 0)) κ2 i e b r k tm um h bl was (.slice none 0 0) (S.flushed on) := by
    rw [hS]
    refine EdAt.setE hci hx2.ce hx2.blk hfe ?_ hx2.core ⟨hx2.rest.hist, hx2.rest.cb, hx2.rest.bells, EdS.none _, fun y ⟨_, _, _, h, _⟩ => by cases h⟩ hx2.wone hx2.inn
    exact hblk
  refine ⟨rfl, κ2, .slice none 0 0, hx3.stay hfD hnD (fun y hy _ => by cases hy; exact hκD) (fun _ _ => rfl), hk2, ?_⟩
  have h3 : Fr (edM V κ2) V (V.setCell ⟨e, 33, none⟩ (.slice none 0 0)) := edM.of hfe (NR.one hx2.blk (by decide)) (fun y _ hy => by cases hy; exact hke)
  have h4 := edM.trans (edM.trans f1 hk1 hf2) hk2 h3
  have hws : w.heap.size ≤ D := Nat.le_trans f1.size hD1
  exact h4.trans hfD (fun y hy hM => by cases hM; omega)

theorem FlSt.setOld {w1 V : World} {F0 F : Nat → Prop} {l ob D : Nat} {oldv v : Value} {old g : List EditP} {gs : List (List EditP)} {n opn : Int} (h : FlSt w1 F0 l ob oldv old gs n D none F opn V) (hF : ∀ y, F y → y < w1.heap.size) (ho : EdS V v g) (hr : ∀ y, rowOf v y → w1.heap.size ≤ y) :
    FlSt w1 F0 l ob v g gs n D none F opn (V.setCell ⟨ob, 0, none⟩ v) := by
  have hf : Fr (one ob) V (V.setCell ⟨ob, 0, none⟩ v) := (Fr.refl _ _).setOne _ _
  have hnr : NR V (one ob) := NR.one h.box (by decide)
  have hl := h.lbox
  exact ⟨h.lst.stay hf hnr (fun y hy hM => by cases hM; exact h.nbox hy), fun y hy => Nat.lt_of_lt_of_le (h.bd y hy) hf.size, h.f0, h.fr.trans hf (fun b hb hx => by cases hx; omega), heap_setCell_same (o := 0) h.box v, h.nbox, h.lbox,
    ho.stay hf hnr (fun y hy => ho.rowNe hy h.box (by decide)), fun y hy => ⟨fun hx => by have := hF y hx; have := hr y hy; omega, hr y hy⟩, fun o ho => by cases ho⟩

set_option maxRecDepth 100000 in
set_option maxHeartbeats 4000000 in
theorem ed_flush_on (w : World) (κ : Col) (i e b r k tm um h bl : Nat) (was : Nat → Value) (putv : Value) (S : EdState) (x : EdAt w κ i e b r k tm um h bl was putv S) (hp : S.put ≠ []) (hok : EdsOk S) (pre : List (List EditP)) (g : List EditP) (hg : S.lst.1 = pre ++ [g]) :
    Calls Try.prog 27 #[.pointer (some ⟨e, 0, none⟩), .bool true] w (Flushed w κ i e b r k tm um h bl was S true) := by
  obtain ⟨a, c, hpv, _⟩ := x.rest.put.val
  have hc : w.cell? ⟨e, 33, none⟩ = some (.slice a S.put.length c) := by rw [blk_cells x.blk, hpv]; rfl
  have hpos : 0 < S.put.length := List.length_pos_iff.2 hp
  have HL := Lib.hid (ed_list w κ i e b r k tm um h bl was putv S x hok.place)
  have HOK := Lib.hid hok
  have HP := Lib.hid hp
  have hn1 : ((S.put.length : Int) == 0) = false := by rw [beq_eq_false_iff_ne]; omega
  have HPV := Lib.hid hpv
  have HG := Lib.hid hg
  generalize hpl : S.put.length = pl at *
  have HPL := Lib.hid hpl
  clear x hp hpv hok hpl hg
  refine callsIn_wide.1 (callsIn_of_wp_marks (F := Fence.wide) (n := 10) Try.func27 rfl trivial (wpIn_wide.2 ?_) rfl)
  simp only [Try.ntmps27, List.size_toArray, List.length_cons, List.length_nil, Nat.reduceAdd, Nat.reduceSub, Array.replicate_succ, Array.replicate_zero, List.push_toArray, List.append_toArray, List.nil_append, List.cons_append]
  go_wp2_with (first
    | (go_at_call 33; refine (HL.out).mono ?_; rintro y w1 ⟨l, κ1, rfl, hx1, hu1, hk1, hf1⟩; have HX1 := Lib.hid hx1; have HU1 := Lib.hid hu1; have HK1 := Lib.hid hk1; have HF1 := Lib.hid hf1; have hci1 := hx1.ci; have hll := (hu1.list S.listed_at).2; rw [HOK.out.lst.cnt, HG.out] at hll; have HLL := Lib.hid hll; have HGR := Lib.hid (fun (V : World) (hV : Fr nob w1 V) => undo_groups V _ l _ _ _ (hll.stayN hV) (HG.out ▸ HOK.out.lst.smalls)); clear hx1 hu1 hk1 hf1 hll)
    | (go_at_call 53; refine (HGR.out _ (by exact (Fr.refl _ _).alloc _)).mono ?_; rintro y w2 ⟨x, ag, cg, vs, rfl, hx, hxb, hbody, hf2⟩; rw [List.reverse_append, List.reverse_singleton, List.singleton_append] at hxb hbody; have HXB := Lib.hid hxb; have HBO := Lib.hid hbody; have HF2 := Lib.hid hf2; clear hxb hbody hf2 HGR))
  have hsz2 : w1.heap.size + 1 ≤ w2.heap.size := by have := HF2.out.size; simpa using this
  have hfl : FlSt w1 (fun y => κ1 y = (i, 5 + S.core.place.toNat)) l w1.heap.size (.slice none 0 0) [] (pre ++ [g]) (total (pre ++ [g])) 0 none (fun y => κ1 y = (i, 5 + S.core.place.toNat) ∧ y < w1.heap.size) 0 w2 :=
    FlSt.quiet ⟨HLL.out.within.stayN ((Fr.refl nob w1).alloc _), fun y hy => by have := hy.2; simp; omega, fun y hy => .inl hy.1, (Fr.refl _ _).alloc _, heap_alloc_new _ _, fun h => by have := h.2; omega, Nat.le_refl _, EdS.none _, fun y ⟨_, _, _, h, _⟩ => (by cases h), fun o ho => (by cases ho)⟩ HF2.out
  have HFL := Lib.hid hfl
  have hgne : g ≠ [] := HOK.out.lst.ne g (by rw [HG.out]; simp)
  have hgs : Small g := HOK.out.lst.small g (by rw [HG.out]; simp)
  have HGN := Lib.hid hgne
  have HGS := Lib.hid hgs
  have hpl2 : pre.reverse.length ≤ 100000 := by
    have := HOK.out.lst.smalls.1
    rw [HG.out, List.length_append] at this
    rw [List.length_reverse]
    omega
  have HPR := Lib.hid hpl2
  clear hfl hgne hgs hpl2 hx
  refine (wpIn_wide (n := 10)).1 ?_
  refine range_break 78 #[.pointer (some ⟨x, 0, none⟩)] rfl ?hinv 0 (fun args V => ∃ a3 c3, args = #[.slice a3 g.length c3] ∧ EdS V (.slice a3 g.length c3) g ∧ ∀ y, rowOf (.slice a3 g.length c3) y → w2.heap.size ≤ y) ?hit ?hsz
    (fun args => #[.pointer (some ⟨e, 0, none⟩), .bool true, undef, undef, .pointer (some ⟨l, 0, none⟩), .pointer (some ⟨w1.heap.size, 0, none⟩), undef, undef, undef, .pointer (some ⟨e, 0, none⟩), .pointer (some ⟨e, 0, none⟩), .pointer (some ⟨e, 33, none⟩), .slice a pl c, .int .i64 pl, .bool false, .pointer (some ⟨e, 0, none⟩), .pointer (some ⟨l, 0, none⟩), .bool true, .pointer (some ⟨l, 0, none⟩), .func (.func 78) #[] #[.pointer (some ⟨x, 0, none⟩)], args.getD 0 undef, undef, undef, undef, undef, undef, undef, undef, undef, undef, undef, undef, undef, undef, undef, undef, undef, undef, undef, undef, undef, undef, undef, undef, undef, undef, undef]) ?hT
    (fun V => ∃ ao co, FlSt w1 (fun y => κ1 y = (i, 5 + S.core.place.toNat)) l w1.heap.size (.slice ao g.length co) g (pre ++ [g]) (total (pre ++ [g])) 0 none (fun y => κ1 y = (i, 5 + S.core.place.toNat) ∧ y < w1.heap.size) 0 V) ?hU ?hround ?hdone
  case hinv => intro l W; rfl
  case hit =>
    intro lp W J1 hW hY
    refine groups_first _ lp x (by omega) W _ ag cg vs g pre.reverse J1 (hW.keep HXB.out (fun h => h)) (HBO.out.stay hW (NR.nob _) (fun _ _ _ h => h)) HGS.out HPR.out ?_
    intro V a3 c3 hV hE hr
    exact hY V _ hV ⟨a3, c3, rfl, hE, fun y hy => Nat.le_trans hW.size (hr y hy)⟩
  case hsz =>
    rintro args V ⟨a3, c3, rfl, _⟩
    rfl
  case hT =>
    rintro args V ⟨a3, c3, rfl, _⟩
    exact (zip1 _ _ _).trans rfl
  case hU =>
    rintro V V' ⟨ao, co, h⟩ hf hc
    exact ⟨ao, co, h.off hf hc (fun y hy hM => by have := hy.2; rcases hM with rfl | rfl <;> omega) (fun y hM => by rcases hM with rfl | rfl <;> omega)⟩
  case hround =>
    rintro args W hW ⟨a3, c3, rfl, hE, hr⟩ hlt hnc
    have HE := Lib.hid hE
    have HR := Lib.hid hr
    have HNC := Lib.hid hnc
    have HW := Lib.hid (HFL.out.quiet hW)
    clear hE hr hW hnc
    generalize hgl : g.length = gl at *
    have HGL2 := Lib.hid hgl
    clear hgl
    gi_wp2
    refine ⟨trivial, trivial, ?_⟩
    intro W2 hlt2 hf2 hnc2
    have hW2 := HW.out.off hf2 (fun y hy c T fr => HNC.out y (.inr hy) c T fr) (fun y hy hM => by cases hM; have := hy.2; omega) (fun y hM => by cases hM; omega)
    have HW2 := Lib.hid hW2
    have hE2 : EdS W2 (.slice a3 gl c3) g := HE.out.stay hf2 (fun y c fr hb hy => HNC.out y (.inr hy) c _ fr hb) (fun y hy hM => by
      obtain ⟨⟨xs, ho, _⟩, _⟩ := HE.out
      obtain ⟨c, fr, hb⟩ := ho.rowTy hy
      exact HNC.out y (.inr hM) c _ fr hb)
    obtain ⟨hgn, xs, hs1, hs2⟩ := hE2.sl
    have hCL := clone_edits W2 a3 gl c3 xs hs1 (by have := HGS.out.1; have := HGL2.out; omega)
    have HCL := Lib.hid hCL
    have HS2 := Lib.hid hs2
    have HNC2 := Lib.hid hnc2
    clear hW2 hE2 hgn hs1 hs2 hCL hf2 hnc2
    gi_wp2
    refine ⟨trivial, (CallsIn.inRound (w2.heap.size + 1) (callsIn_wide.2 HCL.out)).mono ?_⟩
    rintro y W3 ⟨a4, c4, rfl, ho4, hf4, hr4⟩
    have hw3 := HW2.out.quiet hf4
    have hcb3 := blk_cells hw3.box
    have hzb3 := blk_free hw3.box
    have hlb3 := blk_lt hw3.box
    have HW3 := Lib.hid hw3
    have HO4 := Lib.hid ho4
    have HF4 := Lib.hid hf4
    have HR4 := Lib.hid hr4
    clear ho4 hf4 hr4 hw3
    gi_wp2
    have hgp : 0 < gl := by have := List.length_pos_iff.2 HGN.out; have := HGL2.out; omega
    have hE4 : EdS W3 (.slice a4 gl c4) g := ⟨⟨xs, by rw [HGL2.out]; exact HO4.out, HS2.out.stay HF4.out (NR.nob _)⟩, (OwnZ.of HO4.out hgp).nil⟩
    have hs2 : w2.heap.size + 1 < W2.heap.size := hlt2
    refine ⟨⟨a4, c4, HW3.out.setOld (fun y hy => hy.2) hE4 (fun y hy => by have := HR4.out y hy; omega)⟩, ?_, ?_⟩
    · exact (heap_setCell_ne (by show w2.heap.size ≠ w1.heap.size; omega) _).trans (HF4.out.blk _ (by omega) (fun h => h))
    · exact ((heap_setCell_ne (by show w2.heap.size + 1 ≠ w1.heap.size; omega) _).trans (HF4.out.blk _ (by omega) (fun h => h))).trans (Array.getElem?_eq_getElem hlt2)
  case hdone =>
    rintro V ⟨ao, co, hst⟩ hD hlt
    have hst2 : FlSt w1 (fun y => κ1 y = (i, 5 + S.core.place.toNat)) l w1.heap.size (.slice ao g.length co) g (pre ++ [g]) (total (pre ++ [g])) w2.heap.size (some (.deferred (some []))) (fun y => κ1 y = (i, 5 + S.core.place.toNat) ∧ y < w1.heap.size) 0 V :=
      ⟨hst.lst, hst.bd, hst.f0, hst.fr, hst.box, hst.nbox, hst.lbox, hst.old, hst.nold, fun o ho => by injection ho with ho; subst ho; exact ⟨hD, fun h => by have := h.2; omega, fun c T fr h => by cases h⟩⟩
    have htot : ((total (pre ++ [g]) : Nat) : Int) - (g.length : Nat) = (total pre : Nat) := by rw [total_append, total_one]; omega
    have hle : total (pre ++ [g]) ≤ 16384 := by have := HOK.out.lst.le; rwa [HG.out] at this
    have hpl3 : (pre ++ [g]).length ≤ 100000 := by have := HOK.out.lst.smalls.1; rwa [HG.out] at this
    have HUN := Lib.hid (undo_undo V _ l (pre ++ [g]) [] 0 _ pre g hst2.lst rfl HGS.out hpl3 (by simp) (by omega) (by omega))
    have HST := Lib.hid hst2
    have HTOT := Lib.hid htot
    have hgl9 : g.length ≤ 16384 := by rw [total_append, total_one] at hle; omega
    have HOL := Lib.hid hgl9
    have HSUM0 := Lib.hid (show g.length + pl + total pre ≤ 16384 from by
      have h1 := HOK.out.room
      have h2 := HPL.out
      rw [HG.out, total_append, total_one] at h1
      omega)
    have HGL := Lib.hid (show pre.length ≤ 100000 from by rw [List.length_append] at hpl3; omega)
    have HALL0 := Lib.hid (show ∀ x ∈ g ++ S.put, EdOk x from fun x hx => (List.mem_append.1 hx).elim (HOK.out.lst.ok g (by rw [HG.out]; simp) x) (HOK.out.put x))
    clear hst hst2 hD hlt htot hle hpl3 hgl9
    generalize hgl : g.length = gl at *
    have HGL2 := Lib.hid hgl
    have HSUM := HSUM0
    clear hgl HSUM0
    go_wp2_with (first
      | (go_at_call 34; refine (HUN.out).mono ?_; rintro y V0 ⟨au, cu, rfl, _, _, hl0, hf0⟩; rw [HGL2.out, HTOT.out] at hl0; have HS0 := Lib.hid (HST.out.call hl0 hf0); clear hl0 hf0))
    go_wp2_with (first
      | (go_at_call 55; refine (undo_begin _ _ l _ _ _ _ HS0.out.lst (by decide)).mono ?_; rintro y V1 ⟨rfl, hl1, hf1⟩; have HS1 := Lib.hid (HS0.out.call (show ListRep V1 _ l pre [] 1 _ from hl1) hf1); clear hl1 hf1))
    have hcb := blk_cells HS1.out.box
    have HF0 := Lib.hid (HS1.out.fr)
    have hnE : ¬ wr w1 (fun y => κ1 y = (i, 5 + S.core.place.toNat)) e := fun hy => by
      have h1 : κ1 e = (i, 5 + S.core.place.toNat) := hy.1
      rw [HX1.out.ce] at h1
      injection h1 with h1 _
      omega
    have he33 : V1.cell? ⟨e, 33, none⟩ = some (.slice a pl c) := by
      rw [blk_cells (HF0.out.keep HX1.out.blk hnE), HPV.out]
      rfl
    have hputs : EdS V1 (.slice a pl c) S.put := by
      have h1 : EdS w1 putv S.put := HX1.out.rest.put
      have h2 := h1.stay HF0.out (NR.wr _ _) (fun y hy hM => by
        have h3 := HX1.out.rest.mp y hy
        have h4 : κ1 y = (i, 5 + S.core.place.toNat) := hM.1
        rw [h3] at h4
        injection h4 with h4 _
        omega)
      rwa [HPV.out] at h2
    obtain ⟨⟨xo, hxo1, hxo2⟩, _⟩ := HS1.out.old
    rw [HGL2.out] at hxo1
    obtain ⟨hpn, xp, hxp1, hxp2⟩ := hputs.sl
    have HPN := Lib.hid hpn
    have HXO := Lib.hid hxo1
    have HXE := Lib.hid hxo2
    have HXP := Lib.hid hxp1
    have HXQ := Lib.hid hxp2
    have hput4 : S.put.length ≤ 16384 := Nat.le_trans (Nat.le_add_left _ _) HOK.out.room
    have hold4 : gl ≤ 16384 := HOL.out
    have hpl4 : pl ≤ 16384 := by have := HPL.out; omega
    have b1 : gl + pl ≤ maxLen := by unfold maxLen; omega
    have b2 : (gl + pl) * 56 ≤ 140737488355328 := by omega
    have HB1 := Lib.hid b1
    have HB2 := Lib.hid b2
    obtain ⟨i0, hi0, hz0, hz1, hz2⟩ := info_parts Try.info_edits
    have hnE2 := Lib.hid hnE
    clear hputs hpn hxo1 hxo2 hxp1 hxp2 hput4 hold4 b1 b2 hnE
    obtain ⟨m, hmm⟩ : ∃ m, gl + pl = m := ⟨_, rfl⟩
    have HMM := Lib.hid hmm
    clear hmm
    have HKP : Hid (∀ V V2 : World, Fr nob V1 V → Fr (rowOf (.slice ao gl co)) V V2 → V2.cell? ⟨w1.heap.size, 0, none⟩ = some (.slice ao gl co) ∧ V2.cell? ⟨e, 33, none⟩ = some (.slice a pl c)) := fun V V2 h1 h2 => by
      have ho := HXO.out.stay h1 (fun _ _ _ _ h => h)
      have h3 := h1.keep HS1.out.box (fun h => h)
      have h4 := h1.keep (HF0.out.keep HX1.out.blk hnE2.out) (fun h => h)
      have h5 := blk_cells (h2.keep h3 (fun hr => ho.rowNe hr h3 (by decide) rfl))
      have h6 := blk_cells (h2.keep h4 (fun hr => ho.rowNe hr h4 (by decide) rfl))
      exact ⟨by rw [h5]; rfl, by rw [h6, HPV.out]; rfl⟩
    go_region_held3 (fun V => V.cell? ⟨w1.heap.size, 0, none⟩ = some (.slice ao gl co) ∧ V.cell? ⟨e, 33, none⟩ = some (.slice a pl c))
      ((first | (with_reducible assumption) | (go_keep; done)))
      ((refine step_app rfl (.tmp 27) (.tmp 31) 67 67 rfl 82 i0 _ 3 56 Try.underlying67 hi0 hz0 hz1 hz2 rfl (by decide) _ gl xo rfl (by exact HXO.out.stay (Fr.refl nob V1).drew (fun _ _ _ _ h => h)) _ pl xp rfl (by exact (HXP.out.oldN (Fr.refl nob V1).drew).src (P := Try.prog) (tx := 67) (by simp) Try.underlying67) HB1.out HB2.out ?_; intro av c2 V2 hown2 hfr2 hrow2; rw [HMM.out] at hown2 hrow2 ⊢; have hkp2 := HKP.out _ _ (Fr.refl nob V1).drew hfr2; have HO2 := Lib.hid hown2; have HFR2 := Lib.hid hfr2; have HRW2 := Lib.hid hrow2; clear hown2 hfr2 hrow2))
    have hlp := HS1.out.app (put := S.put) HXE.out HXQ.out (by rw [HPL.out, HGL2.out, HMM.out]; exact HO2.out) HP.out (Fr.ofDrew HFR2.out) HRW2.out (by rw [HGL2.out]; exact HXO.out)
    have hml : (g ++ S.put).length = m := by rw [List.length_append, HPL.out, HGL2.out, HMM.out]
    have hmp : 0 < m := by have := HMM.out; omega
    have hmx : m + total (pre) ≤ 16384 := by have := HSUM.out; have := HMM.out; omega
    have HLP := Lib.hid hlp
    have HML := Lib.hid hml
    have hmI : (m : Int) ≤ 16384 := by omega
    have HMX := Lib.hid hmx
    have HALL := Lib.hid (show ∀ x ∈ g ++ S.put, EdOk x from HALL0.out)
    generalize hes : g ++ S.put = es at *
    have HES := Lib.hid hes
    clear hkp2 HO2 HFR2 HRW2 HKP hlp hml hmx hes he33 hcb HXO HXE HXP HXQ HS1 HS0 HB1 HB2 hpl4
    go_wp2
    go_loopw [8, 34] (fun _ ki V => ∃ (kk : Nat) (F : Nat → Prop), kk ≤ m ∧ ki = .int .i64 kk ∧ Hid (FlLp w1 (fun y => κ1 y = (i, 5 + S.core.place.toNat)) l (.slice av m c2) es (pre) ((total (pre) + kk : Nat) : Int) w2.heap.size (some (.deferred (some []))) F kk V)) (fun _ ki _ => m - (intOf ki).toNat)
    case atStart => exact ⟨0, _, Nat.zero_le _, rfl, (HLP.out.quiet (by first | exact Fr.refl _ _ | exact (Fr.refl nob V2).drew | exact (Fr.refl nob V2).drewN _))⟩
    case round =>
      obtain ⟨kk, F, hk, rfl, HF⟩ := hrel
      by_cases hkt : kk < m
      · have hke : kk < es.length := by have := HML.out; omega
        obtain ⟨hmn, xs, hs1, hs2⟩ := HF.out.tmp.sl
        obtain ⟨g, off, d, cd, ii, ci, rfl, c0, c1, c3, hE⟩ := edit_at hs1 hs2 kk hke
        have hsm := HALL.out _ (List.getElem_mem hke)
        have htk : es.take (kk + 1) = es.take kk ++ [es[kk]] := by rw [List.take_succ_eq_append_getElem hke]
        have HT := Lib.hid htk
        generalize hp : es[kk] = p at *
        obtain ⟨f, ds, is⟩ := p
        simp only at c0 c1 c3 hE
        have HE := Lib.hid hE
        have HSM := Lib.hid hsm
        generalize hx : ds.length = nd at *
        generalize hy : is.length = ni at *
        have HX := Lib.hid hx
        have HY := Lib.hid hy
        have htl : (es.take kk).length ≤ 100000 := by
          have := HML.out
          have := HMX.out
          rw [List.length_take]
          omega
        have HTL := Lib.hid htl
        clear hE hsm htk hp hx hy hmn hs1 hs2 htl
        go_wp2_with fail
        refine (undo_add _ _ l _ _ (total (pre) + kk) _ f ds is (HF.out.lst.stayN ((Fr.refl _ _).alloc _)) (HE.out.stay ((Fr.refl _ _).alloc _) (NR.nob _)) HSM.out.1 (Nat.le_trans HSM.out.2.1 (by omega)) (Nat.le_trans HSM.out.2.2.1 (by omega)) HSM.out.2.2.2 (by have := HMX.out; omega) HTL.out).mono ?_
        rintro y V3 ⟨rfl, hl3, hf3⟩
        have HL3 := Lib.hid hl3
        have HF3 := Lib.hid hf3
        clear hl3 hf3
        go_wp2
        go_roundw
        case rel =>
          have h9 := HL3.out
          rw [show ((total (pre) + kk : Nat) : Int) + 1 = ((total (pre) + (kk + 1) : Nat) : Int) by omega, ← HT.out] at h9
          exact ⟨kk + 1, fun y => plus _ F y ∧ y < _, by omega, by go_num, FlLp.call (HF.out.quiet ((Fr.refl nob _).alloc _)) h9 HF3.out⟩
        case measure => simp [intOf]; omega
      · have hq : kk = m := by omega
        subst hq
        have hfin : es.take kk = es := List.take_of_length_le (by have := HML.out; omega)
        have hlst := HF.out.lst
        rw [hfin] at hlst
        have hgl : (pre).length ≤ 100000 := HGL.out
        have HE4 := Lib.hid (undo_end _ _ l (pre) es 1 _ hlst hgl rfl)
        have HF9 := HF.out.f0
        have HF8 := Lib.hid HF9
        have HFR9 := Lib.hid HF.out.fr
        have HDFR := Lib.hid HF.out.dfr
        clear hlst hfin hgl HF HF9
        go_wp2_with fail
        refine (HE4.out).mono ?_
        rintro y V4 ⟨rfl, hl4, hf4⟩
        have hfr4 := wrSub HFR9.out hf4 HF8.out
        have HFW4 := Lib.hid hf4
        have hb4 := hfr4.keep HX1.out.blk hnE2.out
        have hz4 := blk_free hb4
        have hlt4 := blk_lt hb4
        have hc4 : V4.cell? ⟨e, 33, none⟩ = some putv := by
          rw [blk_cells hb4]
          rfl
        have HL4 := Lib.hid hl4
        have HFR4 := Lib.hid hfr4
        clear hl4 hf4 hfr4 hb4
        go_wp2
        obtain ⟨hDV, hDF, _⟩ := HDFR.out _ rfl
        have hDlt := blk_lt hDV
        have hD4 : V4.heap[w2.heap.size]? = some (.deferred (some [])) := HFW4.out.keep hDV (fun h => hDF h.1)
        have hcl : closed (pre) es = (pre) ++ [es] := by
          unfold closed
          rw [if_neg (by have := HML.out; omega)]
        have hl9 := HL4.out
        rw [hcl, ← HES.out] at hl9
        have hs9 : w1.heap.size ≤ wr.heap.size := HFR9.out.size
        have hDe : w2.heap.size ≠ e := by have := HX1.out.lt; omega
        have hD5 : (V4.setCell ⟨e, 33, none⟩ (.slice none 0 0)).heap[w2.heap.size]? = some (.deferred (some [])) := (heap_setCell_ne hDe _).trans hD4
        refine ⟨by simp, .inl ⟨_, _, rfl, run_takeDeferred hD5, ?_⟩⟩
        refine ⟨_, results_none rfl _ _ _, ?_⟩
        have hF9 : ∀ y, plus wr F y → κ1 y = (i, 5 + S.core.place.toNat) ∨ w1.heap.size ≤ y := fun y hy => by
          rcases hy with hy | hy
          · exact HF8.out y hy
          · exact .inr (by omega)
        have hD9 : ¬ plus wr F w2.heap.size := fun hy => by
          rcases hy with hy | hy
          · exact hDF hy
          · omega
        refine flush_end2 (N := (total pre + kk : Nat)) HX1.out HU1.out HK1.out HF1.out HOK.out HP.out HFR4.out (F9 := plus wr F) ?_ hF9 hD9 (by omega) hD4 ?_
        · have hpr : preG true S.lst.1 = pre := by unfold preG; rw [HG.out]; simp
          have hol : oldG true S.lst.1 = g := by unfold oldG; rw [HG.out]; simp
          rw [hpr, hol]
          exact hl9
        · have h1 := HOK.out.lst.cnt
          rw [HG.out, total_append, total_one] at h1
          have h2 := HMM.out
          have h3 := HPL.out
          have h4 := HGL2.out
          omega

theorem ed_flush (w : World) (κ : Col) (i e b r k tm um h bl : Nat) (was : Nat → Value) (putv : Value) (S : EdState) (on : Bool) (x : EdAt w κ i e b r k tm um h bl was putv S) (hok : EdsOk S) (hon : on = true → S.lst.1 ≠ []) :
    Calls Try.prog 27 #[.pointer (some ⟨e, 0, none⟩), .bool on] w (Flushed w κ i e b r k tm um h bl was S on) := by
  by_cases hp : S.put = []
  · exact ed_flush_nil w κ i e b r k tm um h bl was putv S on x hp
  · cases on with
    | false => exact ed_flush_off w κ i e b r k tm um h bl was putv S x hp hok
    | true =>
      rcases List.eq_nil_or_concat S.lst.1 with h0 | ⟨pre, g, hg⟩
      · exact absurd h0 (hon rfl)
      · rw [List.concat_eq_append] at hg
        exact ed_flush_on w κ i e b r k tm um h bl was putv S x hp hok pre g hg
end Go.Proofs.Ytbhklkolkclflaa
