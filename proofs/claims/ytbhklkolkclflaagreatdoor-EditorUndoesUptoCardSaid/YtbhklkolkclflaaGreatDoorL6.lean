/- The law EditorKills: its calls. -/
import Derived.Test.YtbhklkolkclflaaGreatDoorP3
import Derived.Test.YtbhklkolkclflaaGreatDoorE26
import Derived.Test.YtbhklkolkclflaaGreatDoorL2
namespace Go.Proofs.YtbhklkolkclflaaGreatDoor
open Go.RowKit

/-- A new editor stands for a law; where it lies. -/
theorem newL2 {w0 w w' : World} {base most : Int} {x : Ending} (h : EdNew w [] base most x w') (hf : Fr nob w0 w) :
    ∃ e, x = .returned (.tuple #[.pointer (some ⟨e, 0, none⟩), .int .i64 0]) ∧ EdL (fun y => y < w0.heap.size) w' e (newState [] base most) ∧ w.heap.size ≤ e ∧ Fr nob w w' := by
  obtain ⟨e, κ, rfl, he, hk, hr, hf2⟩ := h
  refine ⟨e, rfl, ⟨paint κ w'.heap.size (0, 0), hr.stay (Fr.refl nob w') (NR.nob _) (fun _ h _ => h.elim) (paint_old _ _ _), fun y hy => ?_, paint_new _ _ _⟩, he, hf2⟩
  have h1 := hf.size
  have h2 := hf2.size
  have hy' : y < w0.heap.size := hy
  exact ⟨by rw [paint_old _ _ _ _ (by omega)]; exact hk y (by omega), by omega⟩

theorem Rest1.started (L : List Int) (hL : L.length ≤ 1024) (b m b2 m2 : Int) : Rest1 ((newState [] b m).started L [] b2 m2) L L.length [] false := by
  refine ⟨⟨(fun p g hp => by cases hp), (fun e he => absurd he (by simp [EdState.started, newState])), ?_, Int.le_refl 0⟩, rfl, rfl, rfl, rfl, rfl, rfl, rfl, rfl, rfl, hL, Nat.le_refl _, fun h => by cases h⟩
  show total [] + 0 ≤ 16384
  decide
theorem RestK.of {S : EdState} {L : List Int} {a : Nat} (h : Rest1 S L a [] false) (hr : S.core.rpl = 0) (hb : S.bells = 0) : RestK S L a a :=
  ⟨h.ok, h.inn, h.over, h.place, by rw [h.text, List.take_append_drop], h.point, Nat.le_refl _, h.le, h.len, h.run, hr, by rw [h.grp]; simp [total], .inl ⟨h.ents, rfl⟩, hb⟩

section
variable {Z : Nat → Prop} {w : World} {e : Nat} {S : EdState} {L : List Int} {a b : Nat}
theorem K_start (x : EdL Z w e S) (hin : S.f.inn = false) {F : Nat → Prop} {h2 : Nat} {hs : List (ByteArray × Int)} {base most : Int} (hh : HistRep w F h2 hs base most) (hhl : hs.length ≤ 100000) (heF : ¬ F e) (ad : Option Addr) (n c : Nat) (hn : L.length = n) (hl : Sl w 1 ad n c (runes L)) (hL : n ≤ 1024) :
    Calls Tryz.prog 23 #[.pointer (some ⟨e, 0, none⟩), .pointer (some ⟨h2, 0, none⟩), .slice ad n c] w (EdGo Z w e (.int .i64 0) (S.started L hs base most)) :=
  x.call fun _ _ _ _ _ _ _ _ _ _ _ y => ed_start _ _ _ _ _ _ _ _ _ _ _ _ _ S y hin F h2 hs base most hh hhl heF L ad n c hn hl hL
theorem K_start_long (x : EdL Z w e S) (hin : S.f.inn = false) {F : Nat → Prop} {h2 : Nat} {hs : List (ByteArray × Int)} {base most : Int} (hh : HistRep w F h2 hs base most) (hhl : hs.length ≤ 100000) (ad : Option Addr) (n c : Nat) (hL : 1024 < n) :
    Calls Tryz.prog 23 #[.pointer (some ⟨e, 0, none⟩), .pointer (some ⟨h2, 0, none⟩), .slice ad n c] w (EdGo Z w e (.int .i64 3) S) :=
  x.call fun _ _ _ _ _ _ _ _ _ _ _ y => ed_start_long _ _ _ _ _ _ _ _ _ _ _ _ _ S y hin F h2 hs base most hh hhl ad n c hL
theorem K_begin (x : EdL Z w e S) (h : RestK S L a b) : Calls Tryz.prog 24 #[.pointer (some ⟨e, 0, none⟩)] w (EdGo Z w e (.int .i64 0) S.begun) :=
  x.call fun _ _ _ _ _ _ _ _ _ _ _ y => ed_begin _ _ _ _ y.rep h.ok.core h.inn
theorem K_kill (x : EdL Z w e S.begun) (h : RestK S L a b) (f t : Nat) (hft : f ≤ t) (ht : t ≤ a + (L.length - b)) (hj : t - f + (b - a) ≤ 1024) (back : Bool) :
    Calls Tryz.prog 41 #[.pointer (some ⟨e, 0, none⟩), .int .i64 f, .int .i64 t, .bool back] w (EdGo Z w e (.int .i64 0) (S.kill1 f t back)) := by
  have htl := h.textlen
  have := h.ab; have := h.bl; have := h.len
  exact x.call fun _ _ _ _ _ _ _ _ _ _ _ y => (ed_kill _ _ _ _ _ _ _ _ _ _ _ _ _ S.begun y h.begun_ok rfl f t hft (by show t ≤ S.core.text.length; omega) (by show S.core.text.length ≤ 1024; omega) back (fun _ => h.join _ hj) h.room).mono fun _ _ h => h.done
theorem K_end (x : EdL Z w e S) (hok : EdsOk S) (hin : S.f.inn = true) (hrun : S.core.run = false) : Calls Tryz.prog 26 #[.pointer (some ⟨e, 0, none⟩), .int .i64 0] w (EdGo Z w e (.int .i64 0) S.endOk) :=
  x.call fun _ _ _ _ _ _ _ _ _ _ _ y => ed_end_ok _ _ _ _ _ _ _ _ _ _ _ _ _ _ y hok hin (fun h => by rw [hrun] at h; cases h)
theorem K_end_err (x : EdL Z w e S) (hin : S.f.inn = true) (hb : S.bells = 0) : Calls Tryz.prog 26 #[.pointer (some ⟨e, 0, none⟩), .int .i64 6] w (EdGo Z w e (.int .i64 6) S.endErr) :=
  x.call fun _ _ _ _ _ _ _ _ _ _ _ y => ed_end_err _ _ _ _ _ _ _ _ _ _ _ _ _ _ y hin 6 (by decide) (by rw [hb]; decide) (by rw [hb]; decide)
theorem K_yank_none (x : EdL Z w e S) (hin : S.f.inn = true) (he : S.core.ents = []) : Calls Tryz.prog 42 #[.pointer (some ⟨e, 0, none⟩)] w (EdGo Z w e (.int .i64 6) S) :=
  x.call fun _ _ _ _ _ _ _ _ _ _ _ y => (ed_yank_none _ _ _ _ _ _ _ _ _ _ _ _ _ S y hin he).mono fun _ _ h => h.done
theorem K_yank (x : EdL Z w e S.begun) (h : RestK S L a b) (h1 : S.core.ents = [(L.drop a).take (b - a)]) : Calls Tryz.prog 42 #[.pointer (some ⟨e, 0, none⟩)] w (EdGo Z w e (.int .i64 0) (S.begun.yankedTo a ((L.drop a).take (b - a)))) := by
  have htl := h.textlen
  have := h.ab; have := h.bl; have := h.len
  have hcl : ((L.drop a).take (b - a)).length = b - a := by rw [List.length_take, List.length_drop]; omega
  have hr : S.begun.core.rpl = 0 := h.rpl
  have he : S.begun.core.ents = [(L.drop a).take (b - a)] := h1
  have hq : S.begun.core.rpl < S.begun.core.ents.length := by rw [hr, he]; exact Nat.zero_lt_one
  exact x.call fun _ _ _ _ _ _ _ _ _ _ _ y => (ed_yank _ _ _ _ _ _ _ _ _ _ _ _ _ S.begun y h.begun_ok rfl a h.point (by show a ≤ S.core.text.length; omega) hq (fun z hz => by rw [he] at hz; rw [List.mem_singleton.1 hz, hcl]; omega) _ (by simp only [hr, he]; rfl) (by rw [hcl]; show _ + S.core.text.length ≤ 1024; omega) h.room).mono fun _ _ h => h.done
/-- What a law knows behind a kill. -/
def KStep (Z : Nat → Prop) (w : World) (e : Nat) (L : List Int) (a b : Nat) (z : Ending) (w' : World) : Prop :=
  z = .returned (.int .i64 0) ∧ ∃ T, EdL Z w' e T ∧ Fr (wr w (fun y => ¬ Z y)) w w' ∧ EdsOk T ∧ T.f.inn = true ∧ T.core.run = false ∧ RestK T.endOk L a b
theorem K_killB (x : EdL Z w e S.begun) (h : RestK S L a b) (f : Int) (h0 : 0 ≤ f) (h1 : f ≤ a) :
    Calls Tryz.prog 41 #[.pointer (some ⟨e, 0, none⟩), .int .i64 f, .int .i64 a, .bool true] w (KStep Z w e L f.toNat b) := by
  obtain ⟨n, rfl⟩ := Int.eq_ofNat_of_zero_le h0
  have hab := h.ab; have hbl := h.bl; have hlen := h.len
  obtain ⟨g1, g2, g3⟩ := kill_back hab hbl (a - n) (by omega)
  rw [show a - (a - n) = n by omega] at g1 g2 g3
  refine (K_kill x h n a (by omega) (by omega) (by omega) true).mono ?_
  rintro z w' ⟨rfl, hx, hf⟩
  obtain ⟨k1, k2, k3, k4⟩ := h.kill n a (by omega) (by rw [h.textlen]; omega) true n b (by omega) hbl (by rw [h.text]; exact g1) (by unfold newPoint; rw [if_neg (by omega), if_pos (by omega)]; omega) (by omega) (by rw [if_pos rfl, h.text, g2]; exact g3)
  exact ⟨rfl, _, hx, hf, k1, k2, k3, k4⟩
theorem K_killF (x : EdL Z w e S.begun) (h : RestK S L a b) (t : Int) (h0 : (a : Int) ≤ t) (h1 : t - a ≤ (L.length : Int) - b) :
    Calls Tryz.prog 41 #[.pointer (some ⟨e, 0, none⟩), .int .i64 a, .int .i64 t, .bool false] w (KStep Z w e L a (b + (t - a).toNat)) := by
  obtain ⟨k, rfl⟩ : ∃ k : Nat, t = (a : Int) + k := ⟨(t - a).toNat, by omega⟩
  have hab := h.ab; have hbl := h.bl; have hlen := h.len
  obtain ⟨g1, g2, g3⟩ := kill_fore hab k hbl
  rw [show b + ((a : Int) + (k : Int) - (a : Int)).toNat = b + k by omega]
  refine (show Calls _ _ #[_, _, .int .i64 ((a + k : Nat) : Int), _] _ _ from K_kill x h a (a + k) (by omega) (by omega) (by omega) false).mono ?_
  rintro z w' ⟨rfl, hx, hf⟩
  have hk : a + k - a = k := by omega
  obtain ⟨k1, k2, k3, k4⟩ := h.kill a (a + k) (by omega) (by rw [h.textlen]; omega) false a (b + k) (by omega) (by omega) (by rw [h.text]; exact g1) (by unfold newPoint; rw [if_neg (by omega), if_pos (by omega)]; omega) (by omega) (by rw [if_neg (by decide), h.text, hk, g2]; exact g3)
  exact ⟨rfl, _, hx, hf, k1, k2, k3, k4⟩
/-- The line as a law reads it. -/
theorem K_line (x : EdL Z w e S) (n : Nat) (hn : S.core.text.length = n) (L : List Int) (hL : S.core.text = L) (p m : Int) (hp : S.core.point = p) (hm : S.core.mark = m) : Calls Tryz.prog 31 #[.pointer (some ⟨e, 0, none⟩)] w fun y w' =>
    ∃ a c, y = .returned (.agg #[.slice a n c, .int .i64 p, .int .i64 m]) ∧ Sl w' 1 a n c (runes L) ∧ Fr nob w w' := by
  subst hn hL hp hm
  refine (L_line x).mono ?_
  rintro y w' ⟨a, c, rfl, ho, hf⟩
  exact ⟨a, c, rfl, ho.sl, hf⟩
end
theorem Tryz.field_point (x y z : Value) (w : World) : (Instr.field 57 (.agg #[x, y, z]) 1).run Tryz.prog w = .ok y w := by kernel_rfl
theorem Tryz.field_mark (x y z : Value) (w : World) : (Instr.field 57 (.agg #[x, y, z]) 2).run Tryz.prog w = .ok z w := by kernel_rfl
end Go.Proofs.YtbhklkolkclflaaGreatDoor
