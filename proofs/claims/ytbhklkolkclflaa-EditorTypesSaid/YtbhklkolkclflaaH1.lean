/- Package histlist: what a list is; New, none, Len, Clone. -/
import Derived.Test.YtbhklkolkclflaaU8
namespace Go.Proofs.Ytbhklkolkclflaa
open Go.RowKit

/-- The cells of lines: text and time. -/
def hcells (hs : List (ByteArray × Int)) : List Value := hs.flatMap fun x => [.string x.1, .int .i64 x.2]
theorem hcells_length (hs : List (ByteArray × Int)) : (hcells hs).length = hs.length * 2 := by
  induction hs with
  | nil => rfl
  | cons x hs ih => simp [hcells, List.flatMap_cons] at ih ⊢; omega

/-- The history at h; it lies in F. -/
structure HistRep (w : World) (F : Nat → Prop) (h : Nat) (hs : List (ByteArray × Int)) (base most : Int) : Prop where
  mem : F h
  nz : base ≠ 0
  ex : ∃ a c, w.heap[h]? = some (.cells #[.slice a hs.length c, .int .i64 base, .int .i64 most] 53 (0, 0)) ∧ Sl w 2 a hs.length c (hcells hs) ∧ (0 < hs.length → ∀ ad, a = some ad → F ad.block)

section
variable {w w' : World} {F M : Nat → Prop} {h : Nat} {hs : List (ByteArray × Int)} {base most : Int}
theorem HistRep.stay (r : HistRep w F h hs base most) (hf : Fr M w w') (hm : ∀ b, F b → ¬ M b) : HistRep w' F h hs base most := by
  obtain ⟨a, c, h1, h2, h3⟩ := r.ex
  refine ⟨r.mem, r.nz, a, c, hf.keep h1 (hm _ r.mem), ?_, h3⟩
  by_cases hn : 0 < hs.length
  · exact h2.old hf (fun ad e => hm _ (h3 hn ad e))
  · have : hcells hs = [] := List.eq_nil_of_length_eq_zero (by rw [hcells_length]; omega)
    exact ⟨h2.len, h2.le, .inl this, h2.one⟩
theorem HistRep.stayN (r : HistRep w F h hs base most) (hf : Fr nob w w') : HistRep w' F h hs base most := r.stay hf (fun _ _ h => h)
theorem HistRep.mono {G : Nat → Prop} (r : HistRep w F h hs base most) (hFG : ∀ b, F b → G b) : HistRep w G h hs base most := by
  obtain ⟨a, c, h1, h2, h3⟩ := r.ex
  exact ⟨hFG _ r.mem, r.nz, a, c, h1, h2, fun hn ad e => hFG _ (h3 hn ad e)⟩
theorem HistRep.lt (r : HistRep w F h hs base most) : h < w.heap.size := by
  obtain ⟨a, c, h1, _⟩ := r.ex
  exact blk_lt h1
end

set_option maxRecDepth 10000 in
theorem hist_new (w : World) (most : Int) (h0 : 0 ≤ most) (h1 : most ≤ 4096) :
    Calls Try.prog 5 #[.int .i64 most] w fun e w' => e = .returned (.tuple #[.pointer (some ⟨w.heap.size, 0, none⟩), .int .i64 0]) ∧ HistRep w' (newIn w) w.heap.size [] 1 most ∧ Fr nob w w' := by
  have i1 : decide (most < 0) = false := decide_eq_false (by omega)
  have i2 : decide (4096 < most) = false := decide_eq_false (by omega)
  go_enter Try.func5, Try.ntmps5
  go_wp2
  go_ret2
  exact ⟨rfl, ⟨.inr (Nat.le_refl _), by decide, none, 0, heap_alloc_new w _, ⟨rfl, Nat.le_refl _, .inl rfl, by simp [hcells]⟩, fun h => absurd h (by simp)⟩, (Fr.refl _ _).alloc _⟩

set_option maxRecDepth 10000 in
theorem hist_none (w : World) (h : Nat) (v : Value) (base most : Int) (hb : w.heap[h]? = some (.cells #[v, .int .i64 base, .int .i64 most] 53 (0, 0))) (h0 : base ≠ 0) :
    Calls Try.prog 45 #[.pointer (some ⟨h, 0, none⟩)] w fun e w' => e = .returned (.bool false) ∧ w' = w := by
  have hc := blk_cells hb
  have i1 : (base == 0) = false := by rw [beq_eq_false_iff_ne]; exact h0
  clear hb h0
  go_enter Try.func45, Try.ntmps45
  go_wp2
  go_ret
  exact ⟨rfl, rfl⟩

set_option maxRecDepth 10000 in
theorem hist_len (w : World) (F : Nat → Prop) (h : Nat) (hs : List (ByteArray × Int)) (base most : Int) (r : HistRep w F h hs base most) :
    Calls Try.prog 48 #[.pointer (some ⟨h, 0, none⟩)] w fun e w' => e = .returned (.int .i64 hs.length) ∧ w' = w := by
  obtain ⟨a, c, h1, _, _⟩ := r.ex
  have hc := blk_cells h1
  have HN := Lib.hid (hist_none w h _ base most h1 r.nz)
  clear r h1
  go_enter Try.func48, Try.ntmps48
  go_wp2_with (go_at_call 45; refine (HN.out).mono ?_; rintro e w' ⟨rfl, rfl⟩)
  go_ret
  exact ⟨rfl, rfl⟩

set_option maxRecDepth 10000 in
theorem hist_clone (w : World) (F : Nat → Prop) (h : Nat) (hs : List (ByteArray × Int)) (base most : Int) (r : HistRep w F h hs base most) (hl : hs.length ≤ 100000) :
    Calls Try.prog 20 #[.pointer (some ⟨h, 0, none⟩)] w fun e w' => ∃ h', e = .returned (.pointer (some ⟨h', 0, none⟩)) ∧ w.heap.size ≤ h' ∧ HistRep w' (newIn w) h' hs base most ∧ Fr nob w w' := by
  obtain ⟨a, c, h1, h2, _⟩ := r.ex
  have hb0 := r.nz
  have HN := Lib.hid (hist_none w h _ base most h1 r.nz)
  have hC : ∀ V, Fr nob w V → Calls Try.prog 46 #[.slice a hs.length c] V (MadeS V 95 2 hs.length (hcells hs)) := fun V hV => clone_lines V a hs.length c _ (h2.oldN hV) (by omega)
  have HC := Lib.hid hC
  have H1 := Lib.hid h1
  have HB := Lib.hid hb0
  have hS : ∀ V, Fr nob w V → (V.cell? ⟨h, 0, none⟩ = some (.slice a hs.length c) ∧ V.cell? ⟨h, 1, none⟩ = some (.int .i64 base) ∧ V.cell? ⟨h, 2, none⟩ = some (.int .i64 most)) := fun V hV => by
    have h0 := blk_cells (hV.keep h1 (fun h => h))
    exact ⟨by rw [h0]; rfl, by rw [h0]; rfl, by rw [h0]; rfl⟩
  have HS := Lib.hid hS
  clear r h1 h2 hC hS hb0
  go_enter Try.func20, Try.ntmps20
  go_wp2_with (go_at_call 45; refine (HN.out).mono ?_; rintro e w' ⟨rfl, rfl⟩)
  go_region_held3 (fun V => V.cell? ⟨h, 0, none⟩ = some (.slice a hs.length c) ∧ V.cell? ⟨h, 1, none⟩ = some (.int .i64 base) ∧ V.cell? ⟨h, 2, none⟩ = some (.int .i64 most))
    ((go_split_ands; first
      | exact HS.out _ (Fr.refl _ _).drew
      | exact HS.out _ (Fr.then (Fr.refl _ _).drew hfr1)
      | exact HS.out _ ((Fr.then (Fr.refl _ _).drew hfr1).alloc _)))
    (first
      | (go_at_call 46; refine (HC.out _ (by exact (Fr.refl _ _).drew)).mono ?_; rintro e w1 ⟨a2, c2, rfl, hown1, hfr1, hfresh1⟩; have HO1 := Lib.hid hown1; have HF1 := Lib.hid hfresh1; clear hown1 hfresh1))
  rename_i hSV
  clear hSV
  go_wp2
  go_ret
  have hf1 := (Fr.refl nob _).drew.then hfr1
  refine ⟨w1.heap.size, rfl, hf1.size, ⟨.inr hf1.size, HB.out, a2, c2, heap_alloc_new w1 _, (HO1.out.stay ((Fr.refl nob _).alloc _) (fun _ _ _ _ h => h)).sl, fun hn ad e => .inr ?_⟩, hf1.alloc _⟩
  have hle := HO1.out.le
  exact HF1.out _ ⟨ad, _, c2, by rw [e], by omega, rfl⟩
end Go.Proofs.Ytbhklkolkclflaa
