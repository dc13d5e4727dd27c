/- Words for the walks of this seat: what a call may change ('Fr'), what reads as a list, what is owned; append, copy and make over them. -/
import Derived.Test.YtbhklkolkclflaaProg
import Derived.WalkKit
import Derived.Deep.QuietTactic
import Derived.BigQuiet
import Derived.StillTailTactics
import Derived.Deep.AppendSrc
import Derived.Laws.CopyOwn
import Derived.Deep.LoopGhost
import Derived.Deep.DeepCutAuto
import Derived.Deep.CutBlock
import Derived.Deep.RegionHeld3
import Derived.Lib.Hide
namespace Go.Proofs.Ytbhklkolkclflaa
open Go.RowKit

/-- The world w' is w but for the blocks of M (and new ones). -/
structure Fr (M : Nat → Prop) (w w' : World) : Prop where
  os : w'.os = w.os
  tape : w'.tape = w.tape
  output : w'.output = w.output
  size : w.heap.size ≤ w'.heap.size
  blk : ∀ b, b < w.heap.size → ¬ M b → w'.heap[b]? = w.heap[b]?

def nob : Nat → Prop := fun _ => False
def one (b : Nat) : Nat → Prop := fun x => x = b

theorem Fr.refl (M : Nat → Prop) (w : World) : Fr M w w := ⟨rfl, rfl, rfl, Nat.le_refl _, fun _ _ _ => rfl⟩

theorem Fr.trans {M M1 : Nat → Prop} {w w1 w2 : World} (h : Fr M w w1) (h1 : Fr M1 w1 w2) (hs : ∀ b, b < w.heap.size → M1 b → M b) : Fr M w w2 :=
  ⟨h1.os.trans h.os, h1.tape.trans h.tape, h1.output.trans h.output, Nat.le_trans h.size h1.size,
    fun b hb hm => (h1.blk b (Nat.lt_of_lt_of_le hb h.size) (fun hx => hm (hs b hb hx))).trans (h.blk b hb hm)⟩

theorem Fr.mono {M M1 : Nat → Prop} {w w1 : World} (h : Fr M w w1) (hs : ∀ b, b < w.heap.size → M b → M1 b) : Fr M1 w w1 :=
  ⟨h.os, h.tape, h.output, h.size, fun b hb hm => h.blk b hb (fun hx => hm (hs b hb hx))⟩

theorem Fr.then {M : Nat → Prop} {w w1 w2 : World} (h : Fr M w w1) (h1 : Fr nob w1 w2) : Fr M w w2 := h.trans h1 (fun _ _ hx => hx.elim)
theorem Fr.after {M : Nat → Prop} {w w1 w2 : World} (h : Fr nob w w1) (h1 : Fr M w1 w2) : Fr M w w2 := (h.mono (M1 := M) (fun _ _ hx => hx.elim)).trans h1 (fun _ _ hx => hx)

theorem Fr.drewN {M : Nat → Prop} {w w1 : World} (h : Fr M w w1) (n : Nat) : Fr M w (w1.drewN n) := ⟨h.os, h.tape, h.output, h.size, h.blk⟩
theorem Fr.drew {M : Nat → Prop} {w w1 : World} (h : Fr M w w1) : Fr M w w1.drew := ⟨h.os, h.tape, h.output, h.size, h.blk⟩

theorem Fr.ofDrew {M : Nat → Prop} {w w1 : World} (h : Fr M w.drew w1) : Fr M w w1 := ⟨h.os, h.tape, h.output, h.size, h.blk⟩
theorem Fr.ofDrewN {M : Nat → Prop} {w w1 : World} {n : Nat} (h : Fr M (w.drewN n) w1) : Fr M w w1 := ⟨h.os, h.tape, h.output, h.size, h.blk⟩

theorem Fr.alloc {M : Nat → Prop} {w w1 : World} (h : Fr M w w1) (o : Obj) : Fr M w (w1.alloc o) :=
  h.then ⟨rfl, rfl, rfl, by simp, fun b hb _ => Below.heap_alloc _ _ _ hb⟩

theorem Fr.setCell {M : Nat → Prop} {w w1 : World} (h : Fr M w w1) (p : Addr) (v : Value) (hp : p.block < w.heap.size → M p.block) : Fr M w (w1.setCell p v) :=
  h.trans (M1 := one p.block) ⟨rfl, rfl, rfl, by simp [World.setCell], fun b _ hm => Below.heap_setCell _ _ _ _ hm⟩ (fun b hb e => by cases e; exact hp hb)

theorem Fr.setOne {b : Nat} {w w1 : World} (h : Fr (one b) w w1) (o : Nat) (v : Value) : Fr (one b) w (w1.setCell ⟨b, o, none⟩ v) := h.setCell _ _ (fun _ => rfl)
theorem Fr.setNew {M : Nat → Prop} {w w1 : World} (h : Fr M w w1) (b o : Nat) (v : Value) (hb : w.heap.size ≤ b) : Fr M w (w1.setCell ⟨b, o, none⟩ v) :=
  h.setCell _ _ (fun hx => absurd hx (by show ¬ b < _; omega))
theorem Fr.setIn {M : Nat → Prop} {w w1 : World} (h : Fr M w w1) (b o : Nat) (v : Value) (hb : M b) : Fr M w (w1.setCell ⟨b, o, none⟩ v) := h.setCell _ _ (fun _ => hb)

theorem Fr.setRow {M : Nat → Prop} {w w1 : World} (h : Fr M w w1) (g : Nat) (cs : Array Value) (hp : g < w.heap.size → M g) : Fr M w (w1.setRow g cs) :=
  h.trans (M1 := one g) ⟨rfl, rfl, rfl, by simp [World.setRow], fun b _ hm => by simp [World.setRow, Array.getElem?_modify]; intro e; exact absurd e.symm hm⟩ (fun b hb e => by cases e; exact hp hb)

/-- A map's block is written. -/
def World.putObj (w : World) (r : Nat) (o : Obj) : World := { w with heap := w.heap.setIfInBounds r o }

theorem Fr.putObj {M : Nat → Prop} {w w1 : World} (h : Fr M w w1) (g : Nat) (o : Obj) (hp : g < w.heap.size → M g) : Fr M w (World.putObj w1 g o) :=
  h.trans (M1 := one g) ⟨rfl, rfl, rfl, by simp [World.putObj], fun b _ hm => by simp [World.putObj]; rw [Array.getElem?_setIfInBounds_ne (fun e => hm e.symm)]⟩ (fun b hb e => by cases e; exact hp hb)

theorem Fr.keep {M : Nat → Prop} {w w1 : World} (h : Fr M w w1) {b : Nat} {o : Obj} (hb : w.heap[b]? = some o) (hm : ¬ M b) : w1.heap[b]? = some o :=
  (h.blk b (Array.getElem?_eq_some_iff.1 hb).1 hm).trans hb

theorem Fr.below {M : Nat → Prop} {w w1 : World} (h : Fr M w w1) (B : Nat) (hB : B ≤ w.heap.size) (hm : ∀ b, M b → B ≤ b) : Below B w w1 :=
  ⟨h.os, h.tape, h.output, h.size, fun b hb => h.blk b (by omega) (fun hx => by have := hm b hx; omega)⟩

theorem Fr.ofGrown {w w1 : World} {row : Option Nat} (h : w.grownBy w1 row) : Fr (fun b => row = some b) w w1 :=
  ⟨h.os, h.tape, h.output, h.size, fun b hb hm => h.block b hb (fun e => hm e.symm)⟩

theorem blk_lt {w : World} {b : Nat} {o : Obj} (h : w.heap[b]? = some o) : b < w.heap.size := (Array.getElem?_eq_some_iff.1 h).1
theorem blk_cells {w : World} {b : Nat} {c : Array Value} {T : TypeId} {fr : Nat × Nat} (h : w.heap[b]? = some (.cells c T fr)) : ∀ o, w.cell? ⟨b, o, none⟩ = c[o]? :=
  fun o => by simp [World.cell?, h]
theorem blk_free {w : World} {b : Nat} {c : Array Value} {T : TypeId} (h : w.heap[b]? = some (.cells c T (0, 0))) : ∀ o, w.frozen? ⟨b, o, none⟩ = false :=
  fun o => by simp [World.frozen?, h]

theorem heap_setCell_same {w : World} {b o : Nat} {c : Array Value} {T : TypeId} {fr : Nat × Nat} (h : w.heap[b]? = some (.cells c T fr)) (v : Value) :
    (w.setCell ⟨b, o, none⟩ v).heap[b]? = some (.cells (c.setIfInBounds o v) T fr) := by
  simp [World.setCell, Array.getElem?_modify, h]
theorem heap_setCell_ne {w : World} {p : Addr} {b : Nat} (hb : b ≠ p.block) (v : Value) : (w.setCell p v).heap[b]? = w.heap[b]? := Below.heap_setCell _ _ _ _ hb
theorem heap_drewN {w : World} {n b : Nat} : (w.drewN n).heap[b]? = w.heap[b]? := rfl
theorem heap_drew {w : World} {b : Nat} : w.drew.heap[b]? = w.heap[b]? := rfl
theorem heap_alloc_lt {w : World} {b : Nat} (o : Obj) (hb : b < w.heap.size) : (w.alloc o).heap[b]? = w.heap[b]? := Below.heap_alloc _ _ _ hb

/-- The cells 'cs' stand at the address. -/
def Rd (w : World) (a : Option Addr) (cs : List Value) : Prop := cs = [] ∨ ∃ g off, a = some ⟨g, off, none⟩ ∧ ∀ j u, cs[j]? = some u → w.cell? ⟨g, off + j, none⟩ = some u

/-- A slice value of n elements whose cells are 'cs'; n elements of 'size' cells. -/
structure Sl (w : World) (size : Nat) (a : Option Addr) (n c : Nat) (cs : List Value) : Prop where
  len : cs.length = n * size
  le : n ≤ c
  rd : Rd w a cs
  one : ∀ u ∈ cs, u.oneCell' = true

/-- Memory that nobody writes: what was there before B, and all rows of elements of type T. -/
def Imm (B : Nat) (T : TypeId) (w : World) (a : Option Addr) : Prop := ∀ ad, a = some ad → ad.block < B ∧ ad.block < w.heap.size ∨ ∃ c fr, w.heap[ad.block]? = some (.cells c T fr)

/-- What is changed is neither. -/
def Avoids (B : Nat) (T : TypeId) (w : World) (M : Nat → Prop) : Prop := ∀ b, M b → B ≤ b ∧ ∀ c fr, w.heap[b]? ≠ some (.cells c T fr)

theorem Imm.keeps {B : Nat} {T : TypeId} {w w' : World} {M : Nat → Prop} {a : Option Addr} (h : Imm B T w a) (hf : Fr M w w') (hm : Avoids B T w M) : ∀ ad, a = some ad → w'.heap[ad.block]? = w.heap[ad.block]? := by
  intro ad e
  rcases h ad e with h | ⟨c, fr, h⟩
  · exact hf.blk _ h.2 (fun hx => by have := (hm _ hx).1; omega)
  · exact hf.blk _ (blk_lt h) (fun hx => (hm _ hx).2 _ _ h)

theorem Imm.stay {B : Nat} {T : TypeId} {w w' : World} {M : Nat → Prop} {a : Option Addr} (h : Imm B T w a) (hf : Fr M w w') (hm : Avoids B T w M) : Imm B T w' a := by
  intro ad e
  have hk := h.keeps hf hm ad e
  rcases h ad e with h | ⟨c, fr, h⟩
  · exact .inl ⟨h.1, Nat.lt_of_lt_of_le h.2 hf.size⟩
  · exact .inr ⟨c, fr, hk.trans h⟩

theorem Rd.stay {B : Nat} {T : TypeId} {w w' : World} {M : Nat → Prop} {a : Option Addr} {cs : List Value} (h : Rd w a cs) (hi : Imm B T w a) (hf : Fr M w w') (hm : Avoids B T w M) : Rd w' a cs := by
  rcases h with h | ⟨g, off, e, h⟩
  · exact .inl h
  · refine .inr ⟨g, off, e, fun j u hu => ?_⟩
    rw [World.cell?_of_block (w := w) (a := ⟨g, off + j, none⟩) (hi.keeps hf hm ⟨g, off, none⟩ e)]
    exact h j u hu

theorem Sl.stay {B : Nat} {T : TypeId} {w w' : World} {M : Nat → Prop} {size n c : Nat} {a : Option Addr} {cs : List Value} (h : Sl w size a n c cs) (hi : Imm B T w a) (hf : Fr M w w') (hm : Avoids B T w M) : Sl w' size a n c cs :=
  ⟨h.len, h.le, h.rd.stay hi hf hm, h.one⟩

theorem Avoids.one {B : Nat} {T T' : TypeId} {w : World} {b : Nat} {c : Array Value} {fr : Nat × Nat} (hb : B ≤ b) (h : w.heap[b]? = some (.cells c T' fr)) (hT : T' ≠ T) : Avoids B T w (one b) :=
  fun x hx => by cases hx; exact ⟨hb, fun c' fr' h' => by rw [h] at h'; injection h' with h'; injection h' with _ h' _; exact hT h'⟩
theorem Avoids.nob {B : Nat} {T : TypeId} {w : World} : Avoids B T w nob := fun _ hx => hx.elim

theorem Sl.src {P : Program} {w : World} {size n c : Nat} {a : Option Addr} {cs : List Value} (h : Sl w size a n c cs) (hs : 0 < size) {tx e' : TypeId} (hk : P.underlying tx = some (.slice e')) : Src P size tx (.slice a n c) n cs w := by
  rcases h.rd with rfl | ⟨g, off, rfl, hc⟩
  · have hn : n = 0 := by
      have h0 : n * size = 0 := h.len.symm
      rcases Nat.mul_eq_zero.1 h0 with h1 | h1
      · exact h1
      · omega
    subst hn
    cases a with
    | none => exact Src.ofNil w hk c
    | some ad => exact Src.ofSlice w hk ad 0 c [] (by simp) (by intro j u hu; simp at hu) (by intro u hu; cases hu)
  · exact Src.ofSlice w hk _ n c cs h.len (fun j u hu => by rw [Addr.add_lit]; exact hc j u hu) h.one

/-- The row that an owned slice may write. -/
def rowOf (v : Value) : Nat → Prop := fun b => ∃ ad n c, v = .slice (some ad) n c ∧ 0 < c ∧ b = ad.block

/-- A slice whose whole array is its own: its first n elements are the cells xs. Without capacity it owns nothing. -/
def Own (w : World) (e size : Nat) (v : Value) (n : Nat) (xs : List Value) : Prop :=
  xs.length = n * size ∧ (∀ u ∈ xs, u.oneCell' = true) ∧
  ((∃ a, v = .slice a 0 0 ∧ n = 0 ∧ Imm 0 e w a) ∨
   ∃ g cap cur, v = .slice (some ⟨g, 0, none⟩) n cap ∧ w.heap[g]? = some (.cells cur e (0, 0)) ∧ n ≤ cap ∧ cap ≤ maxLen ∧ cur.size = cap * size ∧ cur.toList.take (n * size) = xs)

theorem Own.nil (w : World) (e size : Nat) : Own w e size (.slice none 0 0) 0 [] := ⟨by simp, by simp, .inl ⟨none, rfl, rfl, fun _ h => by cases h⟩⟩

theorem Own.val {w : World} {e size : Nat} {v : Value} {n : Nat} {xs : List Value} (h : Own w e size v n xs) : ∃ a c, v = .slice a n c ∧ n ≤ c ∧ c ≤ maxLen := by
  rcases h.2.2 with ⟨a, rfl, rfl, _⟩ | ⟨g, cap, cur, rfl, hg, hn, hm, _⟩
  · exact ⟨a, 0, rfl, Nat.le_refl _, by unfold maxLen; omega⟩
  · exact ⟨_, cap, rfl, hn, hm⟩

theorem Own.imm {w : World} {e size : Nat} {a : Option Addr} {n c : Nat} {xs : List Value} (h : Own w e size (.slice a n c) n xs) (B : Nat) : Imm B e w a := by
  intro ad ea
  rcases h.2.2 with ⟨a', hv, _, hi⟩ | ⟨g, cap, cur, hv, hg, _⟩
  · injection hv with h1 _ _
    rcases hi ad (h1 ▸ ea) with h | h
    · omega
    · exact .inr h
  · injection hv with h1 _ _
    rw [h1] at ea
    injection ea with ea
    subst ea
    exact .inr ⟨cur, (0, 0), hg⟩

theorem Own.cells {w : World} {e size : Nat} {n cap g : Nat} {xs : List Value} (h : Own w e size (.slice (some ⟨g, 0, none⟩) n cap) n xs) (hc : 0 < cap) : ∀ j u, xs[j]? = some u → w.cell? ⟨g, j, none⟩ = some u := by
  intro j u hu
  rcases h.2.2 with ⟨a, hv, _⟩ | ⟨g', cap', cur, hv, hg, _, _, _, ht⟩
  · injection hv with _ _ h3; omega
  · injection hv with h1 h2 h3
    injection h1 with h1
    injection h1 with h1
    subst h1
    rw [blk_cells hg, ← Array.getElem?_toList]
    rw [← ht, List.getElem?_take] at hu
    split at hu
    · exact hu
    · cases hu

theorem Own.sl {w : World} {e size : Nat} {a : Option Addr} {n c : Nat} {xs : List Value} (h : Own w e size (.slice a n c) n xs) : Sl w size a n c xs := by
  obtain ⟨_, _, hv, hn, _⟩ := h.val
  injection hv with h1 _ h3
  subst h1; subst h3
  refine ⟨h.1, hn, ?_, h.2.1⟩
  rcases h.2.2 with ⟨a', hv, h0, _⟩ | ⟨g, cap, cur, hv, hg, hn', hm, hsz, ht⟩
  · have hx : xs = [] := by
      have hl := h.1
      rw [h0, Nat.zero_mul] at hl
      exact List.eq_nil_of_length_eq_zero hl
    exact .inl hx
  · injection hv with h1 _ h3
    subst h1; subst h3
    by_cases hx : xs = []
    · exact .inl hx
    · refine .inr ⟨_, _, rfl, fun j u hu => ?_⟩
      rw [Nat.zero_add]
      rw [blk_cells hg, ← Array.getElem?_toList]
      rw [← ht, List.getElem?_take] at hu
      split at hu
      · exact hu
      · cases hu

/-- What is owned stays while other rows are written. -/
theorem Own.stay {w w' : World} {M : Nat → Prop} {e size : Nat} {v : Value} {n : Nat} {xs : List Value} (h : Own w e size v n xs) (hf : Fr M w w') (hm : ∀ b c fr, w.heap[b]? = some (.cells c e fr) → ¬ M b) : Own w' e size v n xs := by
  refine ⟨h.1, h.2.1, ?_⟩
  rcases h.2.2 with ⟨a, hv, hn, hi⟩ | ⟨g, cap, cur, hv, hg, rest⟩
  · refine .inl ⟨a, hv, hn, fun ad ea => ?_⟩
    rcases hi ad ea with h | ⟨c, fr, h⟩
    · omega
    · exact .inr ⟨c, fr, hf.keep h (hm _ _ _ h)⟩
  · exact .inr ⟨g, cap, cur, hv, hf.keep hg (hm _ _ _ hg), rest⟩

section
variable {P : Program} (w : World)

theorem run_app (t tx ty e : TypeId) (i : TypeInfo) (z : Value) (size bytes : Nat) (ht : P.underlying t = some (.slice e)) (hi : P.info? e = some i) (hz : i.zero = some z)
    (hsize : i.size = size) (hby : i.bytes = bytes) (hzs : z.cells.size = size) (hsz : 0 < size)
    (v : Value) (n : Nat) (xs : List Value) (hown : Own w e size v n xs) (x : Value) (m : Nat) (news : List Value) (hs : Src P size tx x m news w)
    (h63 : n + m ≤ maxLen) (hbytes : (n + m) * bytes ≤ 140737488355328) :
    ∃ a c w', (Builtin.append_ #[t, tx] ty #[v, x]).run P w = .ok (.slice a (n + m) c) w' ∧ Own w' e size (.slice a (n + m) c) (n + m) (xs ++ news) ∧ Fr (rowOf v) w w' ∧
      (rowOf v = rowOf (.slice a (n + m) c) ∨ ∀ b, rowOf (.slice a (n + m) c) b → w.heap.size ≤ b) := by
  subst hsize
  subst hby
  have h63' : ((n + m : Nat) : Int) ≤ 9223372036854775807 := by simp only [maxLen] at h63; omega
  have hlen : (xs ++ news).length = (n + m) * i.size := by rw [List.length_append, hown.1, hs.newsLen, Nat.add_mul]
  have hone : ∀ u ∈ xs ++ news, u.oneCell' = true := fun u hu => (List.mem_append.1 hu).elim (hown.2.1 u) (hs.one u)
  have grown : ∀ (old : Nat), old < n + m →
      Own (w.drew.alloc (.cells ((xs ++ news).toArray ++ Builtin.zeroCells z.cells (grownCap w (n + m) old e - (n + m))) e)) e i.size
        (.slice (some ⟨w.heap.size, 0, none⟩) (n + m) (grownCap w (n + m) old e)) (n + m) (xs ++ news) := by
    intro old ho
    have hge := grownCap_ge w (n + m) old e
    have hcm : grownCap w (n + m) old e ≤ maxLen := grownCap_le_maxLen w (n + m) old e h63
    refine ⟨hlen, hone, .inr ⟨w.heap.size, _, _, rfl, heap_alloc_new w.drew _, hge, hcm, ?_, ?_⟩⟩
    · simp only [Array.size_append, List.size_toArray, size_zeroCells, hzs, hlen, ← Nat.add_mul]
      congr 1
      omega
    · simp only [Array.toList_append]
      rw [← hlen]
      exact List.take_left
  have fg : ∀ o, Fr (rowOf v) w (w.drew.alloc o) := fun o => ((Fr.refl _ _).drew).alloc o
  rcases hown.2.2 with ⟨a, rfl, rfl, him⟩ | ⟨g, cap, cur, rfl, hg, hnc, hcm, hcs, htake⟩
  · have hx : xs = [] := List.eq_nil_of_length_eq_zero (by simpa using hown.1)
    subst hx
    by_cases hm : m = 0
    · subst hm
      have hn : news = [] := List.eq_nil_of_length_eq_zero (by simpa using hs.newsLen)
      subst hn
      refine ⟨a, 0, w, ?_, ⟨by simp, by simp, .inl ⟨a, rfl, rfl, him⟩⟩, Fr.refl _ _, .inl rfl⟩
      rcases hs.kind with ⟨e', hk⟩ | hk <;> cases a <;>
        simp [Builtin.append_, run_underlying ht, run_underlying hk, sizeOf, typeInfo, hi, hs.len, hs.cells, storeCells]
    · have hold : (Builtin.firstCells i.size 0 (.slice a 0 0)).run P w.drew = .ok (([] : List Value)).toArray w.drew := by
        cases a <;> simp [Builtin.firstCells, loadCells, loadCellsFrom]
      have hr := run_append_grow_src (P := P) w t tx ty e i z ht hi hz a 0 0 [] hold x m news hs (by omega) h63' (by
        exact growslice_fits (by omega) hbytes)
      have hgr := grown 0 (by omega)
      simp only [List.nil_append] at hgr hr ⊢
      exact ⟨_, _, _, hr, hgr, fg _, .inr (fun b ⟨ad, _, _, e1, _, e2⟩ => by injection e1 with e1; injection e1 with e1; subst e1; subst e2; exact Nat.le_refl _)⟩
  · by_cases hroom : n + m ≤ cap
    · have hfit : n * i.size + news.length ≤ cur.size := by rw [hs.newsLen, hcs, ← Nat.add_mul]; exact Nat.mul_le_mul_right _ hroom
      have hst := run_storeCells_at P g (n * i.size) e news 0 cur w hg (by simpa using hfit) hs.one
      simp only [Nat.add_zero] at hst
      refine ⟨some ⟨g, 0, none⟩, cap, w.setRow g (cur.toList.take (n * i.size) ++ news ++ cur.toList.drop (n * i.size + news.length)).toArray, (by
        rcases hs.kind with ⟨e', hk⟩ | hk <;> simp [Builtin.append_, run_underlying ht, run_underlying hk, sizeOf, typeInfo, hi, hs.len, hroom, hs.cells, Addr.add_lit, hst]), ?_, ?_, ?_⟩
      · refine ⟨hlen, hone, .inr ⟨g, cap, _, rfl, setRow_heap w g cur _ e _ hg, hroom, hcm, ?_, ?_⟩⟩
        · simp only [List.size_toArray, List.length_append, List.length_take, List.length_drop, Array.length_toList]
          omega
        · rw [htake, ← hlen]
          exact List.take_left
      · by_cases hc0 : 0 < cap
        · exact (Fr.refl _ _).setRow g _ (fun _ => ⟨_, _, _, rfl, hc0, rfl⟩)
        · have h0 : news = [] := List.eq_nil_of_length_eq_zero (by rw [hs.newsLen, show m = 0 by omega, Nat.zero_mul])
          subst h0
          have hself : w.setRow g (cur.toList.take (n * i.size) ++ [] ++ cur.toList.drop (n * i.size + ([] : List Value).length)).toArray = w := by
            have : (cur.toList.take (n * i.size) ++ [] ++ cur.toList.drop (n * i.size + ([] : List Value).length)).toArray = cur := by simp
            rw [this]
            exact setRow_self w g cur e (0, 0) hg
          rw [hself]
          exact Fr.refl _ _
      · left
        funext b
        simp only [rowOf]
        apply propext
        constructor
        · rintro ⟨ad, n', c', e1, h0, e2⟩
          injection e1 with e1 _ e3
          exact ⟨ad, _, _, by rw [e1], by omega, e2⟩
        · rintro ⟨ad, n', c', e1, h0, e2⟩
          injection e1 with e1 _ e3
          exact ⟨ad, _, _, by rw [e1], by omega, e2⟩
    · have hold : (Builtin.firstCells i.size n (.slice (some ⟨g, 0, none⟩) n cap)).run P w.drew = .ok xs.toArray w.drew := by
        refine run_firstCells_some (P := P) w.drew i.size n ⟨g, 0, none⟩ n cap xs hown.1 ?_
        intro j u hu
        rw [Addr.add_lit, Nat.zero_add]
        show w.cell? _ = _
        rw [blk_cells hg, ← Array.getElem?_toList]
        rw [← htake, List.getElem?_take] at hu
        split at hu
        · exact hu
        · cases hu
      have hr := run_append_grow_src (P := P) w t tx ty e i z ht hi hz (some ⟨g, 0, none⟩) n cap xs hold x m news hs (by omega) h63' (growslice_fits (by omega) hbytes)
      exact ⟨_, _, _, hr, grown cap (by omega), fg _, .inr (fun b ⟨ad, _, _, e1, _, e2⟩ => by injection e1 with e1; injection e1 with e1; subst e1; subst e2; exact Nat.le_refl _)⟩

theorem wpList_app {ops : Array Oper} {rest : List Oper} {o : Oper} {a : Act} {Q : Exit → Act → World → Prop} (hgd : o.guard = none) (s x : Operand) (t tx : TypeId)
    (ho : o.op = .call { callee := .builtin .append, args := #[s, x], argTypes := #[t, tx] })
    (e : TypeId) (i : TypeInfo) (z : Value) (size bytes : Nat) (ht : P.underlying t = some (.slice e)) (hi : P.info? e = some i) (hz : i.zero = some z)
    (hsize : i.size = size) (hby : i.bytes = bytes) (hzs : z.cells.size = size) (hsz : 0 < size)
    (v : Value) (n : Nat) (xs : List Value) (hv : a.eval s = v) (hown : Own w e size v n xs) (xv : Value) (m : Nat) (news : List Value) (hx : a.eval x = xv) (hs : Src P size tx xv m news w)
    (h63 : n + m ≤ maxLen) (hbytes : (n + m) * bytes ≤ 140737488355328)
    (h : ∀ av c w', Own w' e size (.slice av (n + m) c) (n + m) (xs ++ news) → Fr (rowOf v) w w' → (rowOf v = rowOf (.slice av (n + m) c) ∨ ∀ b, rowOf (.slice av (n + m) c) b → w.heap.size ≤ b) →
      wpList P ops Q rest (a.put o.dst (.slice av (n + m) c)) w') : wpList P ops Q (o :: rest) a w := by
  refine wpList_plain hgd fun K hK => ?_
  obtain ⟨av, c, w', hr, h2, h3, h4⟩ := run_app (P := P) w t tx o.type e i z size bytes ht hi hz hsize hby hzs hsz v n xs hown xv m news hs h63 hbytes
  unfold Oper.wp execOp
  simp only [ho, resolve, invoke, builtin, Sem.run_bind, Sem.run_pure, Result.andThen_ok, List.map_toArray, List.map_cons, List.map_nil, hv, hx, hr]
  exact hK _ _ (h av c w' h2 h3 h4)

end

/-- A slice's elements are runes. -/
def runes (l : List Int) : List Value := l.map (Value.int .i32)
theorem runes_one (l : List Int) : ∀ u ∈ runes l, u.oneCell' = true := ints_oneCell .i32 l
@[simp] theorem runes_length (l : List Int) : (runes l).length = l.length := by simp [runes]
theorem runes_append (l k : List Int) : runes (l ++ k) = runes l ++ runes k := by simp [runes]
theorem runes_take (l : List Int) (n : Nat) : runes (l.take n) = (runes l).take n := by simp [runes]
theorem runes_drop (l : List Int) (n : Nat) : runes (l.drop n) = (runes l).drop n := by simp [runes]
theorem runes_inj {l k : List Int} (h : runes l = runes k) : l = k := by
  unfold runes at h
  exact (List.map_inj_right (fun a b e => by injection e)).1 h

theorem Try.infoRune : (Try.prog.info? 21).map (fun i => (i.zero, i.size, i.bytes)) = some (some (.int .i32 0), 1, 4) := by kernel_rfl

/-- A slice of runes that reads as l, and stays so. -/
structure RS (B : Nat) (w : World) (a : Option Addr) (c : Nat) (l : List Int) : Prop where
  sl : Sl w 1 a l.length c (runes l)
  imm : Imm B 21 w a
  fit : l.length * 4 ≤ 140737488355328

theorem RS.stay {B : Nat} {w w' : World} {M : Nat → Prop} {a : Option Addr} {c : Nat} {l : List Int} (h : RS B w a c l) (hf : Fr M w w') (hm : Avoids B 21 w M) : RS B w' a c l :=
  ⟨h.sl.stay h.imm hf hm, h.imm.stay hf hm, h.fit⟩

end Go.Proofs.Ytbhklkolkclflaa
