/- Words for the walks of this seat: what a call may change ('Fr'), what reads as a list, what is owned; append, copy and make over them. Contracts of package slices at runes. slices.Equal, Grow, Concat at runes. slices.Grow and slices.Concat at runes. Contracts of package buffer, first part: what only reads. Contracts of package buffer, second part: Line, Clone, New, Move, SetMark, Swap. Contracts of package buffer, third part: open. Contracts of package buffer, fourth part: Replace. Contracts of package buffer, fifth part: Replace where it is refused; Apply. Contracts of package buffer, sixth part: Apply where the edit does not fit. -/
import Derived.Test.YtbhklkolkclflaaGreatDoorProg
import Derived.WalkKit
import Derived.Deep.QuietTactic
import Derived.BigQuiet
import Derived.StillTailTactics
import Derived.Deep.AppendSrc
import Derived.Laws.CopyOwn
import Derived.Deep.LoopGhost
import Derived.Deep.DeepCutAuto
import Derived.Deep.CutBlock
import Derived.Deep.RegionHeld3
import Derived.Lib.Hide
import Derived.WalkSpells
import Derived.Lib.SliceRun
/- B0: Words for the walks of this seat: what a call may change ('Fr'), what reads as a list, what is owned; append, copy and make over them. -/
namespace Go.Proofs.YtbhklkolkclflaaGreatDoor
open Go.RowKit

/-- The world w' is w but for the blocks of M (and new ones). -/
structure Fr (M : Nat → Prop) (w w' : World) : Prop where
  os : w'.os = w.os
  tape : w'.tape = w.tape
  output : w'.output = w.output
  size : w.heap.size ≤ w'.heap.size
  blk : ∀ b, b < w.heap.size → ¬ M b → w'.heap[b]? = w.heap[b]?

def nob : Nat → Prop := fun _ => False
def one (b : Nat) : Nat → Prop := fun x => x = b

theorem Fr.refl (M : Nat → Prop) (w : World) : Fr M w w := ⟨rfl, rfl, rfl, Nat.le_refl _, fun _ _ _ => rfl⟩

theorem Fr.trans {M M1 : Nat → Prop} {w w1 w2 : World} (h : Fr M w w1) (h1 : Fr M1 w1 w2) (hs : ∀ b, b < w.heap.size → M1 b → M b) : Fr M w w2 :=
  ⟨h1.os.trans h.os, h1.tape.trans h.tape, h1.output.trans h.output, Nat.le_trans h.size h1.size,
    fun b hb hm => (h1.blk b (Nat.lt_of_lt_of_le hb h.size) (fun hx => hm (hs b hb hx))).trans (h.blk b hb hm)⟩

theorem Fr.mono {M M1 : Nat → Prop} {w w1 : World} (h : Fr M w w1) (hs : ∀ b, b < w.heap.size → M b → M1 b) : Fr M1 w w1 :=
  ⟨h.os, h.tape, h.output, h.size, fun b hb hm => h.blk b hb (fun hx => hm (hs b hb hx))⟩

theorem Fr.then {M : Nat → Prop} {w w1 w2 : World} (h : Fr M w w1) (h1 : Fr nob w1 w2) : Fr M w w2 := h.trans h1 (fun _ _ hx => hx.elim)
theorem Fr.after {M : Nat → Prop} {w w1 w2 : World} (h : Fr nob w w1) (h1 : Fr M w1 w2) : Fr M w w2 := (h.mono (M1 := M) (fun _ _ hx => hx.elim)).trans h1 (fun _ _ hx => hx)

theorem Fr.drewN {M : Nat → Prop} {w w1 : World} (h : Fr M w w1) (n : Nat) : Fr M w (w1.drewN n) := ⟨h.os, h.tape, h.output, h.size, h.blk⟩
theorem Fr.drew {M : Nat → Prop} {w w1 : World} (h : Fr M w w1) : Fr M w w1.drew := ⟨h.os, h.tape, h.output, h.size, h.blk⟩

theorem Fr.ofDrew {M : Nat → Prop} {w w1 : World} (h : Fr M w.drew w1) : Fr M w w1 := ⟨h.os, h.tape, h.output, h.size, h.blk⟩
theorem Fr.ofDrewN {M : Nat → Prop} {w w1 : World} {n : Nat} (h : Fr M (w.drewN n) w1) : Fr M w w1 := ⟨h.os, h.tape, h.output, h.size, h.blk⟩

theorem Fr.alloc {M : Nat → Prop} {w w1 : World} (h : Fr M w w1) (o : Obj) : Fr M w (w1.alloc o) :=
  h.then ⟨rfl, rfl, rfl, by simp, fun b hb _ => Below.heap_alloc _ _ _ hb⟩

theorem Fr.setCell {M : Nat → Prop} {w w1 : World} (h : Fr M w w1) (p : Addr) (v : Value) (hp : p.block < w.heap.size → M p.block) : Fr M w (w1.setCell p v) :=
  h.trans (M1 := one p.block) ⟨rfl, rfl, rfl, by simp [World.setCell], fun b _ hm => Below.heap_setCell _ _ _ _ hm⟩ (fun b hb e => by cases e; exact hp hb)

theorem Fr.setOne {b : Nat} {w w1 : World} (h : Fr (one b) w w1) (o : Nat) (v : Value) : Fr (one b) w (w1.setCell ⟨b, o, none⟩ v) := h.setCell _ _ (fun _ => rfl)
theorem Fr.setNew {M : Nat → Prop} {w w1 : World} (h : Fr M w w1) (b o : Nat) (v : Value) (hb : w.heap.size ≤ b) : Fr M w (w1.setCell ⟨b, o, none⟩ v) :=
  h.setCell _ _ (fun hx => absurd hx (by show ¬ b < _; omega))
theorem Fr.setIn {M : Nat → Prop} {w w1 : World} (h : Fr M w w1) (b o : Nat) (v : Value) (hb : M b) : Fr M w (w1.setCell ⟨b, o, none⟩ v) := h.setCell _ _ (fun _ => hb)

theorem Fr.setRow {M : Nat → Prop} {w w1 : World} (h : Fr M w w1) (g : Nat) (cs : Array Value) (hp : g < w.heap.size → M g) : Fr M w (w1.setRow g cs) :=
  h.trans (M1 := one g) ⟨rfl, rfl, rfl, by simp [World.setRow], fun b _ hm => by simp [World.setRow, Array.getElem?_modify]; intro e; exact absurd e.symm hm⟩ (fun b hb e => by cases e; exact hp hb)

/-- A map's block is written. -/
def World.putObj (w : World) (r : Nat) (o : Obj) : World := { w with heap := w.heap.setIfInBounds r o }

theorem Fr.putObj {M : Nat → Prop} {w w1 : World} (h : Fr M w w1) (g : Nat) (o : Obj) (hp : g < w.heap.size → M g) : Fr M w (World.putObj w1 g o) :=
  h.trans (M1 := one g) ⟨rfl, rfl, rfl, by simp [World.putObj], fun b _ hm => by simp [World.putObj]; rw [Array.getElem?_setIfInBounds_ne (fun e => hm e.symm)]⟩ (fun b hb e => by cases e; exact hp hb)

theorem Fr.keep {M : Nat → Prop} {w w1 : World} (h : Fr M w w1) {b : Nat} {o : Obj} (hb : w.heap[b]? = some o) (hm : ¬ M b) : w1.heap[b]? = some o :=
  (h.blk b (Array.getElem?_eq_some_iff.1 hb).1 hm).trans hb

theorem Fr.below {M : Nat → Prop} {w w1 : World} (h : Fr M w w1) (B : Nat) (hB : B ≤ w.heap.size) (hm : ∀ b, M b → B ≤ b) : Below B w w1 :=
  ⟨h.os, h.tape, h.output, h.size, fun b hb => h.blk b (by omega) (fun hx => by have := hm b hx; omega)⟩

theorem Fr.ofGrown {w w1 : World} {row : Option Nat} (h : w.grownBy w1 row) : Fr (fun b => row = some b) w w1 :=
  ⟨h.os, h.tape, h.output, h.size, fun b hb hm => h.block b hb (fun e => hm e.symm)⟩

theorem blk_lt {w : World} {b : Nat} {o : Obj} (h : w.heap[b]? = some o) : b < w.heap.size := (Array.getElem?_eq_some_iff.1 h).1
theorem blk_cells {w : World} {b : Nat} {c : Array Value} {T : TypeId} {fr : Nat × Nat} (h : w.heap[b]? = some (.cells c T fr)) : ∀ o, w.cell? ⟨b, o, none⟩ = c[o]? :=
  fun o => by simp [World.cell?, h]
theorem blk_free {w : World} {b : Nat} {c : Array Value} {T : TypeId} (h : w.heap[b]? = some (.cells c T (0, 0))) : ∀ o, w.frozen? ⟨b, o, none⟩ = false :=
  fun o => by simp [World.frozen?, h]

theorem heap_setCell_same {w : World} {b o : Nat} {c : Array Value} {T : TypeId} {fr : Nat × Nat} (h : w.heap[b]? = some (.cells c T fr)) (v : Value) :
    (w.setCell ⟨b, o, none⟩ v).heap[b]? = some (.cells (c.setIfInBounds o v) T fr) := by
  simp [World.setCell, Array.getElem?_modify, h]
theorem heap_setCell_ne {w : World} {p : Addr} {b : Nat} (hb : b ≠ p.block) (v : Value) : (w.setCell p v).heap[b]? = w.heap[b]? := Below.heap_setCell _ _ _ _ hb
theorem heap_drewN {w : World} {n b : Nat} : (w.drewN n).heap[b]? = w.heap[b]? := rfl
theorem heap_drew {w : World} {b : Nat} : w.drew.heap[b]? = w.heap[b]? := rfl
theorem heap_alloc_lt {w : World} {b : Nat} (o : Obj) (hb : b < w.heap.size) : (w.alloc o).heap[b]? = w.heap[b]? := Below.heap_alloc _ _ _ hb

/-- The cells 'cs' stand at the address. -/
def Rd (w : World) (a : Option Addr) (cs : List Value) : Prop := cs = [] ∨ ∃ g off, a = some ⟨g, off, none⟩ ∧ ∀ j u, cs[j]? = some u → w.cell? ⟨g, off + j, none⟩ = some u

/-- A slice value of n elements whose cells are 'cs'; n elements of 'size' cells. -/
structure Sl (w : World) (size : Nat) (a : Option Addr) (n c : Nat) (cs : List Value) : Prop where
  len : cs.length = n * size
  le : n ≤ c
  rd : Rd w a cs
  one : ∀ u ∈ cs, u.oneCell' = true

/-- Memory that nobody writes: what was there before B, and all rows of elements of type T. -/
def Imm (B : Nat) (T : TypeId) (w : World) (a : Option Addr) : Prop := ∀ ad, a = some ad → ad.block < B ∧ ad.block < w.heap.size ∨ ∃ c fr, w.heap[ad.block]? = some (.cells c T fr)

/-- What is changed is neither. -/
def Avoids (B : Nat) (T : TypeId) (w : World) (M : Nat → Prop) : Prop := ∀ b, M b → B ≤ b ∧ ∀ c fr, w.heap[b]? ≠ some (.cells c T fr)

theorem Imm.keeps {B : Nat} {T : TypeId} {w w' : World} {M : Nat → Prop} {a : Option Addr} (h : Imm B T w a) (hf : Fr M w w') (hm : Avoids B T w M) : ∀ ad, a = some ad → w'.heap[ad.block]? = w.heap[ad.block]? := by
  intro ad e
  rcases h ad e with h | ⟨c, fr, h⟩
  · exact hf.blk _ h.2 (fun hx => by have := (hm _ hx).1; omega)
  · exact hf.blk _ (blk_lt h) (fun hx => (hm _ hx).2 _ _ h)

theorem Imm.stay {B : Nat} {T : TypeId} {w w' : World} {M : Nat → Prop} {a : Option Addr} (h : Imm B T w a) (hf : Fr M w w') (hm : Avoids B T w M) : Imm B T w' a := by
  intro ad e
  have hk := h.keeps hf hm ad e
  rcases h ad e with h | ⟨c, fr, h⟩
  · exact .inl ⟨h.1, Nat.lt_of_lt_of_le h.2 hf.size⟩
  · exact .inr ⟨c, fr, hk.trans h⟩

theorem Rd.stay {B : Nat} {T : TypeId} {w w' : World} {M : Nat → Prop} {a : Option Addr} {cs : List Value} (h : Rd w a cs) (hi : Imm B T w a) (hf : Fr M w w') (hm : Avoids B T w M) : Rd w' a cs := by
  rcases h with h | ⟨g, off, e, h⟩
  · exact .inl h
  · refine .inr ⟨g, off, e, fun j u hu => ?_⟩
    rw [World.cell?_of_block (w := w) (a := ⟨g, off + j, none⟩) (hi.keeps hf hm ⟨g, off, none⟩ e)]
    exact h j u hu

theorem Sl.stay {B : Nat} {T : TypeId} {w w' : World} {M : Nat → Prop} {size n c : Nat} {a : Option Addr} {cs : List Value} (h : Sl w size a n c cs) (hi : Imm B T w a) (hf : Fr M w w') (hm : Avoids B T w M) : Sl w' size a n c cs :=
  ⟨h.len, h.le, h.rd.stay hi hf hm, h.one⟩

theorem Avoids.one {B : Nat} {T T' : TypeId} {w : World} {b : Nat} {c : Array Value} {fr : Nat × Nat} (hb : B ≤ b) (h : w.heap[b]? = some (.cells c T' fr)) (hT : T' ≠ T) : Avoids B T w (one b) :=
  fun x hx => by cases hx; exact ⟨hb, fun c' fr' h' => by rw [h] at h'; injection h' with h'; injection h' with _ h' _; exact hT h'⟩
theorem Avoids.nob {B : Nat} {T : TypeId} {w : World} : Avoids B T w nob := fun _ hx => hx.elim

theorem Sl.src {P : Program} {w : World} {size n c : Nat} {a : Option Addr} {cs : List Value} (h : Sl w size a n c cs) (hs : 0 < size) {tx e' : TypeId} (hk : P.underlying tx = some (.slice e')) : Src P size tx (.slice a n c) n cs w := by
  rcases h.rd with rfl | ⟨g, off, rfl, hc⟩
  · have hn : n = 0 := by
      have h0 : n * size = 0 := h.len.symm
      rcases Nat.mul_eq_zero.1 h0 with h1 | h1
      · exact h1
      · omega
    subst hn
    cases a with
    | none => exact Src.ofNil w hk c
    | some ad => exact Src.ofSlice w hk ad 0 c [] (by simp) (by intro j u hu; simp at hu) (by intro u hu; cases hu)
  · exact Src.ofSlice w hk _ n c cs h.len (fun j u hu => by rw [Addr.add_lit]; exact hc j u hu) h.one

/-- The row that an owned slice may write. -/
def rowOf (v : Value) : Nat → Prop := fun b => ∃ ad n c, v = .slice (some ad) n c ∧ 0 < c ∧ b = ad.block

/-- A slice whose whole array is its own: its first n elements are the cells xs. Without capacity it owns nothing. -/
def Own (w : World) (e size : Nat) (v : Value) (n : Nat) (xs : List Value) : Prop :=
  xs.length = n * size ∧ (∀ u ∈ xs, u.oneCell' = true) ∧
  ((∃ a, v = .slice a 0 0 ∧ n = 0 ∧ Imm 0 e w a) ∨
   ∃ g cap cur, v = .slice (some ⟨g, 0, none⟩) n cap ∧ w.heap[g]? = some (.cells cur e (0, 0)) ∧ n ≤ cap ∧ cap ≤ maxLen ∧ cur.size = cap * size ∧ cur.toList.take (n * size) = xs)

theorem Own.nil (w : World) (e size : Nat) : Own w e size (.slice none 0 0) 0 [] := ⟨by simp, by simp, .inl ⟨none, rfl, rfl, fun _ h => by cases h⟩⟩

theorem Own.val {w : World} {e size : Nat} {v : Value} {n : Nat} {xs : List Value} (h : Own w e size v n xs) : ∃ a c, v = .slice a n c ∧ n ≤ c ∧ c ≤ maxLen := by
  rcases h.2.2 with ⟨a, rfl, rfl, _⟩ | ⟨g, cap, cur, rfl, hg, hn, hm, _⟩
  · exact ⟨a, 0, rfl, Nat.le_refl _, by unfold maxLen; omega⟩
  · exact ⟨_, cap, rfl, hn, hm⟩

theorem Own.imm {w : World} {e size : Nat} {a : Option Addr} {n c : Nat} {xs : List Value} (h : Own w e size (.slice a n c) n xs) (B : Nat) : Imm B e w a := by
  intro ad ea
  rcases h.2.2 with ⟨a', hv, _, hi⟩ | ⟨g, cap, cur, hv, hg, _⟩
  · injection hv with h1 _ _
    rcases hi ad (h1 ▸ ea) with h | h
    · omega
    · exact .inr h
  · injection hv with h1 _ _
    rw [h1] at ea
    injection ea with ea
    subst ea
    exact .inr ⟨cur, (0, 0), hg⟩

theorem Own.cells {w : World} {e size : Nat} {n cap g : Nat} {xs : List Value} (h : Own w e size (.slice (some ⟨g, 0, none⟩) n cap) n xs) (hc : 0 < cap) : ∀ j u, xs[j]? = some u → w.cell? ⟨g, j, none⟩ = some u := by
  intro j u hu
  rcases h.2.2 with ⟨a, hv, _⟩ | ⟨g', cap', cur, hv, hg, _, _, _, ht⟩
  · injection hv with _ _ h3; omega
  · injection hv with h1 h2 h3
    injection h1 with h1
    injection h1 with h1
    subst h1
    rw [blk_cells hg, ← Array.getElem?_toList]
    rw [← ht, List.getElem?_take] at hu
    split at hu
    · exact hu
    · cases hu

theorem Own.sl {w : World} {e size : Nat} {a : Option Addr} {n c : Nat} {xs : List Value} (h : Own w e size (.slice a n c) n xs) : Sl w size a n c xs := by
  obtain ⟨_, _, hv, hn, _⟩ := h.val
  injection hv with h1 _ h3
  subst h1; subst h3
  refine ⟨h.1, hn, ?_, h.2.1⟩
  rcases h.2.2 with ⟨a', hv, h0, _⟩ | ⟨g, cap, cur, hv, hg, hn', hm, hsz, ht⟩
  · have hx : xs = [] := by
      have hl := h.1
      rw [h0, Nat.zero_mul] at hl
      exact List.eq_nil_of_length_eq_zero hl
    exact .inl hx
  · injection hv with h1 _ h3
    subst h1; subst h3
    by_cases hx : xs = []
    · exact .inl hx
    · refine .inr ⟨_, _, rfl, fun j u hu => ?_⟩
      rw [Nat.zero_add]
      rw [blk_cells hg, ← Array.getElem?_toList]
      rw [← ht, List.getElem?_take] at hu
      split at hu
      · exact hu
      · cases hu

/-- What is owned stays while other rows are written. -/
theorem Own.stay {w w' : World} {M : Nat → Prop} {e size : Nat} {v : Value} {n : Nat} {xs : List Value} (h : Own w e size v n xs) (hf : Fr M w w') (hm : ∀ b c fr, w.heap[b]? = some (.cells c e fr) → ¬ M b) : Own w' e size v n xs := by
  refine ⟨h.1, h.2.1, ?_⟩
  rcases h.2.2 with ⟨a, hv, hn, hi⟩ | ⟨g, cap, cur, hv, hg, rest⟩
  · refine .inl ⟨a, hv, hn, fun ad ea => ?_⟩
    rcases hi ad ea with h | ⟨c, fr, h⟩
    · omega
    · exact .inr ⟨c, fr, hf.keep h (hm _ _ _ h)⟩
  · exact .inr ⟨g, cap, cur, hv, hf.keep hg (hm _ _ _ hg), rest⟩

section
variable {P : Program} (w : World)

theorem run_app (t tx ty e : TypeId) (i : TypeInfo) (z : Value) (size bytes : Nat) (ht : P.underlying t = some (.slice e)) (hi : P.info? e = some i) (hz : i.zero = some z)
    (hsize : i.size = size) (hby : i.bytes = bytes) (hzs : z.cells.size = size) (hsz : 0 < size)
    (v : Value) (n : Nat) (xs : List Value) (hown : Own w e size v n xs) (x : Value) (m : Nat) (news : List Value) (hs : Src P size tx x m news w)
    (h63 : n + m ≤ maxLen) (hbytes : (n + m) * bytes ≤ 140737488355328) :
    ∃ a c w', (Builtin.append_ #[t, tx] ty #[v, x]).run P w = .ok (.slice a (n + m) c) w' ∧ Own w' e size (.slice a (n + m) c) (n + m) (xs ++ news) ∧ Fr (rowOf v) w w' ∧
      (rowOf v = rowOf (.slice a (n + m) c) ∨ ∀ b, rowOf (.slice a (n + m) c) b → w.heap.size ≤ b) := by
  subst hsize
  subst hby
  have h63' : ((n + m : Nat) : Int) ≤ 9223372036854775807 := by simp only [maxLen] at h63; omega
  have hlen : (xs ++ news).length = (n + m) * i.size := by rw [List.length_append, hown.1, hs.newsLen, Nat.add_mul]
  have hone : ∀ u ∈ xs ++ news, u.oneCell' = true := fun u hu => (List.mem_append.1 hu).elim (hown.2.1 u) (hs.one u)
  have grown : ∀ (old : Nat), old < n + m →
      Own (w.drew.alloc (.cells ((xs ++ news).toArray ++ Builtin.zeroCells z.cells (grownCap w (n + m) old e - (n + m))) e)) e i.size
        (.slice (some ⟨w.heap.size, 0, none⟩) (n + m) (grownCap w (n + m) old e)) (n + m) (xs ++ news) := by
    intro old ho
    have hge := grownCap_ge w (n + m) old e
    have hcm : grownCap w (n + m) old e ≤ maxLen := grownCap_le_maxLen w (n + m) old e h63
    refine ⟨hlen, hone, .inr ⟨w.heap.size, _, _, rfl, heap_alloc_new w.drew _, hge, hcm, ?_, ?_⟩⟩
    · simp only [Array.size_append, List.size_toArray, size_zeroCells, hzs, hlen, ← Nat.add_mul]
      congr 1
      omega
    · simp only [Array.toList_append]
      rw [← hlen]
      exact List.take_left
  have fg : ∀ o, Fr (rowOf v) w (w.drew.alloc o) := fun o => ((Fr.refl _ _).drew).alloc o
  rcases hown.2.2 with ⟨a, rfl, rfl, him⟩ | ⟨g, cap, cur, rfl, hg, hnc, hcm, hcs, htake⟩
  · have hx : xs = [] := List.eq_nil_of_length_eq_zero (by simpa using hown.1)
    subst hx
    by_cases hm : m = 0
    · subst hm
      have hn : news = [] := List.eq_nil_of_length_eq_zero (by simpa using hs.newsLen)
      subst hn
      refine ⟨a, 0, w, ?_, ⟨by simp, by simp, .inl ⟨a, rfl, rfl, him⟩⟩, Fr.refl _ _, .inl rfl⟩
      rcases hs.kind with ⟨e', hk⟩ | hk <;> cases a <;>
        simp [Builtin.append_, run_underlying ht, run_underlying hk, sizeOf, typeInfo, hi, hs.len, hs.cells, storeCells]
    · have hold : (Builtin.firstCells i.size 0 (.slice a 0 0)).run P w.drew = .ok (([] : List Value)).toArray w.drew := by
        cases a <;> simp [Builtin.firstCells, loadCells, loadCellsFrom]
      have hr := run_append_grow_src (P := P) w t tx ty e i z ht hi hz a 0 0 [] hold x m news hs (by omega) h63' (by
        exact growslice_fits (by omega) hbytes)
      have hgr := grown 0 (by omega)
      simp only [List.nil_append] at hgr hr ⊢
      exact ⟨_, _, _, hr, hgr, fg _, .inr (fun b ⟨ad, _, _, e1, _, e2⟩ => by injection e1 with e1; injection e1 with e1; subst e1; subst e2; exact Nat.le_refl _)⟩
  · by_cases hroom : n + m ≤ cap
    · have hfit : n * i.size + news.length ≤ cur.size := by rw [hs.newsLen, hcs, ← Nat.add_mul]; exact Nat.mul_le_mul_right _ hroom
      have hst := run_storeCells_at P g (n * i.size) e news 0 cur w hg (by simpa using hfit) hs.one
      simp only [Nat.add_zero] at hst
      refine ⟨some ⟨g, 0, none⟩, cap, w.setRow g (cur.toList.take (n * i.size) ++ news ++ cur.toList.drop (n * i.size + news.length)).toArray, (by
        rcases hs.kind with ⟨e', hk⟩ | hk <;> simp [Builtin.append_, run_underlying ht, run_underlying hk, sizeOf, typeInfo, hi, hs.len, hroom, hs.cells, Addr.add_lit, hst]), ?_, ?_, ?_⟩
      · refine ⟨hlen, hone, .inr ⟨g, cap, _, rfl, setRow_heap w g cur _ e _ hg, hroom, hcm, ?_, ?_⟩⟩
        · simp only [List.size_toArray, List.length_append, List.length_take, List.length_drop, Array.length_toList]
          omega
        · rw [htake, ← hlen]
          exact List.take_left
      · by_cases hc0 : 0 < cap
        · exact (Fr.refl _ _).setRow g _ (fun _ => ⟨_, _, _, rfl, hc0, rfl⟩)
        · have h0 : news = [] := List.eq_nil_of_length_eq_zero (by rw [hs.newsLen, show m = 0 by omega, Nat.zero_mul])
          subst h0
          have hself : w.setRow g (cur.toList.take (n * i.size) ++ [] ++ cur.toList.drop (n * i.size + ([] : List Value).length)).toArray = w := by
            have : (cur.toList.take (n * i.size) ++ [] ++ cur.toList.drop (n * i.size + ([] : List Value).length)).toArray = cur := by simp
            rw [this]
            exact setRow_self w g cur e (0, 0) hg
          rw [hself]
          exact Fr.refl _ _
      · left
        funext b
        simp only [rowOf]
        apply propext
        constructor
        · rintro ⟨ad, n', c', e1, h0, e2⟩
          injection e1 with e1 _ e3
          exact ⟨ad, _, _, by rw [e1], by omega, e2⟩
        · rintro ⟨ad, n', c', e1, h0, e2⟩
          injection e1 with e1 _ e3
          exact ⟨ad, _, _, by rw [e1], by omega, e2⟩
    · have hold : (Builtin.firstCells i.size n (.slice (some ⟨g, 0, none⟩) n cap)).run P w.drew = .ok xs.toArray w.drew := by
        refine run_firstCells_some (P := P) w.drew i.size n ⟨g, 0, none⟩ n cap xs hown.1 ?_
        intro j u hu
        rw [Addr.add_lit, Nat.zero_add]
        show w.cell? _ = _
        rw [blk_cells hg, ← Array.getElem?_toList]
        rw [← htake, List.getElem?_take] at hu
        split at hu
        · exact hu
        · cases hu
      have hr := run_append_grow_src (P := P) w t tx ty e i z ht hi hz (some ⟨g, 0, none⟩) n cap xs hold x m news hs (by omega) h63' (growslice_fits (by omega) hbytes)
      exact ⟨_, _, _, hr, grown cap (by omega), fg _, .inr (fun b ⟨ad, _, _, e1, _, e2⟩ => by injection e1 with e1; injection e1 with e1; subst e1; subst e2; exact Nat.le_refl _)⟩

theorem wpList_app {ops : Array Oper} {rest : List Oper} {o : Oper} {a : Act} {Q : Exit → Act → World → Prop} (hgd : o.guard = none) (s x : Operand) (t tx : TypeId)
    (ho : o.op = .call { callee := .builtin .append, args := #[s, x], argTypes := #[t, tx] })
    (e : TypeId) (i : TypeInfo) (z : Value) (size bytes : Nat) (ht : P.underlying t = some (.slice e)) (hi : P.info? e = some i) (hz : i.zero = some z)
    (hsize : i.size = size) (hby : i.bytes = bytes) (hzs : z.cells.size = size) (hsz : 0 < size)
    (v : Value) (n : Nat) (xs : List Value) (hv : a.eval s = v) (hown : Own w e size v n xs) (xv : Value) (m : Nat) (news : List Value) (hx : a.eval x = xv) (hs : Src P size tx xv m news w)
    (h63 : n + m ≤ maxLen) (hbytes : (n + m) * bytes ≤ 140737488355328)
    (h : ∀ av c w', Own w' e size (.slice av (n + m) c) (n + m) (xs ++ news) → Fr (rowOf v) w w' → (rowOf v = rowOf (.slice av (n + m) c) ∨ ∀ b, rowOf (.slice av (n + m) c) b → w.heap.size ≤ b) →
      wpList P ops Q rest (a.put o.dst (.slice av (n + m) c)) w') : wpList P ops Q (o :: rest) a w := by
  refine wpList_plain hgd fun K hK => ?_
  obtain ⟨av, c, w', hr, h2, h3, h4⟩ := run_app (P := P) w t tx o.type e i z size bytes ht hi hz hsize hby hzs hsz v n xs hown xv m news hs h63 hbytes
  unfold Oper.wp execOp
  simp only [ho, resolve, invoke, builtin, Sem.run_bind, Sem.run_pure, Result.andThen_ok, List.map_toArray, List.map_cons, List.map_nil, hv, hx, hr]
  exact hK _ _ (h av c w' h2 h3 h4)

end

/-- A slice's elements are runes. -/
def runes (l : List Int) : List Value := l.map (Value.int .i32)
theorem runes_one (l : List Int) : ∀ u ∈ runes l, u.oneCell' = true := ints_oneCell .i32 l
@[simp] theorem runes_length (l : List Int) : (runes l).length = l.length := by simp [runes]
theorem runes_append (l k : List Int) : runes (l ++ k) = runes l ++ runes k := by simp [runes]
theorem runes_take (l : List Int) (n : Nat) : runes (l.take n) = (runes l).take n := by simp [runes]
theorem runes_drop (l : List Int) (n : Nat) : runes (l.drop n) = (runes l).drop n := by simp [runes]
theorem runes_inj {l k : List Int} (h : runes l = runes k) : l = k := by
  unfold runes at h
  exact (List.map_inj_right (fun a b e => by injection e)).1 h

theorem Tryz.infoRune : (Tryz.prog.info? 21).map (fun i => (i.zero, i.size, i.bytes)) = some (some (.int .i32 0), 1, 4) := by kernel_rfl

/-- A slice of runes that reads as l, and stays so. -/
structure RS (B : Nat) (w : World) (a : Option Addr) (c : Nat) (l : List Int) : Prop where
  sl : Sl w 1 a l.length c (runes l)
  imm : Imm B 21 w a
  fit : l.length * 4 ≤ 140737488355328

theorem RS.stay {B : Nat} {w w' : World} {M : Nat → Prop} {a : Option Addr} {c : Nat} {l : List Int} (h : RS B w a c l) (hf : Fr M w w') (hm : Avoids B 21 w M) : RS B w' a c l :=
  ⟨h.sl.stay h.imm hf hm, h.imm.stay hf hm, h.fit⟩

end Go.Proofs.YtbhklkolkclflaaGreatDoor
/- B1: Contracts of package slices at runes. -/
namespace Go.Proofs.YtbhklkolkclflaaGreatDoor
open Go.RowKit

theorem ret_bool {a b : Bool} (h : a = b) : Ending.returned (.bool a) = .returned (.bool b) := by rw [h]
theorem ret_int {k : IntKind} {a b : Int} (h : a = b) : Ending.returned (.int k a) = .returned (.int k b) := by rw [h]

theorem own_empty (w : World) (T size : Nat) : Own (w.alloc (.cells #[] T)) T size (.slice (some ⟨w.heap.size, 0, none⟩) 0 0) 0 [] :=
  ⟨by simp, by simp, .inl ⟨_, rfl, rfl, fun ad e => by injection e with e; subst e; exact .inr ⟨#[], (0, 0), heap_alloc_new w _⟩⟩⟩

theorem Rd.isNil {w : World} {cs : List Value} (h : Rd w none cs) : cs = [] := by
  rcases h with h | ⟨_, _, e, _⟩
  · exact h
  · cases e

/-- What a call leaves that makes a new slice. -/
def MadeS (w : World) (T size n : Nat) (xs : List Value) (e : Ending) (w' : World) : Prop :=
  ∃ a c, e = .returned (.slice a n c) ∧ Own w' T size (.slice a n c) n xs ∧ Fr nob w w' ∧ ∀ b, rowOf (.slice a n c) b → w.heap.size ≤ b

theorem fresh_of {w w1 w2 : World} {v v' : Value} (hs : w.heap.size ≤ w1.heap.size) (h : rowOf v = rowOf v' ∨ ∀ b, rowOf v' b → w1.heap.size ≤ b) (hv : ∀ b, rowOf v b → w.heap.size ≤ b) : ∀ b, rowOf v' b → w.heap.size ≤ b := by
  have := w2
  intro b hb
  rcases h with h | h
  · rw [← h] at hb; exact hv b hb
  · exact Nat.le_trans hs (h b hb)

theorem Rd.alloc {w : World} {a : Option Addr} {cs : List Value} (h : Rd w a cs) (o : Obj) : Rd (w.alloc o) a cs := by
  rcases h with h | ⟨g, off, e, h⟩
  · exact .inl h
  · refine .inr ⟨g, off, e, fun j u hu => ?_⟩
    rw [World.cell?_alloc_lt _ _ _ (World.block_lt_of_cell? w _ (h j u hu))]
    exact h j u hu
theorem Sl.alloc {w : World} {size n c : Nat} {a : Option Addr} {cs : List Value} (h : Sl w size a n c cs) (o : Obj) : Sl (w.alloc o) size a n c cs := ⟨h.len, h.le, h.rd.alloc o, h.one⟩

theorem Tryz.info_runes : (Tryz.prog.info? 21).map (fun i => (i.zero, i.size, i.bytes)) = some (some (.int .i32 0), 1, 4) := by kernel_rfl
set_option maxRecDepth 10000 in
theorem clone_runes (w : World) (a : Option Addr) (n c : Nat) (cs : List Value) (h : Sl w 1 a n c cs) (hb : n * 4 ≤ 140737488355328) :
    Calls Tryz.prog 100 #[.slice a n c] w (MadeS w 21 1 n cs) := by
  have hnil := fun (w : World) (a : Option Addr) (n c : Nat) => Lib.run_eql_slice_nil (P := Tryz.prog) w 23 21 a n c 0 0 Tryz.underlying23
  cases a with
  | none =>
    obtain rfl := h.rd.isNil
    obtain rfl : n = 0 := by have h0 := h.len; simp only [List.length_nil] at h0; omega
    go_enter Tryz.func100, Tryz.ntmps100
    go_wp2
    go_ret
    exact ⟨none, 0, rfl, Own.nil _ _ _, Fr.refl _ _, fun b ⟨_, _, _, e, _⟩ => by cases e⟩
  | some ad =>
    obtain ⟨i0, hi, hz0, hz1, hz2⟩ := info_parts Tryz.info_runes
    have hs : Sl (w.alloc (.cells #[] 21)) 1 (some ad) n c cs := h.alloc _
    go_enter Tryz.func100, Tryz.ntmps100
    go_wp2_with (at_builtin; refine wpList_app _ rfl (.tmp 5) (.tmp 6) 23 23 rfl 21 i0 (.int .i32 0) 1 4 Tryz.underlying23 hi hz0 hz1 hz2 rfl (by decide) _ 0 [] rfl (own_empty w 21 1) _ n cs rfl (hs.src (by decide) Tryz.underlying23) (by unfold maxLen; omega) (by omega) ?_; intro av c' w' hown hfr hrow)
    go_ret
    simp only [Nat.zero_add, List.nil_append] at hown hrow ⊢
    exact ⟨av, c', rfl, hown, ((Fr.refl nob w).alloc _).trans hfr (fun b hb hx => by obtain ⟨_, _, _, e, h0, _⟩ := hx; injection e with _ _ e3; omega), fresh_of (w2 := w') (by simp) hrow (fun b hx => by obtain ⟨_, _, _, e, h0, _⟩ := hx; injection e with _ _ e3; omega)⟩

theorem Tryz.info_lines : (Tryz.prog.info? 126).map (fun i => (i.zero, i.size, i.bytes)) = some (some (.agg #[.string ⟨#[]⟩, .int .i64 0]), 2, 24) := by kernel_rfl
set_option maxRecDepth 10000 in
theorem clone_lines (w : World) (a : Option Addr) (n c : Nat) (cs : List Value) (h : Sl w 2 a n c cs) (hb : n * 24 ≤ 140737488355328) :
    Calls Tryz.prog 161 #[.slice a n c] w (MadeS w 126 2 n cs) := by
  have hnil := fun (w : World) (a : Option Addr) (n c : Nat) => Lib.run_eql_slice_nil (P := Tryz.prog) w 24 126 a n c 0 0 Tryz.underlying24
  cases a with
  | none =>
    obtain rfl := h.rd.isNil
    obtain rfl : n = 0 := by have h0 := h.len; simp only [List.length_nil] at h0; omega
    go_enter Tryz.func161, Tryz.ntmps161
    go_wp2
    go_ret
    exact ⟨none, 0, rfl, Own.nil _ _ _, Fr.refl _ _, fun b ⟨_, _, _, e, _⟩ => by cases e⟩
  | some ad =>
    obtain ⟨i0, hi, hz0, hz1, hz2⟩ := info_parts Tryz.info_lines
    have hs : Sl (w.alloc (.cells #[] 126)) 2 (some ad) n c cs := h.alloc _
    go_enter Tryz.func161, Tryz.ntmps161
    go_wp2_with (at_builtin; refine wpList_app _ rfl (.tmp 5) (.tmp 6) 24 24 rfl 126 i0 (.agg #[.string ⟨#[]⟩, .int .i64 0]) 2 24 Tryz.underlying24 hi hz0 hz1 hz2 rfl (by decide) _ 0 [] rfl (own_empty w 126 2) _ n cs rfl (hs.src (by decide) Tryz.underlying24) (by unfold maxLen; omega) (by omega) ?_; intro av c' w' hown hfr hrow)
    go_ret
    simp only [Nat.zero_add, List.nil_append] at hown hrow ⊢
    exact ⟨av, c', rfl, hown, ((Fr.refl nob w).alloc _).trans hfr (fun b hb hx => by obtain ⟨_, _, _, e, h0, _⟩ := hx; injection e with _ _ e3; omega), fresh_of (w2 := w') (by simp) hrow (fun b hx => by obtain ⟨_, _, _, e, h0, _⟩ := hx; injection e with _ _ e3; omega)⟩

theorem Tryz.info_edits : (Tryz.prog.info? 168).map (fun i => (i.zero, i.size, i.bytes)) = some (some (.agg #[.int .i64 0, .slice none 0 0, .slice none 0 0]), 3, 56) := by kernel_rfl
set_option maxRecDepth 10000 in
theorem clone_edits (w : World) (a : Option Addr) (n c : Nat) (cs : List Value) (h : Sl w 3 a n c cs) (hb : n * 56 ≤ 140737488355328) :
    Calls Tryz.prog 119 #[.slice a n c] w (MadeS w 168 3 n cs) := by
  have hnil := fun (w : World) (a : Option Addr) (n c : Nat) => Lib.run_eql_slice_nil (P := Tryz.prog) w 84 168 a n c 0 0 Tryz.underlying84
  cases a with
  | none =>
    obtain rfl := h.rd.isNil
    obtain rfl : n = 0 := by have h0 := h.len; simp only [List.length_nil] at h0; omega
    go_enter Tryz.func119, Tryz.ntmps119
    go_wp2
    go_ret
    exact ⟨none, 0, rfl, Own.nil _ _ _, Fr.refl _ _, fun b ⟨_, _, _, e, _⟩ => by cases e⟩
  | some ad =>
    obtain ⟨i0, hi, hz0, hz1, hz2⟩ := info_parts Tryz.info_edits
    have hs : Sl (w.alloc (.cells #[] 168)) 3 (some ad) n c cs := h.alloc _
    go_enter Tryz.func119, Tryz.ntmps119
    go_wp2_with (at_builtin; refine wpList_app _ rfl (.tmp 5) (.tmp 6) 84 84 rfl 168 i0 (.agg #[.int .i64 0, .slice none 0 0, .slice none 0 0]) 3 56 Tryz.underlying84 hi hz0 hz1 hz2 rfl (by decide) _ 0 [] rfl (own_empty w 168 3) _ n cs rfl (hs.src (by decide) Tryz.underlying84) (by unfold maxLen; omega) (by omega) ?_; intro av c' w' hown hfr hrow)
    go_ret
    simp only [Nat.zero_add, List.nil_append] at hown hrow ⊢
    exact ⟨av, c', rfl, hown, ((Fr.refl nob w).alloc _).trans hfr (fun b hb hx => by obtain ⟨_, _, _, e, h0, _⟩ := hx; injection e with _ _ e3; omega), fresh_of (w2 := w') (by simp) hrow (fun b hx => by obtain ⟨_, _, _, e, h0, _⟩ := hx; injection e with _ _ e3; omega)⟩

end Go.Proofs.YtbhklkolkclflaaGreatDoor
/- B2: slices.Equal, Grow, Concat at runes. -/
namespace Go.Proofs.YtbhklkolkclflaaGreatDoor
open Go.RowKit

theorem runes_get {l : List Int} {j : Nat} (h : j < l.length) : (runes l)[j]? = some (.int .i32 (l.getD j 0)) := by
  simp [runes, h]

/-- A slice that is not empty has an address. -/
theorem Sl.at {w : World} {size : Nat} {a : Option Addr} {n c : Nat} {cs : List Value} (h : Sl w size a n c cs) (hn : 0 < n) (hs : 0 < size) :
    ∃ g off, a = some ⟨g, off, none⟩ ∧ ∀ j u, cs[j]? = some u → w.cell? ⟨g, off + j, none⟩ = some u := by
  rcases h.rd with h0 | h0
  · have hl := h.len
    rw [h0] at hl
    have := Nat.mul_pos hn hs
    simp at hl
    omega
  · exact h0

theorem list_eq_of {l k : List Int} (hl : l.length = k.length) (h : ∀ m, m < l.length → l.getD m 0 = k.getD m 0) : l = k := by
  apply List.ext_getElem hl
  intro i h1 h2
  have := h i h1
  simpa [List.getD, h1, h2] using this

theorem list_ne_of {l k : List Int} {m : Nat} (h : l.getD m 0 ≠ k.getD m 0) : l ≠ k := fun e => h (by rw [e])

set_option maxRecDepth 10000 in
theorem equal_runes (w : World) (a b : Option Addr) (c d : Nat) (l k : List Int) (h : Sl w 1 a l.length c (runes l)) (h2 : Sl w 1 b k.length d (runes k)) (hb : l.length * 4 ≤ 140737488355328) :
    Calls Tryz.prog 30 #[.slice a l.length c, .slice b k.length d] w fun e w' => e = .returned (.bool (decide (l = k))) ∧ ∃ n, w' = w.drewN n := by
  by_cases hn : l.length = k.length
  case neg =>
    have hne : l ≠ k := fun e => hn (by rw [e])
    have hd : decide (l = k) = false := by simpa using hne
    have hb1 : ((l.length : Int) == (k.length : Int)) = false := by simp; omega
    have hb2 : ((l.length : Int) != (k.length : Int)) = true := by simp; omega
    have HD := Lib.hid hd
    have HN := Lib.hid hn
    clear hd hn hne
    go_enter Tryz.func30, Tryz.ntmps30
    go_wp2
    go_ret
    exact ⟨ret_bool HD.out.symm, 0, rfl⟩
  case pos =>
    have H := Lib.hid h
    have H2 := Lib.hid h2
    have HN := Lib.hid hn
    generalize hlen : l.length = n at hb
    have hlen2 : k.length = n := by omega
    have HL := Lib.hid hlen
    have HL2 := Lib.hid hlen2
    rw [hlen2]
    clear h h2 hn hlen hlen2
    go_enter Tryz.func30, Tryz.ntmps30
    go_wp2
    go_loopw [13] (fun i wr => ∃ (j q : Nat), j ≤ n ∧ i = .int .i64 j ∧ wr = w.drewN q ∧ ∀ m, m < j → l.getD m 0 = k.getD m 0) (fun i _ => n - (intOf i).toNat)
    case atStart => exact ⟨0, 0, Nat.zero_le _, rfl, rfl, fun m hm => by omega⟩
    case round =>
      obtain ⟨j, q, hj, rfl, rfl, hm⟩ := hrel
      have HM := Lib.hid hm
      clear hm
      by_cases hlt : j < n
      · obtain ⟨g, o, rfl, hc⟩ := H.out.at (by have := HL.out; omega) (by decide)
        obtain ⟨g2, o2, rfl, hc2⟩ := H2.out.at (by have := HL2.out; omega) (by decide)
        have c1 := hc j _ (runes_get (by have := HL.out; omega))
        have c2 := hc2 j _ (runes_get (by have := HL2.out; omega))
        clear hc hc2
        generalize hx : l.getD j 0 = x at c1
        generalize hy : k.getD j 0 = y at c2
        have HX := Lib.hid hx
        have HY := Lib.hid hy
        clear hx hy
        by_cases he : x = y
        · have he2 : (x != y) = false := by simpa using he
          have HE := Lib.hid he
          clear he
          go_wp2
          go_quiet (fail)
          go_wp2
          go_roundw
          case rel => exact ⟨j + 1, _, by omega, by go_num, rfl, fun m hm => by
            by_cases hmj : m = j
            · rw [hmj, HX.out, HY.out, HE.out]
            · exact HM.out m (by omega)⟩
          case measure => simp [intOf]; omega
        · have he2 : (x != y) = true := by simpa using he
          have HE := Lib.hid he
          clear he
          go_wp2
          go_quiet (fail)
          go_wp2
          go_ret
          exact ⟨ret_bool (decide_eq_false (list_ne_of (m := j) (by rw [HX.out, HY.out]; exact HE.out))).symm, _, World.drewN_drewN _ _ _⟩
      · go_wp2
        go_ret
        exact ⟨ret_bool (decide_eq_true (list_eq_of HN.out (fun m hm => HM.out m (by have := HL.out; omega)))).symm, _, rfl⟩
end Go.Proofs.YtbhklkolkclflaaGreatDoor
/- B3: slices.Grow and slices.Concat at runes. -/
namespace Go.Proofs.YtbhklkolkclflaaGreatDoor
open Go.RowKit

theorem Rd.old {w w' : World} {M : Nat → Prop} {a : Option Addr} {cs : List Value} (h : Rd w a cs) (hf : Fr M w w') (hm : ∀ ad, a = some ad → ¬ M ad.block) : Rd w' a cs := by
  rcases h with h | ⟨g, off, e, h⟩
  · exact .inl h
  · refine .inr ⟨g, off, e, fun j u hu => ?_⟩
    have hl := World.block_lt_of_cell? w _ (h j u hu)
    rw [World.cell?_of_block (w := w) (a := ⟨g, off + j, none⟩) (hf.blk g hl (hm ⟨g, off, none⟩ e))]
    exact h j u hu
theorem Sl.old {w w' : World} {M : Nat → Prop} {size n c : Nat} {a : Option Addr} {cs : List Value} (h : Sl w size a n c cs) (hf : Fr M w w') (hm : ∀ ad, a = some ad → ¬ M ad.block) : Sl w' size a n c cs :=
  ⟨h.len, h.le, h.rd.old hf hm, h.one⟩
theorem Sl.oldN {w w' : World} {size n c : Nat} {a : Option Addr} {cs : List Value} (h : Sl w size a n c cs) (hf : Fr nob w w') : Sl w' size a n c cs := h.old hf (fun _ _ hx => hx.elim)

theorem own_new (w : World) (T : TypeId) (cur : Array Value) (cap : Nat) (hc : cur.size = cap) (hm : cap ≤ maxLen) :
    Own (w.alloc (.cells cur T)).drew T 1 (.slice (some ⟨w.heap.size, 0, none⟩) 0 cap) 0 [] :=
  ⟨by simp, by simp, .inr ⟨w.heap.size, cap, cur, rfl, heap_alloc_new w _, Nat.zero_le _, hm, by omega, by simp⟩⟩

/-- A slice among the arguments of Concat. -/
structure Piece where
  a : Option Addr
  c : Nat
  l : List Int

def Piece.val (p : Piece) : Value := .slice p.a p.l.length p.c
def Piece.all (ps : List Piece) : List Int := ps.flatMap Piece.l
theorem Piece.all_take {ps : List Piece} {j : Nat} (h : j < ps.length) : Piece.all (ps.take (j + 1)) = Piece.all (ps.take j) ++ ps[j].l := by
  unfold Piece.all
  rw [List.take_succ_eq_append_getElem h, List.flatMap_append]
  simp
theorem Piece.all_take_le {ps : List Piece} (j : Nat) : (Piece.all (ps.take j)).length ≤ (Piece.all ps).length := by
  have : Piece.all ps = Piece.all (ps.take j) ++ Piece.all (ps.drop j) := by
    unfold Piece.all
    rw [← List.flatMap_append, List.take_append_drop]
  rw [this, List.length_append]
  omega

set_option maxRecDepth 10000 in
theorem grow_runes (w : World) (n : Nat) (hb : n * 4 ≤ 140737488355328) :
    Calls Tryz.prog 190 #[.slice none 0 0, .int .i64 n] w (MadeS w 21 1 0 []) := by
  by_cases h0 : n = 0
  · subst h0
    go_enter Tryz.func190, Tryz.ntmps190
    go_wp2
    go_ret
    exact ⟨none, 0, rfl, Own.nil _ _ _, Fr.refl _ _, fun b ⟨_, _, _, e, _⟩ => by cases e⟩
  · have hpos : 0 < n := by omega
    have hA : ¬ (281474976710656 < (n : Int) * ↑Tryz.t21.bytes) := by show ¬ (281474976710656 < (n : Int) * ((4 : Nat) : Int)); omega
    have hB : ¬ (281474976710656 < Builtin.nextslicecap n 0 * Tryz.t21.bytes) := by show ¬ (281474976710656 < Builtin.nextslicecap n 0 * 4); rw [nextslicecap_zero hpos]; omega
    go_enter Tryz.func190, Tryz.ntmps190
    go_wp2
    go_ret
    have hge := grownCap_ge w n 0 21
    have hcm := grownCap_le_maxLen w n 0 21 (by unfold maxLen; omega)
    exact ⟨_, _, rfl, own_new _ _ _ _ (by simp only [Array.size_append, size_zeroCells]; unfold grownCap at hge; simp; omega) hcm, ((Fr.refl _ _).alloc _).drew, fun b ⟨ad, _, _, e1, _, e2⟩ => by injection e1 with e1; injection e1 with e1; subst e1; subst e2; exact Nat.le_refl _⟩

/-- What is read of a slice of slices. -/
theorem pieces_get {ps : List Piece} {j : Nat} (h : j < ps.length) : (ps.map Piece.val)[j]? = some (.slice ps[j].a ps[j].l.length ps[j].c) := by
  simp [h, Piece.val]

set_option maxRecDepth 10000 in
theorem concat_runes (w : World) (ao : Option Addr) (c : Nat) (ps : List Piece) (h : Sl w 1 ao ps.length c (ps.map Piece.val)) (hp : ∀ p ∈ ps, Sl w 1 p.a p.l.length p.c (runes p.l))
    (hb : (Piece.all ps).length * 4 ≤ 140737488355328) (hn : ps.length ≤ 1000) :
    Calls Tryz.prog 103 #[.slice ao ps.length c] w (MadeS w 21 1 (Piece.all ps).length (runes (Piece.all ps))) := by
  have H := Lib.hid h
  have HP := Lib.hid hp
  obtain ⟨n, hlen⟩ : ∃ n, n = ps.length := ⟨_, rfl⟩
  obtain ⟨t, htot⟩ : ∃ t, t = (Piece.all ps).length := ⟨_, rfl⟩
  have HL := Lib.hid hlen
  have HT := Lib.hid htot
  rw [← htot] at hb
  rw [← hlen] at hn
  have hpost : ∀ e w', MadeS w 21 1 t (runes (Piece.all ps)) e w' → MadeS w 21 1 (Piece.all ps).length (runes (Piece.all ps)) e w' := by rw [htot]; exact fun _ _ h => h
  rw [← hlen]
  have HPost := Lib.hid hpost
  clear h hp hlen htot hpost
  refine Calls.mono (R := MadeS w 21 1 t (runes (Piece.all ps))) ?_ HPost.out
  go_enter Tryz.func103, Tryz.ntmps103
  go_wp2
  go_loop [3, 5, 11] (fun s _ i => ∃ j sz : Nat, j ≤ n ∧ i = .int .i64 j ∧ s = .int .i64 sz ∧ sz ≤ t ∧ sz = (Piece.all (ps.take j)).length) (fun _ _ i => n - (intOf i).toNat)
  case atStart => exact ⟨0, 0, Nat.zero_le _, rfl, rfl, Nat.zero_le _, rfl⟩
  case round =>
    obtain ⟨j, sz, hj, rfl, rfl, hst, hsz⟩ := hrel
    have HS := Lib.hid hsz
    clear hsz
    by_cases hlt : j < n
    · have hj' : j < ps.length := by have := HL.out; omega
      obtain ⟨g, o, rfl, hc⟩ := H.out.at (by omega) (by decide)
      have c1 := hc j _ (pieces_get hj')
      clear hc
      have hle : sz + ps[j].l.length ≤ t := by
        have h1 := @Piece.all_take_le ps (j + 1)
        rw [Piece.all_take hj', List.length_append, ← HS.out, ← HT.out] at h1
        exact h1
      generalize hx : ps[j].a = x at c1
      generalize hy : ps[j].l.length = y at c1 hle
      generalize hz : ps[j].c = z at c1
      have HY := Lib.hid hy
      clear hx hy hz
      go_wp2
      go_round
      case rel => exact ⟨j + 1, sz + y, by omega, by go_num, by go_num, hle, by rw [Piece.all_take hj', List.length_append, ← HS.out, ← HY.out]⟩
      case measure => simp [intOf]; omega
    · have hsz : sz = t := by
        have h1 := HS.out
        rw [List.take_of_length_le (by have := HL.out; omega)] at h1
        exact h1.trans HT.out.symm
      subst hsz
      go_wp2_with (go_at_call 190; refine (grow_runes _ _ hb).mono ?_; rintro e w1 ⟨a1, c1, rfl, hown, hfr, hfresh⟩)
      have HOwn := Lib.hid hown
      clear hown
      go_loopw [6, 8, 27] (fun v _ i wr => ∃ (k q : Nat) (a : Option Addr) (cc : Nat), k ≤ n ∧ i = .int .i64 k ∧ v = .slice a q cc ∧ q ≤ sz ∧ Hid (q = (Piece.all (ps.take k)).length) ∧ Own wr 21 1 (.slice a q cc) q (runes (Piece.all (ps.take k))) ∧ Fr nob w wr ∧ ∀ b, rowOf (.slice a q cc) b → w.heap.size ≤ b) (fun _ _ i _ => n - (intOf i).toNat)
      case atStart => exact ⟨0, 0, a1, c1, Nat.zero_le _, rfl, rfl, Nat.zero_le _, rfl, HOwn.out, hfr, hfresh⟩
      case round =>
        obtain ⟨k, q, a, cc, hk, rfl, rfl, hqs, HQ, hown, hfr, hfresh⟩ := hrel
        by_cases hkt : k < n
        · have hk' : k < ps.length := by have := HL.out; omega
          obtain ⟨g, o, rfl, hc⟩ := (H.out.oldN hfr).at (by omega) (by decide)
          have c1 := hc k _ (pieces_get hk')
          clear hc
          have hle : q + ps[k].l.length ≤ sz := by
            have h1 := @Piece.all_take_le ps (k + 1)
            rw [Piece.all_take hk', List.length_append, ← HQ.out, ← HT.out] at h1
            exact h1
          have hp := (HP.out _ (List.getElem_mem hk')).oldN hfr
          have hall := Piece.all_take hk'
          generalize hx : ps[k].a = x at c1 hp
          generalize hl : ps[k].l = l at c1 hle hp hall
          generalize hz : ps[k].c = z at c1 hp
          generalize hy : l.length = y at c1 hle hp
          have HY := Lib.hid hy
          have HA := Lib.hid hall
          obtain ⟨i0, hi, hz0, hz1, hz2⟩ := info_parts Tryz.info_runes
          have hsrc := hp.src (P := Tryz.prog) (tx := 23) (by decide) Tryz.underlying23
          have HSrc := Lib.hid hsrc
          have HOwn := Lib.hid hown
          clear hx hy hz hl hall hp hsrc hown
          go_wp2_with (at_builtin; refine wpList_app _ rfl (.tmp 31) (.tmp 32) 23 23 rfl 21 i0 (.int .i32 0) 1 4 Tryz.underlying23 hi hz0 hz1 hz2 rfl (by decide) _ q _ rfl HOwn.out _ y _ rfl HSrc.out (by unfold maxLen; omega) (by omega) ?_; intro av c' w' hown' hfr' hrow'; have HO := Lib.hid hown'; clear hown')
          go_roundw
          case rel =>
            refine ⟨k + 1, q + y, av, c', by omega, by go_num, rfl, hle, ?_, ?_, ?_, ?_⟩
            · show _ = _
              rw [HA.out, List.length_append, ← HQ.out, HY.out]
            · rw [HA.out, runes_append]
              exact HO.out
            · exact hfr.trans hfr' (fun b hb hx => absurd (hfresh b hx) (by omega))
            · exact fresh_of (w2 := w) hfr.size hrow' hfresh
          case measure => simp [intOf]; omega
        · have hq : q = sz := by
            have h1 := HQ.out
            rw [List.take_of_length_le (by have := HL.out; omega)] at h1
            exact h1.trans HT.out.symm
          subst hq
          have hown2 : Own wr 21 1 (.slice a q cc) q (runes (Piece.all ps)) := by
            have h1 := hown
            rw [List.take_of_length_le (by have := HL.out; omega)] at h1
            exact h1
          have HO := Lib.hid hown2
          clear hown hown2
          go_wp2
          go_ret
          exact ⟨a, cc, rfl, HO.out, hfr, hfresh⟩

theorem Sl.n1 {w : World} {a : Option Addr} {n c : Nat} {l : List Int} (h : Sl w 1 a n c (runes l)) : n = l.length := by
  have := h.len
  simp at this
  exact this.symm

/-- Two slices, one behind the other. -/
theorem concat2 (w : World) (g : Nat) (a1 a2 : Option Addr) (n1 c1 n2 c2 : Nat) (l1 l2 : List Int) (hg : w.heap[g]? = some (.cells #[.slice a1 n1 c1, .slice a2 n2 c2] 23 (0, 0)))
    (h1 : Sl w 1 a1 n1 c1 (runes l1)) (h2 : Sl w 1 a2 n2 c2 (runes l2)) (hb : (n1 + n2) * 4 ≤ 140737488355328) :
    Calls Tryz.prog 103 #[.slice (some ⟨g, 0, none⟩) 2 2] w (MadeS w 21 1 (n1 + n2) (runes (l1 ++ l2))) := by
  obtain rfl := h1.n1
  obtain rfl := h2.n1
  have hall : Piece.all [⟨a1, c1, l1⟩, ⟨a2, c2, l2⟩] = l1 ++ l2 := by simp [Piece.all]
  have hsl : Sl w 1 (some ⟨g, 0, none⟩) 2 2 ([⟨a1, c1, l1⟩, ⟨a2, c2, l2⟩].map Piece.val) :=
    ⟨rfl, Nat.le_refl _, .inr ⟨g, 0, rfl, fun j u hu => by rw [Nat.zero_add, blk_cells hg, ← hu]; simp [Piece.val]⟩, fun u hu => by
      simp [Piece.val] at hu
      rcases hu with rfl | rfl <;> rfl⟩
  have := concat_runes w (some ⟨g, 0, none⟩) 2 [⟨a1, c1, l1⟩, ⟨a2, c2, l2⟩] hsl (fun p hp => by
    simp at hp
    rcases hp with rfl | rfl
    · exact h1
    · exact h2) (by rw [hall, List.length_append]; exact hb) (by simp)
  rw [hall, List.length_append] at this
  exact this

/-- 'x[:k]' -/
theorem Sl.pre {w : World} {size n c : Nat} {a : Option Addr} {cs : List Value} (h : Sl w size a n c cs) (k : Nat) (hk : k ≤ n) : Sl w size a k c (cs.take (k * size)) := by
  refine ⟨?_, Nat.le_trans hk h.le, ?_, fun u hu => h.one u (List.mem_of_mem_take hu)⟩
  · rw [List.length_take, h.len]
    exact Nat.min_eq_left (Nat.mul_le_mul_right _ hk)
  · rcases h.rd with h0 | ⟨g, off, e, h0⟩
    · exact .inl (by rw [h0]; simp)
    · exact .inr ⟨g, off, e, fun j u hu => h0 j u (by
        rw [List.getElem?_take] at hu
        split at hu
        · exact hu
        · cases hu)⟩

/-- 'x[k:]' -/
theorem Sl.suf {w : World} {size n c : Nat} {a : Option Addr} {cs : List Value} (h : Sl w size a n c cs) (k : Nat) (hk : k ≤ n) : Sl w size (a.map (fun x => x.add (k * size))) (n - k) (c - k) (cs.drop (k * size)) := by
  refine ⟨?_, by have := h.le; omega, ?_, fun u hu => h.one u (List.mem_of_mem_drop hu)⟩
  · rw [List.length_drop, h.len, ← Nat.sub_mul]
  · rcases h.rd with h0 | ⟨g, off, e, h0⟩
    · exact .inl (by rw [h0]; simp)
    · refine .inr ⟨g, off + k * size, by rw [e, Option.map_some, Addr.add_lit], fun j u hu => ?_⟩
      rw [List.getElem?_drop] at hu
      rw [Nat.add_assoc]
      exact h0 _ u hu
/-- 'x[k:]' at the array's end -/
theorem Sl.sufEnd {w : World} {size n c : Nat} {a : Option Addr} {cs : List Value} (h : Sl w size a n c cs) (k : Nat) (hk : k ≤ n) (hc : c = k) : Sl w size a (n - k) (c - k) (cs.drop (k * size)) := by
  have hn : n = k := by have := h.le; omega
  have h0 : cs.drop (k * size) = [] := by rw [List.drop_eq_nil_iff, h.len, hn]; exact Nat.le_refl _
  rw [h0]
  exact ⟨by simp [hn], by omega, .inl rfl, by simp⟩

theorem Sl.pre1 {w : World} {n c : Nat} {a : Option Addr} {cs : List Int} (h : Sl w 1 a n c (runes cs)) (k : Nat) (hk : k ≤ n) : Sl w 1 a k c (runes (cs.take k)) := by
  have := h.pre k hk
  rw [Nat.mul_one] at this
  rw [runes_take]
  exact this
theorem Sl.suf1 {w : World} {n c : Nat} {a : Option Addr} {cs : List Int} (h : Sl w 1 a n c (runes cs)) (k : Nat) (hk : k ≤ n) : Sl w 1 (a.map (fun x => x.add k)) (n - k) (c - k) (runes (cs.drop k)) := by
  have := h.suf k hk
  rw [Nat.mul_one] at this
  rw [runes_drop]
  exact this
theorem Sl.sufEnd1 {w : World} {n c : Nat} {a : Option Addr} {cs : List Int} (h : Sl w 1 a n c (runes cs)) (k : Nat) (hk : k ≤ n) (hc : c = k) : Sl w 1 a (n - k) 0 (runes (cs.drop k)) := by
  have := h.sufEnd k hk hc
  rw [Nat.mul_one, hc, Nat.sub_self] at this
  rw [runes_drop]
  exact this

/-- 'x[k:]', as the walk spells it -/
theorem Sl.cut1 {w : World} {n c : Nat} {a : Option Addr} {cs : List Int} (h : Sl w 1 a n c (runes cs)) (k : Nat) (hk : k ≤ n) : Sl w 1 (if c = k then a else a.map (fun x => x.add k)) (n - k) (c - k) (runes (cs.drop k)) := by
  split
  · have := h.sufEnd k hk (by assumption)
    rw [Nat.mul_one] at this
    rw [runes_drop]
    exact this
  · exact h.suf1 k hk

/-- 'x[k:j]' -/
theorem Sl.mid1 {w : World} {n c : Nat} {a : Option Addr} {cs : List Int} (h : Sl w 1 a n c (runes cs)) (k j : Nat) (hk : k ≤ j) (hj : j ≤ n) : Sl w 1 (a.map (fun x => x.add k)) (j - k) (c - k) (runes ((cs.drop k).take (j - k))) := by
  have h1 := (h.suf1 k (by omega)).pre1 (j - k) (by omega)
  exact h1
theorem Sl.midEnd1 {w : World} {n c : Nat} {a : Option Addr} {cs : List Int} (h : Sl w 1 a n c (runes cs)) (k j : Nat) (hk : k ≤ j) (hj : j ≤ n) (hc : c = k) : Sl w 1 a (j - k) 0 (runes ((cs.drop k).take (j - k))) := by
  have h1 := (h.sufEnd1 k (by omega) hc).pre1 (j - k) (by omega)
  exact h1

theorem sliced_mid {w : World} {n c : Nat} {a : Option Addr} {cs : List Int} (h : Sl w 1 a n c (runes cs)) (k j : Nat) (hk : k ≤ j) (hj : j ≤ n) :
    Sl w 1 (if c = k then a else a.map (fun x => x.add k)) (j - k) (c - k) (runes ((cs.drop k).take (j - k))) := (h.cut1 k (by omega)).pre1 (j - k) (by omega)

/-- 'x[k:j]' for the walk: hidden behind two names. -/
theorem slice_lh {w : World} {n c : Nat} {a : Option Addr} {cs : List Int} (h : Sl w 1 a n c (runes cs)) (k j : Nat) (X : Int) (hX : X = j) (hk : k ≤ j) (hj : j ≤ n) :
    ∃ a2 c2, (∀ W, (Instr.slice 23 (.slice a n c) (some (.int .i64 k)) (some (.int .i64 X)) none).run Tryz.prog W = .ok (.slice a2 (j - k) c2) W) ∧ Sl w 1 a2 (j - k) c2 (runes ((cs.drop k).take (j - k))) := by
  subst hX
  refine ⟨_, _, fun W => ?_, sliced_mid h k j hk hj⟩
  have hs : (sizeOf (Tryz.prog.elem 23)).run Tryz.prog W = .ok 1 W := by kernel_rfl
  have hle := h.le
  rw [run_slice_lh W 23 a n c (by kernel_rfl) .i64 .i64 k j (by omega) (by omega) (by omega), hs]
  simp [Result.andThen, sliced]
end Go.Proofs.YtbhklkolkclflaaGreatDoor
/- B4: Contracts of package buffer, first part: what only reads. -/
namespace Go.Proofs.YtbhklkolkclflaaGreatDoor
open Go.RowKit

/-- M holds no row of runes. -/
def NR (w : World) (M : Nat → Prop) : Prop := ∀ b c fr, w.heap[b]? = some (.cells c 21 fr) → ¬ M b
theorem NR.nob (w : World) : NR w nob := fun _ _ _ _ h => h
theorem NR.one {w : World} {b T : Nat} {c : Array Value} {fr : Nat × Nat} (h : w.heap[b]? = some (.cells c T fr)) (hT : T ≠ 21) : NR w (one b) :=
  fun x c' fr' hx hb => by cases hb; rw [h] at hx; injection hx with hx; injection hx with _ hx _; exact hT hx

def BufBlk (w : World) (b : Nat) (v : Value) (f t : Nat) (p m : Int) : Prop :=
  w.heap[b]? = some (.cells #[.bool true, v, .int .i64 f, .int .i64 t, .int .i64 p, .int .i64 m] 236 (0, 0))

/-- The buffer at b reads as the line L with point p and mark m. -/
def BufRep (w : World) (b : Nat) (L : List Int) (p m : Int) : Prop :=
  ∃ (a : Option Addr) (n c f t : Nat) (cs : List Int), BufBlk w b (.slice a n c) f t p m ∧ Own w 21 1 (.slice a n c) n (runes cs) ∧ f ≤ t ∧ t ≤ n ∧ n ≤ 4000 ∧
    L = cs.take f ++ cs.drop t ∧ L.length ≤ 1024 ∧ 0 ≤ p ∧ p ≤ L.length ∧ -1 ≤ m ∧ m ≤ L.length

theorem Own.len1 {w : World} {e : TypeId} {v : Value} {n : Nat} {cs : List Int} (h : Own w e 1 v n (runes cs)) : cs.length = n := by
  have := h.1
  simpa using this

theorem Own.lt {w : World} {e size : Nat} {a : Option Addr} {n c : Nat} {xs : List Value} (h : Own w e size (.slice a n c) n xs) : ∀ ad, a = some ad → ad.block < w.heap.size := by
  intro ad ea
  rcases h.imm 0 ad ea with h | ⟨c, fr, h⟩
  · omega
  · exact blk_lt h
theorem Own.stayA {w w' : World} {M : Nat → Prop} {e size : Nat} {a : Option Addr} {n c : Nat} {xs : List Value} (h : Own w e size (.slice a n c) n xs) (hf : Fr M w w') (hm : ∀ ad, a = some ad → ¬ M ad.block) : Own w' e size (.slice a n c) n xs := by
  refine ⟨h.1, h.2.1, ?_⟩
  rcases h.2.2 with ⟨a', hv, hn, hi⟩ | ⟨g, cap, cur, hv, hg, rest⟩
  · refine .inl ⟨a', hv, hn, fun ad ea => ?_⟩
    injection hv with hv _ _
    rcases hi ad ea with h | ⟨c, fr, h⟩
    · omega
    · exact .inr ⟨c, fr, hf.keep h (hm _ (hv.trans ea))⟩
  · refine .inr ⟨g, cap, cur, hv, hf.keep hg ?_, rest⟩
    injection hv with hv _ _
    exact hm _ hv
theorem Own.le {w : World} {e size : Nat} {a : Option Addr} {n c : Nat} {xs : List Value} (h : Own w e size (.slice a n c) n xs) : n ≤ c := by
  obtain ⟨_, _, hv, hnc, _⟩ := h.val
  injection hv with _ _ hv
  omega

theorem BufRep.len {w : World} {b : Nat} {L : List Int} {p m : Int} (h : BufRep w b L p m) :
    ∃ (a : Option Addr) (n c f t : Nat) (cs : List Int), BufBlk w b (.slice a n c) f t p m ∧ Own w 21 1 (.slice a n c) n (runes cs) ∧ f ≤ t ∧ t ≤ n ∧ n ≤ 4000 ∧
    L = cs.take f ++ cs.drop t ∧ cs.length = n ∧ L.length = n - (t - f) ∧ L.length ≤ 1024 ∧ 0 ≤ p ∧ p ≤ L.length ∧ -1 ≤ m ∧ m ≤ L.length := by
  obtain ⟨a, n, c, f, t, cs, h1, h2, h3, h4, h5, h6, h7⟩ := h
  have hl := h2.len1
  exact ⟨a, n, c, f, t, cs, h1, h2, h3, h4, h5, h6, hl, by rw [h6, List.length_append, List.length_take, List.length_drop]; omega, h7⟩

theorem BufRep.blk {w : World} {b : Nat} {L : List Int} {p m : Int} (h : BufRep w b L p m) : ∃ c, w.heap[b]? = some (.cells c 236 (0, 0)) := by
  obtain ⟨a, n, c, f, t, cs, h1, _⟩ := h
  exact ⟨_, h1⟩
theorem BufRep.at {w : World} {b : Nat} {L : List Int} {p m : Int} (h : BufRep w b L p m) : ∃ (a : Option Addr) (n c f t : Nat), BufBlk w b (.slice a n c) f t p m := by
  obtain ⟨a, n, c, f, t, cs, h1, _⟩ := h
  exact ⟨a, n, c, f, t, h1⟩
theorem BufRep.lt {w : World} {b : Nat} {L : List Int} {p m : Int} (h : BufRep w b L p m) : b < w.heap.size := by
  obtain ⟨c, h⟩ := h.blk
  exact blk_lt h
theorem BufRep.nr {w : World} {b : Nat} {L : List Int} {p m : Int} (h : BufRep w b L p m) : NR w (one b) := by
  obtain ⟨c, h⟩ := h.blk
  exact NR.one h (by decide)
theorem BufRep.stay {w w' : World} {M : Nat → Prop} {b : Nat} {L : List Int} {p m : Int} (h : BufRep w b L p m) (hf : Fr M w w') (hb : ¬ M b) (hr : NR w M) : BufRep w' b L p m := by
  obtain ⟨a, n, c, f, t, cs, h1, h2, h3⟩ := h
  exact ⟨a, n, c, f, t, cs, hf.keep h1 hb, h2.stay hf hr, h3⟩
theorem BufRep.stayN {w w' : World} {b : Nat} {L : List Int} {p m : Int} (h : BufRep w b L p m) (hf : Fr nob w w') : BufRep w' b L p m := h.stay hf (fun h => h) (NR.nob w)

theorem buf_none (w : World) (b : Nat) {v : Value} {f t : Nat} {p m : Int} (h : BufBlk w b v f t p m) :
    Calls Tryz.prog 187 #[.pointer (some ⟨b, 0, none⟩)] w fun e w' => e = .returned (.bool false) ∧ w = w' := by
  have hc := blk_cells h
  go_enter Tryz.func187, Tryz.ntmps187
  go_wp2
  go_ret
  exact ⟨rfl, rfl⟩

theorem buf_len (w : World) (b : Nat) (L : List Int) (p m : Int) (h : BufRep w b L p m) :
    Calls Tryz.prog 108 #[.pointer (some ⟨b, 0, none⟩)] w fun e w' => e = .returned (.int .i64 L.length) ∧ ∃ k, w' = w.drewN k := by
  obtain ⟨a, n, c, f, t, cs, h1, h2, hft, htn, hn, hL, hcl, hlen, _⟩ := h.len
  have H := Lib.hid hlen
  have HL := Lib.hid hL
  have hc := blk_cells h1
  clear h h2 hL hcl hlen
  go_enter Tryz.func108, Tryz.ntmps108
  go_wp2_with (go_at_call 187; refine (buf_none _ _ h1).mono ?_; rintro e w' ⟨rfl, rfl⟩)
  go_quiet (fail)
  go_wp2
  go_ret
  exact ⟨ret_int (by have := H.out; omega), _, rfl⟩

theorem buf_point (w : World) (b : Nat) (L : List Int) (p m : Int) (h : BufRep w b L p m) :
    Calls Tryz.prog 107 #[.pointer (some ⟨b, 0, none⟩)] w fun e w' => e = .returned (.int .i64 p) ∧ w = w' := by
  obtain ⟨a, n, c, f, t, cs, h1, _⟩ := h
  have hc := blk_cells h1
  go_enter Tryz.func107, Tryz.ntmps107
  go_wp2_with (go_at_call 187; refine (buf_none _ _ h1).mono ?_; rintro e w' ⟨rfl, rfl⟩)
  go_ret
  exact ⟨rfl, rfl⟩

theorem buf_mark (w : World) (b : Nat) (L : List Int) (p m : Int) (h : BufRep w b L p m) :
    Calls Tryz.prog 188 #[.pointer (some ⟨b, 0, none⟩)] w fun e w' => e = .returned (.int .i64 m) ∧ w = w' := by
  obtain ⟨a, n, c, f, t, cs, h1, _⟩ := h
  have hc := blk_cells h1
  go_enter Tryz.func188, Tryz.ntmps188
  go_wp2_with (go_at_call 187; refine (buf_none _ _ h1).mono ?_; rintro e w' ⟨rfl, rfl⟩)
  go_ret
  exact ⟨rfl, rfl⟩

set_option maxRecDepth 10000 in
theorem buf_text (w : World) (b : Nat) (L : List Int) (p m : Int) (h : BufRep w b L p m) :
    Calls Tryz.prog 174 #[.pointer (some ⟨b, 0, none⟩)] w (MadeS w 21 1 L.length (runes L)) := by
  obtain ⟨a, n, c, f, t, cs, h1, h2, hft, htn, hn, hL, hcl, hlen, hL2, _⟩ := h.len
  have hnc := h2.le
  have i1 : (f : Int) ≤ c := by omega
  have i2 : (t : Int) ≤ n := by omega
  have hl : L.length = f + (n - t) := by omega
  refine Calls.mono (R := MadeS w 21 1 (f + (n - t)) (runes (cs.take f ++ cs.drop t))) ?_ (by rw [hl, hL]; exact fun _ _ h => h)
  have HO := Lib.hid h2
  have hc := blk_cells h1
  have hb0 := blk_lt h1
  clear h h2 hL hcl hlen hl
  go_enter Tryz.func174, Tryz.ntmps174
  go_wp2_with (go_at_call 187; refine (buf_none _ _ h1).mono ?_; rintro e w' ⟨rfl, rfl⟩)
  go_still_tail 18, (by kernel_rfl)
  go_wp2_with fail
  all_goals
    refine (concat2 _ w.heap.size _ _ f _ (n - t) _ (cs.take f) (cs.drop t) (by exact heap_alloc_new w _) (by first | exact (HO.out.sl.pre1 f (by omega)).oldN ((Fr.refl _ _).alloc _).drew | exact (‹c = t› ▸ HO.out.sl.pre1 f (by omega) : Sl w 1 a f t _).oldN ((Fr.refl _ _).alloc _).drew) (by first | exact (HO.out.sl.suf1 t htn).oldN ((Fr.refl _ _).alloc _).drew | exact (HO.out.sl.sufEnd1 t htn (by assumption)).oldN ((Fr.refl _ _).alloc _).drew) (by omega)).mono ?_
    rintro e w' ⟨a', c', rfl, hown, hfr, hfresh⟩
    have HO2 := Lib.hid hown
    clear hown
    go_wp2
    go_ret
    exact ⟨a', c', rfl, HO2.out, ((Fr.refl nob w).alloc _).drew.then hfr, fun b hb => Nat.le_of_succ_le (by have := hfresh b hb; simpa using this)⟩
end Go.Proofs.YtbhklkolkclflaaGreatDoor
/- B5: Contracts of package buffer, second part: Line, Clone, New, Move, SetMark, Swap. -/
namespace Go.Proofs.YtbhklkolkclflaaGreatDoor
open Go.RowKit

/-- A line by value. -/
def LineIs (w : World) (L : List Int) (p m : Int) (e : Ending) (w' : World) : Prop :=
  ∃ a c, e = .returned (.agg #[.slice a L.length c, .int .i64 p, .int .i64 m]) ∧ Own w' 21 1 (.slice a L.length c) L.length (runes L) ∧ Fr nob w w' ∧ ∀ b, rowOf (.slice a L.length c) b → w.heap.size ≤ b

set_option maxRecDepth 10000 in
theorem buf_line (w : World) (b : Nat) (L : List Int) (p m : Int) (h : BufRep w b L p m) :
    Calls Tryz.prog 99 #[.pointer (some ⟨b, 0, none⟩)] w (LineIs w L p m) := by
  have hb := h.lt
  have H := Lib.hid h
  clear h
  go_enter Tryz.func99, Tryz.ntmps99
  go_wp2_with fail
  refine (buf_text _ _ L p m (H.out.stayN ((Fr.refl _ _).alloc _))).mono ?_
  rintro e w1 ⟨a, c, rfl, hown, hfr, hfresh⟩
  have hf1 : Fr nob w w1 := ((Fr.refl nob w).alloc _).then hfr
  have HO := Lib.hid hown
  have hr : w1.heap[w.heap.size]? = some (.cells #[.slice none 0 0, .int .i64 0, .int .i64 0] 57 (0, 0)) := hfr.keep (heap_alloc_new w _) (fun h => h)
  have hc := blk_cells hr
  have hz := blk_free hr
  have hlt := blk_lt hr
  clear hown
  go_wp2_with (first | (go_at_call 107; refine (buf_point _ _ L p m (H.out.stayN hf1)).mono ?_; rintro e w' ⟨rfl, rfl⟩) | (go_at_call 188; refine (buf_mark _ _ L p m (H.out.stayN hf1)).mono ?_; rintro e w' ⟨rfl, rfl⟩))
  refine bodyPost_ret (v := .agg #[.slice a L.length c, .int .i64 p, .int .i64 m]) (by simp [results, Tryz.results99, go_sem, hc]) rfl ⟨a, c, rfl, ?_, ?_, fun b hb => Nat.le_of_succ_le (by have := hfresh b hb; simpa using this)⟩
  · exact HO.out.stay ((((Fr.refl (one w.heap.size) w1).setOne _ _).setOne _ _).setOne _ _) (NR.one hr (by decide))
  · exact ((hf1.setNew _ _ _ (Nat.le_refl _)).setNew _ _ _ (Nat.le_refl _)).setNew _ _ _ (Nat.le_refl _)

/-- A call that answers a number and leaves the buffer so. -/
def BufDone (w : World) (b : Nat) (n : Int) (L : List Int) (p m : Int) (e : Ending) (w' : World) : Prop :=
  e = .returned (.int .i64 n) ∧ BufRep w' b L p m ∧ Fr (one b) w w'

theorem BufRep.setPoint {w : World} {b : Nat} {L : List Int} {p m : Int} (h : BufRep w b L p m) (q : Int) (h0 : 0 ≤ q) (h1 : q ≤ L.length) : BufRep (w.setCell ⟨b, 4, none⟩ (.int .i64 q)) b L q m := by
  obtain ⟨a, n, c, f, t, cs, h2, h3, h4, h5, h6, h7, h8, _, _, h9⟩ := h
  exact ⟨a, n, c, f, t, cs, by have h := heap_setCell_same (o := 4) h2 (.int .i64 q); simpa [BufBlk] using h, h3.stay ((Fr.refl (one b) w).setOne _ _) (NR.one h2 (by decide)), h4, h5, h6, h7, h8, h0, h1, h9⟩
theorem BufRep.setMark {w : World} {b : Nat} {L : List Int} {p m : Int} (h : BufRep w b L p m) (q : Int) (h0 : -1 ≤ q) (h1 : q ≤ L.length) : BufRep (w.setCell ⟨b, 5, none⟩ (.int .i64 q)) b L p q := by
  obtain ⟨a, n, c, f, t, cs, h2, h3, h4, h5, h6, h7, h8, h10, h11, _, _⟩ := h
  exact ⟨a, n, c, f, t, cs, by have h := heap_setCell_same (o := 5) h2 (.int .i64 q); simpa [BufBlk] using h, h3.stay ((Fr.refl (one b) w).setOne _ _) (NR.one h2 (by decide)), h4, h5, h6, h7, h8, h10, h11, h0, h1⟩

set_option maxRecDepth 10000 in
theorem buf_move (w : World) (b : Nat) (L : List Int) (p m q : Int) (h : BufRep w b L p m) :
    Calls Tryz.prog 113 #[.pointer (some ⟨b, 0, none⟩), .int .i64 q] w (if 0 ≤ q ∧ q ≤ L.length then BufDone w b 0 L q m else BufDone w b 70 L p m) := by
  have H := Lib.hid h
  have hb := h.lt
  obtain ⟨a, n, c, f, t, h1⟩ := h.at
  clear h
  have hc := blk_cells h1
  have hz := blk_free h1
  by_cases hq : 0 ≤ q ∧ q ≤ L.length
  · rw [if_pos hq]
    obtain ⟨hq1, hq2⟩ := hq
    go_enter Tryz.func113, Tryz.ntmps113
    go_wp2_with (first | (go_at_call 187; refine (buf_none _ _ h1).mono ?_; rintro e w' ⟨rfl, rfl⟩) | (go_at_call 108; refine (buf_len _ _ L p m H.out).mono ?_; rintro e w' ⟨rfl, k, rfl⟩))
    go_ret
    exact ⟨rfl, (H.out.setPoint q hq1 hq2).stayN ((Fr.refl _ _).drewN _), ((Fr.refl _ _).drewN _).setOne _ _⟩
  · rw [if_neg hq]
    by_cases hq1 : q < 0
    · go_enter Tryz.func113, Tryz.ntmps113
      go_wp2_with (first | (go_at_call 187; refine (buf_none _ _ h1).mono ?_; rintro e w' ⟨rfl, rfl⟩) | (go_at_call 108; refine (buf_len _ _ L p m H.out).mono ?_; rintro e w' ⟨rfl, k, rfl⟩))
      go_ret
      exact ⟨rfl, H.out, Fr.refl _ _⟩
    · have hq2 : (L.length : Int) < q := by omega
      clear hq
      go_enter Tryz.func113, Tryz.ntmps113
      go_wp2_with (first | (go_at_call 187; refine (buf_none _ _ h1).mono ?_; rintro e w' ⟨rfl, rfl⟩) | (go_at_call 108; refine (buf_len _ _ L p m H.out).mono ?_; rintro e w' ⟨rfl, k, rfl⟩))
      go_ret
      exact ⟨rfl, H.out.stayN ((Fr.refl _ _).drewN _), (Fr.refl _ _).drewN _⟩

set_option maxRecDepth 10000 in
theorem buf_setMark (w : World) (b : Nat) (L : List Int) (p m q : Int) (h : BufRep w b L p m) :
    Calls Tryz.prog 110 #[.pointer (some ⟨b, 0, none⟩), .int .i64 q] w (if -1 ≤ q ∧ q ≤ L.length then BufDone w b 0 L p q else BufDone w b 70 L p m) := by
  have H := Lib.hid h
  have hb := h.lt
  obtain ⟨a, n, c, f, t, h1⟩ := h.at
  clear h
  have hc := blk_cells h1
  have hz := blk_free h1
  by_cases hq : -1 ≤ q ∧ q ≤ L.length
  · rw [if_pos hq]
    obtain ⟨hq1, hq2⟩ := hq
    go_enter Tryz.func110, Tryz.ntmps110
    go_wp2_with (first | (go_at_call 187; refine (buf_none _ _ h1).mono ?_; rintro e w' ⟨rfl, rfl⟩) | (go_at_call 108; refine (buf_len _ _ L p m H.out).mono ?_; rintro e w' ⟨rfl, k, rfl⟩))
    go_ret
    exact ⟨rfl, (H.out.setMark q hq1 hq2).stayN ((Fr.refl _ _).drewN _), ((Fr.refl _ _).drewN _).setOne _ _⟩
  · rw [if_neg hq]
    by_cases hq1 : q < -1
    · go_enter Tryz.func110, Tryz.ntmps110
      go_wp2_with (first | (go_at_call 187; refine (buf_none _ _ h1).mono ?_; rintro e w' ⟨rfl, rfl⟩) | (go_at_call 108; refine (buf_len _ _ L p m H.out).mono ?_; rintro e w' ⟨rfl, k, rfl⟩))
      go_ret
      exact ⟨rfl, H.out, Fr.refl _ _⟩
    · have hq2 : (L.length : Int) < q := by omega
      clear hq
      go_enter Tryz.func110, Tryz.ntmps110
      go_wp2_with (first | (go_at_call 187; refine (buf_none _ _ h1).mono ?_; rintro e w' ⟨rfl, rfl⟩) | (go_at_call 108; refine (buf_len _ _ L p m H.out).mono ?_; rintro e w' ⟨rfl, k, rfl⟩))
      go_ret
      exact ⟨rfl, H.out.stayN ((Fr.refl _ _).drewN _), (Fr.refl _ _).drewN _⟩


/-- A new buffer. -/
def BufMade (w : World) (L : List Int) (p m : Int) (e : Ending) (w' : World) : Prop :=
  ∃ b, e = .returned (.pointer (some ⟨b, 0, none⟩)) ∧ w.heap.size ≤ b ∧ BufRep w' b L p m ∧ Fr nob w w'

set_option maxRecDepth 10000 in
theorem buf_clone (w : World) (b : Nat) (L : List Int) (p m : Int) (h : BufRep w b L p m) :
    Calls Tryz.prog 168 #[.pointer (some ⟨b, 0, none⟩)] w (BufMade w L p m) := by
  obtain ⟨a, n, c, f, t, cs, h1, h2, hft, htn, hn, hL⟩ := h
  have hb := blk_lt h1
  have hc := blk_cells h1
  have hz := blk_free h1
  have HO := Lib.hid h2
  have HL := Lib.hid hL
  clear h2 hL
  go_enter Tryz.func168, Tryz.ntmps168
  go_wp2_with (go_at_call 187; refine (buf_none _ _ h1).mono ?_; rintro e w' ⟨rfl, rfl⟩)
  refine (clone_runes _ a n c (runes cs) (HO.out.sl.oldN ((Fr.refl _ _).alloc _)) (by omega)).mono ?_
  rintro e w1 ⟨a', c', rfl, hown, hfr, hfresh⟩
  have hf1 : Fr nob w w1 := ((Fr.refl nob w).alloc _).then hfr
  have HO2 := Lib.hid hown
  have hr := hfr.keep (heap_alloc_new w _) (fun h => h)
  have hc2 := blk_cells hr
  have hz2 := blk_free hr
  have hlt := blk_lt hr
  clear hown
  go_wp2
  go_ret
  refine ⟨w.heap.size, rfl, Nat.le_refl _, ⟨a', n, c', f, t, cs, ?_, ?_, hft, htn, hn, HL.out⟩, hf1.setNew _ _ _ (Nat.le_refl _)⟩
  · have := heap_setCell_same (o := 1) hr (.slice a' n c')
    simpa [BufBlk] using this
  · exact HO2.out.stay ((Fr.refl (one w.heap.size) w1).setOne _ _) (NR.one hr (by decide))

/-- What New answers. -/
def BufNew (w : World) (L : List Int) (e : Ending) (w' : World) : Prop :=
  ∃ b, e = .returned (.tuple #[.pointer (some ⟨b, 0, none⟩), .int .i64 0]) ∧ w.heap.size ≤ b ∧ BufRep w' b L L.length (-1) ∧ Fr nob w w'

set_option maxRecDepth 10000 in
theorem buf_new (w : World) (a : Option Addr) (c : Nat) (L : List Int) (h : Sl w 1 a L.length c (runes L)) (hl : L.length ≤ 1024) :
    Calls Tryz.prog 117 #[.slice a L.length c] w (BufNew w L) := by
  have H := Lib.hid h
  clear h
  go_enter Tryz.func117, Tryz.ntmps117
  go_wp2_with fail
  refine (clone_runes _ a L.length c (runes L) H.out (by omega)).mono ?_
  rintro e w1 ⟨a', c', rfl, hown, hfr, hfresh⟩
  have HO := Lib.hid hown
  clear hown
  go_wp2
  go_ret2
  refine ⟨_, rfl, hfr.size, ⟨a', L.length, c', L.length, L.length, L, heap_alloc_new w1 _, HO.out.stay (M := nob) ((Fr.refl _ _).alloc _) (NR.nob _), Nat.le_refl _, Nat.le_refl _, by omega, by simp, hl, by omega, by omega, by omega, by omega⟩, hfr.alloc _⟩
end Go.Proofs.YtbhklkolkclflaaGreatDoor
/- B6: Contracts of package buffer, third part: open. -/
namespace Go.Proofs.YtbhklkolkclflaaGreatDoor
open Go.RowKit

theorem wpList_cpy {P : Program} {w : World} {ops : Array Oper} {rest : List Oper} {o : Oper} {a : Act} {Q : Exit → Act → World → Prop} (hgd : o.guard = none) (d s : Operand) (dT sT : TypeId)
    (ho : o.op = .call { callee := .builtin .copy, args := #[d, s], argTypes := #[dT, sT] }) (elem : TypeId) (hu : P.underlying dT = some (.slice elem)) (hsz : (P.info? elem).map (·.size) = some 1)
    (dp sp : Option Addr) (dLen dCap sLen sCap : Nat) (hd : a.eval d = .slice dp dLen dCap) (hs : a.eval s = .slice sp sLen sCap)
    (g off : Nat) (cur : List Value) (t : TypeId) (hg : w.heap[g]? = some (.cells cur.toArray t (0, 0))) (cs : List Value) (hsl : Sl w 1 sp sLen sCap cs) (hn : sLen ≤ dLen)
    (hpos : 0 < sLen → dp = some ⟨g, off, none⟩) (hfit : off + sLen ≤ cur.length)
    (h : ∀ w', Hid (w'.heap[g]? = some (.cells (splice cur off cs).toArray t (0, 0))) → Fr (one g) w w' → wpList P ops Q rest (a.put o.dst (goInt cs.length)) w') :
    wpList P ops Q (o :: rest) a w := by
  have hl : cs.length = sLen := by have := hsl.len; omega
  by_cases h0 : cs.length = 0
  · obtain rfl : cs = [] := List.eq_nil_of_length_eq_zero h0
    refine wpList_copy_nothing hgd d s dT sT ho elem hu hsz dp sp dLen dCap sLen sCap hd hs (by simp only [List.length_nil] at hl; rw [← hl]; exact Nat.zero_min _) ?_
    exact h w (show _ = _ by simpa [splice] using hg) (Fr.refl _ _)
  · obtain rfl := hpos (by omega)
    obtain ⟨g2, o2, rfl, hc⟩ := hsl.at (by omega) (by decide)
    refine wpList_copy_own hgd d s dT sT ho elem hu hsz g off dLen dCap _ sLen sCap hd hs cur.toArray t hg cs (by rw [hl]; exact (Nat.min_eq_left hn).symm) (fun j v hv => by rw [Addr.add_lit]; exact hc j v hv) (by simp; omega) hsl.one ?_
    exact h _ (show _ = _ by simpa [splice] using setRow_heap w g _ _ t _ hg) ((Fr.refl _ _).setRow g _ (fun _ => rfl))

theorem wpList_mak {P : Program} {w : World} {ops : Array Oper} {rest : List Oper} {o : Oper} {a : Act} {Q : Exit → Act → World → Prop}
    (hg : o.guard = none) (l c : Operand) (t : TypeId) (hop : o.op = Op.makeSlice t l c)
    (e : TypeId) (i : TypeInfo) (z : Value) (h1 : P.underlying t = some (.slice e)) (h2 : P.info? e = some i) (h3 : i.zero = some z) (h4 : i.size = 1) (hz : z.cells = #[z])
    (n : Nat) (X : Int) (hl : a.eval l = .int .i64 X) (hc : a.eval c = .int .i64 X) (hX : X = n) (b2 : i.bytes * n ≤ 281474976710656) (b3 : n ≤ maxLen)
    (hK : ∀ w', Hid (w'.heap[w.heap.size]? = some (.cells (List.replicate n z).toArray e (0, 0))) → Fr nob w w' → wpList P ops Q rest (a.put o.dst (.slice (some ⟨w.heap.size, 0, none⟩) n n)) w') :
    wpList P ops Q (o :: rest) a w := by
  refine wpList_make_full w hg l c t hop 0 e i z 1 h1 h2 h3 h4 .i64 .i64 X X n hl hc hX hX b2 b3 (Nat.zero_le _) ?_
  intro w' hown hgr
  refine hK w' ?_ ((Fr.ofGrown hgr).mono (fun _ _ hx => by cases hx))
  rcases hown.2 with ⟨h0, _⟩ | ⟨g, cap, cur, hv, _, hh, _, _, hs, ht⟩
  · cases h0
  · injection hv with hv1 _ hv3
    injection hv1 with hv1
    injection hv1 with hv1
    subst hv1; subst hv3
    rw [hz, Nat.mul_one, toList_madeCells_one] at ht
    show _ = _
    rw [hh, ← ht, List.take_of_length_le (by simp; omega)]

theorem Tryz.one_runes : (Tryz.prog.info? 21).map (·.size) = some 1 := by kernel_rfl

/-- All that is known of the world from here on is 'F'. -/
theorem forget {P : Program} {c : Code} {Q : Exit → Act → World → Prop} {a : Act} {W0 : World} (F : World → Prop) (h0 : F W0) (h : ∀ W, F W → Code.wp P c Q a W) : Code.wp P c Q a W0 := h W0 h0
theorem forgetL {P : Program} {ops : Array Oper} {l : List Oper} {Q : Exit → Act → World → Prop} {a : Act} {W0 : World} (F : World → Prop) (h0 : F W0) (h : ∀ W, F W → wpList P ops Q l a W) : wpList P ops Q l a W0 := h W0 h0

section
variable {w : World} {b : Nat} {v : Value} {f t : Nat} {p m : Int}
theorem BufBlk.set1 (h : BufBlk w b v f t p m) (u : Value) : BufBlk (w.setCell ⟨b, 1, none⟩ u) b u f t p m := by
  have h := heap_setCell_same (o := 1) h u
  simpa [BufBlk] using h
theorem BufBlk.set2 (h : BufBlk w b v f t p m) {x : Int} (u : Nat) (hx : x = u) : BufBlk (w.setCell ⟨b, 2, none⟩ (.int .i64 x)) b v u t p m := by
  have h := heap_setCell_same (o := 2) h (.int .i64 u)
  rw [hx]
  simpa [BufBlk] using h
theorem BufBlk.set3 (h : BufBlk w b v f t p m) {x : Int} (u : Nat) (hx : x = u) : BufBlk (w.setCell ⟨b, 3, none⟩ (.int .i64 x)) b v f u p m := by
  have h := heap_setCell_same (o := 3) h (.int .i64 u)
  rw [hx]
  simpa [BufBlk] using h
theorem BufBlk.set4 (h : BufBlk w b v f t p m) (u : Int) : BufBlk (w.setCell ⟨b, 4, none⟩ (.int .i64 u)) b v f t u m := by
  have h := heap_setCell_same (o := 4) h (.int .i64 u)
  simpa [BufBlk] using h
theorem BufBlk.set5 (h : BufBlk w b v f t p m) (u : Int) : BufBlk (w.setCell ⟨b, 5, none⟩ (.int .i64 u)) b v f t p u := by
  have h := heap_setCell_same (o := 5) h (.int .i64 u)
  simpa [BufBlk] using h
theorem BufBlk.nr (h : BufBlk w b v f t p m) : NR w (one b) := NR.one h (by decide)
theorem BufBlk.ne {g : Nat} {c : Array Value} {fr : Nat × Nat} (h : BufBlk w b v f t p m) (hg : w.heap[g]? = some (.cells c 21 fr)) : g ≠ b := fun e => by
  rw [e, show w.heap[b]? = _ from h] at hg
  injection hg with hg
  injection hg with _ hg _
  exact absurd hg (by decide)
end

/-- Two ends laid into a row of zeros. -/
theorem two_ends (A B : List Int) (k N : Nat) (h : N = A.length + k + B.length) :
    splice (splice (List.replicate N (Value.int .i32 0)) 0 (runes A)) (A.length + k) (runes B) = runes (A ++ List.replicate k 0 ++ B) := by
  have h1 : List.replicate N (Value.int .i32 0) = runes (List.replicate N 0) := by simp [runes]
  rw [h1]
  simp only [splice, runes_length, List.take_zero, List.nil_append, Nat.zero_add]
  rw [← runes_drop, ← runes_append, ← runes_take, ← runes_drop, ← runes_append, ← runes_append]
  congr 1
  rw [List.drop_replicate, List.take_append, List.take_of_length_le (by omega), List.take_replicate, List.drop_append, List.drop_of_length_le (by omega), List.drop_replicate]
  have e1 : min (A.length + k - A.length) (N - A.length) = k := by omega
  have e2 : N - A.length - (A.length + k + B.length - A.length) = 0 := by omega
  rw [e1, e2]
  simp [List.append_assoc]

/-- What open leaves. -/
def Opened (w : World) (b : Nat) (L : List Int) (p m : Int) (at' room : Nat) (e : Ending) (w' : World) : Prop :=
  e = .returned (.tuple #[]) ∧ ∃ g, w.heap.size ≤ g ∧ BufBlk w' b (.slice (some ⟨g, 0, none⟩) (L.length + room + 16) (L.length + room + 16)) at' (at' + room + 16) p m ∧
    w'.heap[g]? = some (.cells (runes (L.take at' ++ List.replicate (room + 16) 0 ++ L.drop at')).toArray 21 (0, 0)) ∧ Fr (one b) w w'

set_option maxRecDepth 10000 in
set_option maxHeartbeats 800000 in
theorem buf_open (w : World) (b : Nat) (L : List Int) (p m : Int) (at' room : Nat) (h : BufRep w b L p m) (hat : at' ≤ L.length) (hroom : room ≤ 1024) :
    Calls Tryz.prog 226 #[.pointer (some ⟨b, 0, none⟩), .int .i64 at', .int .i64 room] w (Opened w b L p m at' room) := by
  have H := Lib.hid h
  have hL : L.length ≤ 1024 := by obtain ⟨_, _, _, _, _, _, _, _, _, _, _, _, h, _⟩ := h; exact h
  obtain ⟨a0, n0, c0, f0, t0, h1⟩ := h.at
  have hb := h.lt
  clear h
  obtain ⟨i0, hi, hz0, hz1, hz2⟩ := info_parts Tryz.info_runes
  go_enter Tryz.func226, Tryz.ntmps226
  go_wp2_with fail
  refine (buf_text _ _ L p m H.out).mono ?_
  rintro e w1 ⟨a, c, rfl, hown, hfr, hfresh⟩
  have HO := Lib.hid hown
  have hB := hfr.keep h1 (fun h => h)
  have hc1 := blk_cells hB
  have hz1' := blk_free hB
  have hlt1 := blk_lt hB
  clear hown
  generalize hn : L.length = n at *
  have HN := Lib.hid hn
  clear hn
  obtain ⟨N, hN⟩ : ∃ N : Nat, N = n + room + 16 := ⟨_, rfl⟩
  obtain ⟨T, hT⟩ : ∃ T : Nat, T = at' + room + 16 := ⟨_, rfl⟩
  have hX : (n : Int) + room + 16 = N := by omega
  have hY : (N : Int) - (n - at') = T := by omega
  have i3 : (T : Int) ≤ N := by omega
  have hND : n - at' ≤ N - T := by omega
  have hNT : N = at' + (room + 16) + (n - at') := by omega
  have hT2 : T = at' + (room + 16) := by omega
  have hNb : N ≤ 4000 := by omega
  have haN : at' ≤ N := by omega
  have HX := Lib.hid hX
  have HY := Lib.hid hY
  have HNN := Lib.hid hN
  have HT := Lib.hid hT
  have HNT := Lib.hid hNT
  have HT2 := Lib.hid hT2
  clear hX hY hN hT hNT hT2
  have hpost : ∀ e w', (e = .returned (.tuple #[]) ∧ ∃ g, w.heap.size ≤ g ∧ BufBlk w' b (.slice (some ⟨g, 0, none⟩) N N) at' T p m ∧
    w'.heap[g]? = some (.cells (runes (L.take at' ++ List.replicate (room + 16) 0 ++ L.drop at')).toArray 21 (0, 0)) ∧ Fr (one b) w w') → Opened w b L p m at' room e w' := by
    unfold Opened
    rw [HN.out, ← HNN.out, ← HT.out]
    exact fun _ _ h => h
  have HPost := Lib.hid hpost
  clear hpost
  go_wp2_with (at_make; refine wpList_mak rfl (.tmp 14) (.tmp 14) 23 rfl 21 i0 (.int .i32 0) Tryz.underlying23 hi hz0 hz1 rfl N _ rfl rfl HX.out (by rw [hz2]; omega) (by unfold maxLen; omega) ?_; intro w2 hg2 hf2; have hB2 := hf2.keep hB (fun h => h); have hc2 := blk_cells hB2; have hz2' := blk_free hB2; have hlt2 := blk_lt hB2)
  refine forget (fun W => Hid (BufBlk W b (.slice (some ⟨w1.heap.size, 0, none⟩) N N) at' T p m) ∧ Hid (W.heap[w1.heap.size]? = some (.cells (List.replicate N (.int .i32 0)).toArray 21 (0, 0))) ∧ Hid (Own W 21 1 (.slice a n c) n (runes L)) ∧ Fr (one b) w W) ?_ ?_
  · have hfw : Fr (one b) w w2 := (hfr.then hf2).mono (fun _ _ h => h.elim)
    have hs := ((BufBlk.set1 hB2 (.slice (some ⟨w1.heap.size, 0, none⟩) N N)).set2 at' rfl).set3 T HY.out
    have hne := BufBlk.ne hB2 hg2.out
    refine ⟨hs, ?_, ?_, ?_⟩
    · show _ = _
      rw [heap_setCell_ne hne, heap_setCell_ne hne, heap_setCell_ne hne]
      exact hg2.out
    · exact (HO.out.stay hf2 (NR.nob _)).stay (M := one b) ((((Fr.refl _ _).setOne _ _).setOne _ _).setOne _ _) (BufBlk.nr hB2)
    · exact ((hfw.setOne _ _).setOne _ _).setOne _ _
  rintro W ⟨HB, HG, HOW, hfW⟩
  have hgw := hfr.size
  have hag : ∀ ad, a = some ad → ad.block ≠ w1.heap.size := fun ad e => by have := HO.out.lt ad e; omega
  have HAG := Lib.hid hag
  clear hag
  generalize w1.heap.size = g at *
  have hcn := HOW.out.le
  have hcW := blk_cells HB.out
  have hltW := blk_lt HB.out
  have i1 : (at' : Int) ≤ c := by omega
  have i2 : (at' : Int) ≤ n := by omega
  go_still_tail 7, (by kernel_rfl)
  refine wpList_cpy rfl (.tmp 38) (.tmp 41) 23 23 rfl 21 Tryz.underlying23 Tryz.one_runes _ _ _ _ _ _ rfl rfl g 0 _ 21 HG.out (runes (L.take at')) ((HOW.out.sl.pre1 at' hat).oldN (Fr.refl _ _).drew) (by omega) (fun _ => rfl) (by rw [List.length_replicate]; omega) ?_
  intro w3 HG3 hf3'
  have hf3 := Fr.ofDrew (w := W) hf3'
  have hne := BufBlk.ne HB.out HG.out
  refine forgetL (fun V => Hid (BufBlk V b (.slice (some ⟨g, 0, none⟩) N N) at' T p m) ∧ Hid (V.heap[g]? = some (.cells (splice (List.replicate N (.int .i32 0)) 0 (runes (L.take at'))).toArray 21 (0, 0))) ∧ Hid (Sl V 1 a n c (runes L)) ∧ Fr (one b) w V) ?_ ?_
  · refine ⟨hf3.keep HB.out (fun e => hne e.symm), HG3, ?_, ?_⟩
    · exact (HOW.out.sl.old hf3 (fun ad e => HAG.out ad e))
    · exact hfW.trans hf3 (fun x hx e => by cases e; omega)
  rintro V ⟨HBV, HGV, HOV, hfV⟩
  have hcV := blk_cells HBV.out
  have hltV := blk_lt HBV.out
  clear HB HG HOW hfW hcW hltW HG3 hf3 hf3'
  go_wp2
  go_still_tail 12, (by kernel_rfl)
  refine wpList_cpy rfl (.tmp 51) (.tmp 54) 23 23 rfl 21 Tryz.underlying23 Tryz.one_runes _ _ _ _ _ _ rfl rfl g T _ 21 HGV.out (runes (L.drop at')) ((HOV.out.cut1 at' hat).oldN (Fr.refl _ _).drew) ?hn ?pos ?fit ?_
  case hn => omega
  case pos =>
    intro h0
    rw [if_neg (by omega)]
  case fit =>
    have hlt' : (L.take at').length = at' := by rw [List.length_take, HN.out]; omega
    rw [length_splice _ _ _ (by rw [runes_length, List.length_replicate, hlt']; omega), List.length_replicate]
    omega
  intro w5 HG5 hf5'
  have hf5 := Fr.ofDrew (w := V) hf5'
  clear hf5'
  have hfin : w5.heap[g]? = some (.cells (runes (L.take at' ++ List.replicate (room + 16) 0 ++ L.drop at')).toArray 21 (0, 0)) := by
    rw [HG5.out]
    have h1 : (L.take at').length = at' := by rw [List.length_take, HN.out]; omega
    have h2 : (L.drop at').length = n - at' := by rw [List.length_drop, HN.out]
    have h3 := two_ends (L.take at') (L.drop at') (room + 16) N (by rw [h1, h2]; exact HNT.out)
    rw [h1, ← HT2.out] at h3
    rw [h3]
  have HF := Lib.hid hfin
  clear hfin
  go_wp2
  all_goals
    go_end0
    exact HPost.out _ _ ⟨rfl, g, hgw, hf5.keep HBV.out (fun e => hne e.symm), HF.out, hfV.trans hf5 (fun x hx e => by cases e; omega)⟩
end Go.Proofs.YtbhklkolkclflaaGreatDoor
/- B7: Contracts of package buffer, fourth part: Replace. -/
namespace Go.Proofs.YtbhklkolkclflaaGreatDoor
open Go.RowKit

theorem forgetC {P : Program} {f : FuncId} {args : Array Value} {R : Ending → World → Prop} {W0 : World} (F : World → Prop) (h0 : F W0) (h : ∀ W, F W → Calls P f args W R) : Calls P f args W0 R := h W0 h0

/-- Where a point comes to. -/
def newPoint (p : Int) (f t k : Nat) : Int := if (t : Int) < p then p + (k - (t - f)) else if (f : Int) ≤ p then f + k else p
def newMark (m : Int) (f t k : Nat) : Int := if (t : Int) < m then m + (k - (t - f)) else if (f : Int) < m then f else m

/-- An edit by value: At, Del, Ins. -/
def EditV (w : World) (v : Value) (f : Int) (del ins : List Int) : Prop :=
  ∃ d i cd ci, v = .agg #[.int .i64 f, .slice d del.length cd, .slice i ins.length ci] ∧ Own w 21 1 (.slice d del.length cd) del.length (runes del) ∧ Own w 21 1 (.slice i ins.length ci) ins.length (runes ins)

/-- What Replace leaves where it replaces. -/
def Replaced (w : World) (b : Nat) (L : List Int) (p m : Int) (f t : Nat) (l : List Int) (e : Ending) (w' : World) : Prop :=
  ∃ v, e = .returned (.tuple #[v, .int .i64 0]) ∧ EditV w' v f ((L.drop f).take (t - f)) l ∧ BufRep w' b (L.take f ++ l ++ L.drop t) (newPoint p f t l.length) (newMark m f t l.length) ∧ Fr (one b) w w'

/-- The text, whatever point and mark. -/
def BufTxt (w : World) (b : Nat) (L : List Int) (p m : Int) : Prop :=
  ∃ (a : Option Addr) (n c f t : Nat) (cs : List Int), BufBlk w b (.slice a n c) f t p m ∧ Own w 21 1 (.slice a n c) n (runes cs) ∧ f ≤ t ∧ t ≤ n ∧ n ≤ 4000 ∧
    L = cs.take f ++ cs.drop t ∧ L.length ≤ 1024
theorem BufTxt.at {w : World} {b : Nat} {L : List Int} {p m : Int} (h : BufTxt w b L p m) : ∃ (a : Option Addr) (n c f t : Nat), BufBlk w b (.slice a n c) f t p m := by
  obtain ⟨a, n, c, f, t, cs, h1, _⟩ := h
  exact ⟨a, n, c, f, t, h1⟩
theorem BufTxt.stay {w w' : World} {M : Nat → Prop} {b : Nat} {L : List Int} {p m : Int} (h : BufTxt w b L p m) (hf : Fr M w w') (hb : ¬ M b) (hr : NR w M) : BufTxt w' b L p m := by
  obtain ⟨a, n, c, f, t, cs, h1, h2, h3⟩ := h
  exact ⟨a, n, c, f, t, cs, hf.keep h1 hb, h2.stay hf hr, h3⟩
theorem BufTxt.set4 {w : World} {b : Nat} {L : List Int} {p m : Int} (h : BufTxt w b L p m) (q : Int) : BufTxt (w.setCell ⟨b, 4, none⟩ (.int .i64 q)) b L q m := by
  obtain ⟨a, n, c, f, t, cs, h1, h2, h3⟩ := h
  exact ⟨a, n, c, f, t, cs, h1.set4 q, h2.stay ((Fr.refl (one b) w).setOne _ _) (BufBlk.nr h1), h3⟩
theorem BufTxt.set5 {w : World} {b : Nat} {L : List Int} {p m : Int} (h : BufTxt w b L p m) (q : Int) : BufTxt (w.setCell ⟨b, 5, none⟩ (.int .i64 q)) b L p q := by
  obtain ⟨a, n, c, f, t, cs, h1, h2, h3⟩ := h
  exact ⟨a, n, c, f, t, cs, h1.set5 q, h2.stay ((Fr.refl (one b) w).setOne _ _) (BufBlk.nr h1), h3⟩
theorem BufTxt.rep {w : World} {b : Nat} {L : List Int} {p m : Int} (h : BufTxt w b L p m) (h0 : 0 ≤ p) (h1 : p ≤ L.length) (h2 : -1 ≤ m) (h3 : m ≤ L.length) : BufRep w b L p m := by
  obtain ⟨a, n, c, f, t, cs, g1, g2, g3, g4, g5, g6, g7⟩ := h
  exact ⟨a, n, c, f, t, cs, g1, g2, g3, g4, g5, g6, g7, h0, h1, h2, h3⟩

/-- What open made and Replace filled. -/
theorem filled (L l : List Int) (f t : Nat) (hft : f ≤ t) (ht : t ≤ L.length) :
    splice (runes (L.take f ++ List.replicate (l.length + 16) 0 ++ L.drop f)) f (runes l) = runes (L.take f ++ l ++ List.replicate 16 0 ++ L.drop f) := by
  have hl : (L.take f).length = f := by rw [List.length_take]; omega
  simp only [splice, runes_length]
  rw [← runes_take, ← runes_drop, ← runes_append, ← runes_append]
  congr 1
  rw [List.append_assoc, List.take_append, List.take_of_length_le (by omega), hl, Nat.sub_self, List.take_zero, List.append_nil, List.drop_append, List.drop_of_length_le (by omega), hl, List.nil_append, List.drop_append, List.drop_replicate, List.length_replicate]
  have e1 : l.length + 16 - (f + l.length - f) = 16 := by omega
  have e2 : f + l.length - f - (l.length + 16) = 0 := by omega
  rw [e1, e2, List.drop_zero]
  simp [List.append_assoc]

theorem filled_take (L l : List Int) (f : Nat) (ht : f ≤ L.length) : (L.take f ++ l ++ List.replicate 16 0 ++ L.drop f).take (f + l.length) = L.take f ++ l := by
  have hl : (L.take f ++ l).length = f + l.length := by rw [List.length_append, List.length_take]; omega
  rw [List.append_assoc, ← hl, List.take_left]
theorem filled_drop (L l : List Int) (f t : Nat) (hft : f ≤ t) (ht : t ≤ L.length) : (L.take f ++ l ++ List.replicate 16 0 ++ L.drop f).drop (t + l.length + 16) = L.drop t := by
  have hl : (L.take f ++ l ++ List.replicate 16 (0 : Int)).length = f + l.length + 16 := by rw [List.length_append, List.length_append, List.length_take, List.length_replicate]; omega
  rw [List.drop_append, List.drop_of_length_le (by omega), hl, List.nil_append, List.drop_drop]
  congr 1
  omega

/-- Runes are no part of a buffer's block. -/
theorem runes_oldBuf {w w' : World} {b n c : Nat} {a : Option Addr} {l : List Int} {p m : Int} (h : Sl w 1 a n c (runes l)) (hb : ∃ (a : Option Addr) (n c f t : Nat), BufBlk w b (.slice a n c) f t p m) (hf : Fr (one b) w w') : Sl w' 1 a n c (runes l) := by
  obtain ⟨a2, n2, c2, f, t, hb⟩ := hb
  by_cases h0 : l = []
  · subst h0
    exact ⟨h.len, h.le, .inl rfl, h.one⟩
  · rcases h.rd with h1 | ⟨g, off, rfl, h1⟩
    · exact absurd (List.map_eq_nil_iff.1 h1) h0
    · refine h.old hf (fun ad e hM => ?_)
      injection e with e
      subst e
      have hg : g = b := hM
      subst hg
      obtain ⟨x, xs, rfl⟩ := List.exists_cons_of_ne_nil h0
      have h2 := h1 0 (.int .i32 x) rfl
      rw [blk_cells hb] at h2
      have h3 : off + 0 < 6 := (Array.getElem?_eq_some_iff.1 h2).1
      match off, h3, h2 with
      | 0, _, h2 | 1, _, h2 | 2, _, h2 | 3, _, h2 | 4, _, h2 | 5, _, h2 => simp at h2

set_option maxRecDepth 10000 in
set_option maxHeartbeats 800000 in
theorem buf_replace_ok (w : World) (b : Nat) (L : List Int) (p m : Int) (f t : Nat) (l : List Int) (al : Option Addr) (cl : Nat) (h : BufRep w b L p m)
    (hl : Sl w 1 al l.length cl (runes l)) (hft : f ≤ t) (ht : t ≤ L.length) (hlen : l.length + (L.length - (t - f)) ≤ 1024) :
    Calls Tryz.prog 170 #[.pointer (some ⟨b, 0, none⟩), .int .i64 f, .int .i64 t, .slice al l.length cl] w (Replaced w b L p m f t l) := by
  have H := Lib.hid h
  have hL : L.length ≤ 1024 ∧ 0 ≤ p ∧ p ≤ L.length ∧ -1 ≤ m ∧ m ≤ L.length := by obtain ⟨_, _, _, _, _, _, _, _, _, _, _, _, h⟩ := h; exact h
  obtain ⟨hL, hp0, hp1, hm0, hm1⟩ := hL
  have hb := h.lt
  obtain ⟨a0, n0, c0, f0, t0, h1⟩ := h.at
  have HL := Lib.hid hl
  have HLB := Lib.hid h.at
  clear h hl
  generalize hn : L.length = n at *
  generalize hk : l.length = k at *
  have HN := Lib.hid hn
  have HK := Lib.hid hk
  clear hn hk
  have i1 : (t : Int) - f ≤ n := by omega
  have i2 : (k : Int) ≤ 1024 - (n - (t - f)) := by omega
  go_enter Tryz.func170, Tryz.ntmps170
  have F0 : ∀ o n, Fr nob w ((w.alloc o).drewN n) := fun o n => ((Fr.refl _ _).alloc o).drewN n
  have HF0 := Lib.hid F0
  clear F0
  go_upto_region 8 with (first
    | (go_at_call 108; refine (buf_len _ _ L p m (H.out.stayN (HF0.out _ 0))).mono ?_; rintro e w' ⟨rfl, k1, rfl⟩; rw [HN.out])
    | (go_at_call 187; refine (buf_none _ b (H.out.stayN (HF0.out _ _)).at.choose_spec.choose_spec.choose_spec.choose_spec.choose_spec).mono ?_; rintro e w' ⟨rfl, rfl⟩))
  go_ways
  go_cut [11, 18, 37] (fun s11 _ _ W => ∃ (g : Nat) (d i : Option Addr) (cd ci : Nat), s11 = .pointer (some ⟨g, 0, none⟩) ∧ w.heap.size < g ∧ Hid (W.heap[w.heap.size]? = some (.cells #[.int .i64 0, .slice none 0 0, .slice none 0 0] 168 (0, 0))) ∧
    Hid (W.heap[g]? = some (.cells #[.int .i64 f, .slice d (t - f) cd, .slice i k ci] 168 (0, 0))) ∧ Hid (Own W 21 1 (.slice d (t - f) cd) (t - f) (runes ((L.drop f).take (t - f)))) ∧ Hid (Own W 21 1 (.slice i k ci) k (runes l)) ∧ Fr nob w W)
  case first =>
    go_wp2_with fail
    refine (buf_text _ _ L p m (H.out.stayN (HF0.out _ _))).mono ?_
    rintro e w1 ⟨a1, c1, rfl, hown1, hfr1, _⟩
    rw [HN.out] at hown1 ⊢
    have HO1 := Lib.hid hown1
    clear hown1
    have i3 := HO1.out.le
    go_wp2_with fail
    all_goals
      refine (clone_runes _ _ (t - f) _ (runes ((L.drop f).take (t - f))) (by first | exact HO1.out.sl.mid1 f t hft ht | exact HO1.out.sl.midEnd1 f t hft ht (by assumption)) (by omega)).mono ?_
      rintro e w2 ⟨d, cd, rfl, hown2, hfr2, _⟩
      have HO2 := Lib.hid hown2
      clear hown2
      go_wp2_with fail
      have hfw2 : Fr nob w w2 := ((HF0.out _ _).then hfr1).then hfr2
      refine (clone_runes _ _ k _ (runes l) (HL.out.oldN hfw2) (by omega)).mono ?_
      rintro e w3 ⟨i, ci, rfl, hown3, hfr3, _⟩
      have HO3 := Lib.hid hown3
      clear hown3
      have hE := (hfr3.keep ((hfr2.keep (hfr1.keep (heap_alloc_new w (.cells #[.int .i64 0, .slice none 0 0, .slice none 0 0] 168)) (fun h => h))) (fun h => h)) (fun h => h))
      go_wp2
      go_meet
      case rel =>
        have hsz := (hfw2.then hfr3).size
        have hlt := blk_lt hE
        exact ⟨w3.heap.size, d, i, cd, ci, rfl, hlt, (heap_alloc_lt _ hlt).trans hE, heap_alloc_new w3 _, (HO2.out.stay hfr3 (NR.nob _)).stay (M := nob) ((Fr.refl _ _).alloc _) (NR.nob _), HO3.out.stay (M := nob) ((Fr.refl _ _).alloc _) (NR.nob _), (hfw2.then hfr3).alloc _⟩
  case rest =>
    obtain ⟨g, d, i, cd, ci, rfl, hgw, HE1, HE2, HD, HI, hfW⟩ := hcut
    go_wp2_with fail
    refine (buf_open _ b L p m f k (H.out.stayN hfW) (by rw [HN.out]; omega) (by omega)).mono ?_
    rintro e w4 ⟨rfl, gg, hgg, hB4, hG4, hf4⟩
    rw [HN.out] at hB4
    obtain ⟨N, hN⟩ : ∃ N : Nat, N = n + k + 16 := ⟨_, rfl⟩
    obtain ⟨T, hT⟩ : ∃ T : Nat, T = f + k + 16 := ⟨_, rfl⟩
    obtain ⟨T', hT'⟩ : ∃ T' : Nat, T' = t + k + 16 := ⟨_, rfl⟩
    rw [← hN, ← hT] at hB4
    have hTT : (T : Int) + (t - f) = T' := by omega
    have hTN : T' ≤ N := by omega
    have hfT : f + k ≤ T' := by omega
    have hfN : f + k ≤ N := by omega
    have hNb : N ≤ 4000 := by omega
    have hTb : T ≤ 4000 := by omega
    have hTb' : T' ≤ 4000 := by omega
    have i4 : (f : Int) ≤ N := by omega
    have HT1 := Lib.hid hTT
    have HT' := Lib.hid hT'
    have HNN := Lib.hid hN
    have HG4 := Lib.hid hG4
    have HB4 := Lib.hid hB4
    clear hG4 hB4 hT hT' hN hTT
    have hc4 := blk_cells HB4.out
    have hz4 := blk_free HB4.out
    have hl4 := blk_lt HB4.out
    have hfw4 : Fr (one b) w w4 := (hfW.mono (fun _ _ h => h.elim)).trans hf4 (fun _ _ h => h)
    have hbw : b ≠ w.heap.size := by omega
    have hbg : b ≠ g := by omega
    have hsW := hfW.size
    have HDg : Hid (∀ ad, d = some ad → ad.block ≠ gg) := fun ad e => by have := HD.out.lt ad e; omega
    have HIg : Hid (∀ ad, i = some ad → ad.block ≠ gg) := fun ad e => by have := HI.out.lt ad e; omega
    go_upto_region 11 with fail
    refine forget (fun W => Hid (BufBlk W b (.slice (some ⟨gg, 0, none⟩) N N) f T' p m) ∧ Hid (W.heap[gg]? = some (.cells (runes (L.take f ++ List.replicate (k + 16) 0 ++ L.drop f)).toArray 21 (0, 0))) ∧ Hid (Sl W 1 al k cl (runes l)) ∧
      Hid (W.heap[w.heap.size]? = some (.cells #[.int .i64 0, .slice none 0 0, .slice none 0 0] 168 (0, 0))) ∧
      Hid (W.heap[g]? = some (.cells #[.int .i64 f, .slice d (t - f) cd, .slice i k ci] 168 (0, 0))) ∧ Hid (Own W 21 1 (.slice d (t - f) cd) (t - f) (runes ((L.drop f).take (t - f)))) ∧ Hid (Own W 21 1 (.slice i k ci) k (runes l)) ∧ Fr (one b) w W) ?_ ?_
    · have hne := BufBlk.ne HB4.out HG4.out
      have hs := (BufBlk.set3 HB4.out T' HT1.out)
      have hf5 : Fr (one b) w4 (w4.setCell ⟨b, 3, none⟩ (.int .i64 (↑T + (↑t - ↑f)))) := (Fr.refl _ _).setOne _ _
      have hf6 := hf4.trans hf5 (fun _ _ h => h)
      refine ⟨hs, hf5.keep HG4.out hne, runes_oldBuf HL.out HLB.out (hfw4.trans hf5 (fun _ _ h => h)), hf6.keep HE1.out (Ne.symm hbw), hf6.keep HE2.out (Ne.symm hbg), HD.out.stay hf6 (hfW.keep h1 (fun h => h) |> fun h => BufBlk.nr h), HI.out.stay hf6 (hfW.keep h1 (fun h => h) |> fun h => BufBlk.nr h), hfw4.trans hf5 (fun _ _ h => h)⟩
    rintro W ⟨HB5, HG5, HL5, HE15, HE25, HD5, HI5, hfw5⟩
    clear HB4 HG4 HE1 HE2 HD HI hc4 hz4 hl4 hfw4 hf4
    have hc5 := blk_cells HB5.out
    have hl5 := blk_lt HB5.out
    go_still_tail 10, (by kernel_rfl)
    refine wpList_cpy rfl (.tmp 81) (.tmp 82) 23 23 rfl 21 Tryz.underlying23 Tryz.one_runes _ _ _ _ _ _ rfl rfl gg f _ 21 HG5.out (runes l) (HL5.out.oldN (Fr.refl _ _).drew) ?hn ?pos ?fit ?_
    case hn => omega
    case pos =>
      intro h0
      rw [if_neg (by omega)]
    case fit =>
      rw [runes_length, List.length_append, List.length_append, List.length_take, List.length_drop, List.length_replicate, HN.out]
      omega
    intro w6 HG6 hf6'
    have hf6 := Fr.ofDrew (w := W) hf6'
    clear hf6'
    have hne : gg ≠ b := BufBlk.ne HB5.out HG5.out
    have HB6 := Lib.hid (hf6.keep HB5.out (fun e => hne e.symm))
    have hc6 := blk_cells HB6.out
    have hz6 := blk_free HB6.out
    have hl6 := blk_lt HB6.out
    have hgwg : w.heap.size ≤ gg := by omega
    go_upto_block 1 with fail
    all_goals
      refine forget (fun V => Hid (BufTxt V b (L.take f ++ l ++ L.drop t) p m) ∧
        Hid (V.heap[w.heap.size]? = some (.cells #[.int .i64 0, .slice none 0 0, .slice none 0 0] 168 (0, 0))) ∧
        Hid (V.heap[g]? = some (.cells #[.int .i64 f, .slice d (t - f) cd, .slice i k ci] 168 (0, 0))) ∧ Hid (Own V 21 1 (.slice d (t - f) cd) (t - f) (runes ((L.drop f).take (t - f)))) ∧ Hid (Own V 21 1 (.slice i k ci) k (runes l)) ∧ Fr (one b) w V) ?_ ?_
      case refine_1 =>
        have hf7 : Fr (one b) w6 (w6.setCell ⟨b, 2, none⟩ (.int .i64 (↑f + ↑k))) := (Fr.refl _ _).setOne _ _
        have hnr : NR w6 (one b) := BufBlk.nr HB6.out
        have g1 : gg ≠ w.heap.size := fun e => by
          have h1 := HG5.out
          rw [e, HE15.out] at h1
          injection h1 with h1
          injection h1 with _ h1 _
          exact absurd h1 (by decide)
        have g2 : gg ≠ g := fun e => by
          have h1 := HG5.out
          rw [e, HE25.out] at h1
          injection h1 with h1
          injection h1 with _ h1 _
          exact absurd h1 (by decide)
        have hlk : (L.take f ++ l ++ List.replicate 16 0 ++ L.drop f).length = N := by
          simp only [List.length_append, List.length_take, List.length_drop, List.length_replicate, HN.out, HK.out]
          have := HNN.out
          omega
        have hfill := filled L l f t hft (by rw [HN.out]; exact ht)
        rw [HK.out] at hfill
        have hrow := HG6.out
        rw [hfill] at hrow
        refine ⟨⟨some ⟨gg, 0, none⟩, N, N, f + k, T', L.take f ++ l ++ List.replicate 16 0 ++ L.drop f, BufBlk.set2 HB6.out (f + k) (by omega), ?_, hfT, hTN, hNb, ?_, ?_⟩, ?_, ?_, ?_, ?_, ?_⟩
        · exact ⟨by rw [runes_length, hlk, Nat.mul_one], runes_one _, .inr ⟨gg, N, _, rfl, hf7.keep hrow (fun e => hne e), Nat.le_refl _, by unfold maxLen; omega, by simp only [List.size_toArray, runes_length, hlk, Nat.mul_one], by rw [Nat.mul_one, ← hlk, ← runes_length]; exact List.take_length⟩⟩
        · rw [← HK.out, filled_take L l f (by rw [HN.out]; omega), HT'.out, ← HK.out, filled_drop L l f t hft (by rw [HN.out]; exact ht)]
        · simp only [List.length_append, List.length_take, List.length_drop, HN.out, HK.out]
          omega
        · exact hf7.keep (hf6.keep HE15.out (fun e => g1 e.symm)) (fun e => hbw e.symm)
        · exact hf7.keep (hf6.keep HE25.out (fun e => g2 e.symm)) (fun e => hbg e.symm)
        · exact (HD5.out.stayA hf6 (fun ad e => HDg.out ad e)).stay hf7 hnr
        · exact (HI5.out.stayA hf6 (fun ad e => HIg.out ad e)).stay hf7 hnr
        · exact (hfw5.trans hf6 (fun x hx e => by cases e; omega)).trans hf7 (fun _ _ h => h)
      rintro V ⟨HB7, HE17, HE27, HD7, HI7, hfw7⟩
      clear HG6 hf6 HB6 hc6 hz6 hl6 HB5 HG5 HL5 HE15 HE25 HD5 HI5 hfw5 hc5 hl5
      obtain ⟨a7, n7, c7, f7, t7, h7⟩ := HB7.out.at
      have hc7 := blk_cells h7
      have hz7 := blk_free h7
      have hl7 := blk_lt h7
      go_cut [93, 113] (fun _ _ V => Hid (BufTxt V b (L.take f ++ l ++ L.drop t) (newPoint p f t k) m) ∧
        Hid (V.heap[w.heap.size]? = some (.cells #[.int .i64 0, .slice none 0 0, .slice none 0 0] 168 (0, 0))) ∧
        Hid (V.heap[g]? = some (.cells #[.int .i64 f, .slice d (t - f) cd, .slice i k ci] 168 (0, 0))) ∧ Hid (Own V 21 1 (.slice d (t - f) cd) (t - f) (runes ((L.drop f).take (t - f)))) ∧ Hid (Own V 21 1 (.slice i k ci) k (runes l)) ∧ Fr (one b) w V)
      case first =>
        go_wp2
        all_goals
          go_meet
          case rel =>
            have hnr : NR V (one b) := BufBlk.nr h7
            have hff : ∀ o v, Fr (one b) V (World.setCell V ⟨b, o, none⟩ v) := fun o v => (Fr.refl _ _).setOne o v
            unfold newPoint
            first
              | (rw [if_pos (by assumption)]; exact ⟨HB7.out.set4 _, (hff _ _).keep HE17.out (fun e => hbw e.symm), (hff _ _).keep HE27.out (fun e => hbg e.symm), HD7.out.stay (hff _ _) hnr, HI7.out.stay (hff _ _) hnr, hfw7.trans (hff _ _) (fun _ _ h => h)⟩)
              | (rw [if_neg (by assumption), if_pos (by assumption)]; exact ⟨HB7.out.set4 _, (hff _ _).keep HE17.out (fun e => hbw e.symm), (hff _ _).keep HE27.out (fun e => hbg e.symm), HD7.out.stay (hff _ _) hnr, HI7.out.stay (hff _ _) hnr, hfw7.trans (hff _ _) (fun _ _ h => h)⟩)
              | (rw [if_neg (by omega), if_pos (by omega)]; exact ⟨HB7.out.set4 _, (hff _ _).keep HE17.out (fun e => hbw e.symm), (hff _ _).keep HE27.out (fun e => hbg e.symm), HD7.out.stay (hff _ _) hnr, HI7.out.stay (hff _ _) hnr, hfw7.trans (hff _ _) (fun _ _ h => h)⟩)
              | (rw [if_neg (by omega), if_neg (by omega)]; exact ⟨HB7, HE17, HE27, HD7, HI7, hfw7⟩)
      case rest =>
        obtain ⟨HB8, HE18, HE28, HD8, HI8, hfw8⟩ := hcut
        clear HB7 HE17 HE27 HD7 HI7 hfw7 h7 hc7 hz7 hl7
        obtain ⟨a8, n8, c8, f8, t8, h8⟩ := HB8.out.at
        have hc8 := blk_cells h8
        have hz8 := blk_free h8
        have hl8 := blk_lt h8
        go_upto_block 2 with fail
        go_cut [127, 147] (fun _ _ V => Hid (BufTxt V b (L.take f ++ l ++ L.drop t) (newPoint p f t k) (newMark m f t k)) ∧
        Hid (V.heap[w.heap.size]? = some (.cells #[.int .i64 0, .slice none 0 0, .slice none 0 0] 168 (0, 0))) ∧
        Hid (V.heap[g]? = some (.cells #[.int .i64 f, .slice d (t - f) cd, .slice i k ci] 168 (0, 0))) ∧ Hid (Own V 21 1 (.slice d (t - f) cd) (t - f) (runes ((L.drop f).take (t - f)))) ∧ Hid (Own V 21 1 (.slice i k ci) k (runes l)) ∧ Fr (one b) w V)
        case first =>
          go_wp2
          all_goals
            go_meet
            case rel =>
              have hnr : NR wc (one b) := BufBlk.nr h8
              have hff : ∀ o v, Fr (one b) wc (World.setCell wc ⟨b, o, none⟩ v) := fun o v => (Fr.refl _ _).setOne o v
              unfold newMark
              first
                | (rw [if_pos (by assumption)]; exact ⟨HB8.out.set5 _, (hff _ _).keep HE18.out (fun e => hbw e.symm), (hff _ _).keep HE28.out (fun e => hbg e.symm), HD8.out.stay (hff _ _) hnr, HI8.out.stay (hff _ _) hnr, hfw8.trans (hff _ _) (fun _ _ h => h)⟩)
                | (rw [if_neg (by assumption), if_pos (by assumption)]; exact ⟨HB8.out.set5 _, (hff _ _).keep HE18.out (fun e => hbw e.symm), (hff _ _).keep HE28.out (fun e => hbg e.symm), HD8.out.stay (hff _ _) hnr, HI8.out.stay (hff _ _) hnr, hfw8.trans (hff _ _) (fun _ _ h => h)⟩)
                | (rw [if_neg (by omega), if_pos (by omega)]; exact ⟨HB8.out.set5 _, (hff _ _).keep HE18.out (fun e => hbw e.symm), (hff _ _).keep HE28.out (fun e => hbg e.symm), HD8.out.stay (hff _ _) hnr, HI8.out.stay (hff _ _) hnr, hfw8.trans (hff _ _) (fun _ _ h => h)⟩)
                | (rw [if_neg (by omega), if_neg (by omega)]; exact ⟨HB8, HE18, HE28, HD8, HI8, hfw8⟩)
        case rest =>
          obtain ⟨HB9, HE19, HE29, HD9, HI9, hfw9⟩ := hcut
          clear HB8 HE18 HE28 HD8 HI8 hfw8 h8 hc8 hz8 hl8
          rename_i wc2
          have hce := blk_cells HE29.out
          have hcr := blk_cells HE19.out
          have hzr := blk_free HE19.out
          have hlr := blk_lt HE19.out
          go_wp2
          have hE : EditV wc (.agg #[.int .i64 f, .slice d (t - f) cd, .slice i k ci]) f ((L.drop f).take (t - f)) l := by
            have e1 : ((L.drop f).take (t - f)).length = t - f := by rw [List.length_take, List.length_drop, HN.out]; omega
            refine ⟨d, i, cd, ci, by rw [e1, HK.out], by rw [e1]; exact HD9.out, by rw [HK.out]; exact HI9.out⟩
          have hle : (L.take f ++ l ++ L.drop t).length = f + k + (n - t) := by
            simp only [List.length_append, List.length_take, List.length_drop, HN.out, HK.out]
            omega
          have hff : ∀ x y z, Fr (one w.heap.size) wc (((wc.setCell ⟨w.heap.size, 0, none⟩ x).setCell ⟨w.heap.size, 1, none⟩ y).setCell ⟨w.heap.size, 2, none⟩ z) := fun x y z => (((Fr.refl _ _).setOne _ _).setOne _ _).setOne _ _
          have hnr : NR wc (one w.heap.size) := NR.one HE19.out (by decide)
          refine bodyPost_ret (v := .tuple #[.agg #[.int .i64 f, .slice d (t - f) cd, .slice i k ci], .int .i64 0]) (by simp [results, Tryz.results170, go_sem, hcr]) rfl ⟨_, rfl, ?_, ?_, ?_⟩
          · obtain ⟨d', i', cd', ci', h1, h2, h3⟩ := hE
            exact ⟨d', i', cd', ci', h1, h2.stay (hff _ _ _) hnr, h3.stay (hff _ _ _) hnr⟩
          · rw [HK.out]
            refine (HB9.out.stay (hff _ _ _) (fun e => hbw e) hnr).rep ?_ ?_ ?_ ?_
            all_goals
              try rw [hle]
              first | unfold newPoint | unfold newMark
              split
              · omega
              · split <;> omega
          · exact hfw9.trans (hff _ _ _) (fun x hx e => by cases e; exact absurd hx (Nat.lt_irrefl _))
end Go.Proofs.YtbhklkolkclflaaGreatDoor
/- B8: Contracts of package buffer, fifth part: Replace where it is refused; Apply. -/
namespace Go.Proofs.YtbhklkolkclflaaGreatDoor
open Go.RowKit

/-- What Replace leaves where it refuses. -/
def Refused (w : World) (n : Int) (e : Ending) (w' : World) : Prop :=
  e = .returned (.tuple #[.agg #[.int .i64 0, .slice none 0 0, .slice none 0 0], .int .i64 n]) ∧ Fr nob w w'

set_option maxRecDepth 10000 in
set_option maxHeartbeats 800000 in
theorem buf_replace_place (w : World) (b : Nat) (L : List Int) (p m f t : Int) (al : Option Addr) (k cl : Nat) (h : BufRep w b L p m)
    (hbad : ¬ (0 ≤ f ∧ f ≤ L.length ∧ f ≤ t ∧ t ≤ L.length)) :
    Calls Tryz.prog 170 #[.pointer (some ⟨b, 0, none⟩), .int .i64 f, .int .i64 t, .slice al k cl] w (Refused w 70) := by
  have H := Lib.hid h
  have hb := h.lt
  clear h
  have F0 : ∀ o n, Fr nob w ((w.alloc o).drewN n) := fun o n => ((Fr.refl _ _).alloc o).drewN n
  have HF0 := Lib.hid F0
  clear F0
  generalize hn : L.length = n at *
  have HN := Lib.hid hn
  clear hn
  have hcs : f < 0 ∨ (0 ≤ f ∧ n < f) ∨ (0 ≤ f ∧ f ≤ n ∧ t < f) ∨ (0 ≤ f ∧ f ≤ n ∧ f ≤ t ∧ n < t) := by omega
  clear hbad
  rcases hcs with h1 | ⟨h1, h2⟩ | ⟨h1, h2, h3⟩ | ⟨h1, h2, h3, h4⟩
  all_goals
    go_enter Tryz.func170, Tryz.ntmps170
    go_wp2_with (first
      | (go_at_call 108; refine (buf_len _ _ L p m (H.out.stayN (HF0.out _ 0))).mono ?_; rintro e w' ⟨rfl, k1, rfl⟩; rw [HN.out])
      | (go_at_call 187; refine (buf_none _ b (H.out.stayN (HF0.out _ _)).at.choose_spec.choose_spec.choose_spec.choose_spec.choose_spec).mono ?_; rintro e w' ⟨rfl, rfl⟩))
    exact bodyPost_ret (v := .tuple #[.agg #[.int .i64 0, .slice none 0 0, .slice none 0 0], .int .i64 70]) (by simp [results, Tryz.results170, go_sem]) rfl ⟨rfl, (((HF0.out _ _).setNew _ _ _ (Nat.le_refl _)).setNew _ _ _ (Nat.le_refl _)).setNew _ _ _ (Nat.le_refl _)⟩

set_option maxRecDepth 10000 in
set_option maxHeartbeats 800000 in
theorem buf_replace_long (w : World) (b : Nat) (L : List Int) (p m : Int) (f t : Nat) (al : Option Addr) (k cl : Nat) (h : BufRep w b L p m)
    (hft : f ≤ t) (ht : t ≤ L.length) (hbad : 1024 < k + (L.length - (t - f))) :
    Calls Tryz.prog 170 #[.pointer (some ⟨b, 0, none⟩), .int .i64 f, .int .i64 t, .slice al k cl] w (Refused w 3) := by
  have H := Lib.hid h
  have hL : L.length ≤ 1024 := by obtain ⟨_, _, _, _, _, _, _, _, _, _, _, _, h, _⟩ := h; exact h
  have hb := h.lt
  clear h
  have F0 : ∀ o n, Fr nob w ((w.alloc o).drewN n) := fun o n => ((Fr.refl _ _).alloc o).drewN n
  have HF0 := Lib.hid F0
  clear F0
  generalize hn : L.length = n at *
  have HN := Lib.hid hn
  clear hn
  have i1 : (t : Int) - f ≤ n := by omega
  have i2 : 1024 - ((n : Int) - (t - f)) < k := by omega
  go_enter Tryz.func170, Tryz.ntmps170
  go_wp2_with (first
    | (go_at_call 108; refine (buf_len _ _ L p m (H.out.stayN (HF0.out _ 0))).mono ?_; rintro e w' ⟨rfl, k1, rfl⟩; rw [HN.out])
    | (go_at_call 187; refine (buf_none _ b (H.out.stayN (HF0.out _ _)).at.choose_spec.choose_spec.choose_spec.choose_spec.choose_spec).mono ?_; rintro e w' ⟨rfl, rfl⟩))
  exact bodyPost_ret (v := .tuple #[.agg #[.int .i64 0, .slice none 0 0, .slice none 0 0], .int .i64 3]) (by simp [results, Tryz.results170, go_sem]) rfl ⟨rfl, (((HF0.out _ _).setNew _ _ _ (Nat.le_refl _)).setNew _ _ _ (Nat.le_refl _)).setNew _ _ _ (Nat.le_refl _)⟩

/-- What Apply leaves where the edit fits. -/
def Applied (w : World) (b : Nat) (L : List Int) (p m : Int) (f : Nat) (del ins : List Int) (e : Ending) (w' : World) : Prop :=
  e = .returned (.int .i64 0) ∧ BufRep w' b (L.take f ++ ins ++ L.drop (f + del.length)) (newPoint p f (f + del.length) ins.length) (newMark m f (f + del.length) ins.length) ∧ Fr (one b) w w'

set_option maxRecDepth 10000 in
set_option maxHeartbeats 1600000 in
theorem buf_apply_ok (w : World) (b : Nat) (L : List Int) (p m : Int) (f : Nat) (del ins : List Int) (d i : Option Addr) (cd ci : Nat) (h : BufRep w b L p m)
    (hd : Sl w 1 d del.length cd (runes del)) (hi : Sl w 1 i ins.length ci (runes ins))
    (hf : f + del.length ≤ L.length) (heq : (L.drop f).take del.length = del) (hlen : ins.length + (L.length - del.length) ≤ 1024) :
    Calls Tryz.prog 96 #[.pointer (some ⟨b, 0, none⟩), .agg #[.int .i64 f, .slice d del.length cd, .slice i ins.length ci]] w (Applied w b L p m f del ins) := by
  have H := Lib.hid h
  have hL : L.length ≤ 1024 := by obtain ⟨_, _, _, _, _, _, _, _, _, _, _, _, h, _⟩ := h; exact h
  have hb := h.lt
  have HD := Lib.hid hd
  have HI := Lib.hid hi
  have HE := Lib.hid heq
  clear h hd hi heq
  have F0 : ∀ o n, Fr nob w ((w.alloc o).drewN n) := fun o n => ((Fr.refl _ _).alloc o).drewN n
  have HF0 := Lib.hid F0
  clear F0
  generalize hn : L.length = n at *
  generalize hnd : del.length = nd at *
  generalize hni : ins.length = ni at *
  have HN := Lib.hid hn
  have HND := Lib.hid hnd
  have HNI := Lib.hid hni
  clear hn hnd hni
  have b1 : decide ((f : Int) < 0) = false := by simp
  have b2 : decide (n < f) = false := by simp; omega
  have b3 : decide ((n : Int) - f < nd) = false := by simp; omega
  have i1 : (f : Int) ≤ n := by omega
  have i2 : (f : Int) + nd ≤ n := by omega
  have hLen : ∀ W, Fr nob w W → Calls Tryz.prog 108 #[.pointer (some ⟨b, 0, none⟩)] W fun e w' => e = .returned (.int .i64 n) ∧ ∃ k, w' = W.drewN k := fun W hW => by
    have h := buf_len W b L p m (H.out.stayN hW)
    rw [HN.out] at h
    exact h
  have HLen := Lib.hid hLen
  clear hLen
  have hEq : ∀ W a2 c2, Sl W 1 a2 nd c2 (runes ((L.drop f).take nd)) → Fr nob w W → Calls Tryz.prog 30 #[.slice a2 nd c2, .slice d nd cd] W fun e w' => e = .returned (.bool true) ∧ ∃ k, w' = W.drewN k := fun W a2 c2 hW hfW => by
    have e1 : ((L.drop f).take nd).length = nd := by rw [List.length_take, List.length_drop, HN.out]; omega
    have e2 := HE.out
    have h := equal_runes W a2 d c2 cd ((L.drop f).take nd) del (by rw [e1]; exact hW) (by rw [HND.out]; exact HD.out.oldN hfW) (by rw [e1]; omega)
    rw [e1, HND.out, decide_eq_true e2] at h
    exact h
  have HEq := Lib.hid hEq
  clear hEq
  obtain ⟨a0, n0, c0, f0, t0, h1⟩ := (H.out.stayN (w' := w.alloc (.cells #[.int .i64 f, .slice d nd cd, .slice i ni ci] 168)) ((Fr.refl _ _).alloc _)).at
  go_enter Tryz.func96, Tryz.ntmps96
  go_wp2_with (go_at_call 187; refine (buf_none _ b h1).mono ?_; rintro e w' ⟨rfl, rfl⟩)
  go_quiet ((go_at_call 108; exact Calls.quiet_of (HLen.out _ (((Fr.refl _ _).alloc _).drewN _))))
  go_wp2
  have hE0 := heap_alloc_new w (.cells #[.int .i64 f, .slice d nd cd, .slice i ni ci] 168)
  refine forget (fun W => Hid (W.heap[w.heap.size]? = some (.cells #[.int .i64 f, .slice d nd cd, .slice i ni ci] 168 (0, 0))) ∧ Fr nob w W) ⟨hE0, ((Fr.refl _ _).alloc _).drewN _⟩ ?_
  rintro W ⟨HW, hfW⟩
  have hS : ∀ V, Fr nob W V → (V.cell? ⟨w.heap.size, 0, none⟩ = some (.int .i64 f) ∧ V.cell? ⟨w.heap.size, 1, none⟩ = some (.slice d nd cd) ∧ Hid (Fr nob W V)) := fun V hV => by
    have h0 := blk_cells (hV.keep HW.out (fun h => h))
    exact ⟨by rw [h0]; rfl, by rw [h0]; rfl, hV⟩
  have HS := Lib.hid hS
  clear hS
  have e1 : IntKind.i64.wrap ((n : Int) - f) = n - f := IntWalk.i64_in _ (by omega)
  have e2 : IntKind.i64.wrap ((f : Int) + nd) = f + nd := IntWalk.i64_in _ (by omega)
  have e4 : ((f : Int) + nd).toNat = f + nd := by omega
  go_region_held3 (fun V => V.cell? ⟨w.heap.size, 0, none⟩ = some (.int .i64 f) ∧ V.cell? ⟨w.heap.size, 1, none⟩ = some (.slice d nd cd) ∧ Hid (Fr nob W V))
    ((go_split_ands; refine HS.out _ ?_; first | exact (Fr.refl _ _).drew | exact Fr.drewN (Fr.refl _ _) _ | exact Fr.then (Fr.drewN (Fr.refl _ _) _) (by assumption) | exact Fr.drewN (Fr.then (Fr.drewN (Fr.refl _ _) _) (by assumption)) _))
    (first
      | (go_at_call 108; refine (HLen.out _ ?_).mono ?_; (first | exact hfW.then (Fr.refl _ _).drew | exact hfW.then ((Fr.refl _ _).drewN _)); rintro e w' ⟨rfl, k, rfl⟩)
      | (go_at_call 174; refine (buf_text _ b L p m ?_).mono ?_; (exact H.out.stayN (hfW.then ((Fr.refl _ _).drewN _))); rintro e w' ⟨a, c, rfl, hown, hfr, _⟩; rw [HN.out] at hown ⊢; obtain ⟨a2, c2, hsl, hS2⟩ := slice_lh hown.sl f (f + nd) ((f : Int) + nd) (by omega) (by omega) (by omega); rw [show f + nd - f = nd by omega] at hsl hS2; have HS2 := Lib.hid hS2; have HFR := Lib.hid (hfW.then (((Fr.refl nob W).drewN _).then hfr)); clear hS2 hown)
      | (go_at_call 30; refine (HEq.out _ _ _ HS2.out HFR.out).mono ?_; rintro e w' ⟨rfl, k, rfl⟩))
  rename_i hSV
  obtain ⟨s0, s1, hSF⟩ := hSV
  have hWF := hfW.then hSF.out
  have hEV := hSF.out.keep HW.out (fun h => h)
  have hcV := blk_cells hEV
  have hlV := blk_lt hEV
  clear s0 s1
  have hRep : ∀ V, Fr nob w V → Calls Tryz.prog 170 #[.pointer (some ⟨b, 0, none⟩), .int .i64 f, .int .i64 (f + nd), .slice i ni ci] V (Replaced V b L p m f (f + nd) ins) := fun V hV => by
    have h := buf_replace_ok V b L p m f (f + nd) ins i ci (H.out.stayN hV) (by rw [HNI.out]; exact HI.out.oldN hV) (by omega) (by rw [HN.out]; omega) (by rw [HN.out, HNI.out]; omega)
    rw [HNI.out, Int.natCast_add] at h
    exact h
  have HRep := Lib.hid hRep
  clear hRep
  go_wp2_with fail
  refine (HRep.out _ hWF).mono ?_
  rintro e w3 ⟨v, rfl, ⟨d3, i3, cd3, ci3, rfl, _, _⟩, hB3, hf3⟩
  have HB3 := Lib.hid hB3
  clear hB3
  go_wp2
  go_ret
  refine ⟨rfl, ?_, ?_⟩
  · rw [HND.out]
    exact HB3.out.stayN ((Fr.refl _ _).alloc _)
  · exact ((hWF.mono (fun _ _ h => h.elim)).trans hf3 (fun _ _ h => h)).alloc _
end Go.Proofs.YtbhklkolkclflaaGreatDoor
/- B9: Contracts of package buffer, sixth part: Apply where the edit does not fit. -/
namespace Go.Proofs.YtbhklkolkclflaaGreatDoor
open Go.RowKit

/-- What Apply leaves where the edit does not fit. -/
def ApplyNo (w : World) (b : Nat) (L : List Int) (p m : Int) (e : Ending) (w' : World) : Prop :=
  ∃ c : Int, c ≠ 0 ∧ e = .returned (.int .i64 c) ∧ BufRep w' b L p m ∧ Fr nob w w'

set_option maxRecDepth 10000 in
set_option maxHeartbeats 1600000 in
theorem buf_apply_mis (w : World) (b : Nat) (L : List Int) (p m : Int) (f : Nat) (del ins : List Int) (d i : Option Addr) (cd ci : Nat) (h : BufRep w b L p m)
    (hd : Sl w 1 d del.length cd (runes del))
    (hf : f + del.length ≤ L.length) (heq : (L.drop f).take del.length ≠ del) :
    Calls Tryz.prog 96 #[.pointer (some ⟨b, 0, none⟩), .agg #[.int .i64 f, .slice d del.length cd, .slice i ins.length ci]] w (ApplyNo w b L p m) := by
  have H := Lib.hid h
  have hL : L.length ≤ 1024 := by obtain ⟨_, _, _, _, _, _, _, _, _, _, _, _, h, _⟩ := h; exact h
  have hb := h.lt
  have HD := Lib.hid hd
  have HE := Lib.hid heq
  clear h hd heq
  have F0 : ∀ o n, Fr nob w ((w.alloc o).drewN n) := fun o n => ((Fr.refl _ _).alloc o).drewN n
  have HF0 := Lib.hid F0
  clear F0
  generalize hn : L.length = n at *
  generalize hnd : del.length = nd at *
  generalize ins.length = ni
  have HN := Lib.hid hn
  have HND := Lib.hid hnd
  clear hn hnd
  have b1 : decide ((f : Int) < 0) = false := by simp
  have b2 : decide (n < f) = false := by simp; omega
  have b3 : decide ((n : Int) - f < nd) = false := by simp; omega
  have i1 : (f : Int) ≤ n := by omega
  have i2 : (f : Int) + nd ≤ n := by omega
  have hLen : ∀ W, Fr nob w W → Calls Tryz.prog 108 #[.pointer (some ⟨b, 0, none⟩)] W fun e w' => e = .returned (.int .i64 n) ∧ ∃ k, w' = W.drewN k := fun W hW => by
    have h := buf_len W b L p m (H.out.stayN hW)
    rw [HN.out] at h
    exact h
  have HLen := Lib.hid hLen
  clear hLen
  have hEq : ∀ W a2 c2, Sl W 1 a2 nd c2 (runes ((L.drop f).take nd)) → Fr nob w W → Calls Tryz.prog 30 #[.slice a2 nd c2, .slice d nd cd] W fun e w' => e = .returned (.bool false) ∧ ∃ k, w' = W.drewN k := fun W a2 c2 hW hfW => by
    have e1 : ((L.drop f).take nd).length = nd := by rw [List.length_take, List.length_drop, HN.out]; omega
    have e2 := HE.out
    have h := equal_runes W a2 d c2 cd ((L.drop f).take nd) del (by rw [e1]; exact hW) (by rw [HND.out]; exact HD.out.oldN hfW) (by rw [e1]; omega)
    rw [e1, HND.out, decide_eq_false e2] at h
    exact h
  have HEq := Lib.hid hEq
  clear hEq
  obtain ⟨a0, n0, c0, f0, t0, h1⟩ := (H.out.stayN (w' := w.alloc (.cells #[.int .i64 f, .slice d nd cd, .slice i ni ci] 168)) ((Fr.refl _ _).alloc _)).at
  go_enter Tryz.func96, Tryz.ntmps96
  go_wp2_with (go_at_call 187; refine (buf_none _ b h1).mono ?_; rintro e w' ⟨rfl, rfl⟩)
  go_quiet ((go_at_call 108; exact Calls.quiet_of (HLen.out _ (((Fr.refl _ _).alloc _).drewN _))))
  go_wp2
  have hE0 := heap_alloc_new w (.cells #[.int .i64 f, .slice d nd cd, .slice i ni ci] 168)
  refine forget (fun W => Hid (W.heap[w.heap.size]? = some (.cells #[.int .i64 f, .slice d nd cd, .slice i ni ci] 168 (0, 0))) ∧ Fr nob w W) ⟨hE0, ((Fr.refl _ _).alloc _).drewN _⟩ ?_
  rintro W ⟨HW, hfW⟩
  have hS : ∀ V, Fr nob W V → (V.cell? ⟨w.heap.size, 0, none⟩ = some (.int .i64 f) ∧ V.cell? ⟨w.heap.size, 1, none⟩ = some (.slice d nd cd) ∧ Hid (Fr nob W V)) := fun V hV => by
    have h0 := blk_cells (hV.keep HW.out (fun h => h))
    exact ⟨by rw [h0]; rfl, by rw [h0]; rfl, hV⟩
  have HS := Lib.hid hS
  clear hS
  have e1 : IntKind.i64.wrap ((n : Int) - f) = n - f := IntWalk.i64_in _ (by omega)
  have e2 : IntKind.i64.wrap ((f : Int) + nd) = f + nd := IntWalk.i64_in _ (by omega)
  have e4 : ((f : Int) + nd).toNat = f + nd := by omega
  go_region_held3 (fun V => V.cell? ⟨w.heap.size, 0, none⟩ = some (.int .i64 f) ∧ V.cell? ⟨w.heap.size, 1, none⟩ = some (.slice d nd cd) ∧ Hid (Fr nob W V))
    ((go_split_ands; refine HS.out _ ?_; first | exact (Fr.refl _ _).drew | exact Fr.drewN (Fr.refl _ _) _ | exact Fr.then (Fr.drewN (Fr.refl _ _) _) (by assumption) | exact Fr.drewN (Fr.then (Fr.drewN (Fr.refl _ _) _) (by assumption)) _))
    (first
      | (go_at_call 108; refine (HLen.out _ ?_).mono ?_; (first | exact hfW.then (Fr.refl _ _).drew | exact hfW.then ((Fr.refl _ _).drewN _)); rintro e w' ⟨rfl, k, rfl⟩)
      | (go_at_call 174; refine (buf_text _ b L p m ?_).mono ?_; (exact H.out.stayN (hfW.then ((Fr.refl _ _).drewN _))); rintro e w' ⟨a, c, rfl, hown, hfr, _⟩; rw [HN.out] at hown ⊢; obtain ⟨a2, c2, hsl, hS2⟩ := slice_lh hown.sl f (f + nd) ((f : Int) + nd) (by omega) (by omega) (by omega); rw [show f + nd - f = nd by omega] at hsl hS2; have HS2 := Lib.hid hS2; have HFR := Lib.hid (hfW.then (((Fr.refl nob W).drewN _).then hfr)); clear hS2 hown)
      | (go_at_call 30; refine (HEq.out _ _ _ HS2.out HFR.out).mono ?_; rintro e w' ⟨rfl, k, rfl⟩))
  rename_i hSV
  obtain ⟨s0, s1, hSF⟩ := hSV
  have hWF := hfW.then hSF.out
  go_wp2
  go_ret
  exact ⟨71, by decide, rfl, H.out.stayN hWF, hWF⟩

set_option maxRecDepth 10000 in
set_option maxHeartbeats 1600000 in
theorem buf_apply_long (w : World) (b : Nat) (L : List Int) (p m : Int) (f : Nat) (del ins : List Int) (d i : Option Addr) (cd ci : Nat) (h : BufRep w b L p m)
    (hd : Sl w 1 d del.length cd (runes del))
    (hf : f + del.length ≤ L.length) (heq : (L.drop f).take del.length = del) (hlen : 1024 < ins.length + (L.length - del.length)) :
    Calls Tryz.prog 96 #[.pointer (some ⟨b, 0, none⟩), .agg #[.int .i64 f, .slice d del.length cd, .slice i ins.length ci]] w (ApplyNo w b L p m) := by
  have H := Lib.hid h
  have hL : L.length ≤ 1024 := by obtain ⟨_, _, _, _, _, _, _, _, _, _, _, _, h, _⟩ := h; exact h
  have hb := h.lt
  have HD := Lib.hid hd
  have HE := Lib.hid heq
  clear h hd heq
  have F0 : ∀ o n, Fr nob w ((w.alloc o).drewN n) := fun o n => ((Fr.refl _ _).alloc o).drewN n
  have HF0 := Lib.hid F0
  clear F0
  generalize hn : L.length = n at *
  generalize hnd : del.length = nd at *
  generalize hni : ins.length = ni at *
  have HN := Lib.hid hn
  have HND := Lib.hid hnd
  clear hn hnd hni
  have b1 : decide ((f : Int) < 0) = false := by simp
  have b2 : decide (n < f) = false := by simp; omega
  have b3 : decide ((n : Int) - f < nd) = false := by simp; omega
  have i1 : (f : Int) ≤ n := by omega
  have i2 : (f : Int) + nd ≤ n := by omega
  have hLen : ∀ W, Fr nob w W → Calls Tryz.prog 108 #[.pointer (some ⟨b, 0, none⟩)] W fun e w' => e = .returned (.int .i64 n) ∧ ∃ k, w' = W.drewN k := fun W hW => by
    have h := buf_len W b L p m (H.out.stayN hW)
    rw [HN.out] at h
    exact h
  have HLen := Lib.hid hLen
  clear hLen
  have hEq : ∀ W a2 c2, Sl W 1 a2 nd c2 (runes ((L.drop f).take nd)) → Fr nob w W → Calls Tryz.prog 30 #[.slice a2 nd c2, .slice d nd cd] W fun e w' => e = .returned (.bool true) ∧ ∃ k, w' = W.drewN k := fun W a2 c2 hW hfW => by
    have e1 : ((L.drop f).take nd).length = nd := by rw [List.length_take, List.length_drop, HN.out]; omega
    have e2 := HE.out
    have h := equal_runes W a2 d c2 cd ((L.drop f).take nd) del (by rw [e1]; exact hW) (by rw [HND.out]; exact HD.out.oldN hfW) (by rw [e1]; omega)
    rw [e1, HND.out, decide_eq_true e2] at h
    exact h
  have HEq := Lib.hid hEq
  clear hEq
  obtain ⟨a0, n0, c0, f0, t0, h1⟩ := (H.out.stayN (w' := w.alloc (.cells #[.int .i64 f, .slice d nd cd, .slice i ni ci] 168)) ((Fr.refl _ _).alloc _)).at
  go_enter Tryz.func96, Tryz.ntmps96
  go_wp2_with (go_at_call 187; refine (buf_none _ b h1).mono ?_; rintro e w' ⟨rfl, rfl⟩)
  go_quiet ((go_at_call 108; exact Calls.quiet_of (HLen.out _ (((Fr.refl _ _).alloc _).drewN _))))
  go_wp2
  have hE0 := heap_alloc_new w (.cells #[.int .i64 f, .slice d nd cd, .slice i ni ci] 168)
  refine forget (fun W => Hid (W.heap[w.heap.size]? = some (.cells #[.int .i64 f, .slice d nd cd, .slice i ni ci] 168 (0, 0))) ∧ Fr nob w W) ⟨hE0, ((Fr.refl _ _).alloc _).drewN _⟩ ?_
  rintro W ⟨HW, hfW⟩
  have hS : ∀ V, Fr nob W V → (V.cell? ⟨w.heap.size, 0, none⟩ = some (.int .i64 f) ∧ V.cell? ⟨w.heap.size, 1, none⟩ = some (.slice d nd cd) ∧ Hid (Fr nob W V)) := fun V hV => by
    have h0 := blk_cells (hV.keep HW.out (fun h => h))
    exact ⟨by rw [h0]; rfl, by rw [h0]; rfl, hV⟩
  have HS := Lib.hid hS
  clear hS
  have e1 : IntKind.i64.wrap ((n : Int) - f) = n - f := IntWalk.i64_in _ (by omega)
  have e2 : IntKind.i64.wrap ((f : Int) + nd) = f + nd := IntWalk.i64_in _ (by omega)
  have e4 : ((f : Int) + nd).toNat = f + nd := by omega
  go_region_held3 (fun V => V.cell? ⟨w.heap.size, 0, none⟩ = some (.int .i64 f) ∧ V.cell? ⟨w.heap.size, 1, none⟩ = some (.slice d nd cd) ∧ Hid (Fr nob W V))
    ((go_split_ands; refine HS.out _ ?_; first | exact (Fr.refl _ _).drew | exact Fr.drewN (Fr.refl _ _) _ | exact Fr.then (Fr.drewN (Fr.refl _ _) _) (by assumption) | exact Fr.drewN (Fr.then (Fr.drewN (Fr.refl _ _) _) (by assumption)) _))
    (first
      | (go_at_call 108; refine (HLen.out _ ?_).mono ?_; (first | exact hfW.then (Fr.refl _ _).drew | exact hfW.then ((Fr.refl _ _).drewN _)); rintro e w' ⟨rfl, k, rfl⟩)
      | (go_at_call 174; refine (buf_text _ b L p m ?_).mono ?_; (exact H.out.stayN (hfW.then ((Fr.refl _ _).drewN _))); rintro e w' ⟨a, c, rfl, hown, hfr, _⟩; rw [HN.out] at hown ⊢; obtain ⟨a2, c2, hsl, hS2⟩ := slice_lh hown.sl f (f + nd) ((f : Int) + nd) (by omega) (by omega) (by omega); rw [show f + nd - f = nd by omega] at hsl hS2; have HS2 := Lib.hid hS2; have HFR := Lib.hid (hfW.then (((Fr.refl nob W).drewN _).then hfr)); clear hS2 hown)
      | (go_at_call 30; refine (HEq.out _ _ _ HS2.out HFR.out).mono ?_; rintro e w' ⟨rfl, k, rfl⟩))
  rename_i hSV
  obtain ⟨s0, s1, hSF⟩ := hSV
  have hWF := hfW.then hSF.out
  have hEV := hSF.out.keep HW.out (fun h => h)
  have hcV := blk_cells hEV
  have hlV := blk_lt hEV
  clear s0 s1
  have hRep : ∀ V, Fr nob w V → Calls Tryz.prog 170 #[.pointer (some ⟨b, 0, none⟩), .int .i64 f, .int .i64 (f + nd), .slice i ni ci] V (Refused V 3) := fun V hV => by
    have h := buf_replace_long V b L p m f (f + nd) i ni ci (H.out.stayN hV) (by omega) (by rw [HN.out]; omega) (by rw [HN.out]; omega)
    rw [Int.natCast_add] at h
    exact h
  have HRep := Lib.hid hRep
  clear hRep
  go_wp2_with fail
  refine (HRep.out _ hWF).mono ?_
  rintro e w3 ⟨rfl, hf3⟩
  go_wp2
  go_ret
  have hWF3 := hWF.then (hf3.alloc (.cells #[.int .i64 0, .slice none 0 0, .slice none 0 0] 168))
  exact ⟨3, by decide, rfl, H.out.stayN hWF3, hWF3⟩

set_option maxRecDepth 10000 in
set_option maxHeartbeats 1600000 in
theorem buf_apply_short (w : World) (b : Nat) (L : List Int) (p m : Int) (f : Nat) (nd ni : Nat) (d i : Option Addr) (cd ci : Nat) (h : BufRep w b L p m)
    (hf : f ≤ L.length) (hbad : L.length < f + nd) :
    Calls Tryz.prog 96 #[.pointer (some ⟨b, 0, none⟩), .agg #[.int .i64 f, .slice d nd cd, .slice i ni ci]] w (ApplyNo w b L p m) := by
  have H := Lib.hid h
  have hL : L.length ≤ 1024 := by obtain ⟨_, _, _, _, _, _, _, _, _, _, _, _, h, _⟩ := h; exact h
  have hb := h.lt
  clear h
  generalize hn : L.length = n at *
  have HN := Lib.hid hn
  clear hn
  have b1 : decide ((f : Int) < 0) = false := by simp
  have b2 : decide (n < f) = false := by simp; omega
  have b3 : decide ((n : Int) - f < nd) = true := by simp; omega
  have i1 : (f : Int) ≤ n := by omega
  have hLen : ∀ W, Fr nob w W → Calls Tryz.prog 108 #[.pointer (some ⟨b, 0, none⟩)] W fun e w' => e = .returned (.int .i64 n) ∧ ∃ k, w' = W.drewN k := fun W hW => by
    have h := buf_len W b L p m (H.out.stayN hW)
    rw [HN.out] at h
    exact h
  have HLen := Lib.hid hLen
  clear hLen
  obtain ⟨a0, n0, c0, f0, t0, h1⟩ := (H.out.stayN (w' := w.alloc (.cells #[.int .i64 f, .slice d nd cd, .slice i ni ci] 168)) ((Fr.refl _ _).alloc _)).at
  go_enter Tryz.func96, Tryz.ntmps96
  go_wp2_with (go_at_call 187; refine (buf_none _ b h1).mono ?_; rintro e w' ⟨rfl, rfl⟩)
  go_quiet ((go_at_call 108; exact Calls.quiet_of (HLen.out _ (((Fr.refl _ _).alloc _).drewN _))))
  go_wp2
  have hE0 := heap_alloc_new w (.cells #[.int .i64 f, .slice d nd cd, .slice i ni ci] 168)
  refine forget (fun W => Hid (W.heap[w.heap.size]? = some (.cells #[.int .i64 f, .slice d nd cd, .slice i ni ci] 168 (0, 0))) ∧ Fr nob w W) ⟨hE0, ((Fr.refl _ _).alloc _).drewN _⟩ ?_
  rintro W ⟨HW, hfW⟩
  have hcW := blk_cells HW.out
  have hlW := blk_lt HW.out
  have e1 : IntKind.i64.wrap ((n : Int) - f) = n - f := IntWalk.i64_in _ (by omega)
  go_quiet ((go_at_call 108; exact Calls.quiet_of (HLen.out _ (hfW.drewN _))))
  go_wp2
  go_ret
  exact ⟨71, by decide, rfl, H.out.stayN (hfW.drewN _), hfW.drewN _⟩

set_option maxRecDepth 10000 in
set_option maxHeartbeats 1600000 in
theorem buf_apply_place (w : World) (b : Nat) (L : List Int) (p m : Int) (f : Int) (nd ni : Nat) (d i : Option Addr) (cd ci : Nat) (h : BufRep w b L p m)
    (hbad : ¬ (0 ≤ f ∧ f ≤ L.length)) :
    Calls Tryz.prog 96 #[.pointer (some ⟨b, 0, none⟩), .agg #[.int .i64 f, .slice d nd cd, .slice i ni ci]] w (ApplyNo w b L p m) := by
  have H := Lib.hid h
  have hL : L.length ≤ 1024 := by obtain ⟨_, _, _, _, _, _, _, _, _, _, _, _, h, _⟩ := h; exact h
  have hb := h.lt
  clear h
  generalize hn : L.length = n at *
  have HN := Lib.hid hn
  clear hn
  have hLen : ∀ W, Fr nob w W → Calls Tryz.prog 108 #[.pointer (some ⟨b, 0, none⟩)] W fun e w' => e = .returned (.int .i64 n) ∧ ∃ k, w' = W.drewN k := fun W hW => by
    have h := buf_len W b L p m (H.out.stayN hW)
    rw [HN.out] at h
    exact h
  have HLen := Lib.hid hLen
  clear hLen
  obtain ⟨a0, n0, c0, f0, t0, h1⟩ := (H.out.stayN (w' := w.alloc (.cells #[.int .i64 f, .slice d nd cd, .slice i ni ci] 168)) ((Fr.refl _ _).alloc _)).at
  by_cases h0 : f < 0
  · have b1 : decide (f < 0) = true := by simpa using h0
    go_enter Tryz.func96, Tryz.ntmps96
    go_wp2_with (go_at_call 187; refine (buf_none _ b h1).mono ?_; rintro e w' ⟨rfl, rfl⟩)
    go_quiet ((go_at_call 108; exact Calls.quiet_of (HLen.out _ (((Fr.refl _ _).alloc _).drewN _))))
    go_wp2
    go_ret
    exact ⟨70, by decide, rfl, H.out.stayN (((Fr.refl _ _).alloc _).drewN _), ((Fr.refl _ _).alloc _).drewN _⟩
  · have b1 : decide (f < 0) = false := by simpa using h0
    have b2 : decide ((n : Int) < f) = true := by simp; omega
    go_enter Tryz.func96, Tryz.ntmps96
    go_wp2_with (go_at_call 187; refine (buf_none _ b h1).mono ?_; rintro e w' ⟨rfl, rfl⟩)
    go_quiet ((go_at_call 108; exact Calls.quiet_of (HLen.out _ (((Fr.refl _ _).alloc _).drewN _))))
    go_wp2
    go_ret
    exact ⟨70, by decide, rfl, H.out.stayN (((Fr.refl _ _).alloc _).drewN _), ((Fr.refl _ _).alloc _).drewN _⟩

end Go.Proofs.YtbhklkolkclflaaGreatDoor
