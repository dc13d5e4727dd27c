/- Package editor: what an editor is; none, part. -/
import Derived.Test.YtbhklkolkclflaaE2
namespace Go.Proofs.Ytbhklkolkclflaa
open Go.RowKit

/-- An editor's own fields, beside its cores. -/
structure EdF where
  given : Bool
  minus : Bool
  arg : Int
  inn : Bool
  cls : Int
  killed : Bool
  yanked : Bool
  argues : Bool
  whole : Bool

/-- The cells of an editor's block. -/
def edArr (b r k um : Nat) (C : CoreS) (h bl : Nat) (f : EdF) (was : Nat → Value) (put : Value) : Array Value :=
  #[.pointer (some ⟨b, 0, none⟩), .pointer (some ⟨r, 0, none⟩), .pointer (some ⟨k, 0, none⟩), .map (some um), .int .i64 C.mode, .bool C.over, .int .i64 C.last, .int .i64 C.yf, .int .i64 C.yt, .int .i64 C.res, .bool C.run,
    .pointer (some ⟨h, 0, none⟩), .pointer (some ⟨bl, 0, none⟩), .bool f.given, .bool f.minus, .int .i64 f.arg, .bool f.inn,
    was 0, was 1, was 2, was 3, was 4, was 5, was 6, was 7, was 8, was 9, was 10,
    .int .i64 f.cls, .bool f.killed, .bool f.yanked, .bool f.argues, .bool f.whole, put]

def EdBlk (w : World) (e b r k um : Nat) (C : CoreS) (h bl : Nat) (f : EdF) (was : Nat → Value) (put : Value) : Prop := w.heap[e]? = some (.cells (edArr b r k um C h bl f was put) 69 (0, 0))

set_option maxRecDepth 10000 in
theorem ed_none (w : World) (e b r k um : Nat) (C : CoreS) (h bl : Nat) (f : EdF) (was : Nat → Value) (put : Value) (hb : EdBlk w e b r k um C h bl f was put) :
    Calls Try.prog 23 #[.pointer (some ⟨e, 0, none⟩)] w fun x w' => x = .returned (.bool false) ∧ w' = w := by
  have hc : w.cell? ⟨e, 11, none⟩ = some (.pointer (some ⟨h, 0, none⟩)) := by rw [blk_cells hb]; rfl
  clear hb
  go_enter Try.func23, Try.ntmps23
  go_wp2
  go_ret
  exact ⟨rfl, rfl⟩

set_option maxRecDepth 10000 in
theorem ed_part (w : World) (e b r k um : Nat) (C : CoreS) (h bl : Nat) (f : EdF) (was : Nat → Value) (put : Value) (hb : EdBlk w e b r k um C h bl f was put) :
    Calls Try.prog 25 #[.pointer (some ⟨e, 0, none⟩)] w fun x w' => x = .returned (.int .i64 (if f.inn then 0 else 1)) ∧ w' = w := by
  have hc : w.cell? ⟨e, 16, none⟩ = some (.bool f.inn) := by rw [blk_cells hb]; rfl
  have HN := Lib.hid (ed_none w e b r k um C h bl f was put hb)
  clear hb
  cases hi : f.inn
  all_goals rw [hi] at hc
  all_goals have HI := Lib.hid hi
  all_goals clear hi
  all_goals go_enter Try.func25, Try.ntmps25
  all_goals go_wp2_with (go_at_call 23; refine (HN.out).mono ?_; rintro x w' ⟨rfl, rfl⟩)
  all_goals go_ret
  all_goals exact ⟨rfl, rfl⟩
end Go.Proofs.Ytbhklkolkclflaa
