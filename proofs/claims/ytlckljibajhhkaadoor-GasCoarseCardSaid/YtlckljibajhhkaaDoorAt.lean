/-
  gas.at: what gas.check says; then ErrBound if the time is below 0 or above the most.
-/
import Derived.Test.YtlckljibajhhkaaDoorCheck
namespace Go.Proofs.YtlckljibajhhkaaDoor
open Go.RowKit

/-- errors by their numbers: 0 none, 1 text, 2 bound, 3 shape -/
def ringCode (l : List UInt8) : Nat := if l.length < 2 ∨ 16 < l.length ∨ l.length % 2 = 1 then 2 else if Lib.trimS l [48, 49] = [] then 0 else 1
def ruleCode (r : Nat → Int) (l : List UInt8) : Nat := if okRule r = true then ringCode l else 3
def atCode (r : Nat → Int) (l : List UInt8) (t most : Int) : Nat := if ruleCode r l = 0 then (if t < 0 ∨ most < t then 2 else 0) else ruleCode r l
def errOf (aB aT aS : Addr) : Nat → Value
  | 0 => .nilIface
  | 1 => errV aT
  | 2 => errV aB
  | _ => errV aS

theorem textV_code (aB aT aS : Addr) (l : List UInt8) : textV aB aT l = errOf aB aT aS (ringCode l) := by
  unfold textV ringCode; split
  · rfl
  · split <;> rfl
theorem checkV_code (aB aT aS : Addr) (r : Nat → Int) (l : List UInt8) : checkV aB aT aS r l = errOf aB aT aS (ruleCode r l) := by
  unfold checkV ruleCode; split
  · exact textV_code ..
  · rfl
theorem ringCode_le (l : List UInt8) : ringCode l ≤ 2 := by unfold ringCode; split; omega; split <;> omega
theorem ruleCode_le (r : Nat → Int) (l : List UInt8) : ruleCode r l ≤ 3 := by
  unfold ruleCode; split
  · have := ringCode_le l; omega
  · omega

/-- the three errors that package gas tells, where they lie -/
structure Errs3 (aB aT aS : Addr) (w : World) : Prop where
  bound : w.cell? ⟨0, 0, none⟩ = some (errV aB)
  text : w.cell? ⟨1, 0, none⟩ = some (errV aT)
  shape : w.cell? ⟨2, 0, none⟩ = some (errV aS)
theorem Errs3.size {aB aT aS : Addr} {w : World} (h : Errs3 aB aT aS w) : 2 < w.heap.size := by
  rcases Nat.lt_or_ge 2 w.heap.size with h' | h'
  · exact h'
  · have := h.shape; simp [World.cell?, Array.getElem?_eq_none h'] at this
theorem Errs3.below {aB aT aS : Addr} {w w' : World} (h : Errs3 aB aT aS w) {B : Nat} (hb : Below B w w') (hB : 3 ≤ B) : Errs3 aB aT aS w' :=
  ⟨(hb.cell (p := ⟨0, 0, none⟩) (show 0 < B by omega)).trans h.bound, (hb.cell (p := ⟨1, 0, none⟩) (show 1 < B by omega)).trans h.text, (hb.cell (p := ⟨2, 0, none⟩) (show 2 < B by omega)).trans h.shape⟩

theorem check_code (r : Nat → Int) (s : ByteArray) (w : World) (aB aT aS : Addr) (h : Errs3 aB aT aS w) (hs : s.size ≤ 9223372036854775807) :
    Calls Tryd.prog 30 #[ruleV r, .string s] w fun e w' => e = .returned (errOf aB aT aS (ruleCode r s.data.toList)) ∧ Below w.heap.size w w' := by
  rw [← checkV_code]; exact check_any r s w aB aT aS h.bound h.text h.shape hs

theorem box_below (w : World) (o : Obj) : Below w.heap.size w (w.alloc o) := (Below.refl _ _).alloc (Nat.le_refl _) _

set_option maxHeartbeats 1000000 in
theorem at_err (r : Nat → Int) (s : ByteArray) (t most : Int) (w : World) (a : Addr)
    (hc : Calls Tryd.prog 30 #[ruleV r, .string s] (w.alloc (.cells #[.int .i64 (r 0), .int .i64 (r 1), .int .i64 (r 2), .int .i64 (r 3)] 22)) fun e w' => e = .returned (errV a) ∧ Below (w.heap.size + 1) (w.alloc (.cells #[.int .i64 (r 0), .int .i64 (r 1), .int .i64 (r 2), .int .i64 (r 3)] 22)) w') :
    Calls Tryd.prog 23 #[ruleV r, .string s, .int .i64 t, .int .i64 most] w fun e w' => e = .returned (errV a) ∧ Below w.heap.size w w' := by
  go_enter Tryd.func23, Tryd.ntmps23
  go_wp2_with (go_at_call 30; refine hc.mono ?_; rintro e w' ⟨rfl, hb⟩)
  go_ret
  exact ⟨rfl, (box_below _ _).trans (Below.mono ‹_› (by omega))⟩

set_option maxHeartbeats 1000000 in
theorem at_in (r : Nat → Int) (s : ByteArray) (t most : Int) (w : World) (h0 : 0 ≤ t) (hm : t ≤ most)
    (hc : Calls Tryd.prog 30 #[ruleV r, .string s] (w.alloc (.cells #[.int .i64 (r 0), .int .i64 (r 1), .int .i64 (r 2), .int .i64 (r 3)] 22)) fun e w' => e = .returned .nilIface ∧ Below (w.heap.size + 1) (w.alloc (.cells #[.int .i64 (r 0), .int .i64 (r 1), .int .i64 (r 2), .int .i64 (r 3)] 22)) w') :
    Calls Tryd.prog 23 #[ruleV r, .string s, .int .i64 t, .int .i64 most] w fun e w' => e = .returned .nilIface ∧ Below w.heap.size w w' := by
  go_enter Tryd.func23, Tryd.ntmps23
  go_wp2_with (go_at_call 30; refine hc.mono ?_; rintro e w' ⟨rfl, hb⟩)
  go_ret
  exact ⟨rfl, (box_below _ _).trans (Below.mono ‹_› (by omega))⟩

set_option maxHeartbeats 1000000 in
theorem at_out (r : Nat → Int) (s : ByteArray) (t most : Int) (w : World) (aB : Addr) (hB : w.cell? ⟨0, 0, none⟩ = some (errV aB)) (hlt : 0 < w.heap.size) (h : t < 0 ∨ most < t)
    (hc : Calls Tryd.prog 30 #[ruleV r, .string s] (w.alloc (.cells #[.int .i64 (r 0), .int .i64 (r 1), .int .i64 (r 2), .int .i64 (r 3)] 22)) fun e w' => e = .returned .nilIface ∧ Below (w.heap.size + 1) (w.alloc (.cells #[.int .i64 (r 0), .int .i64 (r 1), .int .i64 (r 2), .int .i64 (r 3)] 22)) w') :
    Calls Tryd.prog 23 #[ruleV r, .string s, .int .i64 t, .int .i64 most] w fun e w' => e = .returned (errV aB) ∧ Below w.heap.size w w' := by
  rcases Classical.em (t < 0) with h0 | h0
  · clear h
    go_enter Tryd.func23, Tryd.ntmps23
    go_wp2_with (go_at_call 30; refine hc.mono ?_; rintro e w' ⟨rfl, hb⟩; have hB' : w'.cell? ⟨0, 0, none⟩ = some (errV aB) := ((((box_below _ _).trans (hb.mono (by omega))).cell (p := ⟨0, 0, none⟩) hlt).trans hB))
    go_ret
    exact ⟨rfl, (box_below _ _).trans (Below.mono ‹_› (by omega))⟩
  · have h1 : most < t := by omega
    have h2 : 0 ≤ t := by omega
    clear h h0
    go_enter Tryd.func23, Tryd.ntmps23
    go_wp2_with (go_at_call 30; refine hc.mono ?_; rintro e w' ⟨rfl, hb⟩; have hB' : w'.cell? ⟨0, 0, none⟩ = some (errV aB) := ((((box_below _ _).trans (hb.mono (by omega))).cell (p := ⟨0, 0, none⟩) hlt).trans hB))
    go_ret
    exact ⟨rfl, (box_below _ _).trans (Below.mono ‹_› (by omega))⟩

theorem at_any (r : Nat → Int) (s : ByteArray) (t most : Int) (w : World) (aB aT aS : Addr) (h : Errs3 aB aT aS w) (hs : s.size ≤ 9223372036854775807) :
    Calls Tryd.prog 23 #[ruleV r, .string s, .int .i64 t, .int .i64 most] w fun e w' => e = .returned (errOf aB aT aS (atCode r s.data.toList t most)) ∧ Below w.heap.size w w' := by
  have hsz := h.size
  have hc := check_code r s _ aB aT aS (h.below (box_below w (.cells #[.int .i64 (r 0), .int .i64 (r 1), .int .i64 (r 2), .int .i64 (r 3)] 22)) (by omega)) hs
  rw [World.size_alloc] at hc
  have hle := ruleCode_le r s.data.toList
  unfold atCode
  rcases (show ruleCode r s.data.toList = 0 ∨ ruleCode r s.data.toList = 1 ∨ ruleCode r s.data.toList = 2 ∨ ruleCode r s.data.toList = 3 by omega) with e | e | e | e
  · rw [e] at hc ⊢
    rw [if_pos rfl]
    by_cases hb : t < 0 ∨ most < t
    · rw [if_pos hb]; exact at_out r s t most w aB h.bound (by omega) hb hc
    · rw [if_neg hb]; exact at_in r s t most w (by omega) (by omega) hc
  · rw [e] at hc ⊢; exact at_err r s t most w aT hc
  · rw [e] at hc ⊢; exact at_err r s t most w aB hc
  · rw [e] at hc ⊢; exact at_err r s t most w aS hc
end Go.Proofs.YtlckljibajhhkaaDoor
