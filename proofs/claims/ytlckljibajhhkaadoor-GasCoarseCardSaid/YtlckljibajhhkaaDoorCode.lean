/-
  plain.Code and coded: of nil and of the errors of text, bound and shape the number 0, 1, 2, 3, and no place; nothing that was in memory before has changed.
-/
import Derived.Test.YtlckljibajhhkaaDoorErr
import Derived.Test.YtlckljibajhhkaaDoorAt
namespace Go.Proofs.YtlckljibajhhkaaDoor
open Go.RowKit

/-- where the variable of the i-th error that plain.Code asks for lies -/
def gOf (i : Nat) : Nat := if i = 0 then 1 else if i = 1 then 0 else i
/-- the eight errors, and the handle of type error -/
structure Errs8 (a : Nat → Addr) (w : World) : Prop where
  cell : ∀ i, i < 8 → w.cell? ⟨gOf i, 0, none⟩ = some (errV (a i))
  row : ∀ i, i < 8 → ∃ c t, w.heap[(a i).block]? = some (.cells c t (0, 0))
  ne : ∀ i j, i < 8 → j < 8 → i ≠ j → a i ≠ a j
  hty : w.cell? ⟨8, 0, none⟩ = some (.iface 83 (.agg #[.pointer (some ⟨12, 25, none⟩)]))
theorem Errs8.size {a : Nat → Addr} {w : World} (h : Errs8 a w) : 8 < w.heap.size := by
  rcases Nat.lt_or_ge 8 w.heap.size with h' | h'
  · exact h'
  · have := h.hty; simp [World.cell?, Array.getElem?_eq_none h'] at this
theorem Errs8.below {a : Nat → Addr} {w w' : World} (h : Errs8 a w) (hb : Below w.heap.size w w') : Errs8 a w' := by
  have hs := h.size
  refine ⟨fun i hi => (hb.cell (p := ⟨gOf i, 0, none⟩) (show gOf i < w.heap.size by unfold gOf; split; omega; split <;> omega)).trans (h.cell i hi), fun i hi => ?_, h.ne, (hb.cell (p := ⟨8, 0, none⟩) hs).trans h.hty⟩
  obtain ⟨c, t, hr⟩ := h.row i hi
  have hlt : (a i).block < w.heap.size := by
    rcases Nat.lt_or_ge (a i).block w.heap.size with h' | h'
    · exact h'
    · rw [Array.getElem?_eq_none h'] at hr; cases hr
  exact ⟨c, t, (hb.block _ hlt).trans hr⟩
theorem Errs8.three {a : Nat → Addr} {w : World} (h : Errs8 a w) : Errs3 (a 1) (a 0) (a 2) w := ⟨h.cell 1 (by omega), h.cell 0 (by omega), h.cell 2 (by omega)⟩

theorem Errs8.cells {a : Nat → Addr} {w : World} (h : Errs8 a w) : w.cell? ⟨1, 0, none⟩ = some (errV (a 0)) ∧ w.cell? ⟨0, 0, none⟩ = some (errV (a 1)) ∧ w.cell? ⟨2, 0, none⟩ = some (errV (a 2)) ∧ w.cell? ⟨3, 0, none⟩ = some (errV (a 3)) ∧
    w.cell? ⟨4, 0, none⟩ = some (errV (a 4)) ∧ w.cell? ⟨5, 0, none⟩ = some (errV (a 5)) ∧ w.cell? ⟨6, 0, none⟩ = some (errV (a 6)) ∧ w.cell? ⟨7, 0, none⟩ = some (errV (a 7)) :=
  ⟨h.cell 0 (by omega), h.cell 1 (by omega), h.cell 2 (by omega), h.cell 3 (by omega), h.cell 4 (by omega), h.cell 5 (by omega), h.cell 6 (by omega), h.cell 7 (by omega)⟩

theorem as_other' (e t : Addr) (w : World) (hg : w.cell? ⟨8, 0, none⟩ = some (.iface 83 (.agg #[.pointer (some ⟨12, 25, none⟩)]))) :
    Calls Tryd.prog 31 #[.iface 111 (.pointer (some e)), .iface 54 (.pointer (some t))] w fun ev w' => ev = .returned (.bool false) ∧ Below w.heap.size w w' :=
  (as_other e t w hg).mono fun _ _ ⟨h, hw⟩ => ⟨h, by rw [hw]; exact (((Below.refl _ _).alloc (Nat.le_refl _) _).alloc (by simp) _).alloc (by simp; omega) _⟩

theorem is_one (a : Nat → Addr) (w : World) (h : Errs8 a w) (i j : Nat) (hi : i < 8) (hj : j < 8) (hne : i ≠ j) :
    Calls Tryd.prog 32 #[errV (a i), errV (a j)] w fun e w' => e = .returned (.bool false) ∧ w' = w := by
  obtain ⟨c, t, hr⟩ := h.row i hi
  obtain ⟨c', t', hr'⟩ := h.row j hj
  exact is_other (a i) (a j) c c' t t' w (h.ne i j hi hj hne) hr hr'

theorem code_nil (w : World) : Calls Tryd.prog 26 #[.nilIface] w fun e w' => e = .returned (.tuple #[.int .i64 0, .int .i64 (-1)]) ∧ w' = w := by
  go_enter Tryd.func26, Tryd.ntmps26
  go_wp2
  go_ret2
  exact ⟨rfl, rfl⟩

abbrev listW (a : Nat → Addr) (w1 : World) : World := w1.alloc (.cells #[errV (a 0), errV (a 1), errV (a 2), errV (a 3), errV (a 4), errV (a 5), errV (a 6), errV (a 7)] 25)
theorem listW_cell (a : Nat → Addr) (w1 : World) (k : Nat) (hk : k < 8) : (listW a w1).cell? ⟨w1.heap.size, k, none⟩ = some (errV (a k)) := by
  rcases (show k = 0 ∨ k = 1 ∨ k = 2 ∨ k = 3 ∨ k = 4 ∨ k = 5 ∨ k = 6 ∨ k = 7 by omega) with rfl | rfl | rfl | rfl | rfl | rfl | rfl | rfl <;> simp [listW]

set_option maxHeartbeats 4000000 in
theorem code_sent (a : Nat → Addr) (w : World) (h : Errs8 a w) (j : Nat) (hj : j < 8) : Calls Tryd.prog 26 #[errV (a j)] w fun e w' => e = .returned (.tuple #[.int .i64 ((j : Int) + 1), .int .i64 (-1)]) ∧ Below w.heap.size w w' := by
  have hA := (as_other' (a j) ⟨w.heap.size, 0, none⟩ (w.alloc (.cells #[.pointer none] 52)) (h.below (box_below _ _)).hty)
  rw [World.size_alloc] at hA
  have HE := Lib.hid h; clear h
  go_enter Tryd.func26, Tryd.ntmps26
  go_wp2_with (first
    | (go_at_call 31; refine hA.mono ?_; rintro e w1 ⟨rfl, hb1⟩; have H1 := Lib.hid (HE.out.below ((box_below _ _).trans (Below.mono hb1 (by omega)))); obtain ⟨k0, k1, k2, k3, k4, k5, k6, k7⟩ := H1.out.cells))
  clear k0 k1 k2 k3 k4 k5 k6 k7 hA
  have HB : Hid (Below w.heap.size w (listW a w1)) := ((box_below _ _).trans (Below.mono hb1 (by omega))).alloc (by have := hb1.size; simp at this; omega) _
  have HL : Hid (Errs8 a (listW a w1)) := H1.out.below (box_below _ _)
  clear hb1 H1
  go_loop [3, 26] (fun x i => ∃ k : Nat, k ≤ j ∧ i = .int .i64 k ∧ x = .int .i64 (-1)) (fun _ i => 8 - (intOf i).toNat)
  case atStart => exact ⟨0, by omega, rfl, rfl⟩
  case round =>
    obtain ⟨k, hk, rfl, rfl⟩ := hrel
    have hc := listW_cell a w1 k (by omega)
    by_cases hkj : k < j
    · have hone := is_one a (listW a w1) HL.out j k hj (by omega) (by omega)
      go_wp2_with (go_at_call 32; refine hone.mono ?_; rintro e w' ⟨rfl, rfl⟩)
      go_round
      case rel => exact ⟨k + 1, by omega, by go_num, rfl⟩
      case measure => simp [intOf]; omega
    · obtain rfl : k = j := by omega
      have hone := is_same (a k) (listW a w1)
      go_wp2_with (go_at_call 32; refine hone.mono ?_; rintro e w' ⟨rfl, rfl⟩)
      go_ret2
      exact ⟨rfl, HB.out⟩

/-- errors by their numbers, as the eight -/
def errOf8 (a : Nat → Addr) (n : Nat) : Value := if n = 0 then .nilIface else errV (a (n - 1))
theorem errOf_8 (a : Nat → Addr) (n : Nat) (hn : n ≤ 3) : errOf (a 1) (a 0) (a 2) n = errOf8 a n := by
  rcases (show n = 0 ∨ n = 1 ∨ n = 2 ∨ n = 3 by omega) with rfl | rfl | rfl | rfl <;> rfl
theorem code_any (a : Nat → Addr) (w : World) (h : Errs8 a w) (n : Nat) (hn : n ≤ 8) : Calls Tryd.prog 26 #[errOf8 a n] w fun e w' => e = .returned (.tuple #[.int .i64 (n : Int), .int .i64 (-1)]) ∧ Below w.heap.size w w' := by
  by_cases h0 : n = 0
  · subst h0
    exact (code_nil w).mono fun e w' ⟨he, hw⟩ => ⟨he, by rw [hw]; exact Below.refl _ _⟩
  · have := code_sent a w h (n - 1) (by omega)
    unfold errOf8
    rw [if_neg h0]
    rw [show ((n - 1 : Nat) : Int) + 1 = (n : Int) by omega] at this
    exact this

set_option maxHeartbeats 1000000 in
theorem coded_run (v : Value) (c m : Int) (w : World) (b : Bool) (hb : (c == m) = b) (hc : Calls Tryd.prog 26 #[v] w fun e w' => e = .returned (.tuple #[.int .i64 c, .int .i64 (-1)]) ∧ Below w.heap.size w w') :
    Calls Tryd.prog 13 #[v, .int .i64 m] w fun e w' => e = .returned (.bool b) ∧ Below w.heap.size w w' := by
  cases b with
  | true =>
    go_enter Tryd.func13, Tryd.ntmps13
    go_wp2_with (go_at_call 26; refine hc.mono ?_; rintro e w' ⟨rfl, hbel⟩)
    go_ret
    exact ⟨rfl, hbel⟩
  | false =>
    go_enter Tryd.func13, Tryd.ntmps13
    go_wp2_with (go_at_call 26; refine hc.mono ?_; rintro e w' ⟨rfl, hbel⟩)
    go_ret
    exact ⟨rfl, hbel⟩
/-- coded(err, n): is it the error of that number? -/
theorem coded_any (a : Nat → Addr) (w : World) (h : Errs8 a w) (n m : Nat) (hn : n ≤ 3) : Calls Tryd.prog 13 #[errOf (a 1) (a 0) (a 2) n, .int .i64 (m : Int)] w fun e w' => e = .returned (.bool (n == m)) ∧ Below w.heap.size w w' := by
  rw [errOf_8 a n hn]
  refine coded_run _ n m w (n == m) ?_ (code_any a w h n (by omega))
  rw [Bool.eq_iff_iff, beq_iff_eq, beq_iff_eq]; omega
end Go.Proofs.YtlckljibajhhkaaDoor
