/-
  gas.check: a rule that is no permutation of 0 to 3 is answered with ErrShape, else what gas.text says of the ring.
-/
import Derived.Test.YtlckljibajhhkaaDoorBase
import Derived.Handy
namespace Go.Proofs.YtlckljibajhhkaaDoor
open Go.RowKit

/-- a rule as a value -/
abbrev ruleV (r : Nat → Int) : Value := .agg #[.int .i64 (r 0), .int .i64 (r 1), .int .i64 (r 2), .int .i64 (r 3)]

/-- is the k-th no number from 0 to 3, or one that stood before? -/
def seenB (r : Nat → Int) (k : Nat) (x : Int) : Bool := (List.range k).any fun j => r j == x
def badB (r : Nat → Int) (k : Nat) : Bool := decide (r k < 0) || decide (3 < r k) || seenB r k (r k)
def okRule (r : Nat → Int) : Bool := (List.range 4).all fun k => !badB r k
def checkV (aB aT aS : Addr) (r : Nat → Int) (l : List UInt8) : Value := if okRule r = true then textV aB aT l else errV aS

theorem seenB_succ (r : Nat → Int) (k : Nat) (x : Int) : seenB r (k + 1) x = (seenB r k x || r k == x) := by
  simp [seenB, List.range_succ, List.any_append]
theorem okRule_of (r : Nat → Int) (h : ∀ j, j < 4 → badB r j = false) : okRule r = true := by
  simp only [okRule, List.all_eq_true, List.mem_range]; intro j hj; simp [h j hj]
theorem okRule_not (r : Nat → Int) (k : Nat) (hk : k < 4) (h : badB r k = true) : okRule r = false := by
  cases hb : okRule r with
  | false => rfl
  | true =>
    simp only [okRule, List.all_eq_true, List.mem_range] at hb
    have := hb k hk
    simp [h] at this

theorem index_rule (r : Nat → Int) (k : Nat) (hk : k < 4) (w : World) : (Instr.index 22 (ruleV r) (.int .i64 (k : Int))).run Tryd.prog w = .ok (.int .i64 (r k)) w := by
  rcases (show k = 0 ∨ k = 1 ∨ k = 2 ∨ k = 3 by omega) with rfl | rfl | rfl | rfl <;> kernel_rfl

/-- what the array of seen numbers holds ahead of round k -/
structure SeenAt (r : Nat → Int) (S k : Nat) (w : World) : Prop where
  cell : ∀ x, x < 4 → w.cell? ⟨S, x, none⟩ = some (.bool (seenB r k (x : Int)))
  free : ∀ x, w.frozen? ⟨S, x, none⟩ = false

theorem SeenAt.zero (r : Nat → Int) (w : World) : SeenAt r w.heap.size 0 (w.alloc (.cells #[.bool false, .bool false, .bool false, .bool false] 60)) := by
  refine ⟨fun x hx => ?_, fun x => by simp⟩
  rcases (show x = 0 ∨ x = 1 ∨ x = 2 ∨ x = 3 by omega) with rfl | rfl | rfl | rfl <;> simp [seenB]

theorem SeenAt.step {r : Nat → Int} {S k : Nat} {w : World} (h : SeenAt r S k w) (h0 : 0 ≤ r k) (h3 : r k ≤ 3) : SeenAt r S (k + 1) (w.setCell ⟨S, (r k).toNat, none⟩ (.bool true)) := by
  refine ⟨fun x hx => ?_, fun x => by rw [World.frozen?_setCell]; exact h.free x⟩
  by_cases hx' : x = (r k).toNat
  · subst hx'
    rw [World.cell?_setCell_same _ _ _ (h.cell _ (by omega)), seenB_succ]
    have : (r k == (((r k).toNat : Nat) : Int)) = true := by simp; omega
    rw [this, Bool.or_true]
  · rw [World.cell?_setCell_other _ _ _ _ (by intro e; injection e with _ e _; exact hx' e.symm), h.cell x hx, seenB_succ]
    have : (r k == (x : Int)) = false := by simp; omega
    rw [this, Bool.or_false]

set_option maxHeartbeats 4000000 in
theorem check_any (r : Nat → Int) (s : ByteArray) (w : World) (aB aT aS : Addr) (hB : w.cell? ⟨0, 0, none⟩ = some (errV aB)) (hT : w.cell? ⟨1, 0, none⟩ = some (errV aT)) (hS : w.cell? ⟨2, 0, none⟩ = some (errV aS)) (hs : s.size ≤ 9223372036854775807) :
    Calls Tryd.prog 30 #[ruleV r, .string s] w fun e w' => e = .returned (checkV aB aT aS r s.data.toList) ∧ Below w.heap.size w w' := by
  have hlt : 2 < w.heap.size := by
    rcases Nat.lt_or_ge 2 w.heap.size with h | h
    · exact h
    · simp [World.cell?, Array.getElem?_eq_none h] at hS
  go_enter Tryd.func30, Tryd.ntmps30
  go_wp2
  go_loopw [10] (fun i wr => ∃ k : Nat, k ≤ 4 ∧ i = .int .i64 k ∧ (∀ j, j < k → badB r j = false) ∧ SeenAt r (w.heap.size + 1) k wr ∧ Below w.heap.size w wr) (fun i _ => 4 - (intOf i).toNat)
  case atStart => exact ⟨0, by omega, rfl, fun j hj => by omega, by have := SeenAt.zero r (w.alloc (.cells #[.int .i64 (r 0), .int .i64 (r 1), .int .i64 (r 2), .int .i64 (r 3)] 22)); simpa using this, by go_grown⟩
  case round =>
    obtain ⟨k, hk, rfl, hgood, hseen, hbel⟩ := hrel
    have HG := Lib.hid hgood; clear hgood
    by_cases hk4 : k < 4
    · have hidx := index_rule r k hk4
      have hS' : wr.cell? ⟨2, 0, none⟩ = some (errV aS) := (hbel.cell (p := ⟨2, 0, none⟩) hlt).trans hS
      by_cases h0 : r k < 0
      · have hbad : badB r k = true := by simp [badB, h0]
        go_wp2
        go_ret
        exact ⟨by rw [checkV, if_neg (by rw [okRule_not r k hk4 hbad]; simp)]; rfl, hbel⟩
      · by_cases h3 : 3 < r k
        · have hbad : badB r k = true := by simp [badB, h3]
          go_wp2
          go_ret
          exact ⟨by rw [checkV, if_neg (by rw [okRule_not r k hk4 hbad]; simp)]; rfl, hbel⟩
        · have hc := hseen.cell (r k).toNat (by omega)
          have hf := hseen.free (r k).toNat
          rw [show (((r k).toNat : Nat) : Int) = r k by omega] at hc
          cases hsb : seenB r k (r k) with
          | true =>
            have hbad : badB r k = true := by simp [badB, hsb]
            rw [hsb] at hc
            go_wp2
            go_ret
            exact ⟨by rw [checkV, if_neg (by rw [okRule_not r k hk4 hbad]; simp)]; rfl, hbel⟩
          | false =>
            rw [hsb] at hc
            have hst := hseen.step (by omega) (by omega)
            have hb2 := hbel.setCell (p := ⟨w.heap.size + 1, (r k).toNat, none⟩) (by simp) (.bool true)
            have HB := Lib.hid (show badB r k = false by simp [badB, h0, h3, hsb])
            clear hsb hseen
            go_wp2
            go_roundw
            case rel => exact ⟨k + 1, by omega, by go_num, fun j hj => by rcases (show j < k ∨ j = k by omega) with h | rfl; exact HG.out j h; exact HB.out, hst, hb2⟩
            case measure => simp [intOf]; omega
    · have hok : okRule r = true := okRule_of r fun j hj => HG.out j (by omega)
      have hB' : wr.cell? ⟨0, 0, none⟩ = some (errV aB) := (hbel.cell (p := ⟨0, 0, none⟩) (show 0 < w.heap.size by omega)).trans hB
      have hT' : wr.cell? ⟨1, 0, none⟩ = some (errV aT) := (hbel.cell (p := ⟨1, 0, none⟩) (show 1 < w.heap.size by omega)).trans hT
      have htext := text_any s wr aB aT hB' hT' hs
      have HV : Hid (checkV aB aT aS r s.data.toList = textV aB aT s.data.toList) := by show _ = _; rw [checkV, if_pos hok]
      generalize textV aB aT s.data.toList = v at htext HV
      go_wp2_with (go_at_call 29; refine htext.mono ?_; rintro e w' ⟨rfl, hb⟩)
      go_ret
      exact ⟨by rw [HV.out]; rfl, hbel.trans (Below.mono ‹_› hbel.size)⟩
end Go.Proofs.YtlckljibajhhkaaDoor
