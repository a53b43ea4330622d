/-
  gas.Run: of a right rule, a right ring and right steps it answers what runF says; else the empty text and the error.
-/
import Derived.Test.YtlckljibajhhkaaDoorGas
namespace Go.Proofs.YtlckljibajhhkaaDoor
open Go.RowKit

/-- a row of f behind a slice -/
def SliceAt (w : World) (v : Value) (n : Nat) (f : Nat → Nat) : Prop := ∃ g cap : Nat, v = .slice (some ⟨g, 0, none⟩) n cap ∧ RowAt w g n f ∧ g < w.heap.size

set_option maxRecDepth 100000 in
set_option maxHeartbeats 4000000 in
theorem Run_good (ru inv : Nat → Nat) (n : Nat) (f : Nat → Nat) (t : Nat) (w : World) (aB aT aS : Addr) (h : Errs3 aB aT aS w) (hr : Rule ru inv) (hn : RingLen n) (hf : Bits n f) (ht : t ≤ 10000) :
    Calls Tryd.prog 9 #[ruleV fun k => (ru k : Int), .string (ringS n f), .int .i64 t] w (AnswerS w (ringS n (runF ru n t f)) .nilIface) := by
  have hat := at_any (fun k => (ru k : Int)) (ringS n f) t 10000 (boxed ru w) aB aT aS (h.boxed ru) (by rw [ringS_size]; have := hn.2.1; omega)
  rw [atCode_good hr hn hf (by omega) (by omega), show errOf aB aT aS 0 = .nilIface from rfl] at hat
  have hsz : (boxed ru w).heap.size = w.heap.size + 1 := by simp [boxed]
  rw [hsz] at hat
  have kc := fun (W : World) => Lib.run_convert_string_bytes (P := Tryd.prog) W 9 44 5 (ringS n f) Tryd.underlying9 Tryd.underlying44 Tryd.underlying5
  have hss : (ringS n f).size = n := ringS_size n f
  have HH := Lib.hid h; have HR := Lib.hid hr; have HN := Lib.hid hn; have HF := Lib.hid hf
  clear h hr hn hf hsz
  go_enter Tryd.func9, Tryd.ntmps9
  go_wp2_with (first
    | (go_at_call 23; refine hat.mono ?_; rintro e w1 ⟨rfl, hb1⟩; obtain ⟨c0, c1, c2, c3⟩ := box_cells ru hb1))
  clear c0 c1 c2 c3 kc hss hat
  have HS1 : Hid (Below (w.heap.size + 1) (boxed ru w) (Lib.bytesWorld w1 5 (ringS n f))) := hb1.trans ((bytes_below _ _ _).mono (by have := hb1.size; rw [boxed_size] at this; omega))
  have HS2 : Hid (SliceAt (Lib.bytesWorld w1 5 (ringS n f)) (.slice (some ⟨w1.heap.size, 0, none⟩) n (grownCap w1 n 0 5)) n f) := ⟨_, _, rfl, row_of_string HF.out w1, by rw [Lib.bytesWorld_size]; omega⟩
  go_loopw [9, 21] (fun v i wr => ∃ k : Nat, k ≤ t ∧ i = .int .i64 k ∧ Hid (SliceAt wr v n (runF ru n k f)) ∧ Hid (Below (w.heap.size + 1) (boxed ru w) wr)) (fun _ i _ => t - (intOf i).toNat)
  case atStart => exact ⟨0, by omega, rfl, HS2, HS1⟩
  case round =>
    obtain ⟨k, hk, rfl, HS, HB⟩ := hrel
    clear HS1 HS2
    obtain ⟨g, cap, rfl, hrow, hg⟩ := HS.out
    have HROW := Lib.hid hrow; clear hrow HS
    by_cases hlt : k < t
    · obtain ⟨c0, c1, c2, c3⟩ := box_cells ru HB.out
      have hst := step_any ru inv (runF ru n k f) g n cap k wr HR.out (runF_bits HR.out HN.out HF.out k) HN.out (by omega) hg HROW.out
      go_wp2_with (go_at_call 24; refine hst.mono ?_; rintro e w3 ⟨rfl, hrow3, hb3, hlt3⟩)
      go_roundw
      case rel => exact ⟨k + 1, by omega, by go_num, ⟨_, _, rfl, hrow3, hlt3⟩, HB.out.trans (Below.mono hb3 (by have := HB.out.size; rw [boxed_size] at this; omega))⟩
      case measure => simp [intOf]; omega
    · obtain rfl : k = t := by omega
      have hcv := string_of_row (runF_bits HR.out HN.out HF.out k) wr g cap HROW.out
      go_wp2
      go_ret2
      exact ⟨rfl, (box_below _ _).trans (HB.out.mono (by omega))⟩

set_option maxHeartbeats 1000000 in
theorem Run_err (r : Nat → Int) (s : ByteArray) (t : Int) (w : World) (a : Addr)
    (hat : Calls Tryd.prog 23 #[ruleV r, .string s, .int .i64 t, .int .i64 10000] (w.alloc (.cells #[.int .i64 (r 0), .int .i64 (r 1), .int .i64 (r 2), .int .i64 (r 3)] 22)) fun e w' => e = .returned (errV a) ∧ Below (w.heap.size + 1) (w.alloc (.cells #[.int .i64 (r 0), .int .i64 (r 1), .int .i64 (r 2), .int .i64 (r 3)] 22)) w') :
    Calls Tryd.prog 9 #[ruleV r, .string s, .int .i64 t] w (AnswerS w ⟨#[]⟩ (errV a)) := by
  go_enter Tryd.func9, Tryd.ntmps9
  go_wp2_with (go_at_call 23; refine hat.mono ?_; rintro e w1 ⟨rfl, hb1⟩)
  go_ret2
  exact ⟨rfl, (box_below _ _).trans (Below.mono hb1 (by omega))⟩
theorem Run_bad (r : Nat → Int) (s : ByteArray) (t : Int) (w : World) (aB aT aS : Addr) (h : Errs3 aB aT aS w) (hs : s.size ≤ 9223372036854775807) (hc : atCode r s.data.toList t 10000 ≠ 0) :
    Calls Tryd.prog 9 #[ruleV r, .string s, .int .i64 t] w (AnswerS w ⟨#[]⟩ (errOf aB aT aS (atCode r s.data.toList t 10000))) := by
  have hat := at_any r s t 10000 (w.alloc (.cells #[.int .i64 (r 0), .int .i64 (r 1), .int .i64 (r 2), .int .i64 (r 3)] 22)) aB aT aS (h.below (box_below w _) (by have := h.size; omega)) hs
  rw [World.size_alloc] at hat
  have hle := atCode_le r s.data.toList t 10000
  generalize atCode r s.data.toList t 10000 = c at hat hc hle ⊢
  rcases (show c = 1 ∨ c = 2 ∨ c = 3 by omega) with rfl | rfl | rfl
  · exact Run_err r s t w aT hat
  · exact Run_err r s t w aB hat
  · exact Run_err r s t w aS hat

/-! the closed fact: the rule 0 2 1 3 makes 1001 of 0110 -/
def ru0 (k : Nat) : Nat := if k = 1 then 2 else if k = 2 then 1 else k
def f0 (j : Nat) : Nat := if j = 1 then 1 else if j = 2 then 1 else 0
theorem ru0_rule : Rule ru0 ru0 := by
  constructor <;> (intro k hk; rcases (show k = 0 ∨ k = 1 ∨ k = 2 ∨ k = 3 by omega) with rfl | rfl | rfl | rfl <;> decide)
theorem f0_bits : Bits 4 f0 := by
  intro j hj; rcases (show j = 0 ∨ j = 1 ∨ j = 2 ∨ j = 3 by omega) with rfl | rfl | rfl | rfl <;> decide
theorem f0_ring : ringS 4 f0 = ⟨#[48, 49, 49, 48]⟩ := by rfl
theorem f0_step : ringS 4 (stepF ru0 4 (0 % 2) f0) = ⟨#[49, 48, 48, 49]⟩ := by rfl

set_option maxHeartbeats 1000000 in
theorem collide_any (w : World) (aB aT aS : Addr) (h : Errs3 aB aT aS w) :
    Calls Tryd.prog 8 #[] w fun e w' => e = .returned (.bool true) ∧ Below w.heap.size w w' := by
  have hst := Step_good ru0 ru0 4 f0 0 w aB aT aS h ru0_rule ⟨by omega, by omega, by omega⟩ f0_bits (by omega)
  rw [f0_ring, f0_step] at hst
  change Calls Tryd.prog 18 #[.agg #[.int .i64 0, .int .i64 2, .int .i64 1, .int .i64 3], .string ⟨#[48, 49, 49, 48]⟩, .int .i64 0] w _ at hst
  go_enter Tryd.func8, Tryd.ntmps8
  go_wp2_with (go_at_call 18; refine hst.mono ?_; rintro e w1 ⟨rfl, hb1⟩)
  go_ret
  exact ⟨rfl, hb1⟩
end Go.Proofs.YtlckljibajhhkaaDoor
