/-
  The document's answer: RunOf: of a right rule, a right ring and steps it is what runF says.
-/
import Derived.Test.YtlckljibajhhkaaDoorStepOf
namespace Go.Proofs.YtlckljibajhhkaaDoor
open Go.RowKit

set_option maxRecDepth 100000 in
set_option maxHeartbeats 4000000 in
theorem runOf_any (ru inv : Nat → Nat) (f : Nat → Nat) (n t : Nat) (w : World) (hr : Rule ru inv) (hf : Bits n f) (hn : RingLen n) (ht : t ≤ 1000000) :
    Calls Tryd.prog 12 #[ruleV fun k => (ru k : Int), .string (ringS n f), .int .i64 t] w fun e w' => e = .returned (.string (ringS n (runF ru n t f))) ∧ Below w.heap.size w w' := by
  have HR := Lib.hid hr; have HF := Lib.hid hf; have HN := Lib.hid hn
  clear hr hf hn
  have HS1 : Hid (Below (w.heap.size + 1) (boxed ru w) (boxed ru w)) := Below.refl _ _
  go_enter Tryd.func12, Tryd.ntmps12
  go_wp2
  go_loopw [1, 7] (fun v i wr => ∃ k : Nat, k ≤ t ∧ i = .int .i64 k ∧ v = .string (ringS n (runF ru n k f)) ∧ Hid (Below (w.heap.size + 1) (boxed ru w) wr)) (fun _ i _ => t - (intOf i).toNat)
  case atStart => exact ⟨0, by omega, rfl, rfl, HS1⟩
  case round =>
    obtain ⟨k, hk, rfl, rfl, HB⟩ := hrel
    clear HS1
    by_cases hlt : k < t
    · obtain ⟨c0, c1, c2, c3⟩ := box_cells ru HB.out
      have hst := stepOf_any ru inv (runF ru n k f) n k wr HR.out (runF_bits HR.out HN.out HF.out k) HN.out (by omega)
      go_wp2_with (go_at_call 19; refine hst.mono ?_; rintro e w3 ⟨rfl, hb3⟩)
      go_roundw
      case rel => exact ⟨k + 1, by omega, by go_num, rfl, HB.out.trans (Below.mono hb3 (by have := HB.out.size; rw [boxed_size] at this; omega))⟩
      case measure => simp [intOf]; omega
    · obtain rfl : k = t := by omega
      go_wp2
      go_ret
      exact ⟨rfl, (box_below _ _).trans (HB.out.mono (by omega))⟩
end Go.Proofs.YtlckljibajhhkaaDoor
