/-
  The document's answer: SeenOf: of a right rule and a right ring it is the least number of double steps behind which the ring is as it was.
-/
import Derived.Test.YtlckljibajhhkaaDoorOrbit
import Derived.Test.YtlckljibajhhkaaDoorRunOf
namespace Go.Proofs.YtlckljibajhhkaaDoor
open Go.RowKit

/-- m is the least number of double steps behind which f is as it was -/
structure BackAt (ru : Nat → Nat) (n : Nat) (f : Nat → Nat) (m : Nat) : Prop where
  pos : 1 ≤ m
  le : m ≤ 65536
  eq : EqOn n (iterF ru n m f) f
  ne : ∀ k, 1 ≤ k → k < m → ¬ EqOn n (iterF ru n k f) f

theorem ring_ne {n : Nat} {f g : Nat → Nat} (hf : Bits n f) (hg : Bits n g) (h : ¬ EqOn n f g) : ((ringS n f).toList == (ringS n g).toList) = false := by
  rw [beq_eq_false_iff_ne]
  intro e
  simp only [Lib.toList_data, ringS_list] at e
  have h' : ringS n f = ringS n g := by unfold ringS; rw [e]
  exact h (ringS_inj hf hg h').2

set_option maxRecDepth 100000 in
set_option maxHeartbeats 4000000 in
theorem seenOf_any (ru inv : Nat → Nat) (f : Nat → Nat) (n m : Nat) (w : World) (hr : Rule ru inv) (hf : Bits n f) (hn : RingLen n) (hm : BackAt ru n f m) :
    Calls Tryd.prog 20 #[ruleV fun k => (ru k : Int), .string (ringS n f)] w fun e w' => e = .returned (.int .i64 (m : Int)) ∧ Below w.heap.size w w' := by
  have hm1 := hm.pos
  have hml := hm.le
  have HR := Lib.hid hr; have HF := Lib.hid hf; have HN := Lib.hid hn; have HM := Lib.hid hm
  clear hr hf hn hm
  have HS1 : Hid (Below (w.heap.size + 1) (boxed ru w) (boxed ru w)) := Below.refl _ _
  obtain ⟨b0, b1, b2, b3⟩ := box_cells ru HS1.out
  have hrun := runOf_any ru inv f n 2 (boxed ru w) HR.out HF.out HN.out (by omega)
  rw [boxed_size] at hrun
  go_enter Tryd.func20, Tryd.ntmps20
  go_wp2_with (go_at_call 12; refine hrun.mono ?_; rintro e w1 ⟨rfl, hb1⟩)
  have HB1 : Hid (Below (w.heap.size + 1) (boxed ru w) w1) := hb1
  clear hb1 hrun b0 b1 b2 b3 HS1
  go_loopw [5, 6] (fun x y wr => ∃ k : Nat, 1 ≤ k ∧ k ≤ m ∧ x = .int .i64 (k : Int) ∧ y = .string (ringS n (iterF ru n k f)) ∧ Hid (Below (w.heap.size + 1) (boxed ru w) wr)) (fun x _ _ => m - (intOf x).toNat)
  case atStart => exact ⟨1, by omega, by omega, rfl, rfl, HB1⟩
  case round =>
    obtain ⟨k, hk1, hk, rfl, rfl, HB⟩ := hrel
    clear HB1
    by_cases hlt : k < m
    · have hne := ring_ne (iterF_bits HR.out HN.out HF.out k) HF.out (HM.out.ne k hk1 hlt)
      obtain ⟨c0, c1, c2, c3⟩ := box_cells ru HB.out
      have hst := runOf_any ru inv (iterF ru n k f) n 2 wr HR.out (iterF_bits HR.out HN.out HF.out k) HN.out (by omega)
      go_wp2_with (go_at_call 12; refine hst.mono ?_; rintro e w3 ⟨rfl, hb3⟩)
      go_roundw
      case rel => exact ⟨k + 1, by omega, by omega, by go_num, rfl, HB.out.trans (Below.mono hb3 (by have := HB.out.size; rw [boxed_size] at this; omega))⟩
      case measure => simp [intOf]; omega
    · obtain rfl : k = m := by omega
      rw [ringS_congr HM.out.eq]
      go_wp2
      go_ret
      exact ⟨rfl, (box_below _ _).trans (HB.out.mono (by omega))⟩
end Go.Proofs.YtlckljibajhhkaaDoor
