/-
  The law GasRun: for every rule, every text and every number of steps it answers true; nothing that was in memory before has changed.
-/
import Derived.Test.YtlckljibajhhkaaDoorKeeps
import Derived.Test.YtlckljibajhhkaaDoorRunOf
import Derived.Test.YtlckljibajhhkaaDoorCode
namespace Go.Proofs.YtlckljibajhhkaaDoor
open Go.RowKit

theorem Errs8.boxZ {a : Nat → Addr} {w : World} (h : Errs8 a w) (r : Nat → Int) : Errs8 a (boxedZ r w) := h.below (box_below w _)
theorem Errs8.boxB {a : Nat → Addr} {w : World} {r : Nat → Int} {w1 : World} (h : Errs8 a w) (hb : Below (w.heap.size + 1) (boxedZ r w) w1) : Errs8 a w1 := h.below (boxB_end hb)
theorem ruleErr_bel (r : Nat → Int) (s : ByteArray) (w : World) (hs : s.size ≤ 9223372036854775807) (c : Nat) (hc : ruleCode r s.data.toList = c) :
    Calls Tryd.prog 11 #[ruleV r, .string s] w fun e w' => e = .returned (.int .i64 (c : Int)) ∧ Below w.heap.size w w' :=
  (ruleErr_any r s w hs).mono fun _ _ ⟨h1, h2⟩ => ⟨by rw [h1, hc], by rw [h2]; exact box_below _ _⟩

set_option maxHeartbeats 1000000 in
theorem runLaw_long (r : Nat → Int) (s : ByteArray) (t : Int) (w : World) (a : Nat → Addr) (h : Errs8 a w) (hl : 400 < s.size) :
    Calls Tryd.prog 4 #[ruleV r, .string s, .int .i64 t] w fun e w' => e = .returned (.bool true) ∧ Below w.heap.size w w' := by
  have HE := Lib.hid h; clear h
  go_enter Tryd.func4, Tryd.ntmps4
  go_wp2_with (go_at_call 8; refine (collide_any _ _ _ _ (HE.out.boxZ r).three).mono ?_; rintro e w1 ⟨rfl, hb1⟩)
  go_ret
  exact ⟨rfl, (box_below _ _).trans (Below.mono hb1 (by simp))⟩

set_option maxHeartbeats 4000000 in
/-- a rule or a ring that is not right -/
theorem runLaw_err (r : Nat → Int) (s : ByteArray) (t : Int) (w : World) (a : Nat → Addr) (h : Errs8 a w) (hl : s.size ≤ 400) (c : Nat) (hc0 : 0 < c) (hc3 : c ≤ 3) (hc : ruleCode r s.data.toList = c)
    (hR : ∀ W, Errs8 a W → Calls Tryd.prog 9 #[ruleV r, .string s, .int .i64 t] W (AnswerS W ⟨#[]⟩ (errOf (a 1) (a 0) (a 2) c))) :
    Calls Tryd.prog 4 #[ruleV r, .string s, .int .i64 t] w fun e w' => e = .returned (.bool true) ∧ Below w.heap.size w w' := by
  have HE := Lib.hid h; clear h
  have HC := Lib.hid hc; clear hc
  have HR := Lib.hid hR; clear hR
  have hbox := Below.refl (w.heap.size + 1) (boxedZ r w)
  have tc : ((c : Int) == 0) = false := by simp; omega
  have hcd := fun W (hW : Errs8 a W) => coded_any a W hW c c hc3
  rw [show (c == c) = true by simp] at hcd
  have HCD := Lib.hid hcd; clear hcd
  go_enter Tryd.func4, Tryd.ntmps4
  go_wp2_with (go_at_call 8; refine (collide_any _ _ _ _ (HE.out.boxZ r).three).mono ?_; rintro e w1 ⟨rfl, hb1⟩; have hB1 := boxB_next hbox hb1; obtain ⟨c0, c1, c2, c3⟩ := box_cellsZ r hB1)
  refine (ruleErr_bel r s _ (by omega) c HC.out).mono ?_
  rintro e w2 ⟨rfl, hb2⟩
  have hB2 := boxB_next hB1 hb2
  obtain ⟨c0', c1', c2', c3'⟩ := box_cellsZ r hB2
  clear c0 c1 c2 c3 hb1 hb2
  go_wp2_with fail
  refine (HR.out _ (HE.out.boxB hB2)).mono ?_
  rintro e w3 ⟨rfl, hb3⟩
  have hB3 := boxB_next hB2 hb3
  go_wp2_with fail
  refine (HCD.out _ (HE.out.boxB hB3)).mono ?_
  rintro e w4 ⟨rfl, hb4⟩
  have hB4 := boxB_next hB3 hb4
  go_wp2
  go_ret
  exact ⟨rfl, boxB_end hB4⟩

set_option maxHeartbeats 4000000 in
/-- steps below 0 or above 10000 -/
theorem runLaw_out (r : Nat → Int) (s : ByteArray) (t : Int) (w : World) (a : Nat → Addr) (h : Errs8 a w) (hl : s.size ≤ 400) (hc : ruleCode r s.data.toList = 0) (ht : t < 0 ∨ 10000 < t)
    (hR : ∀ W, Errs8 a W → Calls Tryd.prog 9 #[ruleV r, .string s, .int .i64 t] W (AnswerS W ⟨#[]⟩ (errOf (a 1) (a 0) (a 2) 2))) :
    Calls Tryd.prog 4 #[ruleV r, .string s, .int .i64 t] w fun e w' => e = .returned (.bool true) ∧ Below w.heap.size w w' := by
  have HE := Lib.hid h; clear h
  have HC := Lib.hid hc; clear hc
  have HR := Lib.hid hR; clear hR
  have hbox := Below.refl (w.heap.size + 1) (boxedZ r w)
  have hcd := fun W (hW : Errs8 a W) => coded_any a W hW 2 2 (by omega)
  rw [show (2 == 2) = true by rfl] at hcd
  have HCD := Lib.hid hcd; clear hcd
  rcases Classical.em (t < 0) with h0 | h0
  · clear ht
    go_enter Tryd.func4, Tryd.ntmps4
    go_wp2_with (go_at_call 8; refine (collide_any _ _ _ _ (HE.out.boxZ r).three).mono ?_; rintro e w1 ⟨rfl, hb1⟩; have hB1 := boxB_next hbox hb1; obtain ⟨c0, c1, c2, c3⟩ := box_cellsZ r hB1)
    refine (ruleErr_bel r s _ (by omega) 0 HC.out).mono ?_
    rintro e w2 ⟨rfl, hb2⟩
    have hB2 := boxB_next hB1 hb2
    obtain ⟨c0', c1', c2', c3'⟩ := box_cellsZ r hB2
    clear c0 c1 c2 c3 hb1 hb2
    go_wp2_with fail
    refine (HR.out _ (HE.out.boxB hB2)).mono ?_
    rintro e w3 ⟨rfl, hb3⟩
    have hB3 := boxB_next hB2 hb3
    go_wp2_with fail
    refine (HCD.out _ (HE.out.boxB hB3)).mono ?_
    rintro e w4 ⟨rfl, hb4⟩
    have hB4 := boxB_next hB3 hb4
    go_wp2
    go_ret
    exact ⟨rfl, boxB_end hB4⟩
  · have h1 : 10000 < t := by omega
    have h2 : 0 ≤ t := by omega
    clear ht h0
    go_enter Tryd.func4, Tryd.ntmps4
    go_wp2_with (go_at_call 8; refine (collide_any _ _ _ _ (HE.out.boxZ r).three).mono ?_; rintro e w1 ⟨rfl, hb1⟩; have hB1 := boxB_next hbox hb1; obtain ⟨c0, c1, c2, c3⟩ := box_cellsZ r hB1)
    refine (ruleErr_bel r s _ (by omega) 0 HC.out).mono ?_
    rintro e w2 ⟨rfl, hb2⟩
    have hB2 := boxB_next hB1 hb2
    obtain ⟨c0', c1', c2', c3'⟩ := box_cellsZ r hB2
    clear c0 c1 c2 c3 hb1 hb2
    go_wp2_with fail
    refine (HR.out _ (HE.out.boxB hB2)).mono ?_
    rintro e w3 ⟨rfl, hb3⟩
    have hB3 := boxB_next hB2 hb3
    go_wp2_with fail
    refine (HCD.out _ (HE.out.boxB hB3)).mono ?_
    rintro e w4 ⟨rfl, hb4⟩
    have hB4 := boxB_next hB3 hb4
    go_wp2
    go_ret
    exact ⟨rfl, boxB_end hB4⟩

set_option maxHeartbeats 4000000 in
/-- more than 300 steps: nothing is asked -/
theorem runLaw_many (r : Nat → Int) (s : ByteArray) (t : Int) (w : World) (a : Nat → Addr) (h : Errs8 a w) (hl : s.size ≤ 400) (hc : ruleCode r s.data.toList = 0) (h1 : 300 < t) (h2 : t ≤ 10000) :
    Calls Tryd.prog 4 #[ruleV r, .string s, .int .i64 t] w fun e w' => e = .returned (.bool true) ∧ Below w.heap.size w w' := by
  have HE := Lib.hid h; clear h
  have HC := Lib.hid hc; clear hc
  have hbox := Below.refl (w.heap.size + 1) (boxedZ r w)
  go_enter Tryd.func4, Tryd.ntmps4
  go_wp2_with (go_at_call 8; refine (collide_any _ _ _ _ (HE.out.boxZ r).three).mono ?_; rintro e w1 ⟨rfl, hb1⟩; have hB1 := boxB_next hbox hb1; obtain ⟨c0, c1, c2, c3⟩ := box_cellsZ r hB1)
  refine (ruleErr_bel r s _ (by omega) 0 HC.out).mono ?_
  rintro e w2 ⟨rfl, hb2⟩
  have hB2 := boxB_next hB1 hb2
  go_wp2
  go_ret
  exact ⟨rfl, boxB_end hB2⟩

set_option maxRecDepth 100000 in
set_option maxHeartbeats 4000000 in
theorem runLaw_main (ru inv : Nat → Nat) (n : Nat) (f : Nat → Nat) (t : Nat) (w : World) (a : Nat → Addr) (h : Errs8 a w) (hr : Rule ru inv) (hn : RingLen n) (hf : Bits n f) (ht : t ≤ 300) :
    Calls Tryd.prog 4 #[ruleV fun k => (ru k : Int), .string (ringS n f), .int .i64 t] w fun e w' => e = .returned (.bool true) ∧ Below w.heap.size w w' := by
  have hc : ruleCode (fun k => (ru k : Int)) (ringS n f).data.toList = 0 := by
    unfold ruleCode; rw [if_pos (okRule_rule hr), ringS_list, ringCode_ring hn hf]
  have HE := Lib.hid h; have HR := Lib.hid hr; have HN := Lib.hid hn; have HF := Lib.hid hf; have HC := Lib.hid hc
  have hsa : (ringS n f).size = n := ringS_size n f
  have hn16 := hn.2.1
  clear h hr hn hf hc
  have hbox := Below.refl (w.heap.size + 1) (boxedZ (fun k => (ru k : Int)) w)
  have hcd := fun W (hW : Errs8 a W) => coded_any a W hW 0 0 (by omega)
  rw [show (0 == 0) = true by rfl] at hcd
  have HCD := Lib.hid hcd; clear hcd
  go_enter Tryd.func4, Tryd.ntmps4
  go_wp2_with (go_at_call 8; refine (collide_any _ _ _ _ (HE.out.boxZ (fun k => (ru k : Int))).three).mono ?_; rintro e w1 ⟨rfl, hb1⟩; have hB1 := boxB_next hbox hb1; obtain ⟨c0, c1, c2, c3⟩ := box_cellsZ (fun k => (ru k : Int)) hB1)
  refine (ruleErr_bel (fun k => (ru k : Int)) (ringS n f) _ (by omega) 0 HC.out).mono ?_
  rintro e w2 ⟨rfl, hb2⟩
  have hB2 := boxB_next hB1 hb2
  obtain ⟨c0', c1', c2', c3'⟩ := box_cellsZ (fun k => (ru k : Int)) hB2
  clear c0 c1 c2 c3 hb1 hb2
  go_wp2_with fail
  refine (runOf_any ru inv f n t _ HR.out HF.out HN.out (by omega)).mono ?_
  rintro e w3 ⟨rfl, hb3⟩
  have hB3 := boxB_next hB2 hb3
  obtain ⟨d0, d1, d2, d3⟩ := box_cellsZ (fun k => (ru k : Int)) hB3
  clear c0' c1' c2' c3' hb3
  go_wp2_with fail
  refine (Run_good ru inv n f t _ _ _ _ (HE.out.boxB hB3).three HR.out HN.out HF.out (by omega)).mono ?_
  rintro e w4 ⟨rfl, hb4⟩
  have hB4 := boxB_next hB3 hb4
  clear d0 d1 d2 d3 hb4
  go_wp2_with fail
  refine (HCD.out _ (HE.out.boxB hB4)).mono ?_
  rintro e w5 ⟨rfl, hb5⟩
  have hB5 := boxB_next hB4 hb5
  go_wp2
  go_ret
  exact ⟨rfl, boxB_end hB5⟩

theorem runLaw_any (r : Nat → Int) (s : ByteArray) (t : Int) (w : World) (a : Nat → Addr) (h : Errs8 a w) (hs : s.size ≤ 9223372036854775807) :
    Calls Tryd.prog 4 #[ruleV r, .string s, .int .i64 t] w fun e w' => e = .returned (.bool true) ∧ Below w.heap.size w w' := by
  by_cases hl : 400 < s.size
  · exact runLaw_long r s t w a h hl
  · have hle := ruleCode_le r s.data.toList
    by_cases c0 : ruleCode r s.data.toList = 0
    · by_cases ht : t < 0 ∨ 10000 < t
      · refine runLaw_out r s t w a h (by omega) c0 ht fun W hW => ?_
        have e : atCode r s.data.toList t 10000 = 2 := by unfold atCode; rw [if_pos c0, if_pos (by omega)]
        have := Run_bad r s t W _ _ _ hW.three hs (by rw [e]; omega)
        rw [e] at this
        exact this
      · by_cases hm : 300 < t
        · exact runLaw_many r s t w a h (by omega) c0 hm (by omega)
        · obtain ⟨k1, k2⟩ := ruleCode_zero c0
          obtain ⟨hr, hru⟩ := rule_of k1
          obtain ⟨hn, hf, ea⟩ := ring_of s k2
          have et : t = ((t.toNat : Nat) : Int) := by omega
          have := runLaw_main (fun k => (r k).toNat) (invOf r) s.size (bitsOf s) t.toNat w a h hr hn hf (by omega)
          rw [← ruleV_congr hru, ← ea, ← et] at this
          exact this
    · refine runLaw_err r s t w a h (by omega) (ruleCode r s.data.toList) (by omega) hle rfl fun W hW => ?_
      have e : atCode r s.data.toList t 10000 = ruleCode r s.data.toList := by unfold atCode; rw [if_neg c0]
      have := Run_bad r s t W _ _ _ hW.three hs (by rw [e]; exact c0)
      rw [e] at this
      exact this
end Go.Proofs.YtlckljibajhhkaaDoor
