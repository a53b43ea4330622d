/-
  The law GasRound: for every rule and every text it answers true; nothing that was in memory before has changed.
-/
import Derived.Test.YtlckljibajhhkaaDoorRound
import Derived.Test.YtlckljibajhhkaaDoorRunLaw
namespace Go.Proofs.YtlckljibajhhkaaDoor
open Go.RowKit

set_option maxHeartbeats 1000000 in
theorem Round_err (r : Nat → Int) (s : ByteArray) (w : World) (a : Addr)
    (hch : Calls Tryd.prog 30 #[ruleV r, .string s] (boxedZ r w) fun e w' => e = .returned (errV a) ∧ Below (w.heap.size + 1) (boxedZ r w) w') :
    Calls Tryd.prog 21 #[ruleV r, .string s] w (AnswerN w 0 (errV a)) := by
  go_enter Tryd.func21, Tryd.ntmps21
  go_wp2_with (go_at_call 30; refine hch.mono ?_; rintro e w1 ⟨rfl, hb1⟩)
  go_ret2
  exact ⟨rfl, (box_below _ _).trans (Below.mono hb1 (by omega))⟩
theorem Round_bad (r : Nat → Int) (s : ByteArray) (w : World) (aB aT aS : Addr) (h : Errs3 aB aT aS w) (hs : s.size ≤ 9223372036854775807) (c : Nat) (hc : ruleCode r s.data.toList = c) (hc0 : c ≠ 0) :
    Calls Tryd.prog 21 #[ruleV r, .string s] w (AnswerN w 0 (errOf aB aT aS c)) := by
  have hch := check_code' r s w aB aT aS h hs c hc
  have hle := ruleCode_le r s.data.toList
  rw [hc] at hle
  clear hc
  rcases (show c = 1 ∨ c = 2 ∨ c = 3 by omega) with rfl | rfl | rfl
  · exact Round_err r s w aT hch
  · exact Round_err r s w aB hch
  · exact Round_err r s w aS hch

set_option maxHeartbeats 1000000 in
theorem Seen_good (r : Nat → Int) (s : ByteArray) (w : World) (m : Nat) (hm : m ≤ 65536) (hR : Calls Tryd.prog 21 #[ruleV r, .string s] (boxedZ r w) (AnswerN (boxedZ r w) (2 * (m : Int)) .nilIface)) :
    Calls Tryd.prog 22 #[ruleV r, .string s] w (AnswerN w (m : Int) .nilIface) := by
  have hq : (2 * (m : Int)) / 2 = (m : Int) := by omega
  go_enter Tryd.func22, Tryd.ntmps22
  go_wp2_with (go_at_call 21; refine hR.mono ?_; rintro e w1 ⟨rfl, hb1⟩)
  go_ret2
  exact ⟨rfl, (box_below _ _).trans (Below.mono hb1 (by simp))⟩
set_option maxHeartbeats 1000000 in
theorem Seen_bad (r : Nat → Int) (s : ByteArray) (w : World) (v : Value) (hR : Calls Tryd.prog 21 #[ruleV r, .string s] (boxedZ r w) (AnswerN (boxedZ r w) 0 v)) :
    Calls Tryd.prog 22 #[ruleV r, .string s] w (AnswerN w 0 v) := by
  go_enter Tryd.func22, Tryd.ntmps22
  go_wp2_with (go_at_call 21; refine hR.mono ?_; rintro e w1 ⟨rfl, hb1⟩)
  go_ret2
  exact ⟨rfl, (box_below _ _).trans (Below.mono hb1 (by simp))⟩

set_option maxHeartbeats 1000000 in
theorem roundLaw_long (r : Nat → Int) (s : ByteArray) (w : World) (a : Nat → Addr) (h : Errs8 a w) (hl : 400 < s.size) :
    Calls Tryd.prog 7 #[ruleV r, .string s] w fun e w' => e = .returned (.bool true) ∧ Below w.heap.size w w' := by
  have HE := Lib.hid h; clear h
  go_enter Tryd.func7, Tryd.ntmps7
  go_wp2_with (go_at_call 8; refine (collide_any _ _ _ _ (HE.out.boxZ r).three).mono ?_; rintro e w1 ⟨rfl, hb1⟩)
  go_ret
  exact ⟨rfl, (box_below _ _).trans (Below.mono hb1 (by simp))⟩

set_option maxHeartbeats 4000000 in
theorem roundLaw_err (r : Nat → Int) (s : ByteArray) (w : World) (a : Nat → Addr) (h : Errs8 a w) (hl : s.size ≤ 400) (c : Nat) (hc0 : 0 < c) (hc3 : c ≤ 3) (hc : ruleCode r s.data.toList = c)
    (hR : ∀ W, Errs8 a W → Calls Tryd.prog 21 #[ruleV r, .string s] W (AnswerN W 0 (errOf (a 1) (a 0) (a 2) c))) :
    Calls Tryd.prog 7 #[ruleV r, .string s] w fun e w' => e = .returned (.bool true) ∧ Below w.heap.size w w' := by
  have HE := Lib.hid h; clear h
  have HC := Lib.hid hc; clear hc
  have HR := Lib.hid hR; clear hR
  have hbox := Below.refl (w.heap.size + 1) (boxedZ r w)
  have tc : ((c : Int) == 0) = false := by simp; omega
  have hcd := fun W (hW : Errs8 a W) => coded_any a W hW c c hc3
  rw [show (c == c) = true by simp] at hcd
  have HCD := Lib.hid hcd; clear hcd
  go_enter Tryd.func7, Tryd.ntmps7
  go_wp2_with (go_at_call 8; refine (collide_any _ _ _ _ (HE.out.boxZ r).three).mono ?_; rintro e w1 ⟨rfl, hb1⟩; have hB1 := boxB_next hbox hb1; obtain ⟨c0, c1, c2, c3⟩ := box_cellsZ r hB1)
  refine (ruleErr_bel r s _ (by omega) c HC.out).mono ?_
  rintro e w2 ⟨rfl, hb2⟩
  have hB2 := boxB_next hB1 hb2
  obtain ⟨c0', c1', c2', c3'⟩ := box_cellsZ r hB2
  clear c0 c1 c2 c3 hb1 hb2
  go_wp2_with fail
  refine (HR.out _ (HE.out.boxB hB2)).mono ?_
  rintro e w3 ⟨rfl, hb3⟩
  have hB3 := boxB_next hB2 hb3
  obtain ⟨d0, d1, d2, d3⟩ := box_cellsZ r hB3
  clear c0' c1' c2' c3' hb3
  go_wp2_with fail
  refine (Seen_bad r s _ _ (HR.out _ ((HE.out.boxB hB3).boxZ r))).mono ?_
  rintro e w4 ⟨rfl, hb4⟩
  have hB4 := boxB_next hB3 hb4
  clear d0 d1 d2 d3 hb4
  go_wp2_with fail
  refine (HCD.out _ (HE.out.boxB hB4)).mono ?_
  rintro e w5 ⟨rfl, hb5⟩
  have hB5 := boxB_next hB4 hb5
  go_wp2_with fail
  refine (HCD.out _ (HE.out.boxB hB5)).mono ?_
  rintro e w6 ⟨rfl, hb6⟩
  have hB6 := boxB_next hB5 hb6
  go_wp2
  go_ret
  exact ⟨rfl, boxB_end hB6⟩

set_option maxHeartbeats 4000000 in
theorem roundLaw_many (r : Nat → Int) (s : ByteArray) (w : World) (a : Nat → Addr) (h : Errs8 a w) (hl : s.size ≤ 400) (hc : ruleCode r s.data.toList = 0) (h1 : 10 < s.size) :
    Calls Tryd.prog 7 #[ruleV r, .string s] w fun e w' => e = .returned (.bool true) ∧ Below w.heap.size w w' := by
  have HE := Lib.hid h; clear h
  have HC := Lib.hid hc; clear hc
  have hbox := Below.refl (w.heap.size + 1) (boxedZ r w)
  go_enter Tryd.func7, Tryd.ntmps7
  go_wp2_with (go_at_call 8; refine (collide_any _ _ _ _ (HE.out.boxZ r).three).mono ?_; rintro e w1 ⟨rfl, hb1⟩; have hB1 := boxB_next hbox hb1; obtain ⟨c0, c1, c2, c3⟩ := box_cellsZ r hB1)
  refine (ruleErr_bel r s _ (by omega) 0 HC.out).mono ?_
  rintro e w2 ⟨rfl, hb2⟩
  have hB2 := boxB_next hB1 hb2
  go_wp2
  go_ret
  exact ⟨rfl, boxB_end hB2⟩

set_option maxRecDepth 100000 in
set_option maxHeartbeats 4000000 in
theorem roundLaw_main (ru inv : Nat → Nat) (n : Nat) (f : Nat → Nat) (m : Nat) (w : World) (a : Nat → Addr) (h : Errs8 a w) (hr : Rule ru inv) (hn : RingLen n) (hf : Bits n f) (h10 : n ≤ 10) (hm : BackAt ru n f m) :
    Calls Tryd.prog 7 #[ruleV fun k => (ru k : Int), .string (ringS n f)] w fun e w' => e = .returned (.bool true) ∧ Below w.heap.size w w' := by
  have hc : ruleCode (fun k => (ru k : Int)) (ringS n f).data.toList = 0 := by
    unfold ruleCode; rw [if_pos (okRule_rule hr), ringS_list, ringCode_ring hn hf]
  have hml := hm.le
  have HE := Lib.hid h; have HR := Lib.hid hr; have HN := Lib.hid hn; have HF := Lib.hid hf; have HC := Lib.hid hc; have HM := Lib.hid hm
  have hsa : (ringS n f).size = n := ringS_size n f
  clear h hr hn hf hc hm
  have hbox := Below.refl (w.heap.size + 1) (boxedZ (fun k => (ru k : Int)) w)
  have hcd := fun W (hW : Errs8 a W) => coded_any a W hW 0 0 (by omega)
  rw [show (0 == 0) = true by rfl] at hcd
  have HCD := Lib.hid hcd; clear hcd
  go_enter Tryd.func7, Tryd.ntmps7
  go_wp2_with (go_at_call 8; refine (collide_any _ _ _ _ (HE.out.boxZ (fun k => (ru k : Int))).three).mono ?_; rintro e w1 ⟨rfl, hb1⟩; have hB1 := boxB_next hbox hb1; obtain ⟨c0, c1, c2, c3⟩ := box_cellsZ (fun k => (ru k : Int)) hB1)
  refine (ruleErr_bel (fun k => (ru k : Int)) (ringS n f) _ (by omega) 0 HC.out).mono ?_
  rintro e w2 ⟨rfl, hb2⟩
  have hB2 := boxB_next hB1 hb2
  obtain ⟨c0', c1', c2', c3'⟩ := box_cellsZ (fun k => (ru k : Int)) hB2
  clear c0 c1 c2 c3 hb1 hb2
  go_wp2_with fail
  refine (seenOf_any ru inv f n m _ HR.out HF.out HN.out HM.out).mono ?_
  rintro e w3 ⟨rfl, hb3⟩
  have hB3 := boxB_next hB2 hb3
  obtain ⟨d0, d1, d2, d3⟩ := box_cellsZ (fun k => (ru k : Int)) hB3
  clear c0' c1' c2' c3' hb3
  go_wp2_with fail
  refine (Round_good ru inv n f m _ _ _ _ (HE.out.boxB hB3).three HR.out HN.out HF.out HM.out).mono ?_
  rintro e w4 ⟨rfl, hb4⟩
  have hB4 := boxB_next hB3 hb4
  obtain ⟨e0, e1, e2, e3⟩ := box_cellsZ (fun k => (ru k : Int)) hB4
  clear d0 d1 d2 d3 hb4
  go_wp2_with fail
  refine (Seen_good (fun k => (ru k : Int)) (ringS n f) _ m hml (Round_good ru inv n f m _ _ _ _ ((HE.out.boxB hB4).boxZ (fun k => (ru k : Int))).three HR.out HN.out HF.out HM.out)).mono ?_
  rintro e w5 ⟨rfl, hb5⟩
  have hB5 := boxB_next hB4 hb5
  clear e0 e1 e2 e3 hb5
  go_wp2_with fail
  refine (HCD.out _ (HE.out.boxB hB5)).mono ?_
  rintro e w6 ⟨rfl, hb6⟩
  have hB6 := boxB_next hB5 hb6
  go_wp2_with fail
  refine (HCD.out _ (HE.out.boxB hB6)).mono ?_
  rintro e w7 ⟨rfl, hb7⟩
  have hB7 := boxB_next hB6 hb7
  go_wp2
  go_ret
  exact ⟨rfl, boxB_end hB7⟩

theorem roundLaw_any (r : Nat → Int) (s : ByteArray) (w : World) (a : Nat → Addr) (h : Errs8 a w) (hs : s.size ≤ 9223372036854775807) :
    Calls Tryd.prog 7 #[ruleV r, .string s] w fun e w' => e = .returned (.bool true) ∧ Below w.heap.size w w' := by
  by_cases hl : 400 < s.size
  · exact roundLaw_long r s w a h hl
  · have hle := ruleCode_le r s.data.toList
    by_cases c0 : ruleCode r s.data.toList = 0
    · by_cases h10 : 10 < s.size
      · exact roundLaw_many r s w a h (by omega) c0 h10
      · obtain ⟨k1, k2⟩ := ruleCode_zero c0
        obtain ⟨hr, hru⟩ := rule_of k1
        obtain ⟨hn, hf, ea⟩ := ring_of s k2
        obtain ⟨m, m1, m2, m3, m4⟩ := comes_back hr hn hf
        have := roundLaw_main (fun k => (r k).toNat) (invOf r) s.size (bitsOf s) m w a h hr hn hf (by omega) ⟨m1, m2, m3, m4⟩
        rw [← ruleV_congr hru, ← ea] at this
        exact this
    · exact roundLaw_err r s w a h (by omega) (ruleCode r s.data.toList) (by omega) hle rfl fun W hW => Round_bad r s W _ _ _ hW.three hs _ rfl c0
end Go.Proofs.YtlckljibajhhkaaDoor
