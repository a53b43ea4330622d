/-
  The law GasCoarse: for every text it answers true; nothing that was in memory before has changed.
-/
import Derived.Test.YtlckljibajhhkaaDoorSameInts
import Derived.Test.YtlckljibajhhkaaDoorRunLaw
namespace Go.Proofs.YtlckljibajhhkaaDoor
open Go.RowKit

set_option maxHeartbeats 1000000 in
theorem Coarse_bad (s : ByteArray) (w : World) (aB aT aS : Addr) (h : Errs3 aB aT aS w) (hs : s.size ≤ 9223372036854775807) (hc : ringCode s.data.toList ≠ 0) :
    Calls Tryd.prog 16 #[.string s] w fun e w' => e = .returned (.tuple #[.slice none 0 0, errOf aB aT aS (ringCode s.data.toList)]) ∧ Below w.heap.size w w' := by
  have htx := text_any s w aB aT h.bound h.text hs
  rw [textV_code aB aT aS] at htx
  have hle := ringCode_le s.data.toList
  clear h
  obtain hc' | hc' : ringCode s.data.toList = 1 ∨ ringCode s.data.toList = 2 := by omega
  all_goals
    rw [hc'] at htx ⊢
    simp only [errOf, errV] at htx ⊢
    clear hc hc' hle
    go_enter Tryd.func16, Tryd.ntmps16
    go_wp2_with (go_at_call 29; refine htx.mono ?_; rintro e w1 ⟨rfl, hb1⟩)
    go_ret2
    exact ⟨rfl, hb1⟩

set_option maxHeartbeats 1000000 in
theorem coarseLaw_long (s : ByteArray) (w : World) (a : Nat → Addr) (h : Errs8 a w) (hl : 400 < s.size) :
    Calls Tryd.prog 5 #[.string s] w fun e w' => e = .returned (.bool true) ∧ Below w.heap.size w w' := by
  have HE := Lib.hid h; clear h
  go_enter Tryd.func5, Tryd.ntmps5
  go_wp2_with (go_at_call 8; refine (collide_any _ _ _ _ HE.out.three).mono ?_; rintro e w1 ⟨rfl, hb1⟩)
  go_ret
  exact ⟨rfl, hb1⟩

set_option maxHeartbeats 4000000 in
theorem coarseLaw_err (s : ByteArray) (w : World) (a : Nat → Addr) (h : Errs8 a w) (hl : s.size ≤ 400) (c : Nat) (hc0 : 0 < c) (hc2 : c ≤ 2) (hc : ringCode s.data.toList = c) :
    Calls Tryd.prog 5 #[.string s] w fun e w' => e = .returned (.bool true) ∧ Below w.heap.size w w' := by
  have hre := fun W => ringErr_any s W (by omega)
  have hco := fun W (hW : Errs8 a W) => Coarse_bad s W _ _ _ hW.three (by omega) (by omega)
  rw [hc] at hre hco
  have HRE := Lib.hid hre; have HCO := Lib.hid hco; clear hre hco hc
  have HE := Lib.hid h; clear h
  have tc : ((c : Int) == 0) = false := by simp; omega
  have hcd := fun W (hW : Errs8 a W) => coded_any a W hW c c (by omega)
  rw [show (c == c) = true by simp] at hcd
  have HCD := Lib.hid hcd; clear hcd
  go_enter Tryd.func5, Tryd.ntmps5
  go_wp2_with (go_at_call 8; refine (collide_any _ _ _ _ HE.out.three).mono ?_; rintro e w1 ⟨rfl, hb1⟩)
  refine (HRE.out _).mono ?_
  rintro e w2 ⟨rfl, rfl⟩
  go_wp2_with fail
  refine (HCO.out _ (HE.out.below hb1)).mono ?_
  rintro e w3 ⟨rfl, hb3⟩
  have hB3 := hb1.trans (hb3.mono hb1.size)
  clear hb3
  go_wp2_with fail
  refine (HCD.out _ (HE.out.below hB3)).mono ?_
  rintro e w4 ⟨rfl, hb4⟩
  have hB4 := hB3.trans (hb4.mono hB3.size)
  clear hb4
  go_wp2_with fail
  refine (same_nil _).mono ?_
  rintro e w5 ⟨rfl, hb5⟩
  have hB5 := hB4.trans (hb5.mono hB4.size)
  go_wp2
  go_ret
  exact ⟨rfl, hB5⟩

theorem CntAt.below {w w' : World} {b : Nat} {f : Nat → Nat} {q : Nat} (hb : Below w.heap.size w w') (hlt : b < w.heap.size) (h : CntAt w b f q) : CntAt w' b f q :=
  ⟨fun c hc => (hb.cell (p := ⟨b, c, none⟩) hlt).trans (h.cell c hc), fun c => (hb.frozen (p := ⟨b, c, none⟩) hlt).trans (h.free c)⟩

set_option maxRecDepth 100000 in
set_option maxHeartbeats 4000000 in
theorem coarseLaw_main (n : Nat) (f : Nat → Nat) (w : World) (a : Nat → Addr) (h : Errs8 a w) (hn : RingLen n) (hf : Bits n f) :
    Calls Tryd.prog 5 #[.string (ringS n f)] w fun e w' => e = .returned (.bool true) ∧ Below w.heap.size w w' := by
  have hsa : (ringS n f).size = n := ringS_size n f
  have hn16 := hn.2.1
  have hre := fun W => ringErr_any (ringS n f) W (by omega)
  rw [ringS_list, ringCode_ring hn hf] at hre
  have HRE := Lib.hid hre; clear hre
  have HE := Lib.hid h; have HN := Lib.hid hn; have HF := Lib.hid hf
  clear h hn hf
  have hcd := fun W (hW : Errs8 a W) => coded_any a W hW 0 0 (by omega)
  rw [show (0 == 0) = true by rfl] at hcd
  have HCD := Lib.hid hcd; clear hcd
  go_enter Tryd.func5, Tryd.ntmps5
  go_wp2_with (go_at_call 8; refine (collide_any _ _ _ _ HE.out.three).mono ?_; rintro e w1 ⟨rfl, hb1⟩)
  refine (HRE.out _).mono ?_
  rintro e w2 ⟨rfl, rfl⟩
  go_wp2_with fail
  refine (coarseOf_any n f _ HN.out HF.out).mono ?_
  rintro e w3 ⟨_, rfl, ⟨b, rfl, hb0, hb1', hcb⟩, hb3⟩
  have hB3 := hb1.trans (hb3.mono hb1.size)
  clear hb3 hb0
  go_wp2_with fail
  refine (Coarse_good n f _ _ _ _ (HE.out.below hB3).three HN.out HF.out).mono ?_
  rintro e w4 ⟨_, rfl, ⟨c, rfl, hc0, hc1, hcc⟩, hb4⟩
  have hcb4 := hcb.below hb4 hb1'
  have hB4 := hB3.trans (hb4.mono hB3.size)
  have hb4s := hb4.size
  clear hb4 hc0 hcb
  go_wp2_with fail
  refine (HCD.out _ (HE.out.below hB4)).mono ?_
  rintro e w5 ⟨rfl, hb5⟩
  have hcb5 := hcb4.below hb5 (by omega)
  have hcc5 := hcc.below hb5 hc1
  have hB5 := hB4.trans (hb5.mono hB4.size)
  clear hb5 hcb4 hcc
  go_wp2_with fail
  refine (same_four f (n / 2) c b _ (by omega) hcc5 hcb5).mono ?_
  rintro e w6 ⟨rfl, hb6⟩
  have hB6 := hB5.trans (hb6.mono hB5.size)
  go_wp2
  go_ret
  exact ⟨rfl, hB6⟩

theorem coarseLaw_any (s : ByteArray) (w : World) (a : Nat → Addr) (h : Errs8 a w) (hs : s.size ≤ 9223372036854775807) :
    Calls Tryd.prog 5 #[.string s] w fun e w' => e = .returned (.bool true) ∧ Below w.heap.size w w' := by
  by_cases hl : 400 < s.size
  · exact coarseLaw_long s w a h hl
  · have hle := ringCode_le s.data.toList
    by_cases c0 : ringCode s.data.toList = 0
    · obtain ⟨hn, hf, ea⟩ := ring_of s c0
      have := coarseLaw_main s.size (bitsOf s) w a h hn hf
      rw [← ea] at this
      exact this
    · exact coarseLaw_err s w a h (by omega) _ (by omega) hle rfl
end Go.Proofs.YtlckljibajhhkaaDoor
