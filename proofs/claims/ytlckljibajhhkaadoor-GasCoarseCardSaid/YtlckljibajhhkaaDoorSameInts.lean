/-
  SameInts: of two rows of four like cells, and of two empty rows, true.
-/
import Derived.Test.YtlckljibajhhkaaDoorCoarseOf
namespace Go.Proofs.YtlckljibajhhkaaDoor
open Go.RowKit

set_option maxHeartbeats 1000000 in
theorem same_nil (w : World) : Calls Tryd.prog 17 #[.slice none 0 0, .slice none 0 0] w fun e w' => e = .returned (.bool true) ∧ Below w.heap.size w w' := by
  have HB0 : Hid (Below w.heap.size w w) := Below.refl _ _
  go_enter Tryd.func17, Tryd.ntmps17
  go_wp2
  go_loopw [5] (fun i wr => i = .int .i64 0 ∧ Hid (Below w.heap.size w wr)) (fun _ _ => 0)
  case atStart => exact ⟨rfl, HB0⟩
  case round =>
    obtain ⟨rfl, HB⟩ := hrel
    go_wp2
    go_ret
    exact ⟨rfl, HB⟩

set_option maxRecDepth 100000 in
set_option maxHeartbeats 4000000 in
theorem same_four (f : Nat → Nat) (q a b : Nat) (w : World) (hq : q ≤ 8) (ha : CntAt w a f q) (hb : CntAt w b f q) : Calls Tryd.prog 17 #[.slice (some ⟨a, 0, none⟩) 4 4, .slice (some ⟨b, 0, none⟩) 4 4] w fun e w' => e = .returned (.bool true) ∧ Below w.heap.size w w' := by
  have HB0 : Hid (Below w.heap.size w w) := Below.refl _ _
  have HA := Lib.hid ha; have HD := Lib.hid hb
  clear ha hb
  go_enter Tryd.func17, Tryd.ntmps17
  go_wp2
  go_loopw [5] (fun i wr => ∃ k : Nat, k ≤ 4 ∧ i = .int .i64 (k : Int) ∧ Hid (CntAt wr a f q) ∧ Hid (CntAt wr b f q) ∧ Hid (Below w.heap.size w wr)) (fun i _ => 4 - (intOf i).toNat)
  case atStart => exact ⟨0, by omega, rfl, HA, HD, HB0⟩
  case round =>
    obtain ⟨k, hk, rfl, HA1, HD1, HB⟩ := hrel
    clear HA HD HB0
    by_cases hlt : k < 4
    · have hca := HA1.out.cell k hlt
      have hcb := HD1.out.cell k hlt
      obtain ⟨c, hc, hcl⟩ : ∃ c, c = cntF f k q ∧ c ≤ 8 := ⟨_, rfl, by have := cntF_le f k q; omega⟩
      rw [← hc] at hca hcb
      clear hc
      go_wp2_with fail
      go_quiet (fail)
      go_wp2
      refine ⟨⟨k + 1, by omega, by go_num, ⟨HA1.out.cell, HA1.out.free⟩, ⟨HD1.out.cell, HD1.out.free⟩, ?_⟩, by simp [intOf]; omega⟩
      exact below_drewN HB.out _
    · obtain rfl : k = 4 := by omega
      go_wp2
      go_ret
      exact ⟨rfl, HB⟩
end Go.Proofs.YtlckljibajhhkaaDoor
