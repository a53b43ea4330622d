/-
  gas.turned: of a rule that is a permutation of 0 to 3 it makes the one that undoes it.
-/
import Derived.Test.YtlckljibajhhkaaDoorStep
import Derived.Outline
namespace Go.Proofs.YtlckljibajhhkaaDoor
open Go.RowKit

structure TurnAt (inv : Nat → Nat) (O i : Nat) (w : World) : Prop where
  cell : ∀ j, j < 4 → w.cell? ⟨O, j, none⟩ = some (.int .i64 (if inv j < i then (inv j : Int) else 0))
  free : ∀ j, w.frozen? ⟨O, j, none⟩ = false

theorem TurnAt.step {ru inv : Nat → Nat} (hr : Rule ru inv) {O i : Nat} {w : World} (hi : i < 4) (h : TurnAt inv O i w) : TurnAt inv O (i + 1) (w.setCell ⟨O, ru i, none⟩ (.int .i64 (i : Int))) := by
  refine ⟨fun j hj => ?_, fun j => by rw [World.frozen?_setCell]; exact h.free j⟩
  by_cases hji : j = ru i
  · subst hji
    rw [World.cell?_setCell_same _ _ _ (h.cell _ (hr.lt i hi)), hr.back i hi, if_pos (by omega)]
  · rw [World.cell?_setCell_other _ _ _ _ (by intro e; injection e with _ e _; exact hji e.symm), h.cell j hj]
    have : inv j ≠ i := fun e => hji (by rw [← e, hr.forth j hj])
    by_cases hlt : inv j < i
    · rw [if_pos hlt, if_pos (by omega)]
    · rw [if_neg hlt, if_neg (by omega)]

/-- the worlds behind the three new rows -/
abbrev turnW (ru : Nat → Nat) (w : World) : World := ((boxed ru w).alloc (.cells #[.int .i64 0, .int .i64 0, .int .i64 0, .int .i64 0] 22)).alloc (.cells #[.int .i64 0, .int .i64 0, .int .i64 0, .int .i64 0] 22)
theorem turnW_zero (ru inv : Nat → Nat) (w : World) : TurnAt inv (w.heap.size + 1 + 1) 0 (turnW ru w) := by
  have hs : w.heap.size + 1 + 1 = ((boxed ru w).alloc (.cells #[.int .i64 0, .int .i64 0, .int .i64 0, .int .i64 0] 22)).heap.size := by simp [boxed]
  refine ⟨fun j hj => ?_, fun j => by rw [turnW, hs]; exact World.frozen?_alloc_new _ _ _ _⟩
  rw [if_neg (by omega), turnW, World.cell?_alloc_at _ _ _ _ hs]
  rcases (show j = 0 ∨ j = 1 ∨ j = 2 ∨ j = 3 by omega) with rfl | rfl | rfl | rfl <;> rfl
theorem turnW_below (ru : Nat → Nat) (w : World) : Below w.heap.size w (turnW ru w) := by unfold turnW boxed; go_grown
theorem turnW_res (ru : Nat → Nat) (w : World) (j : Nat) (hj : j < 4) : (turnW ru w).cell? ⟨w.heap.size + 1, j, none⟩ = some (.int .i64 0) ∧ (turnW ru w).frozen? ⟨w.heap.size + 1, j, none⟩ = false := by
  have hs : w.heap.size + 1 = (boxed ru w).heap.size := by simp [boxed]
  have hlt : (⟨w.heap.size + 1, j, none⟩ : Addr).block < ((boxed ru w).alloc (.cells #[.int .i64 0, .int .i64 0, .int .i64 0, .int .i64 0] 22)).heap.size := by simp [boxed]
  refine ⟨?_, ?_⟩
  · rw [turnW, World.cell?_alloc_lt _ _ _ hlt, World.cell?_alloc_at _ _ _ _ hs]
    rcases (show j = 0 ∨ j = 1 ∨ j = 2 ∨ j = 3 by omega) with rfl | rfl | rfl | rfl <;> rfl
  · rw [turnW, World.frozen?_alloc_old _ _ _ (Nat.ne_of_lt hlt), hs]
    simp

theorem index_ruleN (ru : Nat → Nat) (k : Nat) (hk : k < 4) (w : World) : (Instr.index 22 (.agg #[.int .i64 (ru 0 : Int), .int .i64 (ru 1 : Int), .int .i64 (ru 2 : Int), .int .i64 (ru 3 : Int)]) (.int .i64 (k : Int))).run Tryd.prog w = .ok (.int .i64 (ru k : Int)) w := by
  rcases (show k = 0 ∨ k = 1 ∨ k = 2 ∨ k = 3 by omega) with rfl | rfl | rfl | rfl <;> kernel_rfl

set_option maxRecDepth 100000 in
set_option maxHeartbeats 4000000 in
theorem turned_any (ru inv : Nat → Nat) (w : World) (hr : Rule ru inv) :
    Calls Tryd.prog 25 #[ruleV fun k => (ru k : Int)] w fun e w' => e = .returned (ruleV fun k => (inv k : Int)) ∧ Below w.heap.size w w' := by
  have HR := Lib.hid hr; clear hr
  go_enter Tryd.func25, Tryd.ntmps25
  go_wp2
  go_loopw [7] (fun i wr => ∃ k : Nat, k ≤ 4 ∧ i = .int .i64 (k : Int) ∧ Hid (TurnAt inv (w.heap.size + 1 + 1) k wr) ∧ Hid (Below (w.heap.size + 1 + 1) (turnW ru w) wr)) (fun i _ => 4 - (intOf i).toNat)
  case atStart => exact ⟨0, by omega, rfl, turnW_zero ru inv w, Below.refl _ _⟩
  case round =>
    obtain ⟨k, hk, rfl, HT, HB⟩ := hrel
    by_cases hk4 : k < 4
    · have hidx := index_ruleN ru k hk4
      obtain ⟨R, hR, hR4⟩ : ∃ R, ru k = R ∧ R < 4 := ⟨_, rfl, HR.out.lt k hk4⟩
      rw [hR] at hidx
      have HRK := Lib.hid hR; clear hR
      obtain ⟨v, hc⟩ : ∃ v, wr.cell? ⟨w.heap.size + 1 + 1, R, none⟩ = some (.int .i64 v) := ⟨_, HT.out.cell R hR4⟩
      have hf : wr.frozen? ⟨w.heap.size + 1 + 1, R, none⟩ = false := HT.out.free R
      have HT' : Hid (TurnAt inv (w.heap.size + 1 + 1) (k + 1) (wr.setCell ⟨w.heap.size + 1 + 1, R, none⟩ (.int .i64 (k : Int)))) := by
        have := HT.out.step HR.out hk4; rw [HRK.out] at this; exact this
      have HB' : Hid (Below (w.heap.size + 1 + 1) (turnW ru w) (wr.setCell ⟨w.heap.size + 1 + 1, R, none⟩ (.int .i64 (k : Int)))) := HB.out.setCell (p := ⟨w.heap.size + 1 + 1, R, none⟩) (Nat.le_refl _) _
      go_wp2
      go_roundw
      case rel => exact ⟨k + 1, by omega, by go_num, HT', HB'⟩
      case measure => simp [intOf]; omega
    · have e0 := HT.out.cell 0 (by omega)
      have e1 := HT.out.cell 1 (by omega)
      have e2 := HT.out.cell 2 (by omega)
      have e3 := HT.out.cell 3 (by omega)
      have i0 := HR.out.invlt 0 (by omega)
      have i1 := HR.out.invlt 1 (by omega)
      have i2 := HR.out.invlt 2 (by omega)
      have i3 := HR.out.invlt 3 (by omega)
      rw [if_pos (by omega)] at e0 e1 e2 e3
      have hs : w.heap.size + 1 < w.heap.size + 1 + 1 := by omega
      have r0 := (HB.out.cell (p := ⟨w.heap.size + 1, 0, none⟩) hs).trans (turnW_res ru w 0 (by omega)).1
      have r1 := (HB.out.cell (p := ⟨w.heap.size + 1, 1, none⟩) hs).trans (turnW_res ru w 1 (by omega)).1
      have r2 := (HB.out.cell (p := ⟨w.heap.size + 1, 2, none⟩) hs).trans (turnW_res ru w 2 (by omega)).1
      have r3 := (HB.out.cell (p := ⟨w.heap.size + 1, 3, none⟩) hs).trans (turnW_res ru w 3 (by omega)).1
      have f0 := (HB.out.frozen (p := ⟨w.heap.size + 1, 0, none⟩) hs).trans (turnW_res ru w 0 (by omega)).2
      have f1 := (HB.out.frozen (p := ⟨w.heap.size + 1, 1, none⟩) hs).trans (turnW_res ru w 1 (by omega)).2
      have f2 := (HB.out.frozen (p := ⟨w.heap.size + 1, 2, none⟩) hs).trans (turnW_res ru w 2 (by omega)).2
      have f3 := (HB.out.frozen (p := ⟨w.heap.size + 1, 3, none⟩) hs).trans (turnW_res ru w 3 (by omega)).2
      clear i0 i1 i2 i3
      go_wp2
      refine bodyPost_ret (v := ruleV fun k => (inv k : Int)) (by simp [results, Tryd.results25, go_sem, r0, r1, r2, r3]) rfl ⟨rfl, ?_⟩
      exact (turnW_below ru w).trans ((((HB.out.mono (by omega)).setCell (p := ⟨w.heap.size + 1, 0, none⟩) (by simp) _).setCell (p := ⟨w.heap.size + 1, 1, none⟩) (by simp) _).setCell (p := ⟨w.heap.size + 1, 2, none⟩) (by simp) _ |>.setCell (p := ⟨w.heap.size + 1, 3, none⟩) (by simp) _)
end Go.Proofs.YtlckljibajhhkaaDoor
