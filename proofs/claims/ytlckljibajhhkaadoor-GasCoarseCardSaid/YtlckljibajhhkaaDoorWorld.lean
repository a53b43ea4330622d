/-
  A world that meets the condition of the rows with eight errors and the handle of type error.
-/
import Derived.Test.YtlckljibajhhkaaDoorLaid8
namespace Go.Proofs.YtlckljibajhhkaaDoor
open Go.ChangeShapes Go.WideShapes Go.ChangeAt Go.RowKit

/-- the listed variables laid over whatever world -/
theorem laidMet_over {P : Program} {w0 : World} {laid : List (String × DataW Unit)} (args : Array Value)
    (hf : w0.layFits P laid [] = true) (hi : w0.layIfaces P laid (w0.layVars P laid) = true) :
    laidMet P laid ((w0.layVars P laid).forCall (fun _ _ => 0) ⟨#[], args, []⟩).memory := by
  have e1 : (laid.filter fun x => (laid.map (·.1)).contains x.1) = laid := List.filter_eq_self.2 fun x hx => List.contains_iff_mem.2 (List.mem_map.2 ⟨x, hx, rfl⟩)
  have e2 : (laid.filter fun x => !(laid.map (·.1)).contains x.1) = [] := List.filter_eq_nil_iff.2 fun x hx => by rw [List.contains_iff_mem.2 (List.mem_map.2 ⟨x, hx, rfl⟩)]; simp
  have h : laidMet P laid (w0.layVars P laid) := laidMet_layVars (w0 := w0) (laid.map (·.1)) [] (by rw [e1]) (by rw [e1]; exact hf) (by rw [e1]; exact hi) (by rw [e2]; exact LaidIn.none)
  exact h.of_heap (by simp [World.memory, World.forCall, Input.heap])

/-- the settled world, the handle laid -/
noncomputable def handleW (os : Os) : World :=
  let w0 := World.holding Tryd.prog os ⟨#[], #[], []⟩
  { w0 with heap := w0.heap.modify 8 fun
      | .cells _ t frozen => .cells #[.iface 83 (.agg #[.pointer (some ⟨12, 25, none⟩)])] t frozen
      | o => o }
noncomputable def laidW (os : Os) : World := (handleW os).layVars Tryd.prog plain8
theorem laidW_os (os : Os) : (laidW os).os = os := World.layVars_os _ _ _
theorem plain8_eq : (laid8.filter fun x => x.2.handleName?.isNone) = plain8 := by kernel_rfl
theorem laidW_met (os : Os) (args : Array Value) : laidMetH Tryd.prog laid8 ((laidW os).forCall (fun _ _ => 0) ⟨#[], args, []⟩).memory :=
  laidMetH_of_parts (by rw [plain8_eq]; exact laidMet_over (w0 := handleW os) args (by kernel_rfl) (by kernel_rfl)) (by kernel_rfl)
theorem laidW_shaped (os : Os) : (laidW os).Shaped Tryd.prog := World.shaped_of_ZipB (by kernel_rfl) (by kernel_rfl)
end Go.Proofs.YtlckljibajhhkaaDoor
