/-
  What the rows with eight errors and the handle of type error give a walk; and a world that meets their condition.
-/
import Derived.Test.YtlckljibajhhkaaDoorOpen
import Derived.Test.YtlckljibajhhkaaDoorCode
import Derived.LaidHandle
namespace Go.Proofs.YtlckljibajhhkaaDoor
open Go.ChangeShapes Go.WideShapes Go.ChangeAt Go.RowKit

theorem Tryd.own : ownKnob Tryd.prog.godebug = none := by kernel_rfl
theorem Tryd.rt : (Tryd.prog.cutTypes.find? (·.1 == "internal/reflectlite.rtype")).map (·.2) = some 83 := by kernel_rfl
theorem Tryd.oneRow : ((List.range 150).filter fun t => Tryd.prog.rowNamed t [101, 114, 114, 111, 114]) = [25] := by kernel_rfl
theorem Tryd.tsize : Tryd.prog.types.size = 150 := by kernel_rfl
theorem Tryd.et : Tryd.prog.globalNamed "errors.errorType" = some 8 := by kernel_rfl

/-- what the four rows list -/
abbrev laid8 : List (String × DataW Unit) := Rows.gasRunRow.laid
/-- .. without the handle -/
abbrev plain8 : List (String × DataW Unit) := [("unicode/utf8.acceptRanges", Rows.laid_unicode_utf8_acceptRanges), ("demon/api.ErrText", Rows.laid_demon_api_ErrText), ("demon/api.ErrBound", Rows.laid_demon_api_ErrBound), ("demon/api.ErrShape", Rows.laid_demon_api_ErrShape), ("demon/api.ErrZero", Rows.laid_demon_api_ErrZero), ("demon/api.ErrName", Rows.laid_demon_api_ErrName), ("demon/api.ErrNone", Rows.laid_demon_api_ErrNone), ("demon/api.ErrOrder", Rows.laid_demon_api_ErrOrder), ("demon/api.ErrKind", Rows.laid_demon_api_ErrKind), ("unicode/utf8.first", Rows.laid_unicode_utf8_first)]
abbrev handle8 : List (String × DataW Unit) := [("errors.errorType", Rows.laid_errors_errorType)]
theorem parts8 {W : World} (h : laidMetH Tryd.prog laid8 W) : laidMet Tryd.prog plain8 W ∧ handlesMet Tryd.prog handle8 W := h

theorem handle_of {W : World} (h : handlesMet Tryd.prog handle8 W) : W.cell? ⟨8, 0, none⟩ = some (.iface 83 (.agg #[.pointer (some ⟨12, 25, none⟩)])) := by
  obtain ⟨name, u, ty, e1, e2, e3, e4, e5⟩ := h _ (List.mem_singleton.2 rfl)
  have en : name = [101, 114, 114, 111, 114] := (Option.some.inj e1).symm
  subst en
  obtain rfl := Option.some.inj (Tryd.rt.symm.trans e2)
  have hm : ty ∈ (List.range 150).filter fun t => Tryd.prog.rowNamed t [101, 114, 114, 111, 114] := List.mem_filter.2 ⟨List.mem_range.2 (by rw [← Tryd.tsize]; exact e3), e4⟩
  rw [Tryd.oneRow] at hm
  obtain rfl := List.mem_singleton.1 hm
  have hh : typeHandle Tryd.prog 25 = .pointer (some ⟨12, 25, none⟩) := by kernel_rfl
  rw [hh] at e5
  simpa using World.var?_cell Tryd.et e5 0

/-- the eight names, in plain.Code's order -/
def nameOf (i : Nat) : String := if i = 0 then "demon/api.ErrText" else if i = 1 then "demon/api.ErrBound" else if i = 2 then "demon/api.ErrShape" else if i = 3 then "demon/api.ErrZero" else if i = 4 then "demon/api.ErrName" else if i = 5 then "demon/api.ErrNone" else if i = 6 then "demon/api.ErrOrder" else "demon/api.ErrKind"
def textOf (i : Nat) : List UInt8 := if i = 0 then [100, 101, 109, 111, 110, 58, 32, 116, 101, 120, 116] else if i = 1 then [100, 101, 109, 111, 110, 58, 32, 98, 111, 117, 110, 100] else if i = 2 then [100, 101, 109, 111, 110, 58, 32, 115, 104, 97, 112, 101] else if i = 3 then [100, 101, 109, 111, 110, 58, 32, 122, 101, 114, 111] else if i = 4 then [100, 101, 109, 111, 110, 58, 32, 110, 97, 109, 101] else if i = 5 then [100, 101, 109, 111, 110, 58, 32, 110, 111, 110, 101] else if i = 6 then [100, 101, 109, 111, 110, 58, 32, 111, 114, 100, 101, 114] else [100, 101, 109, 111, 110, 58, 32, 107, 105, 110, 100]
theorem name_in (i : Nat) (hi : i < 8) : (nameOf i, sentD (textOf i)) ∈ plain8 := by
  rcases (show i = 0 ∨ i = 1 ∨ i = 2 ∨ i = 3 ∨ i = 4 ∨ i = 5 ∨ i = 6 ∨ i = 7 by omega) with rfl | rfl | rfl | rfl | rfl | rfl | rfl | rfl <;> simp [plain8, nameOf, textOf, Rows.laid_demon_api_ErrText, Rows.laid_demon_api_ErrBound, Rows.laid_demon_api_ErrShape, Rows.laid_demon_api_ErrZero, Rows.laid_demon_api_ErrName, Rows.laid_demon_api_ErrNone, Rows.laid_demon_api_ErrOrder, Rows.laid_demon_api_ErrKind]
theorem name_at (i : Nat) (hi : i < 8) : Tryd.prog.globalNamed (nameOf i) = some (gOf i) ∧ (Tryd.prog.globals[gOf i]?).map (·.type) = some 25 := by
  rcases (show i = 0 ∨ i = 1 ∨ i = 2 ∨ i = 3 ∨ i = 4 ∨ i = 5 ∨ i = 6 ∨ i = 7 by omega) with rfl | rfl | rfl | rfl | rfl | rfl | rfl | rfl <;> exact ⟨by kernel_rfl, by kernel_rfl⟩
theorem name_ne (i j : Nat) (hi : i < 8) (hj : j < 8) (h : i ≠ j) : nameOf i ≠ nameOf j := by
  rcases (show i = 0 ∨ i = 1 ∨ i = 2 ∨ i = 3 ∨ i = 4 ∨ i = 5 ∨ i = 6 ∨ i = 7 by omega) with rfl | rfl | rfl | rfl | rfl | rfl | rfl | rfl <;>
    rcases (show j = 0 ∨ j = 1 ∨ j = 2 ∨ j = 3 ∨ j = 4 ∨ j = 5 ∨ j = 6 ∨ j = 7 by omega) with rfl | rfl | rfl | rfl | rfl | rfl | rfl | rfl <;> first | contradiction | (simp [nameOf])

theorem errs8_of {W : World} (h : laidMetH Tryd.prog laid8 W) : ∃ a, Errs8 a W := by
  obtain ⟨hp, hh⟩ := parts8 h
  obtain ⟨ps, hv, hnd, hrows⟩ := hp
  obtain ⟨ms, f, E⟩ := Tryd.esType
  have H : ∀ i, i < 8 → ∃ a, SentAt Tryd.prog 111 W (nameOf i) a ∧ (∃ c t, W.heap[a.block]? = some (.cells c t (0, 0))) ∧ MemPlace.cell a.block a.off ∈ ps := fun i hi =>
    sent_at E hv hrows (name_in i hi) ⟨gOf i, name_at i hi⟩
  have ne := fun (i j : Nat) (hi : i < 8) (hj : j < 8) (hij : i ≠ j) => sent_ne E hv hnd hrows (name_in i hi) (name_in j hj) (name_ne i j hi hj hij) ⟨gOf i, name_at i hi⟩ ⟨gOf j, name_at j hj⟩
  refine ⟨fun i => if hi : i < 8 then (H i hi).choose else default, ?_, ?_, ?_, handle_of hh⟩
  · intro i hi
    have := (H i hi).choose_spec.1
    rw [dif_pos hi]
    simpa using World.var?_cell (name_at i hi).1 this 0
  · intro i hi
    rw [dif_pos hi]
    exact (H i hi).choose_spec.2.1
  · intro i j hi hj hij
    rw [dif_pos hi, dif_pos hj]
    exact ne i j hi hj hij _ _ (H i hi).choose_spec.1 (H j hj).choose_spec.1
end Go.Proofs.YtlckljibajhhkaaDoor
