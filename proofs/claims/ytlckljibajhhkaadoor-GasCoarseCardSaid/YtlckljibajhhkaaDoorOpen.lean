/-
  An argument of type [4]int opened and shut.
-/
import Derived.Test.YtlckljibajhhkaaDoorLaid
import Derived.Laws.IdiomArrays
namespace Go.Proofs.YtlckljibajhhkaaDoor
open Go.ChangeShapes Go.WideShapes Go.ChangeAt Go.RowKit

theorem Tryd.cells3 : Tryd.prog.cellsOf 3 = 1 := by kernel_rfl
theorem Tryd.cells22 : Tryd.prog.cellsOf 22 = 4 := by kernel_rfl
def ruleOf (x0 x1 x2 x3 : Int) (k : Nat) : Int := if k = 0 then x0 else if k = 1 then x1 else if k = 2 then x2 else x3
theorem ruleOf_v (x0 x1 x2 x3 : Int) : ruleV (ruleOf x0 x1 x2 x3) = .agg #[.int .i64 x0, .int .i64 x1, .int .i64 x2, .int .i64 x3] := rfl
/-- a rule as data -/
abbrev ruleD {H : Type} (x0 x1 x2 x3 : Int) : DataW H := .agg [.lit (.int .i64 x0), .lit (.int .i64 x1), .lit (.int .i64 x2), .lit (.int .i64 x3)]

set_option maxRecDepth 100000 in
theorem open_rule {H : Type} {enc : TypeId × Value → H} {W : World} {base : Nat} {v : Value} {d : DataW H} {p : List MemPlace} {base' : Nat} {sp : Nat → Bool} {held : Bool}
    (hv : Value.okWide Tryd.prog W .any base 22 v) (h : DataW.Trod enc Tryd.prog W base' sp held 22 v d p) :
    ∃ x0 x1 x2 x3 : Int, v = ruleV (ruleOf x0 x1 x2 x3) ∧ d = ruleD x0 x1 x2 x3 ∧ p = [] ∧ (Lit.int .i64 x0).wf = true ∧ (Lit.int .i64 x1).wf = true ∧ (Lit.int .i64 x2).wf = true ∧ (Lit.int .i64 x3).wf = true := by
  obtain ⟨cs, rfl, hsz, _⟩ : ∃ cs, v = .agg cs ∧ cs.size = Tryd.prog.cellsOf 22 ∧ Row.okWide Tryd.prog W .any base 22 cs := by
    simpa [Value.okWide, Tryd.underlying22] using hv
  rw [Tryd.cells22] at hsz
  obtain ⟨c0, c1, c2, c3, rfl⟩ := Joins.array4 hsz
  obtain ⟨fuel, hf⟩ := h
  obtain ⟨y0, y1, y2, y3, m, hx, hy0, hy1, hy2, hy3⟩ := trod_array4 Tryd.underlying22 Tryd.cells3 hf
  obtain ⟨x0, e0, rfl, w0⟩ := DataW.trod_int Tryd.underlying3 hy0
  obtain ⟨x1, e1, rfl, w1⟩ := DataW.trod_int Tryd.underlying3 hy1
  obtain ⟨x2, e2, rfl, w2⟩ := DataW.trod_int Tryd.underlying3 hy2
  obtain ⟨x3, e3, rfl, w3⟩ := DataW.trod_int Tryd.underlying3 hy3
  simp at e0 e1 e2 e3
  subst e0 e1 e2 e3
  simp only [Prod.mk.injEq] at hx
  obtain ⟨rfl, rfl⟩ := hx
  exact ⟨x0, x1, x2, x3, rfl, rfl, rfl, w0, w1, w2, w3⟩

theorem shut_rule {H : Type} {enc : TypeId × Value → H} {W : World} {base : Nat} {sp : Nat → Bool} {held : Bool} {x0 x1 x2 x3 : Int} (w0 : (Lit.int .i64 x0).wf = true) (w1 : (Lit.int .i64 x1).wf = true) (w2 : (Lit.int .i64 x2).wf = true) (w3 : (Lit.int .i64 x3).wf = true) :
    DataW.Trod enc Tryd.prog W base sp held 22 (ruleV (ruleOf x0 x1 x2 x3)) (ruleD x0 x1 x2 x3) [] := by
  rw [ruleOf_v]
  exact ⟨2, by simp [DataW.trod, Value.cells, Tryd.underlying22, Tryd.underlying3, Tryd.cells22, Tryd.cells3, w0, w1, w2, w3, show List.range 4 = [0, 1, 2, 3] from rfl]⟩
end Go.Proofs.YtlckljibajhhkaaDoor
