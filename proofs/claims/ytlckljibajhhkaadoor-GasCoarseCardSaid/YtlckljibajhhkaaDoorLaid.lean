/-
  What the rows' lists of package-level variables give a walk: the errors of errors.New's make lie where their variables say, no two in one place.
-/
import Derived.Test.YtlckljibajhhkaaDoorRows
import Derived.Test.YtlckljibajhhkaaDoorAt
import Derived.ProofKit
import Derived.OpenShut
import Derived.LaidMore
import Derived.Lay
import Derived.SevenTiedAt
import Derived.Stop.Joined
import Derived.Stop.LaidTwo
import Derived.Lib.SmallJoins
namespace Go.Proofs.YtlckljibajhhkaaDoor
open Go.ChangeShapes Go.WideShapes Go.ChangeAt Go.RowKit

/-- a sentinel as data -/
abbrev sentD (text : List UInt8) : DataW Unit := .iface "*errors.errorString" (.ptr (.agg [.lit (.string text)]))
/-- variable n holds the error at a -/
def SentAt (P : Program) (tp : TypeId) (W : World) (n : String) (a : Addr) : Prop := W.var? P n = some #[.iface tp (.pointer (some a))]
theorem SentAt.one {P : Program} {tp : TypeId} {W : World} {n : String} {a b : Addr} (h : SentAt P tp W n a) (k : SentAt P tp W n b) : a = b := by
  have e := h.symm.trans k
  simp only [Option.some.injEq, Array.mk.injEq, List.cons.injEq, Value.iface.injEq, Value.pointer.injEq, and_true, true_and] at e
  exact e

/-- what a program says of the type of errors.New's make -/
structure EsType (P : Program) (ti tp te ts : TypeId) (ms : Array (String × TypeId)) (f : Field) : Prop where
  hi : P.underlying ti = some (.interface ms)
  hrow : ∀ u, P.typeName? 3 u = some "*errors.errorString" → u = tp
  hp : P.underlying tp = some (.pointer te)
  he : P.underlying te = some (.struct #[f])
  hft : f.type = ts
  hfo : f.offset = 0
  hs : P.underlying ts = some .string
  hc : P.cellsOf te = 1
  hcs : P.cellsOf ts = 1
section
variable {P : Program} {ti tp te ts : TypeId} {ms : Array (String × TypeId)} {f : Field}
/-- each listed error: where it lies -/
theorem sent_at (E : EsType P ti tp te ts ms f) {W : World} : ∀ {l : List (String × DataW Unit)} {ps : List MemPlace}, DataW.LaidVars P W l ps →
    (∀ b off, MemPlace.cell b off ∈ ps → (∃ c t, W.heap[b]? = some (.cells c t (0, 0))) ∧ ∀ u v, W.cell? ⟨b, off, none⟩ = some (.iface u v) → Value.okWide P W .any 0 u v) →
    ∀ {n : String} {text : List UInt8}, (n, sentD text) ∈ l → (∃ g, P.globalNamed n = some g ∧ (P.globals[g]?).map (·.type) = some ti) →
      ∃ a, SentAt P tp W n a ∧ (∃ c t, W.heap[a.block]? = some (.cells c t (0, 0))) ∧ MemPlace.cell a.block a.off ∈ ps
  | [], _, _, _, _, _, hm, _ => by cases hm
  | (n', d') :: r, ps, h, hrows, n, text, hm, hg => by
    obtain ⟨g0, t0, cs0, f0, p0, q0, hg0, ht0, hv0, hd0, hq0, e0⟩ := h
    rcases List.mem_cons.1 hm with e | e
    · cases e
      obtain ⟨g, hg1, hg2⟩ := hg
      obtain rfl := Option.some.inj (hg1.symm.trans hg0)
      obtain rfl := Option.some.inj (hg2.symm.trans ht0)
      subst e0
      obtain ⟨l0⟩ := cs0
      have ok0 : ∀ u v, l0 = [.iface u v] → Value.okWide P W .any 0 u v := fun u v e => by
        subst e
        exact (hrows g 0 (by simp [MemPlace.row])).2 u v (by simpa using World.var?_cell hg0 hv0 0)
      obtain ⟨a0, s0, rfl, hc0, hs0, hz0, rfl⟩ := errorString_of_trod E.hi E.hrow E.hp E.he E.hft E.hfo E.hs E.hc E.hcs hd0 ok0
      exact ⟨a0, hv0, (hrows a0.block a0.off (by simp [MemPlace.row])).1, by simp [MemPlace.row]⟩
    · obtain ⟨a, h1, h2, h3⟩ := sent_at E hq0 (fun b off hb => hrows b off (by rw [e0]; exact List.mem_append_right _ hb)) e hg
      exact ⟨a, h1, h2, by rw [e0]; exact List.mem_append_right _ h3⟩

/-- two of them lie in two places -/
theorem sent_ne (E : EsType P ti tp te ts ms f) {W : World} : ∀ {l : List (String × DataW Unit)} {ps : List MemPlace}, DataW.LaidVars P W l ps → ps.Nodup →
    (∀ b off, MemPlace.cell b off ∈ ps → (∃ c t, W.heap[b]? = some (.cells c t (0, 0))) ∧ ∀ u v, W.cell? ⟨b, off, none⟩ = some (.iface u v) → Value.okWide P W .any 0 u v) →
    ∀ {n m : String} {x y : List UInt8}, (n, sentD x) ∈ l → (m, sentD y) ∈ l → n ≠ m → (∃ g, P.globalNamed n = some g ∧ (P.globals[g]?).map (·.type) = some ti) → (∃ g, P.globalNamed m = some g ∧ (P.globals[g]?).map (·.type) = some ti) →
      ∀ a b, SentAt P tp W n a → SentAt P tp W m b → a ≠ b
  | [], _, _, _, _, _, _, _, _, hm, _, _, _, _ => by cases hm
  | (n', d') :: r, ps, h, hnd, hrows, n, m, x, y, hn, hm, hne, gn, gm => by
    intro a b ha hb hab
    have hall := h
    obtain ⟨g0, t0, cs0, f0, p0, q0, hg0, ht0, hv0, hd0, hq0, e0⟩ := h
    have hrq : ∀ b off, MemPlace.cell b off ∈ q0 → (∃ c t, W.heap[b]? = some (.cells c t (0, 0))) ∧ ∀ u v, W.cell? ⟨b, off, none⟩ = some (.iface u v) → Value.okWide P W .any 0 u v := fun b off hb => hrows b off (by rw [e0]; exact List.mem_append_right _ hb)
    -- the head's place is none of the tail's
    have key : ∀ {k : String} {z : List UInt8} {k' : String} {z' : List UInt8} (_ : (n', d') = (k, sentD z)) (_ : (k', sentD z') ∈ r) (_ : ∃ g, P.globalNamed k = some g ∧ (P.globals[g]?).map (·.type) = some ti) (_ : ∃ g, P.globalNamed k' = some g ∧ (P.globals[g]?).map (·.type) = some ti) (c d : Addr), SentAt P tp W k c → SentAt P tp W k' d → c ≠ d := by
      intro k z k' z' ek hk' gk gk' c d hc hd hcd
      obtain ⟨a2, h1, _, h3⟩ := sent_at E hq0 hrq hk' gk'
      obtain rfl := SentAt.one h1 hd
      cases ek
      obtain ⟨g, hg1, hg2⟩ := gk
      obtain rfl := Option.some.inj (hg1.symm.trans hg0)
      obtain rfl := Option.some.inj (hg2.symm.trans ht0)
      obtain ⟨l0⟩ := cs0
      subst e0
      have ok0 : ∀ u v, l0 = [.iface u v] → Value.okWide P W .any 0 u v := fun u v e => by
        subst e
        exact (hrows g 0 (by simp [MemPlace.row])).2 u v (by simpa using World.var?_cell hg0 hv0 0)
      obtain ⟨a0, s0, rfl, hc0, hs0, hz0, rfl⟩ := errorString_of_trod E.hi E.hrow E.hp E.he E.hft E.hfo E.hs E.hc E.hcs hd0 ok0
      have e2 : a0 = c := SentAt.one (show SentAt P tp W n' a0 from hv0) hc
      subst e2
      rw [List.nodup_append] at hnd
      exact hnd.2.2 (.cell a0.block a0.off) (by simp [MemPlace.row]) (.cell a2.block a2.off) h3 (by rw [hcd])
    rcases List.mem_cons.1 hn with en | en <;> rcases List.mem_cons.1 hm with em | em
    · rw [← em] at en; exact hne (congrArg Prod.fst en)
    · exact key en.symm em gn gm a b ha hb hab
    · exact key em.symm en gm gn b a hb ha hab.symm
    · exact sent_ne E hq0 (by rw [e0] at hnd; exact (List.nodup_append.1 hnd).2.1) hrq en em hne gn gm a b ha hb hab

end

theorem Tryd.star : "*" ++ "errors.errorString" = "*errors.errorString" := by decide
theorem Tryd.esRow (u : TypeId) (h : Tryd.prog.typeName? 3 u = some "*errors.errorString") : u = 111 :=
  typeName_ptr_named (nm := "errors.errorString") (by rw [Tryd.star]; kernel_rfl) (by kernel_rfl) (by decide) u (by rw [Tryd.star]; exact h)
theorem Tryd.cells135 : Tryd.prog.cellsOf 135 = 1 := by kernel_rfl
theorem Tryd.cells9 : Tryd.prog.cellsOf 9 = 1 := by kernel_rfl

theorem Tryd.esType : ∃ ms f, EsType Tryd.prog 25 111 135 9 ms f := ⟨_, _, Tryd.underlying25, Tryd.esRow, Tryd.underlying111, Tryd.underlying135, rfl, rfl, Tryd.underlying9, Tryd.cells135, Tryd.cells9⟩

/-- the three errors of package gas out of a row's list -/
theorem errs3_of {W : World} {l : List (String × DataW Unit)} (h : laidMet Tryd.prog l W)
    (hB : ("demon/api.ErrBound", (Rows.laid_demon_api_ErrBound : DataW Unit)) ∈ l) (hT : ("demon/api.ErrText", (Rows.laid_demon_api_ErrText : DataW Unit)) ∈ l) (hS : ("demon/api.ErrShape", (Rows.laid_demon_api_ErrShape : DataW Unit)) ∈ l) :
    ∃ aB aT aS, Errs3 aB aT aS W := by
  obtain ⟨ps, hv, _, hrows⟩ := h
  obtain ⟨ms, f, E⟩ := Tryd.esType
  have gB : Tryd.prog.globalNamed "demon/api.ErrBound" = some 0 := by kernel_rfl
  have gT : Tryd.prog.globalNamed "demon/api.ErrText" = some 1 := by kernel_rfl
  have gS : Tryd.prog.globalNamed "demon/api.ErrShape" = some 2 := by kernel_rfl
  obtain ⟨aB, h1, _⟩ := sent_at E hv hrows hB ⟨0, gB, by kernel_rfl⟩
  obtain ⟨aT, h2, _⟩ := sent_at E hv hrows hT ⟨1, gT, by kernel_rfl⟩
  obtain ⟨aS, h3, _⟩ := sent_at E hv hrows hS ⟨2, gS, by kernel_rfl⟩
  exact ⟨aB, aT, aS, by simpa using World.var?_cell gB h1 0, by simpa using World.var?_cell gT h2 0, by simpa using World.var?_cell gS h3 0⟩
end Go.Proofs.YtlckljibajhhkaaDoor
