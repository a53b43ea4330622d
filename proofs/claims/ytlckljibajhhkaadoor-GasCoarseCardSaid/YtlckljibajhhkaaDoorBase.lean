/-
  The package-level variables of errors.New's make as a world bears them, and the small functions of package gas that look at a ring: text.
-/
import Derived.Test.YtlckljibajhhkaaDoorTrim
import Derived.WalkLawsBesides
import Derived.WalkSpells
import Derived.Lib.Hide
namespace Go.Proofs.YtlckljibajhhkaaDoor
open Go.RowKit

/-- an error of errors.New's make -/
abbrev errV (a : Addr) : Value := .iface 111 (.pointer (some a))

/-- what gas.text answers -/
def textV (aB aT : Addr) (l : List UInt8) : Value :=
  if l.length < 2 ∨ 16 < l.length ∨ l.length % 2 = 1 then errV aB else if Lib.trimS l [48, 49] = [] then .nilIface else errV aT

theorem textV_bound {aB aT : Addr} {l : List UInt8} (h : l.length < 2 ∨ 16 < l.length ∨ l.length % 2 = 1) : textV aB aT l = errV aB := if_pos h
theorem textV_nil {aB aT : Addr} {l : List UInt8} (h : ¬ (l.length < 2 ∨ 16 < l.length ∨ l.length % 2 = 1)) (h2 : Lib.trimS l [48, 49] = []) : textV aB aT l = .nilIface := by
  unfold textV; rw [if_neg h, if_pos h2]
theorem textV_text {aB aT : Addr} {l : List UInt8} (h : ¬ (l.length < 2 ∨ 16 < l.length ∨ l.length % 2 = 1)) (h2 : ¬ Lib.trimS l [48, 49] = []) : textV aB aT l = errV aT := by
  unfold textV; rw [if_neg h, if_neg h2]

set_option maxHeartbeats 1000000 in
theorem text_bad1 (s : ByteArray) (w : World) (aB : Addr) (hB : w.cell? ⟨0, 0, none⟩ = some (errV aB)) (h : s.size < 2) :
    Calls Tryd.prog 29 #[.string s] w fun e w' => e = .returned (errV aB) ∧ Below w.heap.size w w' := by
  go_enter Tryd.func29, Tryd.ntmps29
  go_wp2
  go_ret
  exact ⟨rfl, Below.refl _ _⟩

set_option maxHeartbeats 1000000 in
theorem text_bad2 (s : ByteArray) (w : World) (aB : Addr) (hB : w.cell? ⟨0, 0, none⟩ = some (errV aB)) (h : 16 < s.size) :
    Calls Tryd.prog 29 #[.string s] w fun e w' => e = .returned (errV aB) ∧ Below w.heap.size w w' := by
  go_enter Tryd.func29, Tryd.ntmps29
  go_wp2
  go_ret
  exact ⟨rfl, Below.refl _ _⟩

set_option maxHeartbeats 1000000 in
theorem text_bad3 (s : ByteArray) (w : World) (aB : Addr) (hB : w.cell? ⟨0, 0, none⟩ = some (errV aB)) (h2 : 2 ≤ s.size) (h16 : s.size ≤ 16) (h : (((s.size : Int) % 2) == 1) = true) :
    Calls Tryd.prog 29 #[.string s] w fun e w' => e = .returned (errV aB) ∧ Below w.heap.size w w' := by
  go_enter Tryd.func29, Tryd.ntmps29
  go_wp2
  go_ret
  exact ⟨rfl, Below.refl _ _⟩

set_option maxHeartbeats 1000000 in
theorem text_good (s : ByteArray) (w : World) (aT : Addr) (r : ByteArray) (hT : w.cell? ⟨1, 0, none⟩ = some (errV aT)) (h2 : 2 ≤ s.size) (h16 : s.size ≤ 16) (h : (((s.size : Int) % 2) == 1) = false)
    (htr : Calls Tryd.prog 33 #[.string s, .string ⟨#[48, 49]⟩] w fun e w' => e = .returned (.string r) ∧ Below w.heap.size w w') (v : Value) (hv : v = if r.toList.isEmpty = true then .nilIface else errV aT) :
    Calls Tryd.prog 29 #[.string s] w fun e w' => e = .returned v ∧ Below w.heap.size w w' := by
  have hlt : 1 < w.heap.size := by
    rcases Nat.lt_or_ge 1 w.heap.size with h | h
    · exact h
    · simp [World.cell?, Array.getElem?_eq_none h] at hT
  have HV := Lib.hid hv; clear hv
  go_enter Tryd.func29, Tryd.ntmps29
  by_cases hr : r.toList.isEmpty = true
  · go_wp2_with (go_at_call 33; refine htr.mono ?_; rintro e w' ⟨rfl, hb⟩)
    go_ret
    exact ⟨by rw [HV.out, if_pos hr]; rfl, ‹_›⟩
  · have hr' : r.toList.isEmpty = false := by simpa using hr
    go_wp2_with (go_at_call 33; refine htr.mono ?_; rintro e w' ⟨rfl, hb⟩; have hc1 : w'.cell? ⟨1, 0, none⟩ = some (errV aT) := (hb.cell (p := ⟨1, 0, none⟩) hlt).trans hT)
    go_ret
    exact ⟨by rw [HV.out, if_neg hr]; rfl, ‹_›⟩

theorem text_any (s : ByteArray) (w : World) (aB aT : Addr) (hB : w.cell? ⟨0, 0, none⟩ = some (errV aB)) (hT : w.cell? ⟨1, 0, none⟩ = some (errV aT)) (hs : s.size ≤ 9223372036854775807) :
    Calls Tryd.prog 29 #[.string s] w fun e w' => e = .returned (textV aB aT s.data.toList) ∧ Below w.heap.size w w' := by
  have hl : s.data.toList.length = s.size := by simp
  by_cases h1 : s.size < 2
  · rw [textV_bound (by omega)]; exact text_bad1 s w aB hB h1
  · by_cases h2 : 16 < s.size
    · rw [textV_bound (by omega)]; exact text_bad2 s w aB hB h2
    · by_cases h3 : s.size % 2 = 1
      · rw [textV_bound (by omega)]; exact text_bad3 s w aB hB (by omega) (by omega) (by simp; omega)
      · refine text_good s w aT _ hT (by omega) (by omega) (by simp; omega) (trim_any s w hs) _ ?_
        by_cases h4 : Lib.trimS s.data.toList [48, 49] = []
        · rw [textV_nil (by omega) h4, if_pos (by rw [h4]; simp [Lib.toList_data])]
        · rw [textV_text (by omega) h4, if_neg (by simpa [Lib.toList_data] using h4)]
end Go.Proofs.YtlckljibajhhkaaDoor
