/-
  Rings as texts of the bytes 48 and 49, rules as four numbers: what the codes 0 of gas.text and gas.check say of them.
-/
import Derived.Test.YtlckljibajhhkaaDoorAt
import Derived.Test.YtlckljibajhhkaaDoorPure
namespace Go.Proofs.YtlckljibajhhkaaDoor
open Go.RowKit

def ringL (n : Nat) (f : Nat → Nat) : List UInt8 := (List.range n).map fun j => UInt8.ofNat (48 + f j)
def ringS (n : Nat) (f : Nat → Nat) : ByteArray := ⟨(ringL n f).toArray⟩
def bitsOf (s : ByteArray) (j : Nat) : Nat := (s.data.toList.getD j 0).toNat - 48

theorem ringL_length (n : Nat) (f : Nat → Nat) : (ringL n f).length = n := by simp [ringL]
theorem ringS_list (n : Nat) (f : Nat → Nat) : (ringS n f).data.toList = ringL n f := by simp [ringS]
theorem ringS_size (n : Nat) (f : Nat → Nat) : (ringS n f).size = n := by
  show (ringL n f).toArray.size = n; simp [ringL]
theorem ringL_at {n : Nat} {f : Nat → Nat} (hf : Bits n f) (j : Nat) (hj : j < n) : (ringL n f)[j]? = some (UInt8.ofNat (48 + f j)) ∧ (UInt8.ofNat (48 + f j)).toNat = 48 + f j := by
  have := hf j hj
  refine ⟨by simp [ringL, List.getElem?_map, List.getElem?_range hj], ?_⟩
  simp only [UInt8.toNat_ofNat']
  omega
theorem ringL_congr {n : Nat} {f g : Nat → Nat} (e : EqOn n f g) : ringL n f = ringL n g := by
  unfold ringL
  apply List.map_congr_left
  intro j hj
  rw [e j (List.mem_range.1 hj)]
theorem ringS_congr {n : Nat} {f g : Nat → Nat} (e : EqOn n f g) : ringS n f = ringS n g := by unfold ringS; rw [ringL_congr e]
theorem ringS_inj {n m : Nat} {f g : Nat → Nat} (hf : Bits n f) (hg : Bits m g) (h : ringS n f = ringS m g) : n = m ∧ EqOn n f g := by
  have hl : ringL n f = ringL m g := by rw [← ringS_list, ← ringS_list, h]
  have hn : n = m := by rw [← ringL_length n f, hl, ringL_length]
  subst hn
  refine ⟨rfl, fun j hj => ?_⟩
  have a := ringL_at hf j hj
  have b := ringL_at hg j hj
  rw [hl, b.1] at a
  have e := congrArg (fun o => (Option.getD o 0).toNat) a.1
  simp only [Option.getD_some] at e
  rw [a.2, b.2] at e
  omega

theorem mem_dropWhile_of_not {p : UInt8 → Bool} {x : UInt8} (hx : p x = false) : ∀ {l : List UInt8}, x ∈ l → x ∈ l.dropWhile p
  | [], h => by cases h
  | y :: l, h => by
    rw [List.dropWhile_cons]
    split
    · rename_i hy
      rcases List.mem_cons.1 h with e | e
      · rw [e] at hx; rw [hx] at hy; cases hy
      · exact mem_dropWhile_of_not hx e
    · exact h
theorem dropWhile_nil_of {p : UInt8 → Bool} : ∀ {l : List UInt8}, (∀ x, x ∈ l → p x = true) → l.dropWhile p = []
  | [], _ => rfl
  | y :: l, h => by
    rw [List.dropWhile_cons, if_pos (h y (by simp))]
    exact dropWhile_nil_of fun x hx => h x (by simp [hx])
theorem trim_nil_iff (l : List UInt8) : Lib.trimS l [48, 49] = [] ↔ ∀ x, x ∈ l → x = 48 ∨ x = 49 := by
  have hp : ∀ x : UInt8, ([48, 49] : List UInt8).contains x = true ↔ (x = 48 ∨ x = 49) := by intro x; simp
  constructor
  · intro h x hx
    rcases Bool.eq_false_or_eq_true (([48, 49] : List UInt8).contains x) with hc | hc
    · exact (hp x).1 hc
    · exfalso
      have h1 : x ∈ Lib.trimRightS l [48, 49] := by
        unfold Lib.trimRightS
        rw [List.mem_reverse]
        exact mem_dropWhile_of_not hc (List.mem_reverse.2 hx)
      have h2 : x ∈ Lib.trimS l [48, 49] := mem_dropWhile_of_not hc h1
      rw [h] at h2; cases h2
  · intro h
    have h1 : Lib.trimRightS l [48, 49] = [] := by
      unfold Lib.trimRightS
      rw [dropWhile_nil_of]
      · rfl
      · intro x hx; exact (hp x).2 (h x (List.mem_reverse.1 hx))
    unfold Lib.trimS
    rw [h1]; rfl

theorem ringCode_zero {l : List UInt8} (h : ringCode l = 0) : RingLen l.length ∧ ∀ x, x ∈ l → x = 48 ∨ x = 49 := by
  unfold ringCode at h
  split at h
  · cases h
  · rename_i hl
    split at h
    · rename_i ht
      exact ⟨⟨by omega, by omega, by omega⟩, (trim_nil_iff l).1 ht⟩
    · cases h
theorem ring_of (s : ByteArray) (h : ringCode s.data.toList = 0) : RingLen s.size ∧ Bits s.size (bitsOf s) ∧ s = ringS s.size (bitsOf s) := by
  obtain ⟨h1, h2⟩ := ringCode_zero h
  have hl : s.data.toList.length = s.size := by simp
  rw [hl] at h1
  have hat : ∀ j, j < s.size → ∃ b, s.data.toList[j]? = some b ∧ (b = 48 ∨ b = 49) := fun j hj =>
    ⟨_, List.getElem?_eq_getElem (by omega), h2 _ (List.getElem_mem _)⟩
  have hb : Bits s.size (bitsOf s) := by
    intro j hj
    obtain ⟨b, hb, hb2⟩ := hat j hj
    unfold bitsOf
    rw [List.getD_eq_getElem?_getD, hb]
    rcases hb2 with rfl | rfl <;> decide
  refine ⟨h1, hb, ?_⟩
  apply ByteArray.ext
  apply Array.toList_inj.1
  show s.data.toList = (ringS s.size (bitsOf s)).data.toList
  rw [ringS_list]
  apply List.ext_getElem?
  intro j
  by_cases hj : j < s.size
  · rw [(ringL_at hb j hj).1]
    obtain ⟨b, hb1, hb2⟩ := hat j hj
    rw [hb1]
    unfold bitsOf
    rw [List.getD_eq_getElem?_getD, hb1]
    rcases hb2 with rfl | rfl <;> rfl
  · rw [List.getElem?_eq_none (by omega), List.getElem?_eq_none (by rw [ringL_length]; omega)]
theorem ringCode_ring {n : Nat} {f : Nat → Nat} (hn : RingLen n) (hf : Bits n f) : ringCode (ringL n f) = 0 := by
  unfold ringCode
  rw [if_neg (by rw [ringL_length]; have := hn.1; have := hn.2; omega), if_pos]
  rw [trim_nil_iff]
  intro x hx
  obtain ⟨j, hj, rfl⟩ := List.mem_map.1 hx
  have := hf j (List.mem_range.1 hj)
  rcases (show f j = 0 ∨ f j = 1 by omega) with e | e <;> rw [e] <;> decide

theorem badB_false {r : Nat → Int} {k : Nat} (h : badB r k = false) : 0 ≤ r k ∧ r k ≤ 3 ∧ ∀ j, j < k → r j ≠ r k := by
  simp only [badB, Bool.or_eq_false_iff, decide_eq_false_iff_not] at h
  refine ⟨by omega, by omega, fun j hj e => ?_⟩
  have := h.2
  simp only [seenB, List.any_eq_false, List.mem_range] at this
  exact this j hj (by simp [e])
theorem okRule_bad {r : Nat → Int} (h : okRule r = true) (k : Nat) (hk : k < 4) : badB r k = false := by
  simp only [okRule, List.all_eq_true, List.mem_range] at h
  have := h k hk
  simpa using this
/-- a right rule undone -/
def invOf (r : Nat → Int) (j : Nat) : Nat := if r 0 = j then 0 else if r 1 = j then 1 else if r 2 = j then 2 else 3
theorem rule_of {r : Nat → Int} (h : okRule r = true) : Rule (fun k => (r k).toNat) (invOf r) ∧ ∀ k, k < 4 → r k = (((r k).toNat : Nat) : Int) := by
  have b0 := badB_false (okRule_bad h 0 (by omega))
  have b1 := badB_false (okRule_bad h 1 (by omega))
  have b2 := badB_false (okRule_bad h 2 (by omega))
  have b3 := badB_false (okRule_bad h 3 (by omega))
  have n10 := b1.2.2 0 (by omega)
  have n20 := b2.2.2 0 (by omega)
  have n21 := b2.2.2 1 (by omega)
  have n30 := b3.2.2 0 (by omega)
  have n31 := b3.2.2 1 (by omega)
  have n32 := b3.2.2 2 (by omega)
  refine ⟨⟨?_, ?_, ?_, ?_⟩, ?_⟩
  · intro k hk
    rcases (show k = 0 ∨ k = 1 ∨ k = 2 ∨ k = 3 by omega) with rfl | rfl | rfl | rfl <;> (show (r _).toNat < 4; omega)
  · intro k hk
    show invOf r (r k).toNat = k
    unfold invOf
    rcases (show k = 0 ∨ k = 1 ∨ k = 2 ∨ k = 3 by omega) with rfl | rfl | rfl | rfl
    · rw [if_pos (by omega)]
    · rw [if_neg (by omega), if_pos (by omega)]
    · rw [if_neg (by omega), if_neg (by omega), if_pos (by omega)]
    · rw [if_neg (by omega), if_neg (by omega), if_neg (by omega)]
  · intro j _
    unfold invOf
    split; omega; split; omega; split <;> omega
  · intro j hj
    show (r (invOf r j)).toNat = j
    unfold invOf
    by_cases e0 : r 0 = j
    · rw [if_pos e0]; omega
    · rw [if_neg e0]
      by_cases e1 : r 1 = j
      · rw [if_pos e1]; omega
      · rw [if_neg e1]
        by_cases e2 : r 2 = j
        · rw [if_pos e2]; omega
        · rw [if_neg e2]; omega
  · intro k hk
    rcases (show k = 0 ∨ k = 1 ∨ k = 2 ∨ k = 3 by omega) with rfl | rfl | rfl | rfl <;> omega
theorem okRule_rule {ru inv : Nat → Nat} (hr : Rule ru inv) : okRule (fun k => (ru k : Int)) = true := by
  apply okRule_of
  intro k hk
  have h1 := hr.lt k hk
  simp only [badB, Bool.or_eq_false_iff, decide_eq_false_iff_not]
  refine ⟨⟨by omega, by omega⟩, ?_⟩
  simp only [seenB, List.any_eq_false, List.mem_range]
  intro j hj e
  have e2 : (ru j : Int) = (ru k : Int) := by simpa using e
  have e' : ru j = ru k := by omega
  have := hr.back j (by omega)
  rw [e', hr.back k hk] at this
  omega
theorem ruleV_congr {r q : Nat → Int} (h : ∀ k, k < 4 → r k = q k) : ruleV r = ruleV q := by
  unfold ruleV; rw [h 0 (by omega), h 1 (by omega), h 2 (by omega), h 3 (by omega)]
theorem ruleCode_zero {r : Nat → Int} {l : List UInt8} (h : ruleCode r l = 0) : okRule r = true ∧ ringCode l = 0 := by
  unfold ruleCode at h
  split at h
  · exact ⟨‹_›, h⟩
  · cases h
theorem atCode_zero {r : Nat → Int} {l : List UInt8} {t most : Int} (h : atCode r l t most = 0) : okRule r = true ∧ ringCode l = 0 ∧ 0 ≤ t ∧ t ≤ most := by
  unfold atCode at h
  split at h
  · rename_i hc
    obtain ⟨h1, h2⟩ := ruleCode_zero hc
    split at h
    · cases h
    · exact ⟨h1, h2, by omega, by omega⟩
  · contradiction
theorem atCode_le (r : Nat → Int) (l : List UInt8) (t most : Int) : atCode r l t most ≤ 3 := by
  have := ruleCode_le r l
  unfold atCode; split
  · split <;> omega
  · omega
theorem atCode_good {ru inv : Nat → Nat} (hr : Rule ru inv) {n : Nat} {f : Nat → Nat} (hn : RingLen n) (hf : Bits n f) {t most : Int} (h0 : 0 ≤ t) (h1 : t ≤ most) :
    atCode (fun k => (ru k : Int)) (ringS n f).data.toList t most = 0 := by
  have : ruleCode (fun k => (ru k : Int)) (ringS n f).data.toList = 0 := by
    unfold ruleCode; rw [if_pos (okRule_rule hr), ringS_list, ringCode_ring hn hf]
  unfold atCode; rw [if_pos this, if_neg (by omega)]
end Go.Proofs.YtlckljibajhhkaaDoor
