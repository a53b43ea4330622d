/-
  The document's answer: Bits, RingError, RuleError: of each text and rule the number of the error that the program tells.
-/
import Derived.Test.YtlckljibajhhkaaDoorRing
import Derived.Outline
namespace Go.Proofs.YtlckljibajhhkaaDoor
open Go.RowKit

theorem bit_cases (c : UInt8) : (c = 48 ∨ c = 49) ↔ (c.toNat = 48 ∨ c.toNat = 49) := by
  constructor
  · rintro (rfl | rfl) <;> simp
  · rintro (h | h)
    · exact Or.inl (UInt8.toNat_inj.1 (by rw [h]; rfl))
    · exact Or.inr (UInt8.toNat_inj.1 (by rw [h]; rfl))

/-- byte k of a text -/
def byteN (s : ByteArray) (k : Nat) : Nat := (s.data.toList.getD k 0).toNat
theorem byteN_eq (s : ByteArray) (k : Nat) (h : k < s.size) : (s[k]'h).toNat = byteN s k := by
  unfold byteN
  rw [List.getD_eq_getElem?_getD, List.getElem?_eq_getElem (by simpa using h)]
  rfl
def okByte (s : ByteArray) (k : Nat) : Prop := byteN s k = 48 ∨ byteN s k = 49
theorem okBytes_iff (s : ByteArray) : (∀ k, k < s.size → okByte s k) ↔ Lib.trimS s.data.toList [48, 49] = [] := by
  rw [trim_nil_iff]
  have hl : s.data.toList.length = s.size := by simp
  constructor
  · intro h x hx
    obtain ⟨k, hk, rfl⟩ := List.getElem_of_mem hx
    rw [bit_cases]
    have := h k (by omega)
    unfold okByte byteN at this
    rw [List.getD_eq_getElem?_getD, List.getElem?_eq_getElem hk] at this
    exact this
  · intro h k hk
    have := h (s.data.toList[k]'(by omega)) (List.getElem_mem _)
    rw [bit_cases] at this
    unfold okByte byteN
    rw [List.getD_eq_getElem?_getD, List.getElem?_eq_getElem (by omega)]
    exact this

set_option maxHeartbeats 1000000 in
theorem bits_any (s : ByteArray) (w : World) (hs : s.size ≤ 9223372036854775807) (b : Bool) (hb : b = true ↔ ∀ k, k < s.size → okByte s k) :
    Calls Tryd.prog 27 #[.string s] w fun e w' => e = .returned (.bool b) ∧ w' = w := by
  have HB := Lib.hid hb; clear hb
  go_enter Tryd.func27, Tryd.ntmps27
  go_wp2
  go_loop [3] (fun i => ∃ k : Nat, k ≤ s.size ∧ i = .int .i64 k ∧ Hid (∀ j, j < k → okByte s j)) (fun i => s.size - (intOf i).toNat)
  case atStart => exact ⟨0, by omega, rfl, fun j hj => by omega⟩
  case round =>
    obtain ⟨k, hk, rfl, HG⟩ := hrel
    by_cases hlt : k < s.size
    · have hbt := byteN_eq s k hlt
      by_cases h1 : byteN s k = 48
      · have HK : Hid (okByte s k) := Or.inl h1
        rw [h1] at hbt
        go_wp2
        exact ⟨⟨k + 1, by omega, by go_num, fun j hj => by rcases (show j < k ∨ j = k by omega) with h | rfl; exact HG.out j h; exact HK.out⟩, by simp [intOf]; omega⟩
      · by_cases h2 : byteN s k = 49
        · have HK : Hid (okByte s k) := Or.inr h2
          rw [h2] at hbt
          go_wp2
          exact ⟨⟨k + 1, by omega, by go_num, fun j hj => by rcases (show j < k ∨ j = k by omega) with h | rfl; exact HG.out j h; exact HK.out⟩, by simp [intOf]; omega⟩
        · have hbf : b = false := by
            cases b with
            | false => rfl
            | true => exfalso; rcases HB.out.1 rfl k hlt with h | h <;> contradiction
          subst hbf
          have t1 : ((byteN s k : Int) != 48) = true := by simp; omega
          have t2 : ((byteN s k : Int) != 49) = true := by simp; omega
          clear h1 h2
          go_wp2
          go_ret
          exact ⟨rfl, rfl⟩
    · have hbt : b = true := HB.out.2 fun j hj => HG.out j (by omega)
      subst hbt
      go_wp2
      go_ret
      exact ⟨rfl, rfl⟩

/-! RingError -/
set_option maxHeartbeats 1000000 in
theorem ringErr_1 (s : ByteArray) (w : World) (h : s.size < 2) : Calls Tryd.prog 14 #[.string s] w fun e w' => e = .returned (.int .i64 2) ∧ w' = w := by
  go_enter Tryd.func14, Tryd.ntmps14
  go_wp2
  go_ret
  exact ⟨rfl, rfl⟩
set_option maxHeartbeats 1000000 in
theorem ringErr_2 (s : ByteArray) (w : World) (h : 16 < s.size) : Calls Tryd.prog 14 #[.string s] w fun e w' => e = .returned (.int .i64 2) ∧ w' = w := by
  go_enter Tryd.func14, Tryd.ntmps14
  go_wp2
  go_ret
  exact ⟨rfl, rfl⟩
set_option maxHeartbeats 1000000 in
theorem ringErr_3 (s : ByteArray) (w : World) (h2 : 2 ≤ s.size) (h16 : s.size ≤ 16) (h : (((s.size : Int) % 2) != 0) = true) : Calls Tryd.prog 14 #[.string s] w fun e w' => e = .returned (.int .i64 2) ∧ w' = w := by
  go_enter Tryd.func14, Tryd.ntmps14
  go_wp2
  go_ret
  exact ⟨rfl, rfl⟩
set_option maxHeartbeats 1000000 in
theorem ringErr_4 (s : ByteArray) (w : World) (h2 : 2 ≤ s.size) (h16 : s.size ≤ 16) (h : (((s.size : Int) % 2) != 0) = false) (hc : Calls Tryd.prog 27 #[.string s] w fun e w' => e = .returned (.bool true) ∧ w' = w) :
    Calls Tryd.prog 14 #[.string s] w fun e w' => e = .returned (.int .i64 0) ∧ w' = w := by
  go_enter Tryd.func14, Tryd.ntmps14
  go_wp2_with (go_at_call 27; refine hc.mono ?_; rintro e w' ⟨rfl, rfl⟩)
  go_ret
  exact ⟨rfl, rfl⟩
set_option maxHeartbeats 1000000 in
theorem ringErr_5 (s : ByteArray) (w : World) (h2 : 2 ≤ s.size) (h16 : s.size ≤ 16) (h : (((s.size : Int) % 2) != 0) = false) (hc : Calls Tryd.prog 27 #[.string s] w fun e w' => e = .returned (.bool false) ∧ w' = w) :
    Calls Tryd.prog 14 #[.string s] w fun e w' => e = .returned (.int .i64 1) ∧ w' = w := by
  go_enter Tryd.func14, Tryd.ntmps14
  go_wp2_with (go_at_call 27; refine hc.mono ?_; rintro e w' ⟨rfl, rfl⟩)
  go_ret
  exact ⟨rfl, rfl⟩
theorem ringErr_any (s : ByteArray) (w : World) (hs : s.size ≤ 9223372036854775807) :
    Calls Tryd.prog 14 #[.string s] w fun e w' => e = .returned (.int .i64 (ringCode s.data.toList : Int)) ∧ w' = w := by
  have hl : s.data.toList.length = s.size := by simp
  unfold ringCode
  rw [hl]
  by_cases h1 : s.size < 2
  · rw [if_pos (by omega)]; exact ringErr_1 s w h1
  · by_cases h2 : 16 < s.size
    · rw [if_pos (by omega)]; exact ringErr_2 s w h2
    · by_cases h3 : s.size % 2 = 1
      · rw [if_pos (by omega)]; exact ringErr_3 s w (by omega) (by omega) (by simp; omega)
      · rw [if_neg (by omega)]
        by_cases h4 : Lib.trimS s.data.toList [48, 49] = []
        · rw [if_pos h4]
          exact ringErr_4 s w (by omega) (by omega) (by simp; omega) (bits_any s w hs true ⟨fun _ => (okBytes_iff s).2 h4, fun _ => rfl⟩)
        · rw [if_neg h4]
          exact ringErr_5 s w (by omega) (by omega) (by simp; omega) (bits_any s w hs false ⟨(fun h => by cases h), fun h => absurd ((okBytes_iff s).1 h) h4⟩)

/-! RuleError -/
def indB (x k : Int) : Nat := if x = k then 1 else 0
theorem indB_in {x : Int} (h0 : 0 ≤ x) (h3 : x ≤ 3) : indB x 0 + indB x 1 + indB x 2 + indB x 3 = 1 := by
  rcases (show x = 0 ∨ x = 1 ∨ x = 2 ∨ x = 3 by omega) with rfl | rfl | rfl | rfl <;> rfl
theorem indB_out {x : Int} (h : x < 0 ∨ 3 < x) : indB x 0 + indB x 1 + indB x 2 + indB x 3 = 0 := by
  unfold indB; rw [if_neg (by omega), if_neg (by omega), if_neg (by omega), if_neg (by omega)]
theorem indB_le (x : Int) : indB x 0 + indB x 1 + indB x 2 + indB x 3 ≤ 1 := by
  by_cases h : x < 0 ∨ 3 < x
  · rw [indB_out h]; omega
  · rw [indB_in (by omega) (by omega)]; omega
/-- how many of the first i of a rule are k -/
def cntR (r : Nat → Int) (k : Int) : Nat → Nat
  | 0 => 0
  | i + 1 => cntR r k i + indB (r i) k
theorem cntR_four (r : Nat → Int) (k : Int) : cntR r k 4 = indB (r 0) k + indB (r 1) k + indB (r 2) k + indB (r 3) k := by simp [cntR]
theorem cntR_le (r : Nat → Int) (k : Int) : ∀ i, cntR r k i ≤ i
  | 0 => by simp [cntR]
  | i + 1 => by have := cntR_le r k i; have : indB (r i) k ≤ 1 := by unfold indB; split <;> omega
                simp only [cntR]; omega
theorem cntR_ok {r : Nat → Int} (h : okRule r = true) (k : Int) (h0 : 0 ≤ k) (h3 : k ≤ 3) : cntR r k 4 = 1 := by
  have b0 := badB_false (okRule_bad h 0 (by omega))
  have b1 := badB_false (okRule_bad h 1 (by omega))
  have b2 := badB_false (okRule_bad h 2 (by omega))
  have b3 := badB_false (okRule_bad h 3 (by omega))
  have n10 := b1.2.2 0 (by omega)
  have n20 := b2.2.2 0 (by omega)
  have n21 := b2.2.2 1 (by omega)
  have n30 := b3.2.2 0 (by omega)
  have n31 := b3.2.2 1 (by omega)
  have n32 := b3.2.2 2 (by omega)
  rw [cntR_four]
  unfold indB
  by_cases e0 : r 0 = k
  · rw [if_pos e0, if_neg (by omega), if_neg (by omega), if_neg (by omega)]
  · by_cases e1 : r 1 = k
    · rw [if_neg e0, if_pos e1, if_neg (by omega), if_neg (by omega)]
    · by_cases e2 : r 2 = k
      · rw [if_neg e0, if_neg e1, if_pos e2, if_neg (by omega)]
      · rw [if_neg e0, if_neg e1, if_neg e2, if_pos (by omega)]
theorem cntR_dup {r : Nat → Int} {i j : Nat} (hj : j < 4) (hij : i < j) (e : r i = r j) : 2 ≤ cntR r (r j) 4 := by
  have one : indB (r j) (r j) = 1 := by simp [indB]
  have two : indB (r i) (r j) = 1 := by simp [indB, e]
  rw [cntR_four]
  rcases (show j = 1 ∨ j = 2 ∨ j = 3 by omega) with rfl | rfl | rfl
  · obtain rfl : i = 0 := by omega
    omega
  · rcases (show i = 0 ∨ i = 1 by omega) with rfl | rfl <;> omega
  · rcases (show i = 0 ∨ i = 1 ∨ i = 2 by omega) with rfl | rfl | rfl <;> omega
theorem okRule_cnt {r : Nat → Int} (h : ∀ k : Nat, k < 4 → cntR r (k : Int) 4 = 1) : okRule r = true := by
  have c0 := h 0 (by omega); have c1 := h 1 (by omega); have c2 := h 2 (by omega); have c3 := h 3 (by omega)
  rw [cntR_four] at c0 c1 c2 c3
  have hin : ∀ k, k < 4 → 0 ≤ r k ∧ r k ≤ 3 := by
    intro k hk
    rcases Classical.em (r k < 0 ∨ 3 < r k) with hb | hb
    · exfalso
      have ho := indB_out hb
      have l0 := indB_le (r 0); have l1 := indB_le (r 1); have l2 := indB_le (r 2); have l3 := indB_le (r 3)
      simp only [Int.ofNat_zero, Int.ofNat_one] at c0 c1
      have c0' : indB (r 0) 0 + indB (r 1) 0 + indB (r 2) 0 + indB (r 3) 0 = 1 := c0
      have c1' : indB (r 0) 1 + indB (r 1) 1 + indB (r 2) 1 + indB (r 3) 1 = 1 := c1
      have c2' : indB (r 0) 2 + indB (r 1) 2 + indB (r 2) 2 + indB (r 3) 2 = 1 := c2
      have c3' : indB (r 0) 3 + indB (r 1) 3 + indB (r 2) 3 + indB (r 3) 3 = 1 := c3
      rcases (show k = 0 ∨ k = 1 ∨ k = 2 ∨ k = 3 by omega) with rfl | rfl | rfl | rfl <;> omega
    · omega
  apply okRule_of
  intro k hk
  obtain ⟨h0, h3⟩ := hin k hk
  simp only [badB, Bool.or_eq_false_iff, decide_eq_false_iff_not]
  refine ⟨⟨by omega, by omega⟩, ?_⟩
  simp only [seenB, List.any_eq_false, List.mem_range]
  intro j hj e
  have e' : r j = r k := by simpa using e
  have hd := cntR_dup hk hj e'
  have := h (r k).toNat (by omega)
  rw [show (((r k).toNat : Nat) : Int) = r k by omega] at this
  omega

abbrev boxedR (r : Nat → Int) (w : World) : World := w.alloc (.cells #[.int .i64 (r 0), .int .i64 (r 1), .int .i64 (r 2), .int .i64 (r 3)] 22)
theorem boxedR_cell (r : Nat → Int) (w : World) (k : Nat) (hk : k < 4) : (boxedR r w).cell? ⟨w.heap.size, k, none⟩ = some (.int .i64 (r k)) := by
  rcases (show k = 0 ∨ k = 1 ∨ k = 2 ∨ k = 3 by omega) with rfl | rfl | rfl | rfl <;> simp [boxedR]

set_option maxHeartbeats 4000000 in
theorem ruleErr_any (r : Nat → Int) (s : ByteArray) (w : World) (hs : s.size ≤ 9223372036854775807) :
    Calls Tryd.prog 11 #[ruleV r, .string s] w fun e w' => e = .returned (.int .i64 (ruleCode r s.data.toList : Int)) ∧ w' = boxedR r w := by
  go_enter Tryd.func11, Tryd.ntmps11
  go_wp2
  go_loop [5] (fun x => ∃ k : Nat, k ≤ 4 ∧ x = .int .i64 k ∧ Hid (∀ j : Nat, j < k → cntR r (j : Int) 4 = 1)) (fun x => 4 - (intOf x).toNat)
  case atStart => exact ⟨0, by omega, rfl, fun j hj => by omega⟩
  case round =>
    obtain ⟨k, hk, rfl, HG⟩ := hrel
    by_cases hk4 : k < 4
    · go_wp2
      go_loop [6, 7] (fun x y => ∃ i : Nat, i ≤ 4 ∧ y = .int .i64 i ∧ x = .int .i64 (cntR r (k : Int) i : Int)) (fun _ y => 4 - (intOf y).toNat)
      case atStart => exact ⟨0, by omega, rfl, rfl⟩
      case round =>
        obtain ⟨i, hi, rfl, rfl⟩ := hrel
        have hle := cntR_le r (k : Int) i
        by_cases hi4 : i < 4
        · have hc := boxedR_cell r w i hi4
          by_cases he : r i = (k : Int)
          · have hb : (r i == (k : Int)) = true := by simp [he]
            have hn : Hid (((cntR r (k : Int) i : Nat) : Int) + 1 = (cntR r (k : Int) (i + 1) : Int)) := by show _ = _; simp only [cntR, indB, if_pos he]; omega
            clear he
            go_wp2
            exact ⟨⟨i + 1, by omega, by go_num, by rw [hn.out]⟩, by simp [intOf]; omega⟩
          · have hb : (r i == (k : Int)) = false := by simp [he]
            have hn : Hid (((cntR r (k : Int) i : Nat) : Int) = (cntR r (k : Int) (i + 1) : Int)) := by show _ = _; simp only [cntR, indB, if_neg he]; omega
            clear he
            go_wp2
            exact ⟨⟨i + 1, by omega, by go_num, by rw [hn.out]⟩, by simp [intOf]; omega⟩
        · obtain rfl : i = 4 := by omega
          by_cases h1 : cntR r (k : Int) 4 = 1
          · rw [h1]
            have HK := Lib.hid h1; clear h1
            go_wp2
            exact ⟨⟨k + 1, by omega, by go_num, fun j hj => by rcases (show j < k ∨ j = k by omega) with h | rfl; exact HG.out j h; exact HK.out⟩, by simp [intOf]; omega⟩
          · have hbad : Hid (ruleCode r s.data.toList = 3) := by
              show _ = _
              unfold ruleCode
              rw [if_neg]
              intro hok
              exact h1 (cntR_ok hok (k : Int) (by omega) (by omega))
            have hb : ((cntR r (k : Int) 4 : Int) != 1) = true := by simp; omega
            clear h1
            go_wp2
            go_ret
            exact ⟨by rw [hbad.out]; rfl, rfl⟩
    · have hok : okRule r = true := okRule_cnt fun j hj => HG.out j (by omega)
      have hrc : Hid (ruleCode r s.data.toList = ringCode s.data.toList) := by show _ = _; unfold ruleCode; rw [if_pos hok]
      have hre := ringErr_any s (boxedR r w) hs
      generalize (ringCode s.data.toList) = c at hre hrc
      clear hok
      go_wp2_with (go_at_call 14; refine hre.mono ?_; rintro e w' ⟨rfl, rfl⟩)
      go_ret
      exact ⟨by rw [hrc.out]; rfl, rfl⟩
end Go.Proofs.YtlckljibajhhkaaDoor
