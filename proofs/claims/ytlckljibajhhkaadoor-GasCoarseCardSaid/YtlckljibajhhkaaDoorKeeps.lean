/-
  The law GasKeeps: for every rule, every two texts and every number of steps it answers true; nothing that was in memory before has changed.
-/
import Derived.Test.YtlckljibajhhkaaDoorRun
namespace Go.Proofs.YtlckljibajhhkaaDoor
open Go.RowKit

abbrev boxedZ (r : Nat → Int) (w : World) : World := w.alloc (.cells #[.int .i64 (r 0), .int .i64 (r 1), .int .i64 (r 2), .int .i64 (r 3)] 22)
theorem boxedZ_size (r : Nat → Int) (w : World) : (boxedZ r w).heap.size = w.heap.size + 1 := by simp [boxedZ]
theorem box_cellsZ (r : Nat → Int) {w w1 : World} (hb : Below (w.heap.size + 1) (boxedZ r w) w1) :
    w1.cell? ⟨w.heap.size, 0, none⟩ = some (.int .i64 (r 0)) ∧ w1.cell? ⟨w.heap.size, 1, none⟩ = some (.int .i64 (r 1)) ∧ w1.cell? ⟨w.heap.size, 2, none⟩ = some (.int .i64 (r 2)) ∧ w1.cell? ⟨w.heap.size, 3, none⟩ = some (.int .i64 (r 3)) := by
  have hs : w.heap.size < w.heap.size + 1 := by omega
  refine ⟨(hb.cell (p := ⟨w.heap.size, 0, none⟩) hs).trans ?_, (hb.cell (p := ⟨w.heap.size, 1, none⟩) hs).trans ?_, (hb.cell (p := ⟨w.heap.size, 2, none⟩) hs).trans ?_, (hb.cell (p := ⟨w.heap.size, 3, none⟩) hs).trans ?_⟩ <;> simp [boxedZ]
theorem Errs3.boxedZ {aB aT aS : Addr} {w : World} (h : Errs3 aB aT aS w) (r : Nat → Int) : Errs3 aB aT aS (boxedZ r w) := h.below (box_below w _) (by have := h.size; omega)
theorem Errs3.boxB {aB aT aS : Addr} {w : World} {r : Nat → Int} {w1 : World} (h : Errs3 aB aT aS w) (hb : Below (w.heap.size + 1) (YtlckljibajhhkaaDoor.boxedZ r w) w1) : Errs3 aB aT aS w1 := (h.boxedZ r).below hb (by have := h.size; omega)
theorem boxB_next {r : Nat → Int} {w w1 w2 : World} (hb : Below (w.heap.size + 1) (boxedZ r w) w1) (h2 : Below w1.heap.size w1 w2) : Below (w.heap.size + 1) (boxedZ r w) w2 :=
  hb.trans (h2.mono (by have := hb.size; rw [boxedZ_size] at this; omega))
theorem boxB_end {r : Nat → Int} {w w1 : World} (hb : Below (w.heap.size + 1) (boxedZ r w) w1) : Below w.heap.size w w1 := (box_below _ _).trans (hb.mono (by omega))

set_option maxHeartbeats 1000000 in
theorem keeps_long (r : Nat → Int) (a b : ByteArray) (t : Int) (w : World) (aB aT aS : Addr) (h : Errs3 aB aT aS w) (hl : 16 < a.size ∨ 16 < b.size) :
    Calls Tryd.prog 3 #[ruleV r, .string a, .string b, .int .i64 t] w fun e w' => e = .returned (.bool true) ∧ Below w.heap.size w w' := by
  have HE := Lib.hid h; clear h
  have HL := Lib.hid hl; clear hl
  have hbox := Below.refl (w.heap.size + 1) (boxedZ r w)
  by_cases ha : 16 < a.size
  · go_enter Tryd.func3, Tryd.ntmps3
    go_wp2_with (go_at_call 8; refine (collide_any _ aB aT aS (HE.out.boxedZ r)).mono ?_; rintro e w1 ⟨rfl, hb1⟩)
    go_ret
    exact ⟨rfl, (box_below _ _).trans (Below.mono hb1 (by simp))⟩
  · have hb : 16 < b.size := by have := HL.out; omega
    go_enter Tryd.func3, Tryd.ntmps3
    go_wp2_with (go_at_call 8; refine (collide_any _ aB aT aS (HE.out.boxedZ r)).mono ?_; rintro e w1 ⟨rfl, hb1⟩)
    go_ret
    exact ⟨rfl, (box_below _ _).trans (Below.mono hb1 (by simp))⟩

set_option maxHeartbeats 1000000 in
theorem keeps_err1 (r : Nat → Int) (a b : ByteArray) (t : Int) (w : World) (aB aT aS x : Addr) (sx sy : ByteArray) (vy : Value) (h : Errs3 aB aT aS w) (ha : a.size ≤ 16) (hb : b.size ≤ 16)
    (hRa : ∀ W, Errs3 aB aT aS W → Calls Tryd.prog 9 #[ruleV r, .string a, .int .i64 t] W (AnswerS W sx (errV x)))
    (hRb : ∀ W, Errs3 aB aT aS W → Calls Tryd.prog 9 #[ruleV r, .string b, .int .i64 t] W (AnswerS W sy vy)) :
    Calls Tryd.prog 3 #[ruleV r, .string a, .string b, .int .i64 t] w fun e w' => e = .returned (.bool true) ∧ Below w.heap.size w w' := by
  have HE := Lib.hid h; clear h
  have HA := Lib.hid hRa; have HB := Lib.hid hRb; clear hRa hRb
  have hbox := Below.refl (w.heap.size + 1) (boxedZ r w)
  go_enter Tryd.func3, Tryd.ntmps3
  go_wp2_with (go_at_call 8; refine (collide_any _ aB aT aS (HE.out.boxedZ r)).mono ?_; rintro e w1 ⟨rfl, hb1⟩; have hB1 := boxB_next hbox hb1; obtain ⟨c0, c1, c2, c3⟩ := box_cellsZ r hB1)
  refine (HA.out _ (HE.out.boxB hB1)).mono ?_
  rintro e w2 ⟨rfl, hb2⟩
  have hB2 := boxB_next hB1 hb2
  obtain ⟨c0', c1', c2', c3'⟩ := box_cellsZ r hB2
  go_wp2_with fail
  refine (HB.out _ (HE.out.boxB hB2)).mono ?_
  rintro e w3 ⟨rfl, hb3⟩
  have hB3 := boxB_next hB2 hb3
  go_wp2
  go_ret
  exact ⟨rfl, boxB_end hB3⟩
set_option maxHeartbeats 1000000 in
theorem keeps_err2 (r : Nat → Int) (a b : ByteArray) (t : Int) (w : World) (aB aT aS y : Addr) (sx sy : ByteArray) (h : Errs3 aB aT aS w) (ha : a.size ≤ 16) (hb : b.size ≤ 16)
    (hRa : ∀ W, Errs3 aB aT aS W → Calls Tryd.prog 9 #[ruleV r, .string a, .int .i64 t] W (AnswerS W sx .nilIface))
    (hRb : ∀ W, Errs3 aB aT aS W → Calls Tryd.prog 9 #[ruleV r, .string b, .int .i64 t] W (AnswerS W sy (errV y))) :
    Calls Tryd.prog 3 #[ruleV r, .string a, .string b, .int .i64 t] w fun e w' => e = .returned (.bool true) ∧ Below w.heap.size w w' := by
  have HE := Lib.hid h; clear h
  have HA := Lib.hid hRa; have HB := Lib.hid hRb; clear hRa hRb
  have hbox := Below.refl (w.heap.size + 1) (boxedZ r w)
  go_enter Tryd.func3, Tryd.ntmps3
  go_wp2_with (go_at_call 8; refine (collide_any _ aB aT aS (HE.out.boxedZ r)).mono ?_; rintro e w1 ⟨rfl, hb1⟩; have hB1 := boxB_next hbox hb1; obtain ⟨c0, c1, c2, c3⟩ := box_cellsZ r hB1)
  refine (HA.out _ (HE.out.boxB hB1)).mono ?_
  rintro e w2 ⟨rfl, hb2⟩
  have hB2 := boxB_next hB1 hb2
  obtain ⟨c0', c1', c2', c3'⟩ := box_cellsZ r hB2
  go_wp2_with fail
  refine (HB.out _ (HE.out.boxB hB2)).mono ?_
  rintro e w3 ⟨rfl, hb3⟩
  have hB3 := boxB_next hB2 hb3
  go_wp2
  go_ret
  exact ⟨rfl, boxB_end hB3⟩
set_option maxHeartbeats 1000000 in
theorem keeps_many (r : Nat → Int) (a b : ByteArray) (t : Int) (w : World) (aB aT aS : Addr) (sx sy : ByteArray) (h : Errs3 aB aT aS w) (ha : a.size ≤ 16) (hb : b.size ≤ 16) (ht : 400 < t)
    (hRa : ∀ W, Errs3 aB aT aS W → Calls Tryd.prog 9 #[ruleV r, .string a, .int .i64 t] W (AnswerS W sx .nilIface))
    (hRb : ∀ W, Errs3 aB aT aS W → Calls Tryd.prog 9 #[ruleV r, .string b, .int .i64 t] W (AnswerS W sy .nilIface)) :
    Calls Tryd.prog 3 #[ruleV r, .string a, .string b, .int .i64 t] w fun e w' => e = .returned (.bool true) ∧ Below w.heap.size w w' := by
  have HE := Lib.hid h; clear h
  have HA := Lib.hid hRa; have HB := Lib.hid hRb; clear hRa hRb
  have hbox := Below.refl (w.heap.size + 1) (boxedZ r w)
  go_enter Tryd.func3, Tryd.ntmps3
  go_wp2_with (go_at_call 8; refine (collide_any _ aB aT aS (HE.out.boxedZ r)).mono ?_; rintro e w1 ⟨rfl, hb1⟩; have hB1 := boxB_next hbox hb1; obtain ⟨c0, c1, c2, c3⟩ := box_cellsZ r hB1)
  refine (HA.out _ (HE.out.boxB hB1)).mono ?_
  rintro e w2 ⟨rfl, hb2⟩
  have hB2 := boxB_next hB1 hb2
  obtain ⟨c0', c1', c2', c3'⟩ := box_cellsZ r hB2
  go_wp2_with fail
  refine (HB.out _ (HE.out.boxB hB2)).mono ?_
  rintro e w3 ⟨rfl, hb3⟩
  have hB3 := boxB_next hB2 hb3
  go_wp2
  go_ret
  exact ⟨rfl, boxB_end hB3⟩

theorem ringS_get {n : Nat} {f : Nat → Nat} (hf : Bits n f) (k : Nat) (hk : k < n) (h : k < (ringS n f).size) : ((ringS n f)[k]'h).toNat = 48 + f k := by
  have hl := ringL_at hf k hk
  have e : (ringS n f)[k]'h = UInt8.ofNat (48 + f k) := by
    have h2 : k < (ringL n f).length := by rw [ringL_length]; exact hk
    have h3 : (ringS n f)[k]'h = (ringL n f)[k]'h2 := rfl
    rw [h3]
    have := hl.1
    rw [List.getElem?_eq_getElem h2] at this
    exact Option.some.inj this
  rw [e, hl.2]
theorem onesF_le {n : Nat} {f : Nat → Nat} (hf : Bits n f) : ∀ k, k ≤ n → onesF f k ≤ k
  | 0, _ => by simp [onesF]
  | k + 1, hk => by have := onesF_le hf k (by omega); have := hf k (by omega); simp only [onesF]; omega
theorem sum_step {n : Nat} {f g : Nat → Nat} (hf : Bits n f) (hg : Bits n g) (hn : n ≤ 16) (k : Nat) (hk : k < n) (h1 : k < (ringS n f).size) (h2 : k < (ringS n g).size) :
    wrap64 (wrap64 ((onesF f k : Int) - onesF g k + wrap64 (((ringS n f)[k]'h1).toNat : Int)) - wrap64 (((ringS n g)[k]'h2).toNat : Int)) = (onesF f (k + 1) : Int) - onesF g (k + 1) := by
  rw [ringS_get hf k hk, ringS_get hg k hk]
  have a := onesF_le hf k (by omega); have b := onesF_le hg k (by omega)
  have c := hf k hk; have d := hg k hk
  simp only [onesF, wrap64]
  omega

theorem keeps_test {ru inv : Nat → Nat} {n m : Nat} {f g : Nat → Nat} (t : Nat) (hr : Rule ru inv) (hn : RingLen n) (hf : Bits n f) (hm : RingLen m) (hg : Bits m g) :
    (!((ringS n (runF ru n t f)).toList == (ringS m (runF ru m t g)).toList) == ((ringS n f).toList == (ringS m g).toList)) = false := by
  have e : ((ringS n (runF ru n t f)).toList == (ringS m (runF ru m t g)).toList) = ((ringS n f).toList == (ringS m g).toList) := by
    rw [Bool.eq_iff_iff, beq_iff_eq, beq_iff_eq]
    simp only [Lib.toList_data, ringS_list]
    constructor
    · intro h
      have h' : ringS n (runF ru n t f) = ringS m (runF ru m t g) := by unfold ringS; rw [h]
      obtain ⟨rfl, e⟩ := ringS_inj (runF_bits hr hn hf t) (runF_bits hr hm hg t) h'
      exact ringL_congr (runF_inj hr hn hf hg t e)
    · intro h
      have h' : ringS n f = ringS m g := by unfold ringS; rw [h]
      obtain ⟨rfl, e⟩ := ringS_inj hf hg h'
      exact ringL_congr (runF_congr ru hn e t)
  rw [e]; simp

set_option maxRecDepth 100000 in
set_option maxHeartbeats 4000000 in
theorem keeps_main (ru inv : Nat → Nat) (n m : Nat) (f g : Nat → Nat) (t : Nat) (w : World) (aB aT aS : Addr) (h : Errs3 aB aT aS w) (hr : Rule ru inv) (hn : RingLen n) (hf : Bits n f) (hm : RingLen m) (hg : Bits m g) (ht : t ≤ 400) :
    Calls Tryd.prog 3 #[ruleV fun k => (ru k : Int), .string (ringS n f), .string (ringS m g), .int .i64 t] w fun e w' => e = .returned (.bool true) ∧ Below w.heap.size w w' := by
  have HE := Lib.hid h; have HR := Lib.hid hr; have HN := Lib.hid hn; have HF := Lib.hid hf; have HM := Lib.hid hm; have HG := Lib.hid hg
  have hsa : (ringS n f).size = n := ringS_size n f
  have hsb : (ringS m g).size = m := ringS_size m g
  have hn16 := hn.2.1
  have hm16 := hm.2.1
  have htest := keeps_test t hr hn hf hm hg
  clear h hr hn hf hm hg
  have hbox := Below.refl (w.heap.size + 1) (boxedZ (fun k => (ru k : Int)) w)
  go_enter Tryd.func3, Tryd.ntmps3
  go_wp2_with (go_at_call 8; refine (collide_any _ aB aT aS (HE.out.boxedZ (fun k => (ru k : Int)))).mono ?_; rintro e w1 ⟨rfl, hb1⟩; have hB1 := boxB_next hbox hb1; obtain ⟨c0, c1, c2, c3⟩ := box_cellsZ (fun k => (ru k : Int)) hB1)
  refine (Run_good ru inv n f t _ aB aT aS (HE.out.boxB hB1) HR.out HN.out HF.out (by omega)).mono ?_
  rintro e w2 ⟨rfl, hb2⟩
  have hB2 := boxB_next hB1 hb2
  obtain ⟨c0', c1', c2', c3'⟩ := box_cellsZ (fun k => (ru k : Int)) hB2
  go_wp2_with fail
  refine (Run_good ru inv m g t _ aB aT aS (HE.out.boxB hB2) HR.out HM.out HG.out (by omega)).mono ?_
  rintro e w3 ⟨rfl, hb3⟩
  have hB3 := boxB_next hB2 hb3
  clear hb1 hb2 hb3 c0 c1 c2 c3 c0' c1' c2' c3'
  go_wp2
  clear htest
  go_loopw [14, 15] (fun v i wr => ∃ k : Nat, k ≤ t ∧ v = .string (ringS n (runF ru n k f)) ∧ i = .int .i64 ((k : Int) - 1) ∧ Hid (Below (w.heap.size + 1) (boxedZ (fun k => (ru k : Int)) w) wr)) (fun _ i _ => (intOf i + 1).toNat)
  case atStart => exact ⟨t, by omega, rfl, rfl, hB3⟩
  case round =>
    obtain ⟨k, hk, rfl, rfl, HB⟩ := hrel
    clear hB1 hB2 hB3 hbox
    obtain ⟨c0, c1, c2, c3⟩ := box_cellsZ (fun k => (ru k : Int)) HB.out
    by_cases hk0 : 0 < k
    · obtain ⟨j, hj⟩ : ∃ j, k = j + 1 := ⟨k - 1, by omega⟩
      subst hj
      have hbk := Back_good ru inv n (runF ru n (j + 1) f) j wr aB aT aS (HE.out.boxB HB.out) HR.out HN.out (runF_bits HR.out HN.out HF.out _) (by omega)
      rw [ringS_congr (show EqOn n (stepF inv n (j % 2) (runF ru n (j + 1) f)) (runF ru n j f) from stepF_back HR.out HN.out (by omega) (runF_bits HR.out HN.out HF.out j))] at hbk
      rw [show ((j + 1 : Nat) : Int) - 1 = (j : Int) by omega]
      go_wp2_with (go_at_call 10; refine hbk.mono ?_; rintro e w4 ⟨rfl, hb4⟩)
      go_roundw
      case rel => exact ⟨j, by omega, rfl, by go_num, boxB_next HB.out hb4⟩
      case measure => simp [intOf]
    · obtain rfl : k = 0 := by omega
      rw [show ringS n (runF ru n 0 f) = ringS n f from rfl]
      by_cases h0 : ru 0 = 0
      · by_cases h3 : ru 3 = 3
        · rw [h0] at c0
          rw [h3] at c3
          have HO : Hid (onesF (runF ru n t f) n = onesF f n) := runF_ones HR.out h0 h3 HN.out HF.out t
          have hX := runF_bits HR.out HN.out HF.out t
          clear h0 h3
          have HX := Lib.hid hX; clear hX
          have hsx : (ringS n (runF ru n t f)).size = n := ringS_size n _
          go_wp2
          go_loopw [18, 19] (fun v i wq => ∃ k : Nat, k ≤ n ∧ i = .int .i64 k ∧ v = .int .i64 ((onesF f k : Int) - onesF (runF ru n t f) k) ∧ Hid (Below (w.heap.size + 1) (boxedZ (fun k => (ru k : Int)) w) wq)) (fun _ i _ => n - (intOf i).toNat)
          case atStart => exact ⟨0, by omega, rfl, rfl, HB⟩
          case round =>
            obtain ⟨k, hk, rfl, rfl, HB⟩ := hrel
            by_cases hlt : k < n
            · go_wp2
              go_quiet (fail)
              go_wp2
              refine ⟨⟨k + 1, by omega, by go_num, congrArg (Value.int .i64) (sum_step HF.out HX.out hn16 k hlt _ _), below_drewN HB.out nq⟩, by simp [intOf]; omega⟩
            · obtain rfl : k = n := by omega
              have hz : ((onesF f k : Int) - onesF (runF ru k t f) k) = 0 := by rw [HO.out]; omega
              rw [hz]
              go_wp2
              go_ret
              exact ⟨rfl, boxB_end HB.out⟩
        · go_wp2
          go_ret
          exact ⟨rfl, boxB_end HB.out⟩
      · go_wp2
        go_ret
        exact ⟨rfl, boxB_end HB.out⟩

theorem keeps_any (r : Nat → Int) (a b : ByteArray) (t : Int) (w : World) (aB aT aS : Addr) (h : Errs3 aB aT aS w) (ha : a.size ≤ 9223372036854775807) (hb : b.size ≤ 9223372036854775807) :
    Calls Tryd.prog 3 #[ruleV r, .string a, .string b, .int .i64 t] w fun e w' => e = .returned (.bool true) ∧ Below w.heap.size w w' := by
  by_cases hl : 16 < a.size ∨ 16 < b.size
  · exact keeps_long r a b t w aB aT aS h hl
  · have ha16 : a.size ≤ 16 := by omega
    have hb16 : b.size ≤ 16 := by omega
    by_cases ca : atCode r a.data.toList t 10000 = 0
    · obtain ⟨k1, k2, k3, k4⟩ := atCode_zero ca
      obtain ⟨hr, hru⟩ := rule_of k1
      obtain ⟨hn, hf, ea⟩ := ring_of a k2
      have et : t = ((t.toNat : Nat) : Int) := by omega
      have hRa : ∀ W, Errs3 aB aT aS W → Calls Tryd.prog 9 #[ruleV r, .string a, .int .i64 t] W (AnswerS W (ringS a.size (runF (fun k => (r k).toNat) a.size t.toNat (bitsOf a))) .nilIface) := fun W hW => by
        have := Run_good (fun k => (r k).toNat) (invOf r) a.size (bitsOf a) t.toNat W aB aT aS hW hr hn hf (by omega)
        rw [← ruleV_congr hru, ← ea, ← et] at this
        exact this
      by_cases cb : atCode r b.data.toList t 10000 = 0
      · obtain ⟨_, m2, _, _⟩ := atCode_zero cb
        obtain ⟨hm, hg, eb⟩ := ring_of b m2
        by_cases ht : 400 < t
        · refine keeps_many r a b t w aB aT aS _ (ringS b.size (runF (fun k => (r k).toNat) b.size t.toNat (bitsOf b))) h ha16 hb16 ht hRa fun W hW => ?_
          have := Run_good (fun k => (r k).toNat) (invOf r) b.size (bitsOf b) t.toNat W aB aT aS hW hr hm hg (by omega)
          rw [← ruleV_congr hru, ← eb, ← et] at this
          exact this
        · have := keeps_main (fun k => (r k).toNat) (invOf r) a.size b.size (bitsOf a) (bitsOf b) t.toNat w aB aT aS h hr hn hf hm hg (by omega)
          rw [← ruleV_congr hru, ← ea, ← eb, ← et] at this
          exact this
      · have hle := atCode_le r b.data.toList t 10000
        have hRb := fun W (hW : Errs3 aB aT aS W) => Run_bad r b t W aB aT aS hW hb cb
        generalize atCode r b.data.toList t 10000 = c at cb hle hRb
        rcases (show c = 1 ∨ c = 2 ∨ c = 3 by omega) with rfl | rfl | rfl
        · exact keeps_err2 r a b t w aB aT aS aT _ _ h ha16 hb16 hRa hRb
        · exact keeps_err2 r a b t w aB aT aS aB _ _ h ha16 hb16 hRa hRb
        · exact keeps_err2 r a b t w aB aT aS aS _ _ h ha16 hb16 hRa hRb
    · have hle := atCode_le r a.data.toList t 10000
      have hRa := fun W (hW : Errs3 aB aT aS W) => Run_bad r a t W aB aT aS hW ha ca
      have hRb : ∃ sy vy, ∀ W, Errs3 aB aT aS W → Calls Tryd.prog 9 #[ruleV r, .string b, .int .i64 t] W (AnswerS W sy vy) := by
        by_cases cb : atCode r b.data.toList t 10000 = 0
        · obtain ⟨k1, m2, k3, k4⟩ := atCode_zero cb
          obtain ⟨hr, hru⟩ := rule_of k1
          obtain ⟨hm, hg, eb⟩ := ring_of b m2
          have et : t = ((t.toNat : Nat) : Int) := by omega
          refine ⟨ringS b.size (runF (fun k => (r k).toNat) b.size t.toNat (bitsOf b)), .nilIface, fun W hW => ?_⟩
          have := Run_good (fun k => (r k).toNat) (invOf r) b.size (bitsOf b) t.toNat W aB aT aS hW hr hm hg (by omega)
          rw [← ruleV_congr hru, ← eb, ← et] at this
          exact this
        · exact ⟨⟨#[]⟩, errOf aB aT aS (atCode r b.data.toList t 10000), fun W hW => Run_bad r b t W aB aT aS hW hb cb⟩
      obtain ⟨sy, vy, hRb⟩ := hRb
      generalize atCode r a.data.toList t 10000 = c at ca hle hRa
      rcases (show c = 1 ∨ c = 2 ∨ c = 3 by omega) with rfl | rfl | rfl
      · exact keeps_err1 r a b t w aB aT aS aT _ sy vy h ha16 hb16 hRa hRb
      · exact keeps_err1 r a b t w aB aT aS aB _ sy vy h ha16 hb16 hRa hRb
      · exact keeps_err1 r a b t w aB aT aS aS _ sy vy h ha16 hb16 hRa hRb
end Go.Proofs.YtlckljibajhhkaaDoor
