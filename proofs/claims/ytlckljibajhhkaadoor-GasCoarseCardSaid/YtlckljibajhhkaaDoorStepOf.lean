/-
  The document's answer: StepOf and RunOf: of a right rule, a right ring and a time they are what stepF and runF say.
-/
import Derived.Test.YtlckljibajhhkaaDoorGas
import Derived.Test.YtlckljibajhhkaaDoorRef
namespace Go.Proofs.YtlckljibajhhkaaDoor
open Go.RowKit

theorem ringS_at {n : Nat} {f : Nat → Nat} (hf : Bits n f) (k : Nat) (hk : k < n) (h : k < (ringS n f).size) : ((ringS n f)[k]'h).toNat = 48 + f k := by
  have hl := ringL_at hf k hk
  have e : (ringS n f)[k]'h = UInt8.ofNat (48 + f k) := by
    have h2 : k < (ringL n f).length := by rw [ringL_length]; exact hk
    have h3 : (ringS n f)[k]'h = (ringL n f)[k]'h2 := rfl
    rw [h3]
    have := hl.1
    rw [List.getElem?_eq_getElem h2] at this
    exact Option.some.inj this
  rw [e, hl.2]
theorem left_plain {n p q : Nat} (hn : RingLen n) (hp : p ≤ 1) (hq : 2 * q < n) : leftOf n p q = 2 * q + p := by
  have := hn.2.2; unfold leftOf; exact Nat.mod_eq_of_lt (by omega)
theorem right_plain {n p q : Nat} (hn : RingLen n) (hp : p ≤ 1) (hq : 2 * q < n) : rightOf n p q = if 2 * q + p + 1 = n then 0 else 2 * q + p + 1 := by
  have := hn.2.2; unfold rightOf
  split
  · rename_i h; rw [h]; exact Nat.mod_self n
  · exact Nat.mod_eq_of_lt (by omega)

set_option maxRecDepth 100000 in
set_option maxHeartbeats 4000000 in
theorem stepOf_any (ru inv : Nat → Nat) (f : Nat → Nat) (n t : Nat) (w : World) (hr : Rule ru inv) (hf : Bits n f) (hn : RingLen n) (ht : t ≤ 1000000) :
    Calls Tryd.prog 19 #[ruleV fun k => (ru k : Int), .string (ringS n f), .int .i64 t] w fun e w' => e = .returned (.string (ringS n (stepF ru n (t % 2) f))) ∧ Below w.heap.size w w' := by
  obtain ⟨i0, hi, hz0, hz1, hz2⟩ := info_parts Tryd.info5
  obtain ⟨p, hp, hp1⟩ : ∃ p, t % 2 = p ∧ p ≤ 1 := ⟨_, rfl, by omega⟩
  rw [hp]
  have hpI : (t : Int) % 2 = (p : Int) := by omega
  have hpB : ((p : Int) == 1) = decide (p = 1) := by
    rcases (show p = 0 ∨ p = 1 by omega) with rfl | rfl <;> rfl
  have hn2 := hn.1
  have hn16 := hn.2.1
  have hss : (ringS n f).size = n := ringS_size n f
  have HR := Lib.hid hr; have HF := Lib.hid hf; have HN := Lib.hid hn
  have HPB := Lib.hid hpB
  clear hr hf hn hp hpB
  go_enter Tryd.func19, Tryd.ntmps19
  go_wp2_with (at_make; refine wpList_make_full _ rfl _ _ 44 rfl (w.heap.size + 1) 5 i0 (.int .u8 0) 1 Tryd.underlying44 hi hz0 hz1 _ _ _ _ n rfl rfl rfl rfl (by rw [hz2]; omega) (by unfold maxLen; omega) (by simp) ?_)
  intro w1 hown hgrow
  have hsz1 : (boxed ru w).heap.size = w.heap.size + 1 := by simp [boxed]
  have HH0 : Hid (HalfAt w1 (w.heap.size + 1) n p 0 (stepF ru n p f)) := HalfAt.zero p _ (by simpa using hown)
  have HB0 : Hid (Below (w.heap.size + 1) (boxed ru w) w1 ∧ w.heap.size + 1 < w1.heap.size) :=
    ⟨(Below.refl _ _).grown hgrow (by omega) (fun _ h => by cases h), (hown.lt (w.heap.size + 1) (by simp [Value.ownBlock])).2⟩
  clear hown hgrow hi hz0 hz1 hz2 hsz1
  go_wp2
  go_loopw [9] (fun i wr => ∃ q I : Nat, i = .int .i64 (I : Int) ∧ Hid (I = 2 * q ∧ 2 * q ≤ n) ∧ Hid (HalfAt wr (w.heap.size + 1) n p q (stepF ru n p f)) ∧ Hid (Below (w.heap.size + 1) (boxed ru w) wr ∧ w.heap.size + 1 < wr.heap.size)) (fun i _ => n + 2 - (intOf i).toNat)
  case atStart => exact ⟨0, 0, rfl, ⟨by omega, by omega⟩, HH0, HB0⟩
  case round =>
    obtain ⟨q, I, rfl, HI, HH, HB⟩ := hrel
    clear HH0 HB0
    by_cases hlt : (I : Int) < (n : Int)
    · have hq2 : 2 * q < n := by have := HI.out.1; omega
      obtain ⟨A, hA, hAn⟩ : ∃ A : Nat, A = leftOf n p q ∧ A < n := ⟨_, rfl, left_lt HN.out p q⟩
      obtain ⟨B, hB, hBn⟩ : ∃ B : Nat, B = rightOf n p q ∧ B < n := ⟨_, rfl, right_lt HN.out p q⟩
      obtain ⟨xa, hxa, hxa2⟩ : ∃ x, x = f A ∧ x < 2 := ⟨_, rfl, HF.out A hAn⟩
      obtain ⟨xb, hxb, hxb2⟩ : ∃ x, x = f B ∧ x < 2 := ⟨_, rfl, HF.out B hBn⟩
      obtain ⟨K, hK, hK4⟩ : ∃ K, K = 2 * xa + xb ∧ K < 4 := ⟨_, rfl, by omega⟩
      obtain ⟨R, hR, hR4⟩ : ∃ R, R = ru K ∧ R < 4 := ⟨_, rfl, HR.out.lt K hK4⟩
      have hba : ((ringS n f)[A]'(by rw [hss]; exact hAn)).toNat = 48 + xa := by rw [hxa]; exact ringS_at HF.out A hAn _
      have hbb : ((ringS n f)[B]'(by rw [hss]; exact hBn)).toNat = 48 + xb := by rw [hxb]; exact ringS_at HF.out B hBn _
      have hck : wr.cell? ⟨w.heap.size, K, none⟩ = some (.int .i64 (R : Int)) := by rw [hR]; exact (HB.out.1.cell (p := ⟨w.heap.size, K, none⟩) (show w.heap.size < w.heap.size + 1 by omega)).trans (boxed_cell ru w K hK4)
      obtain ⟨va, hoa⟩ : ∃ v, wr.cell? ⟨w.heap.size + 1, A, none⟩ = some (.int .u8 v) := ⟨_, HH.out.cell A hAn⟩
      obtain ⟨vb, hob⟩ : ∃ v, wr.cell? ⟨w.heap.size + 1, B, none⟩ = some (.int .u8 v) := ⟨_, HH.out.cell B hBn⟩
      have hfa : wr.frozen? ⟨w.heap.size + 1, A, none⟩ = false := HH.out.free A
      have hfb : wr.frozen? ⟨w.heap.size + 1, B, none⟩ = false := HH.out.free B
      have HM : Hid (R = madeOf ru n p f q) := by show R = _; rw [hR, hK, hxa, hxb, hA, hB]; rfl
      have HA := Lib.hid hA; have HB' := Lib.hid hB
      have hAp : A = I + p := by rw [hA, left_plain HN.out hp1 hq2, HI.out.1]
      have hBp : B = if A + 1 = n then 0 else A + 1 := by rw [hB, right_plain HN.out hp1 hq2, hAp, HI.out.1]
      have hKI : (xa : Int) * 2 + (xb : Int) = (K : Int) := by omega
      clear hxa hxb hR hK hA hB
      have hAB : ¬ A = B := by rw [HA.out, HB'.out]; exact left_ne_right HN.out hp1 hq2
      have hAB' : ¬ B = A := fun e => hAB e.symm
      have hw1 : IntKind.u8.wrap (48 + (xa : Int) - 48) = (xa : Int) := by rw [IntKind.wrap_u8]; omega
      have hw2 : IntKind.u8.wrap (48 + (xb : Int) - 48) = (xb : Int) := by rw [IntKind.wrap_u8]; omega
      have hw3 : IntKind.i64.wrap (xa : Int) = (xa : Int) := by apply IntWalk.i64_in _ <;> omega
      have hw4 : IntKind.i64.wrap (xb : Int) = (xb : Int) := by apply IntWalk.i64_in _ <;> omega
      have hw5 : IntKind.i64.wrap ((xa : Int) * 2) = (xa : Int) * 2 := by apply IntWalk.i64_in _ <;> omega
      have hw6 : IntKind.i64.wrap (K : Int) = (K : Int) := by apply IntWalk.i64_in _ <;> omega
      have HEnd : ∀ k : Nat, HalfAt (((wr.drewN k).setCell ⟨w.heap.size + 1, A, none⟩ (.int .u8 (48 + (R : Int) / 2))).setCell ⟨w.heap.size + 1, B, none⟩ (.int .u8 (48 + (R : Int) % 2))) (w.heap.size + 1) n p (q + 1) (stepF ru n p f) := by
        intro k
        have h := HH.out.step (k := k) HN.out hp1 hq2
        rw [stepF_left ru f HN.out hp1 hq2, stepF_right ru f HN.out hp1 hq2, ← HM.out, ← HA.out, ← HB'.out] at h
        exact h
      have HEND := Lib.hid HEnd; clear HEnd
      by_cases hp0 : p = 0
      · have eI : I = A := by omega
        have eB : (A : Int) + 1 = (B : Int) := by have := HN.out.2.2; have := HI.out.1; split at hBp <;> omega
        have tB : ((B : Int) == (n : Int)) = false := by simp; omega
        have tp : ((p : Int) == 1) = false := by rw [hp0]; rfl
        subst eI
        clear hp0 hAp hBp
        go_wp2
        go_quiet (fail)
        clear hw1 hw2 hw3 hw4 hw5 hw6 hba hbb hck
        go_wp2
        refine ⟨⟨q + 1, I + 2, by go_num, ⟨by have := HI.out.1; omega, by have := HN.out.2.2; omega⟩, HEND.out nq, ?_⟩, by simp [intOf]; omega⟩
        exact ⟨((below_drewN HB.out.1 _).setCell (p := ⟨w.heap.size + 1, I, none⟩) (Nat.le_refl _) _).setCell (p := ⟨w.heap.size + 1, B, none⟩) (Nat.le_refl _) _, by simp; exact HB.out.2⟩
      · have hp1' : p = 1 := by omega
        have eA : (I : Int) + 1 = (A : Int) := by omega
        have tp : ((p : Int) == 1) = true := by rw [hp1']; rfl
        by_cases hz : A + 1 = n
        · have eB : B = 0 := by rw [hBp, if_pos hz]
          have tB : ((A : Int) + 1 == (n : Int)) = true := by simp; omega
          subst eB
          have hAp' := Lib.hid hAp
          clear hp0 hp1' hBp hz hAp
          go_wp2
          go_quiet (fail)
          clear hw1 hw2 hw3 hw4 hw5 hw6 hba hbb hck
          go_wp2
          refine ⟨⟨q + 1, I + 2, by go_num, ⟨by have := HI.out.1; omega, by have := HN.out.2.2; omega⟩, HEND.out nq, ?_⟩, by simp [intOf]; omega⟩
          exact ⟨((below_drewN HB.out.1 _).setCell (p := ⟨w.heap.size + 1, A, none⟩) (Nat.le_refl _) _).setCell (p := ⟨w.heap.size + 1, 0, none⟩) (Nat.le_refl _) _, by simp; exact HB.out.2⟩
        · have eB : (A : Int) + 1 = (B : Int) := by rw [hBp, if_neg hz]; omega
          have tB : ((B : Int) == (n : Int)) = false := by simp; omega
          have hAp' := Lib.hid hAp
          clear hp0 hp1' hBp hz hAp
          go_wp2
          go_quiet (fail)
          clear hw1 hw2 hw3 hw4 hw5 hw6 hba hbb hck
          go_wp2
          refine ⟨⟨q + 1, I + 2, by go_num, ⟨by have := HI.out.1; omega, by have := HN.out.2.2; omega⟩, HEND.out nq, ?_⟩, by simp [intOf]; omega⟩
          exact ⟨((below_drewN HB.out.1 _).setCell (p := ⟨w.heap.size + 1, A, none⟩) (Nat.le_refl _) _).setCell (p := ⟨w.heap.size + 1, B, none⟩) (Nat.le_refl _) _, by simp; exact HB.out.2⟩
    · have h2 : 2 * q = n := by have := HI.out; omega
      have hcv := string_of_row (stepF_bits HR.out HN.out HF.out) wr (w.heap.size + 1) n (HH.out.done HN.out h2)
      clear h2
      go_wp2
      go_ret
      exact ⟨rfl, (box_below _ _).trans (HB.out.1.mono (by omega))⟩
end Go.Proofs.YtlckljibajhhkaaDoor
