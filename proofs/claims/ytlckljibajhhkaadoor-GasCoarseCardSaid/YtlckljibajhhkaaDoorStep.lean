/-
  gas.step: of a ring of 2 to 16 cells, an even number of them, and a rule from 0 to 3 to numbers from 0 to 3 it makes a new row of bytes, cell by cell as stepF says.
-/
import Derived.Test.YtlckljibajhhkaaDoorAt
import Derived.Test.YtlckljibajhhkaaDoorPure
import Derived.OwnWalk
import Derived.Deep.QuietTactic
import Derived.BigQuiet
namespace Go.Proofs.YtlckljibajhhkaaDoor
open Go.RowKit

theorem Tryd.info5 : (Tryd.prog.info? 5).map (fun i => (i.zero, i.size, i.bytes)) = some (some (.int .u8 0), 1, 1) := by kernel_rfl

/-- the row at block b holds the cells of f, as bytes -/
def RowAt (w : World) (b n : Nat) (f : Nat → Nat) : Prop := ∀ j, j < n → w.cell? ⟨b, j, none⟩ = some (.int .u8 (48 + (f j : Int)))
theorem RowAt.below {w w' : World} {b n B : Nat} {f : Nat → Nat} (h : RowAt w b n f) (hb : Below B w w') (hB : b < B) : RowAt w' b n f :=
  fun j hj => (hb.cell (p := ⟨b, j, none⟩) hB).trans (h j hj)
theorem RowAt.congr {w : World} {b n : Nat} {f g : Nat → Nat} (h : RowAt w b n f) (e : EqOn n f g) : RowAt w b n g := fun j hj => by rw [h j hj, e j hj]
/-- pairs below q are written, the others are still 0 -/
structure HalfAt (w : World) (b n p q : Nat) (g : Nat → Nat) : Prop where
  cell : ∀ j, j < n → w.cell? ⟨b, j, none⟩ = some (.int .u8 (if pairOf n p j < q then 48 + (g j : Int) else 0))
  free : ∀ j, w.frozen? ⟨b, j, none⟩ = false

theorem HalfAt.zero {w1 : World} {S n : Nat} (p : Nat) (g : Nat → Nat) (h : w1.ownsRow S 5 1 (.slice (some ⟨S, 0, none⟩) n n) n (madeCells #[Value.int IntKind.u8 0] n).toList) : HalfAt w1 S n p 0 g := by
  refine ⟨fun j hj => ?_, fun j => h.frozenAt j⟩
  rw [h.cellAt j (by omega), toList_madeCells_one, List.getElem?_replicate, if_pos hj, if_neg (by omega)]

theorem HalfAt.step {w : World} {S n p q k : Nat} {g : Nat → Nat} (hn : RingLen n) (hp : p ≤ 1) (hq : 2 * q < n) (h : HalfAt w S n p q g) :
    HalfAt (((w.drewN k).setCell ⟨S, leftOf n p q, none⟩ (.int .u8 (48 + (g (leftOf n p q) : Int)))).setCell ⟨S, rightOf n p q, none⟩ (.int .u8 (48 + (g (rightOf n p q) : Int)))) S n p (q + 1) g := by
  have hne := left_ne_right hn hp hq
  have hL := h.cell _ (left_lt hn p q)
  have hR := h.cell _ (right_lt hn p q)
  refine ⟨fun j hj => ?_, fun j => by rw [World.frozen?_setCell, World.frozen?_setCell]; exact h.free j⟩
  by_cases hjr : j = rightOf n p q
  · subst hjr
    rw [World.cell?_setCell_same (u := .int .u8 (if pairOf n p (rightOf n p q) < q then 48 + (g (rightOf n p q) : Int) else 0)), if_pos (by rw [(pair_right hn hp hq).1]; omega)]
    rw [World.cell?_setCell_other _ _ _ _ (by intro e; injection e with _ e _; exact hne e)]
    exact hR
  · rw [World.cell?_setCell_other _ _ _ _ (by intro e; injection e with _ e _; exact hjr e.symm)]
    by_cases hjl : j = leftOf n p q
    · subst hjl
      rw [World.cell?_setCell_same (u := .int .u8 (if pairOf n p (leftOf n p q) < q then 48 + (g (leftOf n p q) : Int) else 0)), if_pos (by rw [(pair_left hn hp hq).1]; omega)]
      exact hL
    · rw [World.cell?_setCell_other _ _ _ _ (by intro e; injection e with _ e _; exact hjl e.symm)]
      have hpq : pairOf n p j ≠ q := by
        intro e
        by_cases hd : (j + n - p) % n % 2 = 0
        · exact hjl (by rw [← e]; exact (left_of_pair hn hp hj hd).symm)
        · exact hjr (by rw [← e]; exact (right_of_pair hn hp hj hd).symm)
      have := h.cell j hj
      rw [show (w.drewN k).cell? ⟨S, j, none⟩ = w.cell? ⟨S, j, none⟩ from rfl, this]
      by_cases hlt : pairOf n p j < q
      · rw [if_pos hlt, if_pos (by omega)]
      · rw [if_neg hlt, if_neg (by omega)]

theorem HalfAt.done {w : World} {S n p q : Nat} {g : Nat → Nat} (hn : RingLen n) (hq : 2 * q = n) (h : HalfAt w S n p q g) : RowAt w S n g := by
  intro j hj
  rw [h.cell j hj, if_pos (by have := pair_lt (p := p) (j := j) hn; omega)]

theorem below_drewN {B : Nat} {a w : World} (h : Below B a w) (n : Nat) : Below B a (w.drewN n) := ⟨h.os, h.tape, h.output, h.size, h.block⟩

def StepPost (w : World) (n : Nat) (g : Nat → Nat) (e : Ending) (w' : World) : Prop :=
  e = .returned (.slice (some ⟨w.heap.size + 1, 0, none⟩) n n) ∧ RowAt w' (w.heap.size + 1) n g ∧ Below w.heap.size w w' ∧ w.heap.size + 1 < w'.heap.size

abbrev boxed (ru : Nat → Nat) (w : World) : World := w.alloc (.cells #[.int .i64 (ru 0 : Int), .int .i64 (ru 1 : Int), .int .i64 (ru 2 : Int), .int .i64 (ru 3 : Int)] 22)
theorem boxed_cell (ru : Nat → Nat) (w : World) (k : Nat) (hk : k < 4) : (boxed ru w).cell? ⟨w.heap.size, k, none⟩ = some (.int .i64 (ru k : Int)) := by
  rcases (show k = 0 ∨ k = 1 ∨ k = 2 ∨ k = 3 by omega) with rfl | rfl | rfl | rfl <;> simp [boxed]

set_option maxRecDepth 100000 in
set_option maxHeartbeats 4000000 in
theorem step_any (ru inv : Nat → Nat) (f : Nat → Nat) (b n cap t : Nat) (w : World) (hr : Rule ru inv) (hf : Bits n f) (hn : RingLen n) (ht : t ≤ 1000000) (hb : b < w.heap.size)
    (hrow : RowAt w b n f) :
    Calls Tryd.prog 24 #[ruleV fun k => (ru k : Int), .slice (some ⟨b, 0, none⟩) n cap, .int .i64 t] w (StepPost w n (stepF ru n (t % 2) f)) := by
  obtain ⟨i0, hi, hz0, hz1, hz2⟩ := info_parts Tryd.info5
  obtain ⟨p, hp, hp1⟩ : ∃ p, t % 2 = p ∧ p ≤ 1 := ⟨_, rfl, by omega⟩
  rw [hp]
  have hpI : (t : Int) % 2 = (p : Int) := by omega
  have hn2 := hn.1
  have hn16 := hn.2.1
  have HRU := Lib.hid hr; have HF := Lib.hid hf; have HN := Lib.hid hn; have HROW := Lib.hid hrow
  clear hr hf hn hrow hp
  go_enter Tryd.func24, Tryd.ntmps24
  go_wp2_with (at_make; refine wpList_make_full _ rfl _ _ 44 rfl (w.heap.size + 1) 5 i0 (.int .u8 0) 1 Tryd.underlying44 hi hz0 hz1 _ _ _ _ n rfl rfl rfl rfl (by rw [hz2]; omega) (by unfold maxLen; omega) (by simp) ?_)
  intro w1 hown hgrow
  have hsz1 : (boxed ru w).heap.size = w.heap.size + 1 := by simp [boxed]
  have HH0 : Hid (HalfAt w1 (w.heap.size + 1) n p 0 (stepF ru n p f)) := HalfAt.zero p _ (by simpa using hown)
  have HB0 : Hid (Below (w.heap.size + 1) (boxed ru w) w1 ∧ w.heap.size + 1 < w1.heap.size) :=
    ⟨(Below.refl _ _).grown hgrow (by omega) (fun _ h => by cases h), (hown.lt (w.heap.size + 1) (by simp [Value.ownBlock])).2⟩
  clear hown hgrow hi hz0 hz1 hz2 hsz1
  go_wp2
  go_loopw [9] (fun i wr => ∃ q I : Nat, i = .int .i64 (I : Int) ∧ Hid (I = 2 * q + p ∧ 2 * q ≤ n) ∧ Hid (HalfAt wr (w.heap.size + 1) n p q (stepF ru n p f)) ∧ Hid (Below (w.heap.size + 1) (boxed ru w) wr ∧ w.heap.size + 1 < wr.heap.size)) (fun i _ => n + 2 - (intOf i).toNat)
  case atStart => exact ⟨0, p, by rw [hpI], ⟨by omega, by omega⟩, HH0, HB0⟩
  case round =>
    obtain ⟨q, I, rfl, HI, HH, HB⟩ := hrel
    clear HH0 HB0
    by_cases hlt : (I : Int) < (n : Int) + (p : Int)
    · have hI1 : IntKind.i64.wrap ((I : Int) + 1) = (I : Int) + 1 := by apply IntWalk.i64_in _ <;> omega
      obtain ⟨A, hA, hAn⟩ : ∃ A : Nat, A = I % n ∧ A < n := ⟨_, rfl, Nat.mod_lt _ (by omega)⟩
      obtain ⟨B, hB, hBn⟩ : ∃ B : Nat, B = (I + 1) % n ∧ B < n := ⟨_, rfl, Nat.mod_lt _ (by omega)⟩
      have hAI : ((I : Int)).tmod (n : Int) = (A : Int) := by rw [hA]; exact (Int.ofNat_tmod I n).symm
      have hBI : ((I : Int) + 1).tmod (n : Int) = (B : Int) := by rw [hB]; exact (Int.ofNat_tmod (I + 1) n).symm
      have HA : Hid (A = leftOf n p q) := by show A = _; rw [hA, HI.out.1]; rfl
      have HB' : Hid (B = rightOf n p q) := by show B = _; rw [hB, HI.out.1]; rfl
      clear hA hB
      have hq2 : 2 * q < n := by have := HI.out.1; omega
      obtain ⟨xa, hxa, hxa2⟩ : ∃ x, x = f A ∧ x < 2 := ⟨_, rfl, HF.out A hAn⟩
      obtain ⟨xb, hxb, hxb2⟩ : ∃ x, x = f B ∧ x < 2 := ⟨_, rfl, HF.out B hBn⟩
      obtain ⟨K, hK, hK4⟩ : ∃ K, K = 2 * xa + xb ∧ K < 4 := ⟨_, rfl, by omega⟩
      obtain ⟨R, hR, hR4⟩ : ∃ R, R = ru K ∧ R < 4 := ⟨_, rfl, HRU.out.lt K hK4⟩
      have hbw : Below w.heap.size w wr := (box_below _ _).trans (HB.out.1.mono (by omega))
      have hca : wr.cell? ⟨b, A, none⟩ = some (.int .u8 (48 + (xa : Int))) := by rw [hxa]; exact HROW.out.below hbw hb A hAn
      have hcb : wr.cell? ⟨b, B, none⟩ = some (.int .u8 (48 + (xb : Int))) := by rw [hxb]; exact HROW.out.below hbw hb B hBn
      have hck : wr.cell? ⟨w.heap.size, K, none⟩ = some (.int .i64 (R : Int)) := by rw [hR]; exact (HB.out.1.cell (p := ⟨w.heap.size, K, none⟩) (show w.heap.size < w.heap.size + 1 by omega)).trans (boxed_cell ru w K hK4)
      obtain ⟨va, hoa⟩ : ∃ v, wr.cell? ⟨w.heap.size + 1, A, none⟩ = some (.int .u8 v) := ⟨_, HH.out.cell A hAn⟩
      obtain ⟨vb, hob⟩ : ∃ v, wr.cell? ⟨w.heap.size + 1, B, none⟩ = some (.int .u8 v) := ⟨_, HH.out.cell B hBn⟩
      have hfa : wr.frozen? ⟨w.heap.size + 1, A, none⟩ = false := HH.out.free A
      have hfb : wr.frozen? ⟨w.heap.size + 1, B, none⟩ = false := HH.out.free B
      have HM : Hid (R = madeOf ru n p f q) := by show R = _; rw [hR, hK, hxa, hxb, HA.out, HB'.out]; rfl
      have hKI : 2 * (xa : Int) + (xb : Int) = (K : Int) := by omega
      clear hxa hxb hR hK hbw
      have hw1 : IntKind.u8.wrap (48 + (xa : Int) - 48) = (xa : Int) := by rw [IntKind.wrap_u8]; omega
      have hw2 : IntKind.u8.wrap (48 + (xb : Int) - 48) = (xb : Int) := by rw [IntKind.wrap_u8]; omega
      have hw3 : IntKind.i64.wrap (xa : Int) = (xa : Int) := by apply IntWalk.i64_in _ <;> omega
      have hw4 : IntKind.i64.wrap (xb : Int) = (xb : Int) := by apply IntWalk.i64_in _ <;> omega
      have hw5 : IntKind.i64.wrap (2 * (xa : Int)) = 2 * (xa : Int) := by apply IntWalk.i64_in _ <;> omega
      have hw6 : IntKind.i64.wrap (K : Int) = (K : Int) := by apply IntWalk.i64_in _ <;> omega
      go_wp2
      go_quiet (fail)
      go_wp2
      go_quiet (fail)
      clear hw1 hw2 hw3 hw4 hw5 hw6 hca hcb hck hAI hBI hI1
      have hAB : ¬ A = B := by rw [HA.out, HB'.out]; exact left_ne_right HN.out hp1 hq2
      have hAB' : ¬ B = A := fun e => hAB e.symm
      go_wp2
      refine ⟨⟨q + 1, I + 2, by go_num, ⟨by have := HI.out.1; omega, by have := HN.out.2.2; omega⟩, ?_, ?_⟩, by simp [intOf]; omega⟩
      · have h := HH.out.step (k := 0) HN.out hp1 hq2
        rw [stepF_left ru f HN.out hp1 hq2, stepF_right ru f HN.out hp1 hq2, ← HM.out, ← HA.out, ← HB'.out] at h
        exact ⟨h.cell, h.free⟩
      · exact ⟨((below_drewN HB.out.1 _).setCell (p := ⟨w.heap.size + 1, A, none⟩) (Nat.le_refl _) _).setCell (p := ⟨w.heap.size + 1, B, none⟩) (Nat.le_refl _) _, by simp; exact HB.out.2⟩
    · go_wp2
      go_ret
      have h2 : 2 * q = n := by have := HI.out; omega
      exact ⟨rfl, HH.out.done HN.out h2, (box_below _ _).trans (HB.out.1.mono (by omega)), HB.out.2⟩
end Go.Proofs.YtlckljibajhhkaaDoor
