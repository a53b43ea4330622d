/-
  gas.Coarse: of a right ring how many of its pairs are each of 0 to 3.
-/
import Derived.Test.YtlckljibajhhkaaDoorGas
import Derived.Test.YtlckljibajhhkaaDoorStepOf
import Derived.RegionTactic
import Derived.BigRegion
namespace Go.Proofs.YtlckljibajhhkaaDoor
open Go.RowKit

theorem Tryd.info3 : (Tryd.prog.info? 3).map (fun i => (i.zero, i.size, i.bytes)) = some (some (.int .i64 0), 1, 8) := by kernel_rfl

/-- how many of the first q pairs are k -/
def cntF (f : Nat → Nat) (k : Nat) : Nat → Nat
  | 0 => 0
  | q + 1 => cntF f k q + if 2 * f (2 * q) + f (2 * q + 1) = k then 1 else 0
theorem cntF_le (f : Nat → Nat) (k : Nat) : ∀ q, cntF f k q ≤ q
  | 0 => by simp [cntF]
  | q + 1 => by have := cntF_le f k q; simp only [cntF]; split <;> omega

/-- the row at block b holds the counts of the first q pairs -/
structure CntAt (w : World) (b : Nat) (f : Nat → Nat) (q : Nat) : Prop where
  cell : ∀ k, k < 4 → w.cell? ⟨b, k, none⟩ = some (.int .i64 (cntF f k q : Int))
  free : ∀ k, w.frozen? ⟨b, k, none⟩ = false
theorem CntAt.zero {w1 : World} {S : Nat} (f : Nat → Nat) (h : w1.ownsRow S 3 1 (.slice (some ⟨S, 0, none⟩) 4 4) 4 (madeCells #[Value.int IntKind.i64 0] 4).toList) : CntAt w1 S f 0 := by
  refine ⟨fun j hj => ?_, fun j => h.frozenAt j⟩
  rw [h.cellAt j (by omega), toList_madeCells_one, List.getElem?_replicate, if_pos hj]; rfl
theorem CntAt.step {w : World} {S q : Nat} {f : Nat → Nat} (h : CntAt w S f q) (hK : 2 * f (2 * q) + f (2 * q + 1) < 4) (j : Nat) :
    CntAt ((w.drewN j).setCell ⟨S, 2 * f (2 * q) + f (2 * q + 1), none⟩ (.int .i64 ((cntF f (2 * f (2 * q) + f (2 * q + 1)) q : Int) + 1))) S f (q + 1) := by
  refine ⟨fun k hk => ?_, fun k => by rw [World.frozen?_setCell]; exact h.free k⟩
  by_cases e : k = 2 * f (2 * q) + f (2 * q + 1)
  · rw [e, World.cell?_setCell_same (u := .int .i64 (cntF f (2 * f (2 * q) + f (2 * q + 1)) q : Int)) _ _ _ (show (w.drewN j).cell? ⟨S, 2 * f (2 * q) + f (2 * q + 1), none⟩ = _ from h.cell _ hK)]
    simp [cntF]
  · rw [World.cell?_setCell_other _ _ _ _ (by intro e'; injection e' with _ e' _; exact e e'.symm)]
    have := h.cell k hk
    rw [show (w.drewN j).cell? ⟨S, k, none⟩ = w.cell? ⟨S, k, none⟩ from rfl, this]
    simp only [cntF]
    rw [if_neg (fun x => e x.symm)]; rfl

def CntPost (w : World) (f : Nat → Nat) (q : Nat) (v : Value) (w' : World) : Prop := ∃ b : Nat, v = .slice (some ⟨b, 0, none⟩) 4 4 ∧ w.heap.size ≤ b ∧ b < w'.heap.size ∧ CntAt w' b f q

set_option maxRecDepth 100000 in
set_option maxHeartbeats 4000000 in
theorem Coarse_good (n : Nat) (f : Nat → Nat) (w : World) (aB aT aS : Addr) (h : Errs3 aB aT aS w) (hn : RingLen n) (hf : Bits n f) :
    Calls Tryd.prog 16 #[.string (ringS n f)] w fun e w' => ∃ v, e = .returned (.tuple #[v, .nilIface]) ∧ CntPost w f (n / 2) v w' ∧ Below w.heap.size w w' := by
  obtain ⟨i0, hi, hz0, hz1, hz2⟩ := info_parts Tryd.info3
  have htx := text_any (ringS n f) w aB aT h.bound h.text (by rw [ringS_size]; have := hn.2.1; omega)
  rw [textV_code aB aT aS, ringS_list, ringCode_ring hn hf, show errOf aB aT aS 0 = .nilIface from rfl] at htx
  have hss : (ringS n f).size = n := ringS_size n f
  have hn2 := hn.1
  have hn16 := hn.2.1
  have HH := Lib.hid h; have HN := Lib.hid hn; have HF := Lib.hid hf
  clear h hn hf
  go_enter Tryd.func16, Tryd.ntmps16
  go_wp2_with (first
    | (go_at_call 29; refine htx.mono ?_; rintro e w1 ⟨rfl, hb1⟩)
    | (at_make; refine wpList_make_full _ rfl _ _ 34 rfl w1.heap.size 3 i0 (.int .i64 0) 1 Tryd.underlying34 hi hz0 hz1 _ _ _ _ 4 rfl rfl rfl rfl (by rw [hz2]; omega) (by unfold maxLen; omega) (by simp) ?_))
  intro w2 hown hgrow
  have HC0 : Hid (CntAt w2 w1.heap.size f 0) := CntAt.zero f (by simpa using hown)
  have HB0 : Hid (Below w.heap.size w w2 ∧ w1.heap.size < w2.heap.size) :=
    ⟨Below.trans hb1 (((Below.refl _ _).grown hgrow (Nat.le_refl _) (fun _ h => by cases h)).mono hb1.size), (hown.lt w1.heap.size (by simp [Value.ownBlock])).2⟩
  have hsz1 : w.heap.size ≤ w1.heap.size := hb1.size
  clear hown hgrow hi hz0 hz1 hz2 htx hb1
  go_wp2
  go_loopw [6] (fun i wr => ∃ q I : Nat, i = .int .i64 (I : Int) ∧ Hid (I = 2 * q ∧ 2 * q ≤ n) ∧ Hid (CntAt wr w1.heap.size f q) ∧ Hid (Below w.heap.size w wr ∧ w1.heap.size < wr.heap.size)) (fun i _ => n + 2 - (intOf i).toNat)
  case atStart => exact ⟨0, 0, rfl, ⟨rfl, by omega⟩, HC0, HB0⟩
  case round =>
    obtain ⟨q, I, rfl, HI, HC, HB⟩ := hrel
    clear HC0 HB0
    by_cases hlt : (I : Int) < (n : Int)
    · have hI1 : I + 1 < n := by have := HI.out; have := HN.out.2.2; omega
      obtain ⟨xa, hxa, hxa2⟩ : ∃ x, x = f I ∧ x < 2 := ⟨_, rfl, HF.out I (by omega)⟩
      obtain ⟨xb, hxb, hxb2⟩ : ∃ x, x = f (I + 1) ∧ x < 2 := ⟨_, rfl, HF.out (I + 1) hI1⟩
      obtain ⟨K, hK, hK4⟩ : ∃ K, K = 2 * xa + xb ∧ K < 4 := ⟨_, rfl, by omega⟩
      have hba : ((ringS n f)[I]'(by rw [hss]; omega)).toNat = 48 + xa := by rw [hxa]; exact ringS_at HF.out I (by omega) _
      have hbb : ((ringS n f)[I + 1]'(by rw [hss]; exact hI1)).toNat = 48 + xb := by rw [hxb]; exact ringS_at HF.out (I + 1) hI1 _
      obtain ⟨c, hc, hcl⟩ : ∃ c, c = cntF f K q ∧ c ≤ n := ⟨_, rfl, by have := cntF_le f K q; have := HI.out; omega⟩
      have hck : wr.cell? ⟨w1.heap.size, K, none⟩ = some (.int .i64 (c : Int)) := by rw [hc]; exact HC.out.cell K hK4
      have hfk : wr.frozen? ⟨w1.heap.size, K, none⟩ = false := HC.out.free K
      have HK : Hid (K = 2 * f (2 * q) + f (2 * q + 1)) := by show K = _; rw [hK, hxa, hxb, HI.out.1]
      have HCK := Lib.hid hc
      have hKI : 2 * (xa : Int) + (xb : Int) = (K : Int) := by omega
      clear hxa hxb hK hc
      have hw1 : IntKind.u8.wrap (48 + (xa : Int) - 48) = (xa : Int) := by rw [IntKind.wrap_u8]; omega
      have hw2 : IntKind.u8.wrap (48 + (xb : Int) - 48) = (xb : Int) := by rw [IntKind.wrap_u8]; omega
      have hw3 : IntKind.i64.wrap (xa : Int) = (xa : Int) := by apply IntWalk.i64_in _ <;> omega
      have hw4 : IntKind.i64.wrap (xb : Int) = (xb : Int) := by apply IntWalk.i64_in _ <;> omega
      have hw5 : IntKind.i64.wrap (2 * (xa : Int)) = 2 * (xa : Int) := by apply IntWalk.i64_in _ <;> omega
      have hw6 : IntKind.i64.wrap (K : Int) = (K : Int) := by apply IntWalk.i64_in _ <;> omega
      have hw7 : IntKind.i64.wrap ((I : Int) + 1) = (I : Int) + 1 := by apply IntWalk.i64_in _ <;> omega
      have hw8 : IntKind.i64.wrap ((c : Int) + 1) = (c : Int) + 1 := by apply IntWalk.i64_in _ <;> omega
      go_wp2
      go_region
      clear hw1 hw2 hw3 hw4 hw5 hw6 hw7 hw8 hba hbb hck hKI
      go_wp2
      refine ⟨⟨q + 1, I + 2, by go_num, ⟨by have := HI.out.1; omega, by have := HN.out.2.2; have := HI.out.1; omega⟩, ?_, ?_⟩, by simp [intOf]; omega⟩
      · have hs := HC.out.step (by rw [← HK.out]; exact hK4) 0
        rw [← HK.out, ← HCK.out] at hs
        exact ⟨hs.cell, hs.free⟩
      · exact ⟨(HB.out.1.setCell (p := ⟨w1.heap.size, K, none⟩) (by simp; omega) _).drew, by simp; exact HB.out.2⟩
    · have h2 : n / 2 = q := by have := HI.out; have := HN.out.2.2; omega
      have H2 := Lib.hid h2; clear h2
      go_wp2
      go_ret2
      exact ⟨_, rfl, ⟨w1.heap.size, rfl, hsz1, HB.out.2, by rw [H2.out]; exact HC.out⟩, HB.out.1⟩
end Go.Proofs.YtlckljibajhhkaaDoor
