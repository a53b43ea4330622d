/-
  The document's answer: Decimal of 0 and 1; CoarseOf: of a right ring how many of its pairs are each of 0 to 3.
-/
import Derived.Test.YtlckljibajhhkaaDoorCoarse
import Derived.Deep.RegionHeld3
namespace Go.Proofs.YtlckljibajhhkaaDoor
open Go.RowKit

theorem dec_conv (b : UInt8) (w : World) : (convert 44 9 (.slice (some ⟨w.heap.size, 0, none⟩) 1 1)).run Tryd.prog (w.alloc (.cells #[.int .u8 (b.toNat : Int)] 5)) = .ok (.string ⟨#[b]⟩) (w.alloc (.cells #[.int .u8 (b.toNat : Int)] 5)) := by
  have := run_convert_bytes_back (P := Tryd.prog) (w.alloc (.cells #[.int .u8 (b.toNat : Int)] 5)) 44 9 5 ⟨w.heap.size, 0, none⟩ 1 [b] Tryd.underlying44 Tryd.underlying5 Tryd.underlying9 (fun j hj => by
    obtain rfl : j = 0 := by simpa using hj
    simp [Addr.add])
  exact this

set_option maxHeartbeats 1000000 in
theorem dec_0 (w : World) : Calls Tryd.prog 28 #[.int .i64 0] w fun e w' => e = .returned (.string ⟨#[48]⟩) ∧ Below w.heap.size w w' := by
  have hc := dec_conv 48 w
  rw [show ((48 : UInt8).toNat : Int) = 48 by rfl] at hc
  go_enter Tryd.func28, Tryd.ntmps28
  go_wp2
  go_ret
  exact ⟨rfl, box_below _ _⟩
set_option maxHeartbeats 1000000 in
theorem dec_1 (w : World) : Calls Tryd.prog 28 #[.int .i64 1] w fun e w' => e = .returned (.string ⟨#[49]⟩) ∧ Below w.heap.size w w' := by
  have hc := dec_conv 49 w
  rw [show ((49 : UInt8).toNat : Int) = 49 by rfl] at hc
  go_enter Tryd.func28, Tryd.ntmps28
  go_wp2
  go_ret
  exact ⟨rfl, box_below _ _⟩

/-- the row in the midst of pair q, whose number is K: numbers below k are looked at -/
structure MidAt (w : World) (b : Nat) (f : Nat → Nat) (q K k : Nat) : Prop where
  cell : ∀ c, c < 4 → w.cell? ⟨b, c, none⟩ = some (.int .i64 ((cntF f c q : Int) + if c = K ∧ c < k then 1 else 0))
  free : ∀ c, w.frozen? ⟨b, c, none⟩ = false
theorem MidAt.zero {w : World} {b : Nat} {f : Nat → Nat} {q K : Nat} (h : CntAt w b f q) : MidAt w b f q K 0 :=
  ⟨fun c hc => by rw [h.cell c hc, if_neg (by omega)]; simp, h.free⟩
theorem MidAt.four {w : World} {b : Nat} {f : Nat → Nat} {q K : Nat} (hK : K = 2 * f (2 * q) + f (2 * q + 1)) (h : MidAt w b f q K 4) : CntAt w b f (q + 1) :=
  ⟨fun c hc => by
    rw [h.cell c hc]
    simp only [cntF]
    by_cases e : c = K
    · rw [if_pos ⟨e, hc⟩, if_pos (by omega)]; simp
    · rw [if_neg (fun x => e x.1), if_neg (by omega)]; simp, h.free⟩
theorem MidAt.skip {w w' : World} {b : Nat} {f : Nat → Nat} {q K k : Nat} (hb : Below w.heap.size w w') (hlt : b < w.heap.size) (hk : k ≠ K) (h : MidAt w b f q K k) : MidAt w' b f q K (k + 1) :=
  ⟨fun c hc => by
    rw [hb.cell (p := ⟨b, c, none⟩) hlt, h.cell c hc]
    by_cases e : c = K ∧ c < k
    · rw [if_pos e, if_pos (by omega)]
    · rw [if_neg e, if_neg (by omega)], fun c => (hb.frozen (p := ⟨b, c, none⟩) hlt).trans (h.free c)⟩
theorem MidAt.hit {w w' : World} {b : Nat} {f : Nat → Nat} {q K : Nat} (hb : Below w.heap.size w w') (hlt : b < w.heap.size) (hK : K < 4) (h : MidAt w b f q K K) :
    MidAt (w'.setCell ⟨b, K, none⟩ (.int .i64 ((cntF f K q : Int) + 1))) b f q K (K + 1) := by
  have hKc : w'.cell? ⟨b, K, none⟩ = some (.int .i64 ((cntF f K q : Int) + if K = K ∧ K < K then 1 else 0)) := (hb.cell (p := ⟨b, K, none⟩) hlt).trans (h.cell K hK)
  refine ⟨fun c hc => ?_, fun c => by rw [World.frozen?_setCell]; exact (hb.frozen (p := ⟨b, c, none⟩) hlt).trans (h.free c)⟩
  by_cases e : c = K
  · subst e
    rw [World.cell?_setCell_same _ _ _ hKc, if_pos ⟨rfl, by omega⟩]
  · rw [World.cell?_setCell_other _ _ _ _ (by intro e'; injection e' with _ e' _; exact e e'.symm), hb.cell (p := ⟨b, c, none⟩) hlt, h.cell c hc, if_neg (fun x => e x.1), if_neg (fun x => e x.1)]
theorem MidAt.at {w w' : World} {b : Nat} {f : Nat → Nat} {q K : Nat} (hb : Below w.heap.size w w') (hlt : b < w.heap.size) (hK : K < 4) (h : MidAt w b f q K K) : w'.cell? ⟨b, K, none⟩ = some (.int .i64 (cntF f K q : Int)) ∧ w'.frozen? ⟨b, K, none⟩ = false := by
  have := (hb.cell (p := ⟨b, K, none⟩) hlt).trans (h.cell K hK)
  rw [if_neg (by omega), Int.add_zero] at this
  exact ⟨this, (hb.frozen (p := ⟨b, K, none⟩) hlt).trans (h.free K)⟩

/-- two cells of a ring as a text -/
theorem pair_text {n : Nat} {f : Nat → Nat} (hf : Bits n f) (I : Nat) (hI : I + 1 < n) : ((ringS n f).extract I (I + 2)).toList = [UInt8.ofNat (48 + f I), UInt8.ofNat (48 + f (I + 1))] := by
  rw [Lib.extract_toList, ringS_list, show I + 2 - I = 2 by omega]
  have h1 := (ringL_at hf I (by omega)).1
  have h2 := (ringL_at hf (I + 1) hI).1
  apply List.ext_getElem?
  intro j
  rw [List.getElem?_take, List.getElem?_drop]
  match j with
  | 0 => rw [if_pos (by omega), Nat.add_zero, h1]; rfl
  | 1 => rw [if_pos (by omega), h2]; rfl
  | j + 2 => rw [if_neg (by omega)]; rfl

theorem key_eq {x : ByteArray} {K : Nat} (hx : x.toList = [UInt8.ofNat (48 + K / 2), UInt8.ofNat (48 + K % 2)]) (hK : K < 4) (A B : UInt8) (k : Nat)
    (hA : A = UInt8.ofNat (48 + k / 2)) (hB : B = UInt8.ofNat (48 + k % 2)) (hk : k < 4) : (x.toList == (⟨#[A]⟩ ++ ⟨#[B]⟩ : ByteArray).toList) = decide (K = k) := by
  rw [hx, show (⟨#[A]⟩ ++ ⟨#[B]⟩ : ByteArray).toList = [A, B] by rw [Lib.toList_data, ByteArray.data_append]; rfl, hA, hB]
  rcases (show k = 0 ∨ k = 1 ∨ k = 2 ∨ k = 3 by omega) with rfl | rfl | rfl | rfl <;>
    rcases (show K = 0 ∨ K = 1 ∨ K = 2 ∨ K = 3 by omega) with rfl | rfl | rfl | rfl <;> rfl

set_option maxRecDepth 100000 in
set_option maxHeartbeats 4000000 in
theorem coarseOf_any (n : Nat) (f : Nat → Nat) (w : World) (hn : RingLen n) (hf : Bits n f) :
    Calls Tryd.prog 15 #[.string (ringS n f)] w fun e w' => ∃ v, e = .returned v ∧ CntPost w f (n / 2) v w' ∧ Below w.heap.size w w' := by
  obtain ⟨i0, hi, hz0, hz1, hz2⟩ := info_parts Tryd.info3
  have hss : (ringS n f).size = n := ringS_size n f
  have hn2 := hn.1
  have hn16 := hn.2.1
  have HN := Lib.hid hn; have HF := Lib.hid hf
  clear hn hf
  go_enter Tryd.func15, Tryd.ntmps15
  go_wp2_with (first
    | (at_make; refine wpList_make_full _ rfl _ _ 34 rfl w.heap.size 3 i0 (.int .i64 0) 1 Tryd.underlying34 hi hz0 hz1 _ _ _ _ 4 rfl rfl rfl rfl (by rw [hz2]; omega) (by unfold maxLen; omega) (by simp) ?_))
  intro w2 hown hgrow
  have HC0 : Hid (CntAt w2 w.heap.size f 0) := CntAt.zero f (by simpa using hown)
  have HB0 : Hid (Below w.heap.size w w2 ∧ w.heap.size < w2.heap.size) :=
    ⟨(Below.refl _ _).grown hgrow (Nat.le_refl _) (fun _ h => by cases h), (hown.lt w.heap.size (by simp [Value.ownBlock])).2⟩
  clear hown hgrow hi hz0 hz1 hz2
  go_wp2
  go_loopw [4] (fun i wr => ∃ q I : Nat, i = .int .i64 (I : Int) ∧ Hid (I = 2 * q ∧ 2 * q ≤ n) ∧ Hid (CntAt wr w.heap.size f q) ∧ Hid (Below w.heap.size w wr ∧ w.heap.size < wr.heap.size)) (fun i _ => n + 2 - (intOf i).toNat)
  case atStart => exact ⟨0, 0, rfl, ⟨rfl, by omega⟩, HC0, HB0⟩
  case round =>
    obtain ⟨q, I, rfl, HI, HC, HB⟩ := hrel
    clear HC0 HB0
    have hIn : I ≤ n := by have := HI.out; omega
    by_cases hlt : (I : Int) + 1 < (n : Int)
    · have hI1 : I + 1 < n := by omega
      obtain ⟨K, hK, hK4⟩ : ∃ K, K = 2 * f (2 * q) + f (2 * q + 1) ∧ K < 4 := ⟨_, rfl, by have a := HF.out (2 * q) (by have := HI.out; omega); have b := HF.out (2 * q + 1) (by have := HI.out; omega); omega⟩
      have HK := Lib.hid hK
      have htx := pair_text HF.out I hI1
      have htx' : ((ringS n f).extract I (I + 2)).toList = [UInt8.ofNat (48 + K / 2), UInt8.ofNat (48 + K % 2)] := by
        rw [htx, HI.out.1]
        have a := HF.out (2 * q) (by have := HI.out; omega); have b := HF.out (2 * q + 1) (by have := HI.out; omega)
        rw [show K / 2 = f (2 * q) by omega, show K % 2 = f (2 * q + 1) by omega]
      clear htx hK
      have HT := Lib.hid htx'; clear htx'
      have HM0 : Hid (MidAt wr w.heap.size f q K 0) := MidAt.zero HC.out
      obtain ⟨wo, rfl⟩ : ∃ wo : World, wo = wr := ⟨_, rfl⟩
      clear HC
      go_wp2
      go_loopw [5] (fun x wr => ∃ k : Nat, k ≤ 4 ∧ x = .int .i64 (k : Int) ∧ Hid (MidAt wr w.heap.size f q K k) ∧ Hid (Below w.heap.size w wr ∧ w.heap.size < wr.heap.size)) (fun x _ => 4 - (intOf x).toNat)
      case atStart => exact ⟨0, by omega, rfl, HM0, HB⟩
      case round =>
        obtain ⟨k, hk, rfl, HM, HB⟩ := hrel
        clear HM0
        have hw7 : IntKind.i64.wrap ((I : Int) + 2) = (I : Int) + 2 := by apply IntWalk.i64_in _ <;> omega
        by_cases hk4 : k < 4
        · have hsl : ∀ W, (Instr.slice 9 (.string (ringS n f)) (some (.int .i64 (I : Int))) (some (.int .i64 ((I : Int) + 2))) none).run Tryd.prog W = .ok (.string ((ringS n f).extract I (I + 2))) W := fun W => by
            rw [run_slice_string W 9 (ringS n f) .i64 .i64 I ((I : Int) + 2) Tryd.underlying9 (by omega) (by omega) (by rw [hss]; omega)]; rfl
          have hu0 : IntKind.i64.wrap 0 = 0 := by decide
          have hu1 : IntKind.i64.wrap 1 = 1 := by decide
          rcases (show k = 0 ∨ k = 1 ∨ k = 2 ∨ k = 3 by omega) with rfl | rfl | rfl | rfl
          · by_cases hKk : K = 0
            · subst hKk
              have hkey : (((ringS n f).extract I (I + 2)).toList == ((⟨#[48]⟩ ++ ⟨#[48]⟩ : ByteArray)).toList) = true := by rw [key_eq HT.out hK4 48 48 0 rfl rfl (by omega)]; rfl
              go_wp2_with fail
              go_region_held3 (fun _ => True) (exact trivial)
                (first
                  | (go_at_call 28; ((with_reducible refine (dec_0 _).mono ?_); rintro e w3 ⟨rfl, hb3⟩))
                  | (go_at_call 28; ((with_reducible refine (dec_1 _).mono ?_); rintro e w3 ⟨rfl, hb3⟩)))
              rename_i w4 hb4 _
              have hBn : Below wr.heap.size wr w3 := Below.trans (Below.trans (Below.refl _ wr).drew hb4) (hb3.mono hb4.size)
              clear hb4 hb3
              obtain ⟨hca, hfa⟩ := HM.out.at hBn HB.out.2 hK4
              have HM2 : Hid (∀ v, v = (.int .i64 ((cntF f 0 q : Int) + 1)) → MidAt (w3.setCell ⟨w.heap.size, 0, none⟩ v) w.heap.size f q 0 (0 + 1)) := fun v hv => hv ▸ HM.out.hit hBn HB.out.2 hK4
              have HB2 : Hid (∀ v, Below w.heap.size w (w3.setCell ⟨w.heap.size, 0, none⟩ v) ∧ w.heap.size < (w3.setCell ⟨w.heap.size, 0, none⟩ v).heap.size) := fun v => ⟨(HB.out.1.trans (hBn.mono (by have := HB.out.2; omega))).setCell (p := ⟨w.heap.size, 0, none⟩) (Nat.le_refl _) _, by have := hBn.size; have := HB.out.2; simp; omega⟩
              obtain ⟨c, hc, hcl⟩ : ∃ c, c = cntF f 0 q ∧ c ≤ n := ⟨_, rfl, by have := cntF_le f 0 q; have := HI.out; omega⟩
              rw [← hc] at hca HM2
              have hw8 : IntKind.i64.wrap ((c : Int) + 1) = (c : Int) + 1 := by apply IntWalk.i64_in _ <;> omega
              clear hc hBn HM HB
              go_wp2_with fail
              exact ⟨⟨1, by omega, rfl, HM2.out _ rfl, HB2.out _⟩, by simp [intOf]⟩
            · have hkey : (((ringS n f).extract I (I + 2)).toList == ((⟨#[48]⟩ ++ ⟨#[48]⟩ : ByteArray)).toList) = false := by rw [key_eq HT.out hK4 48 48 0 rfl rfl (by omega)]; exact decide_eq_false hKk
              go_wp2_with fail
              go_region_held3 (fun _ => True) (exact trivial)
                (first
                  | (go_at_call 28; ((with_reducible refine (dec_0 _).mono ?_); rintro e w3 ⟨rfl, hb3⟩))
                  | (go_at_call 28; ((with_reducible refine (dec_1 _).mono ?_); rintro e w3 ⟨rfl, hb3⟩)))
              rename_i w4 hb4 _
              have hBn : Below wr.heap.size wr w3 := Below.trans (Below.trans (Below.refl _ wr).drew hb4) (hb3.mono hb4.size)
              clear hb4 hb3
              have HM2 : Hid (MidAt w3 w.heap.size f q K (0 + 1)) := HM.out.skip hBn HB.out.2 (fun x => hKk x.symm)
              have HB2 : Hid (Below w.heap.size w w3 ∧ w.heap.size < w3.heap.size) := ⟨HB.out.1.trans (hBn.mono (by have := HB.out.2; omega)), by have := hBn.size; have := HB.out.2; omega⟩
              clear hBn HM HB
              go_wp2
              exact ⟨⟨1, by omega, rfl, HM2, HB2⟩, by simp [intOf]⟩
          · by_cases hKk : K = 1
            · subst hKk
              have hkey : (((ringS n f).extract I (I + 2)).toList == ((⟨#[48]⟩ ++ ⟨#[49]⟩ : ByteArray)).toList) = true := by rw [key_eq HT.out hK4 48 49 1 rfl rfl (by omega)]; rfl
              go_wp2_with fail
              go_region_held3 (fun _ => True) (exact trivial)
                (first
                  | (go_at_call 28; ((with_reducible refine (dec_0 _).mono ?_); rintro e w3 ⟨rfl, hb3⟩))
                  | (go_at_call 28; ((with_reducible refine (dec_1 _).mono ?_); rintro e w3 ⟨rfl, hb3⟩)))
              rename_i w4 hb4 _
              have hBn : Below wr.heap.size wr w3 := Below.trans (Below.trans (Below.refl _ wr).drew hb4) (hb3.mono hb4.size)
              clear hb4 hb3
              obtain ⟨hca, hfa⟩ := HM.out.at hBn HB.out.2 hK4
              have HM2 : Hid (∀ v, v = (.int .i64 ((cntF f 1 q : Int) + 1)) → MidAt (w3.setCell ⟨w.heap.size, 1, none⟩ v) w.heap.size f q 1 (1 + 1)) := fun v hv => hv ▸ HM.out.hit hBn HB.out.2 hK4
              have HB2 : Hid (∀ v, Below w.heap.size w (w3.setCell ⟨w.heap.size, 1, none⟩ v) ∧ w.heap.size < (w3.setCell ⟨w.heap.size, 1, none⟩ v).heap.size) := fun v => ⟨(HB.out.1.trans (hBn.mono (by have := HB.out.2; omega))).setCell (p := ⟨w.heap.size, 1, none⟩) (Nat.le_refl _) _, by have := hBn.size; have := HB.out.2; simp; omega⟩
              obtain ⟨c, hc, hcl⟩ : ∃ c, c = cntF f 1 q ∧ c ≤ n := ⟨_, rfl, by have := cntF_le f 1 q; have := HI.out; omega⟩
              rw [← hc] at hca HM2
              have hw8 : IntKind.i64.wrap ((c : Int) + 1) = (c : Int) + 1 := by apply IntWalk.i64_in _ <;> omega
              clear hc hBn HM HB
              go_wp2_with fail
              exact ⟨⟨2, by omega, rfl, HM2.out _ rfl, HB2.out _⟩, by simp [intOf]⟩
            · have hkey : (((ringS n f).extract I (I + 2)).toList == ((⟨#[48]⟩ ++ ⟨#[49]⟩ : ByteArray)).toList) = false := by rw [key_eq HT.out hK4 48 49 1 rfl rfl (by omega)]; exact decide_eq_false hKk
              go_wp2_with fail
              go_region_held3 (fun _ => True) (exact trivial)
                (first
                  | (go_at_call 28; ((with_reducible refine (dec_0 _).mono ?_); rintro e w3 ⟨rfl, hb3⟩))
                  | (go_at_call 28; ((with_reducible refine (dec_1 _).mono ?_); rintro e w3 ⟨rfl, hb3⟩)))
              rename_i w4 hb4 _
              have hBn : Below wr.heap.size wr w3 := Below.trans (Below.trans (Below.refl _ wr).drew hb4) (hb3.mono hb4.size)
              clear hb4 hb3
              have HM2 : Hid (MidAt w3 w.heap.size f q K (1 + 1)) := HM.out.skip hBn HB.out.2 (fun x => hKk x.symm)
              have HB2 : Hid (Below w.heap.size w w3 ∧ w.heap.size < w3.heap.size) := ⟨HB.out.1.trans (hBn.mono (by have := HB.out.2; omega)), by have := hBn.size; have := HB.out.2; omega⟩
              clear hBn HM HB
              go_wp2
              exact ⟨⟨2, by omega, rfl, HM2, HB2⟩, by simp [intOf]⟩
          · by_cases hKk : K = 2
            · subst hKk
              have hkey : (((ringS n f).extract I (I + 2)).toList == ((⟨#[49]⟩ ++ ⟨#[48]⟩ : ByteArray)).toList) = true := by rw [key_eq HT.out hK4 49 48 2 rfl rfl (by omega)]; rfl
              go_wp2_with fail
              go_region_held3 (fun _ => True) (exact trivial)
                (first
                  | (go_at_call 28; ((with_reducible refine (dec_0 _).mono ?_); rintro e w3 ⟨rfl, hb3⟩))
                  | (go_at_call 28; ((with_reducible refine (dec_1 _).mono ?_); rintro e w3 ⟨rfl, hb3⟩)))
              rename_i w4 hb4 _
              have hBn : Below wr.heap.size wr w3 := Below.trans (Below.trans (Below.refl _ wr).drew hb4) (hb3.mono hb4.size)
              clear hb4 hb3
              obtain ⟨hca, hfa⟩ := HM.out.at hBn HB.out.2 hK4
              have HM2 : Hid (∀ v, v = (.int .i64 ((cntF f 2 q : Int) + 1)) → MidAt (w3.setCell ⟨w.heap.size, 2, none⟩ v) w.heap.size f q 2 (2 + 1)) := fun v hv => hv ▸ HM.out.hit hBn HB.out.2 hK4
              have HB2 : Hid (∀ v, Below w.heap.size w (w3.setCell ⟨w.heap.size, 2, none⟩ v) ∧ w.heap.size < (w3.setCell ⟨w.heap.size, 2, none⟩ v).heap.size) := fun v => ⟨(HB.out.1.trans (hBn.mono (by have := HB.out.2; omega))).setCell (p := ⟨w.heap.size, 2, none⟩) (Nat.le_refl _) _, by have := hBn.size; have := HB.out.2; simp; omega⟩
              obtain ⟨c, hc, hcl⟩ : ∃ c, c = cntF f 2 q ∧ c ≤ n := ⟨_, rfl, by have := cntF_le f 2 q; have := HI.out; omega⟩
              rw [← hc] at hca HM2
              have hw8 : IntKind.i64.wrap ((c : Int) + 1) = (c : Int) + 1 := by apply IntWalk.i64_in _ <;> omega
              clear hc hBn HM HB
              go_wp2_with fail
              exact ⟨⟨3, by omega, rfl, HM2.out _ rfl, HB2.out _⟩, by simp [intOf]⟩
            · have hkey : (((ringS n f).extract I (I + 2)).toList == ((⟨#[49]⟩ ++ ⟨#[48]⟩ : ByteArray)).toList) = false := by rw [key_eq HT.out hK4 49 48 2 rfl rfl (by omega)]; exact decide_eq_false hKk
              go_wp2_with fail
              go_region_held3 (fun _ => True) (exact trivial)
                (first
                  | (go_at_call 28; ((with_reducible refine (dec_0 _).mono ?_); rintro e w3 ⟨rfl, hb3⟩))
                  | (go_at_call 28; ((with_reducible refine (dec_1 _).mono ?_); rintro e w3 ⟨rfl, hb3⟩)))
              rename_i w4 hb4 _
              have hBn : Below wr.heap.size wr w3 := Below.trans (Below.trans (Below.refl _ wr).drew hb4) (hb3.mono hb4.size)
              clear hb4 hb3
              have HM2 : Hid (MidAt w3 w.heap.size f q K (2 + 1)) := HM.out.skip hBn HB.out.2 (fun x => hKk x.symm)
              have HB2 : Hid (Below w.heap.size w w3 ∧ w.heap.size < w3.heap.size) := ⟨HB.out.1.trans (hBn.mono (by have := HB.out.2; omega)), by have := hBn.size; have := HB.out.2; omega⟩
              clear hBn HM HB
              go_wp2
              exact ⟨⟨3, by omega, rfl, HM2, HB2⟩, by simp [intOf]⟩
          · by_cases hKk : K = 3
            · subst hKk
              have hkey : (((ringS n f).extract I (I + 2)).toList == ((⟨#[49]⟩ ++ ⟨#[49]⟩ : ByteArray)).toList) = true := by rw [key_eq HT.out hK4 49 49 3 rfl rfl (by omega)]; rfl
              go_wp2_with fail
              go_region_held3 (fun _ => True) (exact trivial)
                (first
                  | (go_at_call 28; ((with_reducible refine (dec_0 _).mono ?_); rintro e w3 ⟨rfl, hb3⟩))
                  | (go_at_call 28; ((with_reducible refine (dec_1 _).mono ?_); rintro e w3 ⟨rfl, hb3⟩)))
              rename_i w4 hb4 _
              have hBn : Below wr.heap.size wr w3 := Below.trans (Below.trans (Below.refl _ wr).drew hb4) (hb3.mono hb4.size)
              clear hb4 hb3
              obtain ⟨hca, hfa⟩ := HM.out.at hBn HB.out.2 hK4
              have HM2 : Hid (∀ v, v = (.int .i64 ((cntF f 3 q : Int) + 1)) → MidAt (w3.setCell ⟨w.heap.size, 3, none⟩ v) w.heap.size f q 3 (3 + 1)) := fun v hv => hv ▸ HM.out.hit hBn HB.out.2 hK4
              have HB2 : Hid (∀ v, Below w.heap.size w (w3.setCell ⟨w.heap.size, 3, none⟩ v) ∧ w.heap.size < (w3.setCell ⟨w.heap.size, 3, none⟩ v).heap.size) := fun v => ⟨(HB.out.1.trans (hBn.mono (by have := HB.out.2; omega))).setCell (p := ⟨w.heap.size, 3, none⟩) (Nat.le_refl _) _, by have := hBn.size; have := HB.out.2; simp; omega⟩
              obtain ⟨c, hc, hcl⟩ : ∃ c, c = cntF f 3 q ∧ c ≤ n := ⟨_, rfl, by have := cntF_le f 3 q; have := HI.out; omega⟩
              rw [← hc] at hca HM2
              have hw8 : IntKind.i64.wrap ((c : Int) + 1) = (c : Int) + 1 := by apply IntWalk.i64_in _ <;> omega
              clear hc hBn HM HB
              go_wp2_with fail
              exact ⟨⟨4, by omega, rfl, HM2.out _ rfl, HB2.out _⟩, by simp [intOf]⟩
            · have hkey : (((ringS n f).extract I (I + 2)).toList == ((⟨#[49]⟩ ++ ⟨#[49]⟩ : ByteArray)).toList) = false := by rw [key_eq HT.out hK4 49 49 3 rfl rfl (by omega)]; exact decide_eq_false hKk
              go_wp2_with fail
              go_region_held3 (fun _ => True) (exact trivial)
                (first
                  | (go_at_call 28; ((with_reducible refine (dec_0 _).mono ?_); rintro e w3 ⟨rfl, hb3⟩))
                  | (go_at_call 28; ((with_reducible refine (dec_1 _).mono ?_); rintro e w3 ⟨rfl, hb3⟩)))
              rename_i w4 hb4 _
              have hBn : Below wr.heap.size wr w3 := Below.trans (Below.trans (Below.refl _ wr).drew hb4) (hb3.mono hb4.size)
              clear hb4 hb3
              have HM2 : Hid (MidAt w3 w.heap.size f q K (3 + 1)) := HM.out.skip hBn HB.out.2 (fun x => hKk x.symm)
              have HB2 : Hid (Below w.heap.size w w3 ∧ w.heap.size < w3.heap.size) := ⟨HB.out.1.trans (hBn.mono (by have := HB.out.2; omega)), by have := hBn.size; have := HB.out.2; omega⟩
              clear hBn HM HB
              go_wp2
              exact ⟨⟨4, by omega, rfl, HM2, HB2⟩, by simp [intOf]⟩
        · obtain rfl : k = 4 := by omega
          have HC4 : Hid (CntAt wr w.heap.size f (q + 1)) := MidAt.four HK.out HM.out
          clear HM
          go_wp2
          refine ⟨⟨q + 1, I + 2, by go_num, ⟨by have := HI.out.1; omega, by have := HI.out.1; omega⟩, HC4, HB⟩, by simp [intOf]; omega⟩
    · have h2 : n / 2 = q := by have := HI.out; have := HN.out.2.2; omega
      have H2 := Lib.hid h2; clear h2
      go_wp2
      go_ret
      exact ⟨_, rfl, ⟨w.heap.size, rfl, Nat.le_refl _, HB.out.2, by rw [H2.out]; exact HC.out⟩, HB.out.1⟩
end Go.Proofs.YtlckljibajhhkaaDoor
