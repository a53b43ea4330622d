/-
  gas.Round and gas.Seen: of a right rule and a right ring twice, and once, the least number of double steps behind which the ring is as it was; else 0 and the error.
-/
import Derived.Test.YtlckljibajhhkaaDoorSeenOf
import Derived.Test.YtlckljibajhhkaaDoorKeeps
import Derived.Deep.RegionHeld3
namespace Go.Proofs.YtlckljibajhhkaaDoor
open Go.RowKit

/-- what Round and Seen answer -/
def AnswerN (w : World) (n : Int) (v : Value) (e : Ending) (w' : World) : Prop := e = .returned (.tuple #[.int .i64 n, v]) ∧ Below w.heap.size w w'

theorem check_code' (r : Nat → Int) (s : ByteArray) (w : World) (aB aT aS : Addr) (h : Errs3 aB aT aS w) (hs : s.size ≤ 9223372036854775807) (c : Nat) (hc : ruleCode r s.data.toList = c) :
    Calls Tryd.prog 30 #[ruleV r, .string s] (boxedZ r w) fun e w' => e = .returned (errOf aB aT aS c) ∧ Below (w.heap.size + 1) (boxedZ r w) w' := by
  have := check_code r s (boxedZ r w) aB aT aS (h.boxedZ r) hs
  rw [hc, boxedZ_size] at this
  exact this

theorem boxed_end {ru : Nat → Nat} {w w1 : World} (hb : Below (w.heap.size + 1) (boxed ru w) w1) : Below w.heap.size w w1 := (box_below _ _).trans (hb.mono (by omega))

set_option maxRecDepth 100000 in
set_option maxHeartbeats 4000000 in
theorem Round_good (ru inv : Nat → Nat) (n : Nat) (f : Nat → Nat) (m : Nat) (w : World) (aB aT aS : Addr) (h : Errs3 aB aT aS w) (hr : Rule ru inv) (hn : RingLen n) (hf : Bits n f) (hm : BackAt ru n f m) :
    Calls Tryd.prog 21 #[ruleV fun k => (ru k : Int), .string (ringS n f)] w (AnswerN w (2 * (m : Int)) .nilIface) := by
  have hch := check_code' (fun k => (ru k : Int)) (ringS n f) w aB aT aS h (by rw [ringS_size]; have := hn.2.1; omega) 0 (by unfold ruleCode; rw [if_pos (okRule_rule hr), ringS_list, ringCode_ring hn hf])
  rw [show errOf aB aT aS 0 = .nilIface from rfl] at hch
  have kc := fun (W : World) => Lib.run_convert_string_bytes (P := Tryd.prog) W 9 44 5 (ringS n f) Tryd.underlying9 Tryd.underlying44 Tryd.underlying5
  have hss : (ringS n f).size = n := ringS_size n f
  have hm1 := hm.pos
  have hml := hm.le
  have HH := Lib.hid h; have HR := Lib.hid hr; have HN := Lib.hid hn; have HF := Lib.hid hf; have HM := Lib.hid hm
  clear h hr hn hf hm
  go_enter Tryd.func21, Tryd.ntmps21
  go_wp2_with (first
    | (go_at_call 30; refine hch.mono ?_; rintro e w1 ⟨rfl, hb1⟩))
  clear kc hss hch
  have HB1 : Hid (Below (w.heap.size + 1) (boxed ru w) (Lib.bytesWorld w1 5 (ringS n f))) := Below.trans hb1 ((bytes_below _ _ _).mono (by have := hb1.size; rw [boxedZ_size] at this; omega))
  have HS1 : Hid (SliceAt (Lib.bytesWorld w1 5 (ringS n f)) (.slice (some ⟨w1.heap.size, 0, none⟩) n (grownCap w1 n 0 5)) n f) := ⟨_, _, rfl, row_of_string HF.out w1, by rw [Lib.bytesWorld_size]; omega⟩
  clear hb1
  go_loopw [7, 8] (fun v x wr => ∃ k : Nat, k < m ∧ x = .int .i64 (2 * (k : Int) + 2) ∧ Hid (SliceAt wr v n (iterF ru n k f)) ∧ Hid (Below (w.heap.size + 1) (boxed ru w) wr)) (fun _ x _ => 2 * m + 2 - (intOf x).toNat)
  case atStart => exact ⟨0, by omega, rfl, HS1, HB1⟩
  case round =>
    obtain ⟨k, hk, rfl, HS, HB⟩ := hrel
    clear HS1 HB1
    obtain ⟨g, cap, rfl, hrow, hg⟩ := HS.out
    have HROW := Lib.hid hrow; clear hrow HS
    obtain ⟨c0, c1, c2, c3⟩ := box_cells ru HB.out
    have hst1 : Calls Tryd.prog 24 #[.agg #[.int .i64 (ru 0 : Int), .int .i64 (ru 1 : Int), .int .i64 (ru 2 : Int), .int .i64 (ru 3 : Int)], .slice (some ⟨g, 0, none⟩) n cap, .int .i64 0] wr.drew (StepPost wr.drew n (stepF ru n 0 (iterF ru n k f))) :=
      step_any ru inv (iterF ru n k f) g n cap 0 wr.drew HR.out (iterF_bits HR.out HN.out HF.out k) HN.out (by omega) hg HROW.out
    have hst2 : ∀ (W : World) (g' : Nat), RowAt W g' n (stepF ru n 0 (iterF ru n k f)) → g' < W.heap.size → Calls Tryd.prog 24 #[.agg #[.int .i64 (ru 0 : Int), .int .i64 (ru 1 : Int), .int .i64 (ru 2 : Int), .int .i64 (ru 3 : Int)], .slice (some ⟨g', 0, none⟩) n n, .int .i64 1] W (StepPost W n (iterF ru n (k + 1) f)) := fun W g' h1 h2 =>
      step_any ru inv (stepF ru n 0 (iterF ru n k f)) g' n n 1 W HR.out (stepF_bits HR.out HN.out (iterF_bits HR.out HN.out HF.out k)) HN.out (by omega) h2 h1
    have hB1 : Below (w.heap.size + 1) (boxed ru w) wr.drew := HB.out.drew
    have HST2 := Lib.hid hst2; clear hst2
    by_cases hlast : k + 1 < m
    · have ht := ring_ne (iterF_bits HR.out HN.out HF.out (k + 1)) HF.out (HM.out.ne (k + 1) (by omega) hlast)
      go_wp2_with fail
      go_region_held3 (fun w' => w'.cell? ⟨w.heap.size, 0, none⟩ = some (.int .i64 (ru 0 : Int)) ∧ w'.cell? ⟨w.heap.size, 1, none⟩ = some (.int .i64 (ru 1 : Int)) ∧ w'.cell? ⟨w.heap.size, 2, none⟩ = some (.int .i64 (ru 2 : Int)) ∧ w'.cell? ⟨w.heap.size, 3, none⟩ = some (.int .i64 (ru 3 : Int)))
        (first | exact ⟨c0, c1, c2, c3⟩ | exact ⟨d0, d1, d2, d3⟩ | exact ⟨e0, e1, e2, e3⟩)
        (first
          | (go_at_call 24; ((with_reducible refine hst1.mono ?_); rintro e w3 ⟨rfl, hrow3, hb3, hlt3⟩; have hrow3' : RowAt w3 (wr.heap.size + 1) n (stepF ru n 0 (iterF ru n k f)) := hrow3; have hlt3' : wr.heap.size + 1 < w3.heap.size := hlt3; have hB3 := hB1.trans (Below.mono hb3 (by have := HB.out.size; rw [boxed_size] at this; simp; omega)); obtain ⟨d0, d1, d2, d3⟩ := box_cells ru hB3))
          | (go_at_call 24; ((with_reducible refine (HST2.out _ _ hrow3' hlt3').mono ?_); rintro e w4 ⟨rfl, hrow4, hb4, hlt4⟩; have hB4 := hB3.trans (Below.mono hb4 (by have := hB3.size; rw [boxed_size] at this; omega)); obtain ⟨e0, e1, e2, e3⟩ := box_cells ru hB4; have hrow4' : RowAt w4 (w3.heap.size + 1) n (iterF ru n (k + 1) f) := hrow4; have hcv := string_of_row (iterF_bits HR.out HN.out HF.out (k + 1)) w4 _ n hrow4')))
      go_wp2
      go_roundw
      case rel => exact ⟨k + 1, hlast, by go_num, ⟨_, _, rfl, hrow4, hlt4⟩, hB4⟩
      case measure => simp [intOf]; omega
    · have hkm : k + 1 = m := by omega
      have ht : ((ringS n (iterF ru n (k + 1) f)).toList == (ringS n f).toList) = true := by rw [hkm, ringS_congr HM.out.eq]; simp
      have HKM := Lib.hid hkm; clear hkm
      go_wp2_with fail
      go_region_held3 (fun w' => w'.cell? ⟨w.heap.size, 0, none⟩ = some (.int .i64 (ru 0 : Int)) ∧ w'.cell? ⟨w.heap.size, 1, none⟩ = some (.int .i64 (ru 1 : Int)) ∧ w'.cell? ⟨w.heap.size, 2, none⟩ = some (.int .i64 (ru 2 : Int)) ∧ w'.cell? ⟨w.heap.size, 3, none⟩ = some (.int .i64 (ru 3 : Int)))
        (first | exact ⟨c0, c1, c2, c3⟩ | exact ⟨d0, d1, d2, d3⟩ | exact ⟨e0, e1, e2, e3⟩)
        (first
          | (go_at_call 24; ((with_reducible refine hst1.mono ?_); rintro e w3 ⟨rfl, hrow3, hb3, hlt3⟩; have hrow3' : RowAt w3 (wr.heap.size + 1) n (stepF ru n 0 (iterF ru n k f)) := hrow3; have hlt3' : wr.heap.size + 1 < w3.heap.size := hlt3; have hB3 := hB1.trans (Below.mono hb3 (by have := HB.out.size; rw [boxed_size] at this; simp; omega)); obtain ⟨d0, d1, d2, d3⟩ := box_cells ru hB3))
          | (go_at_call 24; ((with_reducible refine (HST2.out _ _ hrow3' hlt3').mono ?_); rintro e w4 ⟨rfl, hrow4, hb4, hlt4⟩; have hB4 := hB3.trans (Below.mono hb4 (by have := hB3.size; rw [boxed_size] at this; omega)); obtain ⟨e0, e1, e2, e3⟩ := box_cells ru hB4; have hrow4' : RowAt w4 (w3.heap.size + 1) n (iterF ru n (k + 1) f) := hrow4; have hcv := string_of_row (iterF_bits HR.out HN.out HF.out (k + 1)) w4 _ n hrow4')))
      go_wp2
      go_ret2
      exact ⟨by rw [← HKM.out]; simp; omega, boxed_end hB4⟩
end Go.Proofs.YtlckljibajhhkaaDoor
