/-
  gas.Step, gas.Back, gas.Run: of a right rule, a right ring and a right time they answer what stepF and runF say; else the empty text and the error.
-/
import Derived.Test.YtlckljibajhhkaaDoorRing
import Derived.Test.YtlckljibajhhkaaDoorTurned
import Derived.Laws.IdiomStrings
import Derived.Lib.ConvBytes
namespace Go.Proofs.YtlckljibajhhkaaDoor
open Go.RowKit

theorem row_of_string {n : Nat} {f : Nat → Nat} (hf : Bits n f) (w : World) : RowAt (Lib.bytesWorld w 5 (ringS n f)) w.heap.size n f := by
  intro j hj
  rw [Lib.bytesWorld_cell w 5 _ j (by rw [ringS_size]; exact hj)]
  have h := ringL_at hf j hj
  rw [ringS_list, List.getD_eq_getElem?_getD, h.1]
  show some (Value.int IntKind.u8 ((UInt8.ofNat (48 + f j)).toNat : Int)) = _
  rw [h.2]; rfl
theorem bytes_below (w : World) (e : TypeId) (s : ByteArray) : Below w.heap.size w (Lib.bytesWorld w e s) :=
  ⟨rfl, rfl, rfl, by rw [Lib.bytesWorld_size]; omega, fun k hk => Lib.bytesWorld_at_old w e s k hk⟩
theorem string_of_row {n : Nat} {f : Nat → Nat} (hf : Bits n f) (w : World) (b cap : Nat) (h : RowAt w b n f) :
    (convert 44 9 (.slice (some ⟨b, 0, none⟩) n cap)).run Tryd.prog w = .ok (.string (ringS n f)) w := by
  have := run_convert_bytes_back (P := Tryd.prog) w 44 9 5 ⟨b, 0, none⟩ cap (ringL n f) Tryd.underlying44 Tryd.underlying5 Tryd.underlying9 (fun j hj => by
    rw [ringL_length] at hj
    have hl := ringL_at hf j hj
    have hg : (ringL n f)[j]'(by rw [ringL_length]; exact hj) = UInt8.ofNat (48 + f j) := by
      have := hl.1
      rw [List.getElem?_eq_getElem (by rw [ringL_length]; exact hj)] at this
      exact Option.some.inj this
    have ha : (⟨b, 0, none⟩ : Addr).add j = ⟨b, j, none⟩ := by by_cases hj0 : j = 0 <;> simp [Addr.add, hj0]
    rw [ha, hg, hl.2, h j hj]; rfl)
  rw [ringL_length] at this
  exact this

theorem box_cells (ru : Nat → Nat) {w w1 : World} (hb : Below (w.heap.size + 1) (boxed ru w) w1) :
    w1.cell? ⟨w.heap.size, 0, none⟩ = some (.int .i64 (ru 0 : Int)) ∧ w1.cell? ⟨w.heap.size, 1, none⟩ = some (.int .i64 (ru 1 : Int)) ∧ w1.cell? ⟨w.heap.size, 2, none⟩ = some (.int .i64 (ru 2 : Int)) ∧ w1.cell? ⟨w.heap.size, 3, none⟩ = some (.int .i64 (ru 3 : Int)) := by
  have h : ∀ k, k < 4 → w1.cell? ⟨w.heap.size, k, none⟩ = some (.int .i64 (ru k : Int)) := fun k hk => (hb.cell (p := ⟨w.heap.size, k, none⟩) (show w.heap.size < w.heap.size + 1 by omega)).trans (boxed_cell ru w k hk)
  exact ⟨h 0 (by omega), h 1 (by omega), h 2 (by omega), h 3 (by omega)⟩

/-- what Step, Back and Run answer -/
def AnswerS (w : World) (s : ByteArray) (v : Value) (e : Ending) (w' : World) : Prop := e = .returned (.tuple #[.string s, v]) ∧ Below w.heap.size w w'

theorem Errs3.boxed {aB aT aS : Addr} {w : World} (h : Errs3 aB aT aS w) (ru : Nat → Nat) : Errs3 aB aT aS (boxed ru w) := h.below (box_below w _) (by have := h.size; omega)

theorem boxed_size (ru : Nat → Nat) (w : World) : (boxed ru w).heap.size = w.heap.size + 1 := by simp [boxed]
theorem chain_bytes {ru : Nat → Nat} {w w1 w2 : World} {e : TypeId} {s : ByteArray} (h1 : Below (w.heap.size + 1) (boxed ru w) w1) (h2 : Below (Lib.bytesWorld w1 e s).heap.size (Lib.bytesWorld w1 e s) w2) : Below w.heap.size w w2 := by
  have hs := h1.size
  rw [boxed_size] at hs
  rw [Lib.bytesWorld_size] at h2
  exact (box_below _ _).trans ((h1.mono (by omega)).trans (((bytes_below _ _ _).mono (by omega)).trans (h2.mono (by omega))))

set_option maxRecDepth 100000 in
set_option maxHeartbeats 4000000 in
theorem Step_good (ru inv : Nat → Nat) (n : Nat) (f : Nat → Nat) (t : Nat) (w : World) (aB aT aS : Addr) (h : Errs3 aB aT aS w) (hr : Rule ru inv) (hn : RingLen n) (hf : Bits n f) (ht : t ≤ 1000000) :
    Calls Tryd.prog 18 #[ruleV fun k => (ru k : Int), .string (ringS n f), .int .i64 t] w (AnswerS w (ringS n (stepF ru n (t % 2) f)) .nilIface) := by
  have hat := at_any (fun k => (ru k : Int)) (ringS n f) t 1000000 (boxed ru w) aB aT aS (h.boxed ru) (by rw [ringS_size]; have := hn.2.1; omega)
  rw [atCode_good hr hn hf (by omega) (by omega), show errOf aB aT aS 0 = .nilIface from rfl] at hat
  have hsz : (boxed ru w).heap.size = w.heap.size + 1 := by simp [boxed]
  rw [hsz] at hat
  have kc := fun (W : World) => Lib.run_convert_string_bytes (P := Tryd.prog) W 9 44 5 (ringS n f) Tryd.underlying9 Tryd.underlying44 Tryd.underlying5
  have hss : (ringS n f).size = n := ringS_size n f
  have HH := Lib.hid h; have HR := Lib.hid hr; have HN := Lib.hid hn; have HF := Lib.hid hf
  clear h hr hn hf hsz
  go_enter Tryd.func18, Tryd.ntmps18
  go_wp2_with (first
    | (go_at_call 23; refine hat.mono ?_; rintro e w1 ⟨rfl, hb1⟩; obtain ⟨c0, c1, c2, c3⟩ := box_cells ru hb1)
    | (go_at_call 24; refine (step_any ru inv f _ n _ t _ HR.out HF.out HN.out ht (by rw [Lib.bytesWorld_size]; omega) (row_of_string HF.out _)).mono ?_; rintro e w2 ⟨rfl, hrow, hb2, hlt2⟩; have hcv := string_of_row (stepF_bits HR.out HN.out HF.out) w2 _ n hrow))
  go_ret2
  exact ⟨rfl, chain_bytes hb1 hb2⟩

set_option maxHeartbeats 1000000 in
theorem Step_err (r : Nat → Int) (s : ByteArray) (t : Int) (w : World) (a : Addr)
    (hat : Calls Tryd.prog 23 #[ruleV r, .string s, .int .i64 t, .int .i64 1000000] (w.alloc (.cells #[.int .i64 (r 0), .int .i64 (r 1), .int .i64 (r 2), .int .i64 (r 3)] 22)) fun e w' => e = .returned (errV a) ∧ Below (w.heap.size + 1) (w.alloc (.cells #[.int .i64 (r 0), .int .i64 (r 1), .int .i64 (r 2), .int .i64 (r 3)] 22)) w') :
    Calls Tryd.prog 18 #[ruleV r, .string s, .int .i64 t] w (AnswerS w ⟨#[]⟩ (errV a)) := by
  go_enter Tryd.func18, Tryd.ntmps18
  go_wp2_with (go_at_call 23; refine hat.mono ?_; rintro e w1 ⟨rfl, hb1⟩)
  go_ret2
  exact ⟨rfl, (box_below _ _).trans (Below.mono hb1 (by omega))⟩
theorem Step_bad (r : Nat → Int) (s : ByteArray) (t : Int) (w : World) (aB aT aS : Addr) (h : Errs3 aB aT aS w) (hs : s.size ≤ 9223372036854775807) (hc : atCode r s.data.toList t 1000000 ≠ 0) :
    Calls Tryd.prog 18 #[ruleV r, .string s, .int .i64 t] w (AnswerS w ⟨#[]⟩ (errOf aB aT aS (atCode r s.data.toList t 1000000))) := by
  have hat := at_any r s t 1000000 (w.alloc (.cells #[.int .i64 (r 0), .int .i64 (r 1), .int .i64 (r 2), .int .i64 (r 3)] 22)) aB aT aS (h.below (box_below w _) (by have := h.size; omega)) hs
  rw [World.size_alloc] at hat
  have hle := atCode_le r s.data.toList t 1000000
  generalize atCode r s.data.toList t 1000000 = c at hat hc hle ⊢
  rcases (show c = 1 ∨ c = 2 ∨ c = 3 by omega) with rfl | rfl | rfl
  · exact Step_err r s t w aT hat
  · exact Step_err r s t w aB hat
  · exact Step_err r s t w aS hat

set_option maxRecDepth 100000 in
set_option maxHeartbeats 4000000 in
theorem Back_good (ru inv : Nat → Nat) (n : Nat) (f : Nat → Nat) (t : Nat) (w : World) (aB aT aS : Addr) (h : Errs3 aB aT aS w) (hr : Rule ru inv) (hn : RingLen n) (hf : Bits n f) (ht : t ≤ 1000000) :
    Calls Tryd.prog 10 #[ruleV fun k => (ru k : Int), .string (ringS n f), .int .i64 t] w (AnswerS w (ringS n (stepF inv n (t % 2) f)) .nilIface) := by
  have hat := at_any (fun k => (ru k : Int)) (ringS n f) t 1000000 (boxed ru w) aB aT aS (h.boxed ru) (by rw [ringS_size]; have := hn.2.1; omega)
  rw [atCode_good hr hn hf (by omega) (by omega), show errOf aB aT aS 0 = .nilIface from rfl] at hat
  have hsz : (boxed ru w).heap.size = w.heap.size + 1 := by simp [boxed]
  rw [hsz] at hat
  have kc := fun (W : World) => Lib.run_convert_string_bytes (P := Tryd.prog) W 9 44 5 (ringS n f) Tryd.underlying9 Tryd.underlying44 Tryd.underlying5
  have hss : (ringS n f).size = n := ringS_size n f
  have HH := Lib.hid h; have HR := Lib.hid hr; have HN := Lib.hid hn; have HF := Lib.hid hf
  clear h hr hn hf hsz
  go_enter Tryd.func10, Tryd.ntmps10
  go_wp2_with (first
    | (go_at_call 23; refine hat.mono ?_; rintro e w1 ⟨rfl, hb1⟩; obtain ⟨c0, c1, c2, c3⟩ := box_cells ru hb1)
    | (go_at_call 25; refine (turned_any ru inv _ HR.out).mono ?_; rintro e w2 ⟨rfl, hb2⟩)
    | (go_at_call 24; refine (step_any inv ru f _ n _ t _ HR.out.turn HF.out HN.out ht (by rw [Lib.bytesWorld_size]; omega) (row_of_string HF.out _)).mono ?_; rintro e w3 ⟨rfl, hrow, hb3, hlt3⟩; have hcv := string_of_row (stepF_bits HR.out.turn HN.out HF.out) w3 _ n hrow))
  go_ret2
  exact ⟨rfl, chain_bytes (hb1.trans (Below.mono hb2 (by have := hb1.size; rw [boxed_size] at this; omega))) hb3⟩

set_option maxHeartbeats 1000000 in
theorem Back_err (r : Nat → Int) (s : ByteArray) (t : Int) (w : World) (a : Addr)
    (hat : Calls Tryd.prog 23 #[ruleV r, .string s, .int .i64 t, .int .i64 1000000] (w.alloc (.cells #[.int .i64 (r 0), .int .i64 (r 1), .int .i64 (r 2), .int .i64 (r 3)] 22)) fun e w' => e = .returned (errV a) ∧ Below (w.heap.size + 1) (w.alloc (.cells #[.int .i64 (r 0), .int .i64 (r 1), .int .i64 (r 2), .int .i64 (r 3)] 22)) w') :
    Calls Tryd.prog 10 #[ruleV r, .string s, .int .i64 t] w (AnswerS w ⟨#[]⟩ (errV a)) := by
  go_enter Tryd.func10, Tryd.ntmps10
  go_wp2_with (go_at_call 23; refine hat.mono ?_; rintro e w1 ⟨rfl, hb1⟩)
  go_ret2
  exact ⟨rfl, (box_below _ _).trans (Below.mono hb1 (by omega))⟩
theorem Back_bad (r : Nat → Int) (s : ByteArray) (t : Int) (w : World) (aB aT aS : Addr) (h : Errs3 aB aT aS w) (hs : s.size ≤ 9223372036854775807) (hc : atCode r s.data.toList t 1000000 ≠ 0) :
    Calls Tryd.prog 10 #[ruleV r, .string s, .int .i64 t] w (AnswerS w ⟨#[]⟩ (errOf aB aT aS (atCode r s.data.toList t 1000000))) := by
  have hat := at_any r s t 1000000 (w.alloc (.cells #[.int .i64 (r 0), .int .i64 (r 1), .int .i64 (r 2), .int .i64 (r 3)] 22)) aB aT aS (h.below (box_below w _) (by have := h.size; omega)) hs
  rw [World.size_alloc] at hat
  have hle := atCode_le r s.data.toList t 1000000
  generalize atCode r s.data.toList t 1000000 = c at hat hc hle ⊢
  rcases (show c = 1 ∨ c = 2 ∨ c = 3 by omega) with rfl | rfl | rfl
  · exact Back_err r s t w aT hat
  · exact Back_err r s t w aB hat
  · exact Back_err r s t w aS hat
end Go.Proofs.YtlckljibajhhkaaDoor
