/-
  POINCARE: each ring comes back: of every right rule and right ring there is a least number of double steps, above 0, behind which the ring is as it was; it is at most 65536.
-/
import Derived.Test.YtlckljibajhhkaaDoorPure
namespace Go.Proofs.YtlckljibajhhkaaDoor

/-- m double steps -/
def iterF (ru : Nat → Nat) (n : Nat) : Nat → (Nat → Nat) → Nat → Nat
  | 0, f => f
  | m + 1, f => runF ru n 2 (iterF ru n m f)
theorem iterF_bits {ru inv : Nat → Nat} (hr : Rule ru inv) {n : Nat} {f : Nat → Nat} (h : RingLen n) (hf : Bits n f) : ∀ m, Bits n (iterF ru n m f)
  | 0 => hf
  | m + 1 => runF_bits hr h (iterF_bits hr h hf m) 2
theorem iterF_inj {ru inv : Nat → Nat} (hr : Rule ru inv) {n : Nat} {f : Nat → Nat} (h : RingLen n) (hf : Bits n f) : ∀ i d, EqOn n (iterF ru n i f) (iterF ru n (i + d) f) → EqOn n f (iterF ru n d f)
  | 0, d, e => by rw [Nat.zero_add] at e; exact e
  | i + 1, d, e => by
    rw [show i + 1 + d = (i + d) + 1 by omega] at e
    exact iterF_inj hr h hf i d (runF_inj hr h (iterF_bits hr h hf i) (iterF_bits hr h hf (i + d)) 2 e)

/-- a ring as a number -/
def codeF (f : Nat → Nat) : Nat → Nat
  | 0 => 0
  | n + 1 => 2 * codeF f n + f n
theorem codeF_lt {f : Nat → Nat} : ∀ {n : Nat}, Bits n f → codeF f n < 2 ^ n
  | 0, _ => by simp [codeF]
  | n + 1, h => by
    have := codeF_lt (n := n) (fun j hj => h j (by omega))
    have := h n (by omega)
    simp only [codeF, Nat.pow_succ]
    omega
theorem codeF_inj {f g : Nat → Nat} : ∀ {n : Nat}, Bits n f → Bits n g → codeF f n = codeF g n → EqOn n f g
  | 0, _, _, _ => fun j hj => by omega
  | n + 1, hf, hg, e => by
    have a := hf n (by omega)
    have b := hg n (by omega)
    simp only [codeF] at e
    have ih := codeF_inj (n := n) (fun j hj => hf j (by omega)) (fun j hj => hg j (by omega)) (by omega)
    intro j hj
    rcases (show j < n ∨ j = n by omega) with h | rfl
    · exact ih j h
    · omega

theorem pigeon : ∀ (N : Nat) (c : Nat → Nat), (∀ i, i ≤ N → c i < N) → ∃ i j, i < j ∧ j ≤ N ∧ c i = c j
  | 0, c, h => by have := h 0 (by omega); omega
  | N + 1, c, h => by
    rcases Classical.em (∃ i, i ≤ N ∧ c i = c (N + 1)) with ⟨i, hi, e⟩ | hno
    · exact ⟨i, N + 1, by omega, by omega, e⟩
    · have hne : ∀ i, i ≤ N → c i ≠ c (N + 1) := fun i hi e => hno ⟨i, hi, e⟩
      have hv := h (N + 1) (by omega)
      obtain ⟨i, j, hij, hj, e⟩ := pigeon N (fun i => if c (N + 1) < c i then c i - 1 else c i) (fun i hi => by
        have := hne i hi
        have := h i (by omega)
        show (if c (N + 1) < c i then c i - 1 else c i) < N
        split <;> omega)
      refine ⟨i, j, hij, by omega, ?_⟩
      have hi' := hne i (by omega)
      have hj' := hne j hj
      have e' : (if c (N + 1) < c i then c i - 1 else c i) = (if c (N + 1) < c j then c j - 1 else c j) := e
      split at e' <;> split at e' <;> omega

theorem least_of {p : Nat → Prop} : ∀ N, (∃ m, m ≤ N ∧ p m) → ∃ m, m ≤ N ∧ p m ∧ ∀ k, k < m → ¬ p k
  | 0, ⟨m, hm, h⟩ => ⟨m, hm, h, fun k hk => by omega⟩
  | N + 1, ⟨m, hm, h⟩ => by
    rcases Classical.em (∃ m, m ≤ N ∧ p m) with h' | h'
    · obtain ⟨m', a, b, c⟩ := least_of N h'
      exact ⟨m', by omega, b, c⟩
    · have e : m = N + 1 := by
        rcases Nat.lt_or_ge m (N + 1) with hlt | hge
        · exact absurd ⟨m, by omega, h⟩ h'
        · omega
      subst e
      exact ⟨N + 1, by omega, h, fun k hk hp => h' ⟨k, by omega, hp⟩⟩

/-- POINCARE -/
theorem comes_back {ru inv : Nat → Nat} (hr : Rule ru inv) {n : Nat} {f : Nat → Nat} (h : RingLen n) (hf : Bits n f) :
    ∃ m, 1 ≤ m ∧ m ≤ 65536 ∧ EqOn n (iterF ru n m f) f ∧ ∀ k, 1 ≤ k → k < m → ¬ EqOn n (iterF ru n k f) f := by
  obtain ⟨i, j, hij, hj, e⟩ := pigeon (2 ^ n) (fun i => codeF (iterF ru n i f) n) (fun i _ => codeF_lt (iterF_bits hr h hf i))
  have heq := codeF_inj (iterF_bits hr h hf i) (iterF_bits hr h hf j) e
  rw [show j = i + (j - i) by omega] at heq
  have hret := (iterF_inj hr h hf i (j - i) heq).symm
  have hpow : 2 ^ n ≤ 65536 := by
    rcases h.cases with rfl | rfl | rfl | rfl | rfl | rfl | rfl | rfl <;> decide
  obtain ⟨m, a, b, c⟩ := least_of (p := fun m => 1 ≤ m ∧ EqOn n (iterF ru n m f) f) 65536 ⟨j - i, by omega, by omega, hret⟩
  exact ⟨m, b.1, a, b.2, fun k hk hkm he => c k hkm ⟨hk, he⟩⟩
end Go.Proofs.YtlckljibajhhkaaDoor
