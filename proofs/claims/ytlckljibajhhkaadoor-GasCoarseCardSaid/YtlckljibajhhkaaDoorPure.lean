/-
  A ring of cells and a step of it, as plain mathematics: what a step makes of each cell; that a step back is the ring that was; that each ring comes back; that a rule which keeps how many cells are 1 in its pairs keeps those of the ring.
-/
namespace Go.Proofs.YtlckljibajhhkaaDoor

/-- which pair cell j is of, counted from the one that begins at p -/
def pairOf (n p j : Nat) : Nat := ((j + n - p) % n) / 2
/-- the left and the right cell of pair q -/
def leftOf (n p q : Nat) : Nat := (2 * q + p) % n
def rightOf (n p q : Nat) : Nat := (2 * q + p + 1) % n
/-- what the rule makes of pair q -/
def madeOf (ru : Nat → Nat) (n p : Nat) (f : Nat → Nat) (q : Nat) : Nat := ru (2 * f (leftOf n p q) + f (rightOf n p q))
/-- a step: cell j behind it -/
def stepF (ru : Nat → Nat) (n p : Nat) (f : Nat → Nat) (j : Nat) : Nat :=
  if (j + n - p) % n % 2 = 0 then madeOf ru n p f (pairOf n p j) / 2 else madeOf ru n p f (pairOf n p j) % 2

/-- a length that a ring may have -/
def RingLen (n : Nat) : Prop := 2 ≤ n ∧ n ≤ 16 ∧ n % 2 = 0
theorem RingLen.cases {n : Nat} (h : RingLen n) : n = 2 ∨ n = 4 ∨ n = 6 ∨ n = 8 ∨ n = 10 ∨ n = 12 ∨ n = 14 ∨ n = 16 := by
  obtain ⟨h1, h2, h3⟩ := h; omega
theorem RingLen.pos {n : Nat} (h : RingLen n) : 0 < n := by have := h.1; omega

theorem left_lt {n : Nat} (h : RingLen n) (p q : Nat) : leftOf n p q < n := Nat.mod_lt _ h.pos
theorem right_lt {n : Nat} (h : RingLen n) (p q : Nat) : rightOf n p q < n := Nat.mod_lt _ h.pos

theorem pair_left {n p q : Nat} (h : RingLen n) (hp : p ≤ 1) (hq : 2 * q < n) : pairOf n p (leftOf n p q) = q ∧ (leftOf n p q + n - p) % n % 2 = 0 := by
  rcases h.cases with rfl | rfl | rfl | rfl | rfl | rfl | rfl | rfl <;> (simp only [pairOf, leftOf]; omega)
theorem pair_right {n p q : Nat} (h : RingLen n) (hp : p ≤ 1) (hq : 2 * q < n) : pairOf n p (rightOf n p q) = q ∧ (rightOf n p q + n - p) % n % 2 = 1 := by
  rcases h.cases with rfl | rfl | rfl | rfl | rfl | rfl | rfl | rfl <;> (simp only [pairOf, rightOf]; omega)
theorem left_of_pair {n p j : Nat} (h : RingLen n) (hp : p ≤ 1) (hj : j < n) (hd : (j + n - p) % n % 2 = 0) : leftOf n p (pairOf n p j) = j := by
  revert hd
  rcases h.cases with rfl | rfl | rfl | rfl | rfl | rfl | rfl | rfl <;> (simp only [pairOf, leftOf]; omega)
theorem right_of_pair {n p j : Nat} (h : RingLen n) (hp : p ≤ 1) (hj : j < n) (hd : ¬ (j + n - p) % n % 2 = 0) : rightOf n p (pairOf n p j) = j := by
  revert hd
  rcases h.cases with rfl | rfl | rfl | rfl | rfl | rfl | rfl | rfl <;> (simp only [pairOf, rightOf]; omega)
theorem pair_lt {n p j : Nat} (h : RingLen n) : 2 * pairOf n p j < n := by
  have := Nat.mod_lt (j + n - p) h.pos; simp only [pairOf]; omega
theorem left_ne_right {n p q : Nat} (h : RingLen n) (hp : p ≤ 1) (hq : 2 * q < n) : leftOf n p q ≠ rightOf n p q := by
  intro e
  have h1 := (pair_left h hp hq).2
  have h2 := (pair_right h hp hq).2
  rw [e] at h1; omega

/-- what stands in both cells of a pair behind a step -/
theorem stepF_left {n p q : Nat} (ru : Nat → Nat) (f : Nat → Nat) (h : RingLen n) (hp : p ≤ 1) (hq : 2 * q < n) : stepF ru n p f (leftOf n p q) = madeOf ru n p f q / 2 := by
  obtain ⟨h1, h2⟩ := pair_left h hp hq
  rw [stepF, if_pos h2, h1]
theorem stepF_right {n p q : Nat} (ru : Nat → Nat) (f : Nat → Nat) (h : RingLen n) (hp : p ≤ 1) (hq : 2 * q < n) : stepF ru n p f (rightOf n p q) = madeOf ru n p f q % 2 := by
  obtain ⟨h1, h2⟩ := pair_right h hp hq
  rw [stepF, if_neg (by omega), h1]

/-- a rule: a permutation of 0 to 3 -/
structure Rule (ru inv : Nat → Nat) : Prop where
  lt : ∀ k, k < 4 → ru k < 4
  back : ∀ k, k < 4 → inv (ru k) = k
  invlt : ∀ k, k < 4 → inv k < 4
  forth : ∀ k, k < 4 → ru (inv k) = k
theorem Rule.turn {ru inv : Nat → Nat} (h : Rule ru inv) : Rule inv ru := ⟨h.invlt, h.forth, h.lt, h.back⟩

/-- cells are 0 or 1 -/
def Bits (n : Nat) (f : Nat → Nat) : Prop := ∀ j, j < n → f j < 2
def EqOn (n : Nat) (f g : Nat → Nat) : Prop := ∀ j, j < n → f j = g j
theorem EqOn.refl (n : Nat) (f : Nat → Nat) : EqOn n f f := fun _ _ => rfl
theorem EqOn.symm {n : Nat} {f g : Nat → Nat} (h : EqOn n f g) : EqOn n g f := fun j hj => (h j hj).symm
theorem EqOn.trans {n : Nat} {f g k : Nat → Nat} (h : EqOn n f g) (h' : EqOn n g k) : EqOn n f k := fun j hj => (h j hj).trans (h' j hj)

theorem madeOf_lt {ru inv : Nat → Nat} (hr : Rule ru inv) {n p q : Nat} {f : Nat → Nat} (h : RingLen n) (hf : Bits n f) : madeOf ru n p f q < 4 := by
  have h1 := hf _ (left_lt h p q); have h2 := hf _ (right_lt h p q)
  exact hr.lt _ (by omega)
theorem stepF_bits {ru inv : Nat → Nat} (hr : Rule ru inv) {n p : Nat} {f : Nat → Nat} (h : RingLen n) (hf : Bits n f) : Bits n (stepF ru n p f) := by
  intro j _
  have := madeOf_lt hr (p := p) (q := pairOf n p j) h hf
  unfold stepF; split <;> omega

theorem stepF_congr (ru : Nat → Nat) {n p : Nat} {f g : Nat → Nat} (h : RingLen n) (e : EqOn n f g) : EqOn n (stepF ru n p f) (stepF ru n p g) := by
  intro j _
  have : madeOf ru n p f (pairOf n p j) = madeOf ru n p g (pairOf n p j) := by
    unfold madeOf; rw [e _ (left_lt h p _), e _ (right_lt h p _)]
  unfold stepF; rw [this]

/-- LIOUVILLE -/
theorem stepF_back {ru inv : Nat → Nat} (hr : Rule ru inv) {n p : Nat} {f : Nat → Nat} (h : RingLen n) (hp : p ≤ 1) (hf : Bits n f) : EqOn n (stepF inv n p (stepF ru n p f)) f := by
  intro j hj
  have hq := pair_lt (p := p) (j := j) h
  have h1 := hf _ (left_lt h p (pairOf n p j)); have h2 := hf _ (right_lt h p (pairOf n p j))
  have hm : madeOf inv n p (stepF ru n p f) (pairOf n p j) = 2 * f (leftOf n p (pairOf n p j)) + f (rightOf n p (pairOf n p j)) := by
    unfold madeOf
    rw [stepF_left ru f h hp hq, stepF_right ru f h hp hq, show 2 * (madeOf ru n p f (pairOf n p j) / 2) + madeOf ru n p f (pairOf n p j) % 2 = madeOf ru n p f (pairOf n p j) by omega]
    exact hr.back _ (by omega)
  by_cases hd : (j + n - p) % n % 2 = 0
  · rw [stepF, if_pos hd, hm, left_of_pair h hp hj hd]
    have := hf j hj
    rw [left_of_pair h hp hj hd] at h1
    omega
  · rw [stepF, if_neg hd, hm, right_of_pair h hp hj hd]
    rw [right_of_pair h hp hj hd] at h2
    omega

/-- steps at the times 0, 1, .. -/
def runF (ru : Nat → Nat) (n : Nat) : Nat → (Nat → Nat) → Nat → Nat
  | 0, f => f
  | k + 1, f => stepF ru n (k % 2) (runF ru n k f)
theorem runF_bits {ru inv : Nat → Nat} (hr : Rule ru inv) {n : Nat} {f : Nat → Nat} (h : RingLen n) (hf : Bits n f) : ∀ k, Bits n (runF ru n k f)
  | 0 => hf
  | k + 1 => stepF_bits hr h (runF_bits hr h hf k)
theorem runF_congr (ru : Nat → Nat) {n : Nat} {f g : Nat → Nat} (h : RingLen n) (e : EqOn n f g) : ∀ k, EqOn n (runF ru n k f) (runF ru n k g)
  | 0 => e
  | k + 1 => stepF_congr ru h (runF_congr ru h e k)
theorem stepF_inj {ru inv : Nat → Nat} (hr : Rule ru inv) {n p : Nat} {f g : Nat → Nat} (h : RingLen n) (hp : p ≤ 1) (hf : Bits n f) (hg : Bits n g) (e : EqOn n (stepF ru n p f) (stepF ru n p g)) : EqOn n f g :=
  (stepF_back hr h hp hf).symm.trans ((stepF_congr inv h e).trans (stepF_back hr h hp hg))
theorem runF_inj {ru inv : Nat → Nat} (hr : Rule ru inv) {n : Nat} {f g : Nat → Nat} (h : RingLen n) (hf : Bits n f) (hg : Bits n g) : ∀ k, EqOn n (runF ru n k f) (runF ru n k g) → EqOn n f g
  | 0, e => e
  | k + 1, e => runF_inj hr h hf hg k (stepF_inj hr h (by omega) (runF_bits hr h hf k) (runF_bits hr h hg k) e)

/-- how many cells are 1 -/
def onesF (f : Nat → Nat) : Nat → Nat
  | 0 => 0
  | n + 1 => onesF f n + f n
theorem onesF_congr {f g : Nat → Nat} : ∀ {n : Nat}, EqOn n f g → onesF f n = onesF g n
  | 0, _ => rfl
  | n + 1, e => by simp only [onesF]; rw [onesF_congr (fun j hj => e j (by omega)), e n (by omega)]
def pairsF (f : Nat → Nat) (n p : Nat) : Nat → Nat
  | 0 => 0
  | q + 1 => pairsF f n p q + (f (leftOf n p q) + f (rightOf n p q))
theorem ones_pairs {n p : Nat} (f : Nat → Nat) (h : RingLen n) (hp : p ≤ 1) : onesF f n = pairsF f n p (n / 2) := by
  rcases (show p = 0 ∨ p = 1 by omega) with rfl | rfl <;> rcases h.cases with rfl | rfl | rfl | rfl | rfl | rfl | rfl | rfl <;>
    (simp only [onesF, pairsF, leftOf, rightOf, Nat.reduceMul, Nat.reduceAdd, Nat.reduceMod, Nat.reduceDiv]; omega)
theorem pairs_keep {ru inv : Nat → Nat} (hr : Rule ru inv) (h0 : ru 0 = 0) (h3 : ru 3 = 3) {n p : Nat} {f : Nat → Nat} (h : RingLen n) (hp : p ≤ 1) (hf : Bits n f) :
    ∀ q, 2 * q ≤ n → pairsF (stepF ru n p f) n p q = pairsF f n p q
  | 0, _ => rfl
  | q + 1, hq => by
    simp only [pairsF]
    rw [pairs_keep hr h0 h3 h hp hf q (by omega), stepF_left ru f h hp (by omega), stepF_right ru f h hp (by omega)]
    have a := hf _ (left_lt h p q); have b := hf _ (right_lt h p q)
    have r1 := hr.lt 1 (by omega); have r2 := hr.lt 2 (by omega)
    have b0 := hr.back 0 (by omega); have b1 := hr.back 1 (by omega); have b2 := hr.back 2 (by omega); have b3 := hr.back 3 (by omega)
    have n10 : ru 1 ≠ 0 := fun e => by rw [e, ← h0, b0] at b1; omega
    have n13 : ru 1 ≠ 3 := fun e => by rw [e, ← h3, b3] at b1; omega
    have n20 : ru 2 ≠ 0 := fun e => by rw [e, ← h0, b0] at b2; omega
    have n23 : ru 2 ≠ 3 := fun e => by rw [e, ← h3, b3] at b2; omega
    unfold madeOf
    rcases (show f (leftOf n p q) = 0 ∨ f (leftOf n p q) = 1 by omega) with e1 | e1 <;> rcases (show f (rightOf n p q) = 0 ∨ f (rightOf n p q) = 1 by omega) with e2 | e2 <;>
      (rw [e1, e2]; simp only [Nat.reduceMul, Nat.reduceAdd, h0, h3]; try omega)
theorem stepF_ones {ru inv : Nat → Nat} (hr : Rule ru inv) (h0 : ru 0 = 0) (h3 : ru 3 = 3) {n p : Nat} {f : Nat → Nat} (h : RingLen n) (hp : p ≤ 1) (hf : Bits n f) : onesF (stepF ru n p f) n = onesF f n := by
  rw [ones_pairs _ h hp, ones_pairs f h hp]; exact pairs_keep hr h0 h3 h hp hf _ (by omega)
theorem runF_ones {ru inv : Nat → Nat} (hr : Rule ru inv) (h0 : ru 0 = 0) (h3 : ru 3 = 3) {n : Nat} {f : Nat → Nat} (h : RingLen n) (hf : Bits n f) : ∀ k, onesF (runF ru n k f) n = onesF f n
  | 0 => rfl
  | k + 1 => (stepF_ones hr h0 h3 h (by omega) (runF_bits hr h hf k)).trans (runF_ones hr h0 h3 h hf k)
end Go.Proofs.YtlckljibajhhkaaDoor
