/-
  The plain arithmetic of numbers written in digits of 2 to the 32: values of rows of digits, digits of values, how many digits a number has. No program in sight.
-/
namespace Go.Proofs.Ytfknjfmgpfhjiaa

/-- The weight of place n. -/
def W (n : Nat) : Nat := 2 ^ (32 * n)

theorem W_zero : W 0 = 1 := rfl
theorem W_succ (n : Nat) : W (n + 1) = 4294967296 * W n := by
  unfold W
  rw [Nat.mul_add, Nat.pow_add, Nat.mul_comm]
theorem W_pos (n : Nat) : 0 < W n := Nat.pow_pos (by decide)
theorem W_add (a b : Nat) : W (a + b) = W a * W b := by unfold W; rw [Nat.mul_add, Nat.pow_add]
theorem W_le {a b : Nat} (h : a ≤ b) : W a ≤ W b := Nat.pow_le_pow_right (by decide) (by omega)
theorem W_one : W 1 = 4294967296 := rfl

/-- The number that n digits make. -/
def val (f : Nat → Nat) : Nat → Nat
  | 0 => 0
  | n + 1 => val f n + f n * W n

theorem val_zero (f : Nat → Nat) : val f 0 = 0 := rfl
theorem val_succ (f : Nat → Nat) (n : Nat) : val f (n + 1) = val f n + f n * W n := rfl

theorem val_congr {f g : Nat → Nat} : ∀ {n : Nat}, (∀ j, j < n → f j = g j) → val f n = val g n
  | 0, _ => rfl
  | n + 1, h => by rw [val_succ, val_succ, val_congr (n := n) (fun j hj => h j (by omega)), h n (by omega)]

theorem val_lt {f : Nat → Nat} : ∀ {n : Nat}, (∀ j, j < n → f j < 4294967296) → val f n < W n
  | 0, _ => by simp [val, W]
  | n + 1, h => by
    have h1 := val_lt (n := n) (fun j hj => h j (by omega))
    have h2 := h n (by omega)
    rw [val_succ, W_succ]
    have h3 : f n * W n ≤ 4294967295 * W n := Nat.mul_le_mul_right _ (by omega)
    omega

/-- Digit j of a number. -/
def dg (N j : Nat) : Nat := N / W j % 4294967296

theorem dg_lt (N j : Nat) : dg N j < 4294967296 := Nat.mod_lt _ (by decide)

theorem val_dg (N : Nat) : ∀ n, val (dg N) n = N % W n
  | 0 => by simp [val, W, Nat.mod_one]
  | n + 1 => by
    rw [val_succ, val_dg N n, W_succ, Nat.mul_comm 4294967296, Nat.mod_mul, dg, Nat.mul_comm]

theorem val_dg_of_lt {N n : Nat} (h : N < W n) : val (dg N) n = N := by rw [val_dg, Nat.mod_eq_of_lt h]

theorem dg_val {f : Nat → Nat} {n : Nat} (h : ∀ j, j < n → f j < 4294967296) : ∀ j, j < n → dg (val f n) j = f j := by
  induction n with
  | zero => intro j hj; omega
  | succ n ih =>
    intro j hj
    have hv := val_lt (n := n) (fun j hj => h j (by omega))
    by_cases e : j = n
    · subst e
      rw [dg, val_succ, Nat.add_mul_div_right _ _ (W_pos j), Nat.div_eq_of_lt hv, Nat.zero_add, Nat.mod_eq_of_lt (h j (by omega))]
    · have hj' : j < n := by omega
      have h1 := ih (fun j hj => h j (by omega)) j hj'
      rw [← h1, dg, dg, val_succ]
      have e2 : W n = W j * (4294967296 * W (n - j - 1)) := by
        rw [← W_succ, ← W_add]; congr 1; omega
      rw [e2, ← Nat.mul_assoc, Nat.mul_comm (f n) (W j), Nat.mul_assoc, Nat.add_mul_div_left _ _ (W_pos j), Nat.mul_left_comm, Nat.add_mul_mod_self_left]

/-- How many binary digits. -/
def bits (N : Nat) : Nat := if N = 0 then 0 else N.log2 + 1

theorem bits_le {N k : Nat} : bits N ≤ k ↔ N < 2 ^ k := by
  unfold bits
  split
  · rename_i h; subst h; simp [Nat.pow_pos]
  · rename_i h
    have := Nat.log2_lt h (k := k)
    omega

theorem bits_zero : bits 0 = 0 := rfl

theorem le_bits {N k : Nat} (h : 2 ^ k ≤ N) : k + 1 ≤ bits N := by
  have := @bits_le N k
  omega

/-- How many digits. -/
def nd (N : Nat) : Nat := (bits N + 31) / 32

theorem nd_le {N k : Nat} : nd N ≤ k ↔ N < W k := by
  unfold nd W
  have := @bits_le N (32 * k)
  omega

theorem nd_zero : nd 0 = 0 := rfl

theorem lt_W_nd (N : Nat) : N < W (nd N) := nd_le.1 (Nat.le_refl _)

theorem nd_eq {N k : Nat} (h1 : N < W (k + 1)) (h2 : W k ≤ N) : nd N = k + 1 := by
  have a := (@nd_le N (k + 1)).2 h1
  have b := @nd_le N k
  omega

theorem nd_pos {N : Nat} (h : 0 < N) : 0 < nd N := by
  have := @nd_le N 0
  rw [W_zero] at this
  omega

theorem nd_eq_zero {N : Nat} : nd N = 0 ↔ N = 0 := by
  have := @nd_le N 0
  rw [W_zero] at this
  omega

theorem W_le_of_nd {N k : Nat} (h : k < nd N) : W k ≤ N := by
  have := @nd_le N k
  omega

theorem nd_mono {a b : Nat} (h : a ≤ b) : nd a ≤ nd b := nd_le.2 (Nat.lt_of_le_of_lt h (lt_W_nd b))

theorem val_dg_nd (N : Nat) : val (dg N) (nd N) = N := val_dg_of_lt (lt_W_nd N)

/-- The last digit of a number written without noughts is none. -/
theorem dg_top {N : Nat} (h : 0 < N) : 0 < dg N (nd N - 1) := by
  have hp := nd_pos h
  have h1 : W (nd N - 1) ≤ N := W_le_of_nd (by omega)
  have h2 := lt_W_nd N
  have e : nd N = (nd N - 1) + 1 := by omega
  rw [e, W_succ] at h2
  have h3 : N / W (nd N - 1) < 4294967296 := Nat.div_lt_of_lt_mul (by rw [Nat.mul_comm]; exact h2)
  rw [dg, Nat.mod_eq_of_lt h3]
  exact Nat.div_pos h1 (W_pos _)

/-- A row whose last digit is none has as many digits as it is long. -/
theorem nd_val {f : Nat → Nat} {n : Nat} (h : ∀ j, j < n + 1 → f j < 4294967296) (ht : f n ≠ 0) : nd (val f (n + 1)) = n + 1 := by
  refine nd_eq (val_lt h) ?_
  rw [val_succ]
  have : 1 * W n ≤ f n * W n := Nat.mul_le_mul_right _ (by omega)
  omega

theorem nd_val_le {f : Nat → Nat} {n : Nat} (h : ∀ j, j < n → f j < 4294967296) : nd (val f n) ≤ n := nd_le.2 (val_lt h)

/-- Two rows that are the same from i on differ as their first i digits do. -/
theorem val_same_above {f g : Nat → Nat} {i : Nat} : ∀ {n : Nat}, i ≤ n → (∀ j, i ≤ j → j < n → f j = g j) → val f n + val g i = val g n + val f i := by
  intro n hn h
  obtain ⟨d, rfl⟩ : ∃ d, n = i + d := ⟨n - i, by omega⟩
  clear hn
  induction d with
  | zero => simp [Nat.add_comm]
  | succ d ih =>
    have h1 := ih (fun j hj hj' => h j hj (by omega))
    rw [← Nat.add_assoc, val_succ, val_succ, h (i + d) (by omega) (by omega)]
    omega

theorem val_lt_of_digit {f g : Nat → Nat} {i : Nat} (hf : ∀ j, j < i → f j < 4294967296) (h : f i < g i) : val f (i + 1) < val g (i + 1) := by
  rw [val_succ, val_succ]
  have h1 := val_lt hf
  have h2 : (f i + 1) * W i ≤ g i * W i := Nat.mul_le_mul_right _ h
  rw [Nat.add_mul] at h2
  omega

/-- A digit more at a place. -/
theorem val_upd {f : Nat → Nat} {j v : Nat} : ∀ {n : Nat}, val (fun i => if i = j then v else f i) n + (if j < n then f j * W j else 0) = val f n + (if j < n then v * W j else 0)
  | 0 => by simp [val]
  | n + 1 => by
    have ih := val_upd (f := f) (j := j) (v := v) (n := n)
    rw [val_succ, val_succ]
    by_cases e : n = j
    · subst e
      simp only [if_true, Nat.lt_irrefl, if_false, Nat.lt_succ_self] at ih ⊢
      omega
    · by_cases h : j < n
      · have h' : j < n + 1 := by omega
        simp only [if_neg e, if_pos h, if_pos h'] at ih ⊢
        omega
      · have h' : ¬ j < n + 1 := by omega
        simp only [if_neg e, if_neg h, if_neg h'] at ih ⊢
        omega

theorem val_nought {f : Nat → Nat} : ∀ {n : Nat}, (∀ j, j < n → f j = 0) → val f n = 0
  | 0, _ => rfl
  | n + 1, h => by rw [val_succ, val_nought (n := n) (fun j hj => h j (by omega)), h n (by omega)]; simp

/-- Noughts behind a row change nothing. -/
theorem val_ext_nought {f : Nat → Nat} {m n : Nat} (hn : m ≤ n) (h : ∀ j, m ≤ j → j < n → f j = 0) : val f n = val f m := by
  obtain ⟨d, rfl⟩ : ∃ d, n = m + d := ⟨n - m, by omega⟩
  clear hn
  induction d with
  | zero => rfl
  | succ d ih => rw [← Nat.add_assoc, val_succ, h (m + d) (by omega) (by omega), ih (fun j hj hj' => h j hj (by omega))]; simp

/-- The first place, from above, at which two rows part decides. -/
theorem val_lt_of_first {f g : Nat → Nat} {i n : Nat} (hi : i < n) (hf : ∀ j, j < n → f j < 4294967296) (hs : ∀ j, i + 1 ≤ j → j < n → f j = g j) (h : f i < g i) : val f n < val g n := by
  have h1 := val_same_above (i := i + 1) (n := n) (by omega) hs
  have h2 := val_lt_of_digit (f := f) (g := g) (i := i) (fun j hj => hf j (by omega)) h
  omega

/-- Less, the same, more. -/
def cmp (a b : Nat) : Int := if a < b then -1 else if a = b then 0 else 1

theorem cmp_lt {a b : Nat} (h : a < b) : cmp a b = -1 := by simp [cmp, h]
theorem cmp_eq {a b : Nat} (h : a = b) : cmp a b = 0 := by subst h; simp [cmp]
theorem cmp_gt {a b : Nat} (h : b < a) : cmp a b = 1 := by
  have h1 : ¬ a < b := by omega
  have h2 : ¬ a = b := by omega
  simp [cmp, h1, h2]

theorem lt_of_nd_lt {a b : Nat} (h : nd a < nd b) : a < b := by
  have h1 := W_le_of_nd h
  have h2 := lt_W_nd a
  omega

/-- How many binary digits the number has whose last digit is t. -/
theorem bits_top {f : Nat → Nat} {n : Nat} (h : ∀ j, j < n → f j < 4294967296) (ht : f n ≠ 0) : bits (val f (n + 1)) = 32 * n + bits (f n) := by
  have hv := val_lt h
  have h1 : f n < 2 ^ bits (f n) := bits_le.1 (Nat.le_refl _)
  have h2 : 2 ^ (bits (f n) - 1) ≤ f n := by
    have h3 := @bits_le (f n) (bits (f n) - 1)
    have h4 : 0 < bits (f n) := by
      have := @bits_le (f n) 0
      omega
    omega
  have hbp : 0 < bits (f n) := by
    have := @bits_le (f n) 0
    omega
  have e1 : W n = 2 ^ (32 * n) := rfl
  have u1 : val f (n + 1) < 2 ^ (32 * n + bits (f n)) := by
    rw [val_succ, Nat.pow_add, e1]
    rw [e1] at hv
    have h5 : (f n + 1) * 2 ^ (32 * n) ≤ 2 ^ bits (f n) * 2 ^ (32 * n) := Nat.mul_le_mul_right _ h1
    rw [Nat.add_mul] at h5
    rw [Nat.mul_comm (2 ^ (32 * n))]
    omega
  have u2 : 2 ^ (32 * n + (bits (f n) - 1)) ≤ val f (n + 1) := by
    rw [val_succ, Nat.pow_add, e1]
    have h5 : 2 ^ (bits (f n) - 1) * 2 ^ (32 * n) ≤ f n * 2 ^ (32 * n) := Nat.mul_le_mul_right _ h2
    rw [Nat.mul_comm (2 ^ (32 * n))]
    omega
  have a := bits_le.2 u1
  have b := le_bits u2
  omega

theorem bits_top' {X : Nat} (h : 0 < X) : bits X = 32 * (nd X - 1) + bits (dg X (nd X - 1)) := by
  have hp := nd_pos h
  have ht := dg_top h
  have hb := bits_top (f := dg X) (n := nd X - 1) (fun _ _ => dg_lt _ _) (by omega)
  rw [show nd X - 1 + 1 = nd X from by omega, val_dg_nd] at hb
  exact hb

end Go.Proofs.Ytfknjfmgpfhjiaa
