/-
  Primes: Fermat's little theorem, and primes told by Pocklington's rule. Plain numbers; no program in sight.
-/
namespace Go.Proofs.Ytfknjfmgpfhjiaa

/-- A prime. -/
def Prm (p : Nat) : Prop := 2 ≤ p ∧ ∀ d, d ∣ p → d = 1 ∨ d = p

theorem Prm.pos {p : Nat} (h : Prm p) : 0 < p := Nat.lt_of_lt_of_le (by decide) h.1

theorem Prm.coprime {p a : Nat} (h : Prm p) (ha : ¬ p ∣ a) : Nat.gcd a p = 1 := by
  rcases h.2 (Nat.gcd a p) (Nat.gcd_dvd_right a p) with h1 | h1
  · exact h1
  · exact absurd (h1 ▸ Nat.gcd_dvd_left a p) ha

theorem Prm.dvd_mul {p a b : Nat} (h : Prm p) (hab : p ∣ a * b) (ha : ¬ p ∣ a) : p ∣ b := by
  have h1 : Nat.Coprime p a := by rw [Nat.coprime_comm]; exact h.coprime ha
  exact h1.dvd_of_dvd_mul_left hab

/-! ### Binomials -/

def chs : Nat → Nat → Nat
  | _, 0 => 1
  | 0, _ + 1 => 0
  | n + 1, k + 1 => chs n k + chs n (k + 1)

theorem chs_zero (n : Nat) : chs n 0 = 1 := by cases n <;> rfl

theorem chs_over : ∀ n k, n < k → chs n k = 0
  | 0, 0, h => absurd h (by decide)
  | 0, k + 1, _ => rfl
  | n + 1, 0, h => absurd h (by omega)
  | n + 1, k + 1, h => by
    show chs n k + chs n (k + 1) = 0
    rw [chs_over n k (by omega), chs_over n (k + 1) (by omega)]

theorem chs_self : ∀ n, chs n n = 1
  | 0 => rfl
  | n + 1 => by
    show chs n n + chs n (n + 1) = 1
    rw [chs_self n, chs_over n (n + 1) (by omega)]

theorem chs_absorb : ∀ n k, (k + 1) * chs (n + 1) (k + 1) = (n + 1) * chs n k
  | 0, 0 => rfl
  | 0, k + 1 => by
    show (k + 1 + 1) * (chs 0 (k + 1) + chs 0 (k + 1 + 1)) = (0 + 1) * chs 0 (k + 1)
    rfl
  | n + 1, 0 => by
    show (0 + 1) * (chs (n + 1) 0 + chs (n + 1) (0 + 1)) = (n + 1 + 1) * chs (n + 1) 0
    have := chs_absorb n 0
    rw [chs_zero] at this ⊢
    omega
  | n + 1, k + 1 => by
    show (k + 1 + 1) * (chs (n + 1) (k + 1) + chs (n + 1) (k + 1 + 1)) = (n + 1 + 1) * chs (n + 1) (k + 1)
    have h1 := chs_absorb n k
    have h2 := chs_absorb n (k + 1)
    have h3 : chs (n + 1) (k + 1) = chs n k + chs n (k + 1) := rfl
    rw [Nat.mul_add, h2, Nat.add_mul (k + 1) 1, h1, h3, Nat.add_mul (n + 1) 1, Nat.mul_add, Nat.mul_add]
    omega

/-- The first m terms of a power of a sum. -/
def bsum (x n : Nat) : Nat → Nat
  | 0 => 0
  | m + 1 => bsum x n m + chs n m * x ^ m

theorem bsum_step (x n : Nat) : ∀ m, bsum x (n + 1) (m + 1) = bsum x n (m + 1) + x * bsum x n m
  | 0 => by
    show 0 + chs (n + 1) 0 * x ^ 0 = (0 + chs n 0 * x ^ 0) + x * 0
    rw [chs_zero, chs_zero, Nat.mul_zero, Nat.add_zero]
  | m + 1 => by
    show bsum x (n + 1) (m + 1) + chs (n + 1) (m + 1) * x ^ (m + 1) = (bsum x n (m + 1) + chs n (m + 1) * x ^ (m + 1)) + x * (bsum x n m + chs n m * x ^ m)
    rw [bsum_step x n m]
    have h3 : chs (n + 1) (m + 1) = chs n m + chs n (m + 1) := rfl
    have h4 : x * (chs n m * x ^ m) = chs n m * x ^ (m + 1) := by rw [Nat.pow_succ, Nat.mul_left_comm, Nat.mul_comm x (x ^ m)]
    rw [h3, Nat.mul_add, h4, Nat.add_mul]
    omega

theorem bsum_pow (x : Nat) : ∀ n, (x + 1) ^ n = bsum x n (n + 1)
  | 0 => by rw [Nat.pow_zero]; show 1 = 0 + chs 0 0 * x ^ 0; rfl
  | n + 1 => by
    rw [bsum_step, Nat.pow_succ, bsum_pow x n]
    show _ = (bsum x n (n + 1) + chs n (n + 1) * x ^ (n + 1)) + _
    rw [chs_over n (n + 1) (by omega), Nat.zero_mul, Nat.add_zero, Nat.mul_add, Nat.mul_one, Nat.mul_comm x]
    omega

theorem chs_dvd {p k : Nat} (h : Prm p) (hk : 0 < k) (hkp : k < p) : p ∣ chs p k := by
  obtain ⟨j, rfl⟩ : ∃ j, k = j + 1 := ⟨k - 1, by omega⟩
  obtain ⟨q, rfl⟩ : ∃ q, p = q + 1 := ⟨p - 1, by omega⟩
  have h1 : (q + 1) ∣ (j + 1) * chs (q + 1) (j + 1) := ⟨chs q j, chs_absorb q j⟩
  refine h.dvd_mul h1 fun hd => ?_
  have := Nat.le_of_dvd (by omega) hd
  omega

theorem bsum_mod {p : Nat} (h : Prm p) (x : Nat) : ∀ m, 0 < m → m ≤ p → bsum x p m % p = 1 % p
  | 0, h0, _ => absurd h0 (by decide)
  | 1, _, _ => by
    show (0 + chs p 0 * x ^ 0) % p = _
    rw [chs_zero, Nat.pow_zero]
  | m + 2, _, hm => by
    show (bsum x p (m + 1) + chs p (m + 1) * x ^ (m + 1)) % p = _
    obtain ⟨c, hc⟩ := chs_dvd h (show 0 < m + 1 by omega) (show m + 1 < p by omega)
    rw [hc, Nat.mul_assoc, Nat.add_mul_mod_self_left]
    exact bsum_mod h x (m + 1) (by omega) (by omega)

/-- Fermat's little theorem. -/
theorem fermat {p : Nat} (h : Prm p) : ∀ a, a ^ p % p = a % p
  | 0 => by
    rw [Nat.zero_pow h.pos]
  | a + 1 => by
    rw [bsum_pow]
    show (bsum a p p + chs p p * a ^ p) % p = _
    rw [chs_self, Nat.one_mul, Nat.add_mod, bsum_mod h a p h.pos (Nat.le_refl _), fermat h a, ← Nat.add_mod, Nat.add_comm]

theorem mod_of_sub {x y p : Nat} (hl : x ≤ y) (h : p ∣ y - x) : x % p = y % p := by
  obtain ⟨c, hc⟩ := h
  have : y = x + p * c := by omega
  rw [this, Nat.add_mul_mod_self_left]

theorem mod_cancel {a x y p : Nat} (hp : Prm p) (ha : ¬ p ∣ a) (h : a * x % p = a * y % p) : x % p = y % p := by
  rcases Nat.le_total x y with hl | hl
  · have h1 : p ∣ a * (y - x) := by
      rw [Nat.mul_sub]
      exact Nat.dvd_of_mod_eq_zero (Nat.sub_mod_eq_zero_of_mod_eq h.symm)
    exact mod_of_sub hl (hp.dvd_mul h1 ha)
  · have h1 : p ∣ a * (x - y) := by
      rw [Nat.mul_sub]
      exact Nat.dvd_of_mod_eq_zero (Nat.sub_mod_eq_zero_of_mod_eq h)
    exact (mod_of_sub hl (hp.dvd_mul h1 ha)).symm

/-- Fermat's theorem, a factor taken off. -/
theorem fermat1 {p a : Nat} (h : Prm p) (ha : ¬ p ∣ a) : a ^ (p - 1) % p = 1 % p := by
  refine mod_cancel (a := a) h ha ?_
  rw [Nat.mul_one, ← fermat h a]
  congr 1
  conv => rhs; rw [show p = p - 1 + 1 from by have := h.pos; omega]
  rw [Nat.pow_succ, Nat.mul_comm]

theorem pow_mod_one {b m n r : Nat} (h1 : b ^ m % r = 1 % r) : b ^ n % r = b ^ (n % m) % r := by
  conv => lhs; rw [← Nat.div_add_mod n m]
  rw [Nat.pow_add, Nat.mul_mod, Nat.pow_mul, Nat.pow_mod, h1, ← Nat.pow_mod, Nat.one_pow, ← Nat.mul_mod, Nat.one_mul]

theorem pow_gcd {b r : Nat} (m n : Nat) : b ^ m % r = 1 % r → b ^ n % r = 1 % r → b ^ (Nat.gcd m n) % r = 1 % r := by
  induction m, n using Nat.gcd.induction with
  | H0 n => intro _ h; rw [Nat.gcd_zero_left]; exact h
  | H1 m n hm ih =>
    intro h1 h2
    rw [Nat.gcd_rec]
    exact ih (by rw [← pow_mod_one h1]; exact h2) h1

/-- Pocklington's rule, one factor: it divides each prime factor of N, less 1. -/
theorem q_dvd {N a q m r : Nat} (hN : 2 ≤ N) (hr : Prm r) (hrN : r ∣ N) (hq : Prm q) (e : N - 1 = q * m) (h1 : a ^ (N - 1) % N = 1) (h2 : Nat.gcd (a ^ m % N + (N - 1)) N = 1) : q ∣ r - 1 := by
  refine Decidable.byContradiction fun hn => ?_
  have g1 : Nat.gcd (r - 1) q = 1 := hq.coprime hn
  have b1 : (a ^ m) ^ q % r = 1 % r := by
    rw [← Nat.pow_mul, Nat.mul_comm m q, ← e, ← Nat.mod_mod_of_dvd _ hrN, h1]
  have hrb : ¬ r ∣ a ^ m := by
    intro hd
    have h3 : (a ^ m) ^ q % r = 0 := by
      obtain ⟨k, rfl⟩ : ∃ k, q = k + 1 := ⟨q - 1, by have := hq.pos; omega⟩
      rw [Nat.pow_succ, Nat.mul_mod, Nat.mod_eq_zero_of_dvd hd, Nat.mul_zero, Nat.zero_mod]
    rw [h3, Nat.mod_eq_of_lt hr.1] at b1
    exact absurd b1 (by decide)
  have b2 := pow_gcd (r - 1) q (fermat1 hr hrb) b1
  rw [g1, Nat.pow_one] at b2
  have hd : r ∣ a ^ m % N + (N - 1) := by
    apply Nat.dvd_of_mod_eq_zero
    have h3 : (a ^ m % N + (N - 1)) % r = (1 + (N - 1)) % r := by
      rw [Nat.add_mod, Nat.mod_mod_of_dvd _ hrN, b2, ← Nat.add_mod]
    rw [h3, show 1 + (N - 1) = N from by omega]
    exact Nat.mod_eq_zero_of_dvd hrN
  have h4 := Nat.dvd_gcd hd hrN
  rw [h2] at h4
  have := Nat.le_of_dvd (by decide) h4
  have := hr.1
  omega

/-- The least factor. -/
theorem least_factor {N : Nat} (hN : 2 ≤ N) : ∃ r, Prm r ∧ r ∣ N ∧ (r = N ∨ r * r ≤ N) := by
  have ex : ∃ d, 2 ≤ d ∧ d ∣ N := ⟨N, hN, Nat.dvd_refl N⟩
  obtain ⟨d, ⟨hd2, hdN⟩, hmin⟩ : ∃ d, (2 ≤ d ∧ d ∣ N) ∧ ∀ c, c < d → ¬ (2 ≤ c ∧ c ∣ N) := by
    have : ∀ n, (∃ d, d ≤ n ∧ 2 ≤ d ∧ d ∣ N) → ∃ d, (2 ≤ d ∧ d ∣ N) ∧ ∀ c, c < d → ¬ (2 ≤ c ∧ c ∣ N) := by
      intro n
      induction n with
      | zero => rintro ⟨d, h1, h2, _⟩; omega
      | succ n ih =>
        rintro ⟨d, h1, h2, h3⟩
        by_cases h : ∃ d, d ≤ n ∧ 2 ≤ d ∧ d ∣ N
        · exact ih h
        · exact ⟨d, ⟨h2, h3⟩, fun c hc hh => h ⟨c, by omega, hh⟩⟩
    exact this N ⟨N, Nat.le_refl _, hN, Nat.dvd_refl _⟩
  have hp : Prm d := by
    refine ⟨hd2, fun c hc => ?_⟩
    by_cases h1 : c = 1
    · exact .inl h1
    · right
      have hle := Nat.le_of_dvd (by omega) hc
      rcases Nat.lt_or_eq_of_le hle with hlt | heq
      · have hc0 : c ≠ 0 := by rintro rfl; have := Nat.eq_zero_of_zero_dvd hc; omega
        exact absurd ⟨by omega, Nat.dvd_trans hc hdN⟩ (hmin c hlt)
      · exact heq
  refine ⟨d, hp, hdN, ?_⟩
  obtain ⟨c, hc⟩ := hdN
  by_cases h1 : c = 1
  · left; rw [hc, h1, Nat.mul_one]
  · right
    have hc2 : 2 ≤ c := by
      rcases Nat.eq_zero_or_pos c with h0 | h0
      · rw [h0, Nat.mul_zero] at hc; omega
      · omega
    have : d ≤ c := by
      refine Decidable.byContradiction fun hn => hmin c (by omega) ⟨hc2, ⟨d, by rw [hc, Nat.mul_comm]⟩⟩
    rw [hc]
    exact Nat.mul_le_mul_left d this

theorem pock {N F : Nat} (hN : 2 ≤ N) (hF : N < (F + 1) * (F + 1)) (h : ∀ r, Prm r → r ∣ N → F ∣ r - 1) : Prm N := by
  obtain ⟨r, hr, hrN, h1⟩ := least_factor hN
  rcases h1 with rfl | h1
  · exact hr
  · have h2 := Nat.le_of_dvd (by have := hr.1; omega) (h r hr hrN)
    have h3 : F + 1 ≤ r := by have := hr.1; omega
    have := Nat.mul_le_mul h3 h3
    omega

/-- Small primes: by trying each factor. -/
def noFactor (N : Nat) : Nat → Nat → Bool
  | 0, _ => true
  | f + 1, d => N % d != 0 && noFactor N f (d + 1)

theorem noFactor_spec {N : Nat} : ∀ f d, noFactor N f d = true → ∀ c, d ≤ c → c < d + f → ¬ c ∣ N
  | 0, d, _, c, h1, h2 => by omega
  | f + 1, d, h, c, h1, h2 => by
    unfold noFactor at h
    rw [Bool.and_eq_true, bne_iff_ne] at h
    by_cases e : c = d
    · subst e
      exact fun hd => h.1 (Nat.mod_eq_zero_of_dvd hd)
    · exact noFactor_spec f (d + 1) h.2 c (by omega) (by omega)

theorem prm_small {N f : Nat} (hN : 2 ≤ N) (hf : N < (f + 2) * (f + 2)) (h : noFactor N f 2 = true) : Prm N := by
  obtain ⟨r, hr, hrN, h1⟩ := least_factor hN
  rcases h1 with rfl | h1
  · exact hr
  · refine absurd hrN (noFactor_spec f 2 h r hr.1 ?_)
    refine Decidable.byContradiction fun hn => ?_
    have := Nat.mul_le_mul (show f + 2 ≤ r by omega) (show f + 2 ≤ r by omega)
    omega

/-- A power modulo a number, reckoned. -/
def pw (N a : Nat) : Nat → Nat → Nat
  | 0, _ => 1 % N
  | f + 1, e => if e % 2 = 1 then pw N (a * a % N) f (e / 2) * a % N else pw N (a * a % N) f (e / 2)

theorem pw_spec {N : Nat} : ∀ f a e, e < 2 ^ f → pw N a f e = a ^ e % N
  | 0, a, e, h => by
    have : e = 0 := by rw [Nat.pow_zero] at h; omega
    subst this
    rfl
  | f + 1, a, e, h => by
    have h2 : e / 2 < 2 ^ f := by rw [Nat.pow_succ] at h; omega
    have h3 : (a * a % N) ^ (e / 2) % N = a ^ (2 * (e / 2)) % N := by
      rw [← Nat.pow_mod, ← Nat.pow_two, ← Nat.pow_mul]
    unfold pw
    split
    · rename_i h1
      rw [pw_spec f _ _ h2, h3, Nat.mod_mul_mod, ← Nat.pow_succ]
      congr 2
      omega
    · rename_i h1
      rw [pw_spec f _ _ h2, h3]
      congr 2
      omega

/-- One factor, reckoned. -/
def cert (N a q f : Nat) : Bool := (N - 1) % q == 0 && pw N a f (N - 1) == 1 && Nat.gcd (pw N a f ((N - 1) / q) + (N - 1)) N == 1

theorem cert_dvd {N a q f r : Nat} (h : cert N a q f = true) (hf : N < 2 ^ f) (hN : 2 ≤ N) (hq : Prm q) (hr : Prm r) (hrN : r ∣ N) : q ∣ r - 1 := by
  unfold cert at h
  rw [Bool.and_eq_true, Bool.and_eq_true, beq_iff_eq, beq_iff_eq, beq_iff_eq, pw_spec _ _ _ (by omega), pw_spec _ _ _ (Nat.lt_of_le_of_lt (Nat.div_le_self _ _) (by omega))] at h
  obtain ⟨⟨h1, h2⟩, h3⟩ := h
  refine q_dvd hN hr hrN hq ?_ h2 h3
  have := Nat.div_add_mod (N - 1) q
  omega

theorem mul_dvd {m q n : Nat} (hq : Prm q) (h1 : m ∣ n) (h2 : q ∣ n) (h3 : ¬ q ∣ m) : m * q ∣ n :=
  Nat.Coprime.mul_dvd_of_dvd_of_dvd (hq.coprime h3) h1 h2

end Go.Proofs.Ytfknjfmgpfhjiaa
