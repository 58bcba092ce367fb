/-
  The plain arithmetic of a long division: what is left behind each digit, and the shift back. No program in sight.
-/
import Derived.Test.YtfknjfmgpfhjiaaMathe
namespace Go.Proofs.Ytfknjfmgpfhjiaa

theorem val_shift {R : Nat} (k : Nat) : ∀ n, val (fun t => dg R (k + t)) n = R / W k % W n
  | 0 => by simp [val, W, Nat.mod_one]
  | n + 1 => by
    rw [val_succ, val_shift k n, W_succ, Nat.mul_comm 4294967296, Nat.mod_mul, dg, W_add, ← Nat.div_div_eq_div_mul, Nat.mul_comm (W n)]

/-- The first digit of a number that a shift has made as long as its digits let. -/
theorem norm_top {Y n s : Nat} (hn : 0 < n) (hY : nd Y = n) (hs : s = 32 - bits (dg Y (n - 1))) :
    s < 32 ∧ Y * 2 ^ s < W n ∧ 2147483648 ≤ dg (Y * 2 ^ s) (n - 1) := by
  have hYp : 0 < Y := by
    rcases Nat.eq_zero_or_pos Y with h | h
    · subst h; rw [nd_zero] at hY; omega
    · exact h
  have ht := dg_top hYp
  rw [hY] at ht
  have hbt := bits_top' (X := Y) hYp
  rw [hY] at hbt
  have hb32 : bits (dg Y (n - 1)) ≤ 32 := bits_le.2 (by have := dg_lt Y (n - 1); omega)
  have hb0 : 0 < bits (dg Y (n - 1)) := by
    have := @bits_le (dg Y (n - 1)) 0
    omega
  have hbY : bits Y = 32 * n - s := by omega
  have h1 : Y < 2 ^ (32 * n - s) := bits_le.1 (Nat.le_of_eq hbY)
  have h2 : 2 ^ (32 * n - s - 1) ≤ Y := by
    have := @bits_le Y (32 * n - s - 1)
    omega
  have hpos : 0 < 2 ^ s := Nat.pow_pos (by decide)
  refine ⟨by omega, ?_, ?_⟩
  · have h3 := (Nat.mul_lt_mul_right hpos).2 h1
    rw [← Nat.pow_add, show 32 * n - s + s = 32 * n from by omega] at h3
    exact h3
  · have h3 : 2 ^ (32 * n - s - 1) * 2 ^ s ≤ Y * 2 ^ s := Nat.mul_le_mul_right _ h2
    rw [← Nat.pow_add, show 32 * n - s - 1 + s = 31 + 32 * (n - 1) from by omega, Nat.pow_add] at h3
    have h4 : Y * 2 ^ s < W n := by
      have h3 := (Nat.mul_lt_mul_right hpos).2 h1
      rw [← Nat.pow_add, show 32 * n - s + s = 32 * n from by omega] at h3
      exact h3
    have e : W n = 4294967296 * W (n - 1) := by rw [← W_succ]; congr 1; omega
    rw [dg, Nat.mod_eq_of_lt]
    · rw [Nat.le_div_iff_mul_le (W_pos _)]
      exact h3
    · exact Nat.div_lt_of_lt_mul (by rw [Nat.mul_comm (W (n - 1)), ← e]; exact h4)

/-- One digit of the quotient, and what is left. -/
theorem div_step {U V j : Nat} (hV : 0 < V) :
    U % (V * W (j + 1)) / W j / V = dg (U / V) j ∧
    (∀ t, t < j → dg (U % (V * W j)) t = dg (U % (V * W (j + 1))) t) ∧
    (∀ t, j ≤ t → dg (U % (V * W j)) t = dg (U % (V * W (j + 1)) / W j % V) (t - j)) ∧
    U % (V * W (j + 1)) / W j < V * 4294967296 := by
  have e0 : V * W (j + 1) = V * W j * 4294967296 := by rw [W_succ, Nat.mul_comm 4294967296, Nat.mul_assoc]
  have ha : U % (V * W (j + 1)) / W j / V = dg (U / V) j := by
    rw [Nat.div_div_eq_div_mul, Nat.mul_comm (W j) V, e0, Nat.mod_mul_right_div_self U (V * W j) 4294967296, dg, Nat.div_div_eq_div_mul]
  have hd : U % (V * W (j + 1)) / W j < V * 4294967296 := by
    have hp : 0 < V * W (j + 1) := Nat.mul_pos hV (W_pos _)
    have hl := Nat.mod_lt U hp
    refine Nat.div_lt_of_lt_mul ?_
    have e4 : W j * (V * 4294967296) = V * W (j + 1) := by rw [e0, ← Nat.mul_assoc, Nat.mul_comm (W j) V]
    rw [e4]
    exact hl
  have e1 : U % (V * W j) = U % (V * W (j + 1)) % (W j * V) := by
    rw [Nat.mul_comm (W j) V, e0]
    exact (Nat.mod_mul_right_mod U (V * W j) 4294967296).symm
  clear e0
  generalize U % (V * W (j + 1)) = R at *
  have e2 : U % (V * W j) = R % W j + W j * (R / W j % V) := by
    rw [e1, Nat.mod_mul]
  refine ⟨ha, fun t ht => ?_, fun t ht => ?_, hd⟩
  · rw [e2, dg, dg]
    have e3 : W j = W t * (4294967296 * W (j - t - 1)) := by
      rw [← W_succ, ← W_add]; congr 1; omega
    have e5 : (R % W j + W j * (R / W j % V)) / W t = R % W j / W t + 4294967296 * (W (j - t - 1) * (R / W j % V)) := by
      conv => lhs; rw [show W j * (R / W j % V) = W t * (4294967296 * (W (j - t - 1) * (R / W j % V))) from by rw [← Nat.mul_assoc 4294967296, ← Nat.mul_assoc (W t), ← e3]]
      exact Nat.add_mul_div_left _ _ (W_pos t)
    rw [e5, Nat.add_mul_mod_self_left, e3, Nat.mod_mul_right_div_self R (W t), Nat.mod_mul_right_mod (R / W t) 4294967296]
  · rw [e2]
    have hl : R % W j < W j := Nat.mod_lt _ (W_pos j)
    rw [dg, dg, show W t = W j * W (t - j) from by rw [← W_add]; congr 1; omega, ← Nat.div_div_eq_div_mul, Nat.add_mul_div_left _ _ (W_pos j), Nat.div_eq_of_lt hl, Nat.zero_add]

/-- A digit of a number shifted down by fewer places than a digit has. -/
theorem shift_down {R P i : Nat} (hP : 0 < P) (hPd : 4294967296 % P = 0) :
    (dg R (i + 1) * 4294967296 + dg R i) / P % 4294967296 = dg (R / P) i := by
  obtain ⟨d, hd⟩ : ∃ d, 4294967296 = P * d := ⟨4294967296 / P, by have := Nat.div_add_mod 4294967296 P; rw [hPd] at this; omega⟩
  have e1 : dg (R / P) i = R / W i / P % 4294967296 := by
    rw [dg, Nat.div_div_eq_div_mul, Nat.mul_comm P, ← Nat.div_div_eq_div_mul]
  have e2 : dg R (i + 1) = R / W i / 4294967296 % 4294967296 := by
    rw [dg, W_succ, Nat.mul_comm 4294967296, ← Nat.div_div_eq_div_mul]
  have e3 : dg R i = R / W i % 4294967296 := rfl
  rw [e1, e2, e3]
  generalize R / W i = A
  have h1 := Nat.div_add_mod A 4294967296
  have h2 := Nat.div_add_mod (A / 4294967296) 4294967296
  have e4 : A = (A / 4294967296 % 4294967296 * 4294967296 + A % 4294967296) + P * (4294967296 * (d * (A / 4294967296 / 4294967296))) := by
    have h3 : P * (4294967296 * (d * (A / 4294967296 / 4294967296))) = 4294967296 * (4294967296 * (A / 4294967296 / 4294967296)) := by
      rw [Nat.mul_left_comm, ← Nat.mul_assoc P, ← hd]
    rw [h3]
    omega
  conv => rhs; rw [e4, Nat.add_mul_div_left _ _ hP, Nat.add_mul_mod_self_left]

theorem mod_shift (X Y P : Nat) (hP : 0 < P) : X * P % (Y * P) / P = X % Y ∧ X * P / (Y * P) = X / Y := by
  constructor
  · rw [Nat.mul_mod_mul_right, Nat.mul_div_cancel _ hP]
  · rw [Nat.mul_div_mul_right _ _ hP]

theorem div_lt_W {X Y p n : Nat} (hX : X < W p) (hY : W (n - 1) ≤ Y) (hn : 0 < n) (hpn : n ≤ p) : X / Y < W (p - n + 1) := by
  have hYp : 0 < Y := Nat.lt_of_lt_of_le (W_pos _) hY
  rw [Nat.div_lt_iff_lt_mul hYp]
  have e : W p = W (p - n + 1) * W (n - 1) := by rw [← W_add]; congr 1; omega
  rw [e] at hX
  exact Nat.lt_of_lt_of_le hX (Nat.mul_le_mul_left _ hY)

end Go.Proofs.Ytfknjfmgpfhjiaa
