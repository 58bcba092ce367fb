/-
  The plain arithmetic of sums, differences, products and quotients, digit by digit. No program in sight.
-/
import Derived.Test.YtfknjfmgpfhjiaaMath
namespace Go.Proofs.Ytfknjfmgpfhjiaa

theorem dg_out {N j : Nat} (h : nd N ≤ j) : dg N j = 0 := by
  rw [dg, Nat.div_eq_of_lt (nd_le.1 h)]

theorem dg_out_lt {N j : Nat} (h : N < W j) : dg N j = 0 := by
  rw [dg, Nat.div_eq_of_lt h]

/-- A digit of a row's value, whatever the place. -/
theorem dg_val_any {f : Nat → Nat} {n : Nat} (h : ∀ j, j < n → f j < 4294967296) (j : Nat) : dg (val f n) j = if j < n then f j else 0 := by
  split
  · rename_i hj; exact dg_val h j hj
  · rename_i hj
    exact dg_out_lt (Nat.lt_of_lt_of_le (val_lt h) (W_le (by omega)))

theorem mod_W_succ (N j : Nat) : N % W (j + 1) = N % W j + W j * dg N j := by
  rw [W_succ, Nat.mul_comm 4294967296, Nat.mod_mul, dg]

/-- What is carried to place j when X and Y are added. -/
def car (X Y j : Nat) : Nat := (X % W j + Y % W j) / W j

theorem car_zero (X Y : Nat) : car X Y 0 = 0 := by simp [car, W, Nat.mod_one]

theorem car_le (X Y j : Nat) : car X Y j ≤ 1 := by
  have h1 := Nat.mod_lt X (W_pos j)
  have h2 := Nat.mod_lt Y (W_pos j)
  have : car X Y j < 2 := by
    unfold car
    exact Nat.div_lt_of_lt_mul (by omega)
  omega

theorem car_succ (X Y j : Nat) : car X Y (j + 1) = (car X Y j + dg X j + dg Y j) / 4294967296 := by
  unfold car
  rw [mod_W_succ, mod_W_succ, W_succ, Nat.mul_comm 4294967296, ← Nat.div_div_eq_div_mul]
  congr 1
  have e : X % W j + W j * dg X j + (Y % W j + W j * dg Y j) = (X % W j + Y % W j) + W j * (dg X j + dg Y j) := by
    rw [Nat.mul_add]; omega
  rw [e, Nat.add_mul_div_left _ _ (W_pos j), Nat.add_assoc]

theorem dg_add (X Y j : Nat) : dg (X + Y) j = (car X Y j + dg X j + dg Y j) % 4294967296 := by
  have hx := Nat.div_add_mod X (W j)
  have hy := Nat.div_add_mod Y (W j)
  have e : (X + Y) / W j = car X Y j + X / W j + Y / W j := by
    have e1 : X + Y = (X % W j + Y % W j) + W j * (X / W j + Y / W j) := by rw [Nat.mul_add]; omega
    rw [e1, Nat.add_mul_div_left _ _ (W_pos j), car]; omega
  rw [dg, e, dg, dg]
  omega

/-- Where both numbers end, what is carried is the sum's own digit. -/
theorem car_end {X Y j : Nat} (hx : X < W j) (hy : Y < W j) : car X Y j = (X + Y) / W j := by
  rw [car, Nat.mod_eq_of_lt hx, Nat.mod_eq_of_lt hy]

theorem dg_end {X Y j : Nat} (hx : X < W j) (hy : Y < W j) : dg (X + Y) j = car X Y j := by
  rw [dg_add, dg_out_lt hx, dg_out_lt hy]
  have := car_le X Y j
  omega

theorem add_lt_W_succ {X Y j : Nat} (hx : X < W j) (hy : Y < W j) : X + Y < W (j + 1) := by
  rw [W_succ]; omega

theorem lt_of_car {X Y j : Nat} (hx : X < W j) (hy : Y < W j) (h : car X Y j = 0) : X + Y < W j := by
  rw [car_end hx hy] at h
  exact (Nat.div_eq_zero_iff_lt (W_pos j)).1 h

theorem car_pos_le {X Y j : Nat} (h : 0 < car X Y j) : W j ≤ X + Y := by
  unfold car at h
  have h1 := Nat.mod_le X (W j)
  have h2 := Nat.mod_le Y (W j)
  have h3 : W j ≤ X % W j + Y % W j := by
    rcases Nat.lt_or_ge (X % W j + Y % W j) (W j) with h4 | h4
    · rw [Nat.div_eq_of_lt h4] at h; omega
    · exact h4
  omega

/-! ### A product, digit by digit -/

/-- A row of products' digits behind one round of the inner loop. -/
theorem mul_step {h : Nat → Nat} {c p W0 s : Nat} (hs : s = c + p + h 0) : (s % 4294967296) * W0 + (s / 4294967296) * (4294967296 * W0) = (c + p + h 0) * W0 := by
  rw [← hs, ← Nat.mul_assoc, ← Nat.add_mul]
  congr 1
  have := Nat.mod_add_div s 4294967296
  omega

/-! ### A division by one digit -/

theorem div_digit {X y j r x : Nat} (hy : 0 < y) (hr : r = X / W (j + 1) % y) (hx : x = dg X j) :
    dg (X / y) j = (r * 4294967296 + x) / y ∧ X / W j % y = (r * 4294967296 + x) % y := by
  have e1 : X / W j = (X / W (j + 1)) * 4294967296 + x := by
    rw [hx, dg, W_succ, Nat.mul_comm 4294967296, ← Nat.div_div_eq_div_mul]
    have := Nat.div_add_mod (X / W j) 4294967296
    omega
  have hlt : x < 4294967296 := by rw [hx]; exact dg_lt _ _
  have e2 := Nat.div_add_mod (X / W (j + 1)) y
  rw [← hr] at e2
  have hrl : r < y := by rw [hr]; exact Nat.mod_lt _ hy
  have e3 : X / W j = (r * 4294967296 + x) + y * ((X / W (j + 1) / y) * 4294967296) := by
    rw [e1, ← Nat.mul_assoc]
    conv => lhs; rw [← e2]
    rw [Nat.add_mul]; omega
  constructor
  · rw [dg, Nat.div_div_eq_div_mul, Nat.mul_comm y, ← Nat.div_div_eq_div_mul, e3, Nat.add_mul_div_left _ _ hy, Nat.add_mul_mod_self_right]
    apply Nat.mod_eq_of_lt
    apply Nat.div_lt_of_lt_mul
    have h1 : r * 4294967296 + 4294967296 ≤ y * 4294967296 := by
      have h2 : (r + 1) * 4294967296 ≤ y * 4294967296 := Nat.mul_le_mul_right _ hrl
      omega
    omega
  · rw [e3, Nat.add_mul_mod_self_left]

end Go.Proofs.Ytfknjfmgpfhjiaa
