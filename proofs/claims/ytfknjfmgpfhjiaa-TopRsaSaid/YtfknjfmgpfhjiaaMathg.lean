/-
  The plain arithmetic of a long division, put together for the loop over its digits.
-/
import Derived.Test.YtfknjfmgpfhjiaaMathf
namespace Go.Proofs.Ytfknjfmgpfhjiaa

/-- What a digit's step asks and what it leaves: the row as a number's digits. -/
theorem div_row {U V q k : Nat} (hV : 0 < V) (hVl : V < W q) :
    val (fun t => dg (U % (V * W (k + 1))) (k + t)) (q + 1) < V * 4294967296 ∧
    val (fun t => dg (U % (V * W (k + 1))) (k + t)) (q + 1) / V = dg (U / V) k ∧
    ∀ h' : Nat → Nat, (∀ t, t < k ∨ k + q < t → h' t = dg (U % (V * W (k + 1))) t) → val (fun t => h' (k + t)) (q + 1) = val (fun t => dg (U % (V * W (k + 1))) (k + t)) (q + 1) % V → (∀ t, h' t < 4294967296) →
      ∀ t, h' t = dg (U % (V * W k)) t := by
  obtain ⟨h1, h2, h3, h4⟩ := div_step (U := U) (j := k) hV
  have hR : U % (V * W (k + 1)) < V * W (k + 1) := Nat.mod_lt _ (Nat.mul_pos hV (W_pos _))
  have hVW : V * 4294967296 ≤ W (q + 1) := by rw [W_succ, Nat.mul_comm]; exact Nat.mul_le_mul_left _ (Nat.le_of_lt hVl)
  have e : val (fun t => dg (U % (V * W (k + 1))) (k + t)) (q + 1) = U % (V * W (k + 1)) / W k := by
    rw [val_shift, Nat.mod_eq_of_lt (Nat.lt_of_lt_of_le h4 hVW)]
  rw [e]
  refine ⟨h4, h1, fun h' ha hb hc t => ?_⟩
  by_cases c1 : t < k
  · rw [ha t (.inl c1), h2 t c1]
  · rw [h3 t (by omega), ← hb, dg_val_any (fun j _ => hc _)]
    by_cases c2 : k + q < t
    · rw [if_neg (by omega), ha t (.inr c2)]
      apply dg_out_lt
      refine Nat.lt_of_lt_of_le hR ?_
      have : V * W (k + 1) ≤ W q * W (k + 1) := Nat.mul_le_mul_right _ (Nat.le_of_lt hVl)
      refine Nat.le_trans this ?_
      rw [← W_add]
      exact W_le (by omega)
    · rw [if_pos (by omega)]
      congr 1
      omega

/-- A division's start. -/
theorem div_begin {X Y P p q : Nat} (hX : X < W p) (hq : nd Y = q) (hq1 : 0 < q) (hle : q ≤ p) (hP : 0 < P) : X * P % (Y * P * W (p - q + 1)) = X * P := by
  have hYp : 0 < Y := by
    rcases Nat.eq_zero_or_pos Y with h | h
    · subst h; rw [nd_zero] at hq; omega
    · exact h
  apply Nat.mod_eq_of_lt
  have h1 := div_lt_W hX (W_le_of_nd (N := Y) (k := q - 1) (by omega)) hq1 hle
  rw [Nat.div_lt_iff_lt_mul hYp] at h1
  rw [Nat.mul_right_comm, Nat.mul_comm Y]
  exact (Nat.mul_lt_mul_right hP).2 h1

theorem div_last {X Y P : Nat} (hP : 0 < P) (hPd : 4294967296 % P = 0) (i : Nat) :
    (dg (X * P % (Y * P * W 0)) (i + 1) * 4294967296 + dg (X * P % (Y * P * W 0)) i) / P % 4294967296 = dg (X % Y) i := by
  rw [W_zero, Nat.mul_one, shift_down hP hPd, (mod_shift X Y P hP).1]

end Go.Proofs.Ytfknjfmgpfhjiaa
