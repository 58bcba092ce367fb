/-
  The plain arithmetic of a number shifted, and of one digit of a quotient. No program in sight.
-/
import Derived.Test.YtfknjfmgpfhjiaaMathc
namespace Go.Proofs.Ytfknjfmgpfhjiaa

theorem dg_add_high {S y j : Nat} (hS : S < W (j + 1)) {t : Nat} (ht : t < j) : dg (S + y * W j) t = dg S t := by
  have _ := hS
  rw [dg, dg]
  have e : W j = W t * (4294967296 * W (j - t - 1)) := by
    rw [← W_succ, ← W_add]; congr 1; omega
  rw [e, ← Nat.mul_assoc, Nat.mul_comm y (W t), Nat.mul_assoc, Nat.add_mul_div_left _ _ (W_pos t), Nat.mul_left_comm, Nat.add_mul_mod_self_left]

/-- A number shifted by fewer places than a digit has, one digit more of it. -/
theorem shift_step {f : Nat → Nat} {j P : Nat} (hf : ∀ t, t < j + 1 → f t < 4294967296) (hP : 0 < P) (hPd : 4294967296 % P = 0) :
    (∀ t, t < j → dg (val f (j + 1) * P) t = dg (val f j * P) t) ∧
    dg (val f (j + 1) * P) j = dg (val f j * P) j + f j * P % 4294967296 ∧ dg (val f j * P) j < P ∧ (f j * P % 4294967296) % P = 0 ∧
    (f j * P / 4294967296 < 4294967296 → dg (val f (j + 1) * P) (j + 1) = f j * P / 4294967296) ∧
    (∀ t, j + 2 ≤ t → P ≤ 4294967296 → dg (val f (j + 1) * P) t = 0) ∧ (∀ t, j + 1 ≤ t → P ≤ 4294967296 → dg (val f j * P) t = 0) := by
  have hv := val_lt (f := f) (n := j) (fun t ht => hf t (by omega))
  have hS : val f j * P < W j * P := (Nat.mul_lt_mul_right hP).2 hv
  have e : val f (j + 1) * P = val f j * P + f j * P * W j := by rw [val_succ, Nat.add_mul, Nat.mul_right_comm]
  have hc : val f j * P / W j < P := Nat.div_lt_of_lt_mul hS
  have hd : (val f j * P + f j * P * W j) / W j = val f j * P / W j + f j * P := Nat.add_mul_div_right _ _ (W_pos j)
  have hm : f j * P % 4294967296 % P = 0 := by
    obtain ⟨d, hd⟩ : ∃ d, 4294967296 = P * d := ⟨4294967296 / P, by have := Nat.div_add_mod 4294967296 P; rw [hPd] at this; omega⟩
    rw [hd, Nat.mod_mul_right_mod, Nat.mul_mod_left]
  have hjl : val f j * P / W j + f j * P % 4294967296 < 4294967296 := by
    obtain ⟨d, hd⟩ : ∃ d, 4294967296 = P * d := ⟨4294967296 / P, by have := Nat.div_add_mod 4294967296 P; rw [hPd] at this; omega⟩
    obtain ⟨x, hx⟩ : ∃ x, f j * P % 4294967296 = P * x := ⟨f j * P % 4294967296 / P, by have := Nat.div_add_mod (f j * P % 4294967296) P; rw [hm] at this; omega⟩
    have hlt : f j * P % 4294967296 < 4294967296 := Nat.mod_lt _ (by decide)
    rw [hx, hd] at *
    have h1 : x < d := Nat.lt_of_mul_lt_mul_left hlt
    have h2 : P * (x + 1) ≤ P * d := Nat.mul_le_mul_left _ h1
    rw [Nat.mul_add] at h2
    omega
  have hPle : P ≤ 4294967296 := Nat.le_of_dvd (by decide) (Nat.dvd_of_mod_eq_zero hPd)
  have hdS : dg (val f j * P) j = val f j * P / W j := by rw [dg, Nat.mod_eq_of_lt (by omega)]
  have hSl : val f j * P < W (j + 1) := by
    rw [W_succ]
    have : W j * P ≤ W j * 4294967296 := Nat.mul_le_mul_left _ hPle
    rw [Nat.mul_comm (W j) 4294967296] at this
    omega
  refine ⟨fun t ht => by rw [e]; exact dg_add_high hSl ht, ?_, by rw [hdS]; exact hc, hm, fun hq => ?_, fun t ht _ => ?_, fun t ht _ => dg_out_lt (Nat.lt_of_lt_of_le hSl (W_le ht))⟩
  · rw [e, hdS, dg, hd]
    omega
  · rw [e, dg, W_succ, Nat.mul_comm 4294967296, ← Nat.div_div_eq_div_mul, hd]
    omega
  · refine dg_out_lt (Nat.lt_of_lt_of_le ?_ (W_le ht))
    have h1 : val f (j + 1) < W (j + 1) := val_lt hf
    rw [W_succ (j + 1)]
    have h2 : val f (j + 1) * P < W (j + 1) * P := (Nat.mul_lt_mul_right hP).2 h1
    have h3 : W (j + 1) * P ≤ W (j + 1) * 4294967296 := Nat.mul_le_mul_left _ hPle
    rw [Nat.mul_comm (W (j + 1)) 4294967296] at h3
    omega

end Go.Proofs.Ytfknjfmgpfhjiaa
