/-
  The plain arithmetic of the reference's long division: the factor that makes the first digit great, a guess that is never too great, what is taken away. No program in sight.
-/
import Derived.Test.YtfknjfmgpfhjiaaMathg
namespace Go.Proofs.Ytfknjfmgpfhjiaa

/-- The factor that makes a number's first digit great. -/
def fac (Y : Nat) : Nat := 4294967296 / (dg Y (nd Y - 1) + 1)

theorem fac_pos (Y : Nat) : 0 < fac Y := by
  have := dg_lt Y (nd Y - 1)
  exact Nat.div_pos (by omega) (by omega)

theorem fac_lt {Y : Nat} (h : 0 < Y) : fac Y < 4294967296 := by
  have := dg_top h
  exact Nat.div_lt_self (by decide) (by omega)

/-- A number is below its first digit and one more. -/
theorem lt_top {Y : Nat} (h : 0 < Y) : Y < (dg Y (nd Y - 1) + 1) * W (nd Y - 1) := by
  have h1 := nd_pos h
  have h2 := mod_W_succ Y (nd Y - 1)
  rw [show nd Y - 1 + 1 = nd Y from by omega, Nat.mod_eq_of_lt (lt_W_nd Y)] at h2
  have h3 := Nat.mod_lt Y (W_pos (nd Y - 1))
  rw [Nat.add_mul, Nat.one_mul, Nat.mul_comm]
  omega

theorem fac_bound {Y : Nat} (h : 0 < Y) : Y * fac Y < W (nd Y) := by
  have h1 := nd_pos h
  have h2 := lt_top h
  have h3 : fac Y * (dg Y (nd Y - 1) + 1) ≤ 4294967296 := Nat.div_mul_le_self _ _
  have e : W (nd Y) = 4294967296 * W (nd Y - 1) := by rw [← W_succ]; congr 1; omega
  rw [e]
  have h4 : Y * fac Y < (dg Y (nd Y - 1) + 1) * W (nd Y - 1) * fac Y := (Nat.mul_lt_mul_right (fac_pos Y)).2 h2
  have h5 : (dg Y (nd Y - 1) + 1) * W (nd Y - 1) * fac Y = fac Y * (dg Y (nd Y - 1) + 1) * W (nd Y - 1) := by
    rw [Nat.mul_comm _ (fac Y), ← Nat.mul_assoc]
  rw [h5] at h4
  exact Nat.lt_of_lt_of_le h4 (Nat.mul_le_mul_right _ h3)

theorem fac_len {Y : Nat} (h : 0 < Y) : nd (Y * fac Y) = nd Y := by
  have h1 : nd (Y * fac Y) ≤ nd Y := nd_le.2 (fac_bound h)
  have h2 : nd Y ≤ nd (Y * fac Y) := nd_mono (Nat.le_mul_of_pos_right _ (fac_pos Y))
  omega

/-- A guess from the first digits is not too great. -/
theorem guess_mul {u v : Nat → Nat} {n g : Nat} (hn : 0 < n) (hv : ∀ t, t < n → v t < 4294967296) (hg : g * (v (n - 1) + 1) ≤ u n * 4294967296 + u (n - 1)) : g * val v n ≤ val u (n + 1) := by
  obtain ⟨m, rfl⟩ : ∃ m, n = m + 1 := ⟨n - 1, by omega⟩
  rw [show m + 1 - 1 = m from by omega] at hg
  rw [val_succ v m, val_succ u (m + 1), val_succ u m, W_succ]
  have h1 : val v m < W m := val_lt fun t ht => hv t (by omega)
  have h2 : g * (val v m + v m * W m) ≤ g * ((v m + 1) * W m) := by
    refine Nat.mul_le_mul_left _ ?_
    rw [Nat.add_mul, Nat.one_mul]
    omega
  rw [← Nat.mul_assoc] at h2
  have h3 : g * (v m + 1) * W m ≤ (u (m + 1) * 4294967296 + u m) * W m := Nat.mul_le_mul_right _ hg
  rw [Nat.add_mul, Nat.mul_assoc (u (m + 1))] at h3
  omega

theorem lt_of_mul {g V P : Nat} (h : g * V ≤ P) (hP : P < V * 4294967296) : g < 4294967296 := by
  refine Nat.lt_of_not_le fun hge => ?_
  have : 4294967296 * V ≤ g * V := Nat.mul_le_mul_right _ hge
  rw [Nat.mul_comm V] at hP
  omega

/-- A row with noughts behind its n digits. -/
def ext0 (v : Nat → Nat) (n : Nat) : Nat → Nat := fun t => if t < n then v t else 0

theorem ext0_lt {v : Nat → Nat} {n : Nat} (hv : ∀ t, t < n → v t < 4294967296) (t : Nat) : ext0 v n t < 4294967296 := by
  unfold ext0
  split
  · exact hv t (by assumption)
  · decide

theorem val_ext0 {v : Nat → Nat} {n : Nat} : val (ext0 v n) (n + 1) = val v n := by
  rw [val_succ, show ext0 v n n = 0 from if_neg (Nat.lt_irrefl n), Nat.zero_mul, Nat.add_zero]
  exact val_congr fun j hj => if_pos hj

/-- What was not too great is taken away whole. -/
theorem Mss.whole {u u' v : Nat → Nat} {g n b c : Nat} (M : Mss u u' (ext0 v n) g (n + 1) b c) (hle : g * val v n ≤ val u (n + 1)) : val u' (n + 1) = val u (n + 1) - g * val v n := by
  have h1 := M.sum
  rw [val_ext0] at h1
  have h2 : val u' (n + 1) < W (n + 1) := val_lt fun t _ => M.lt t
  rcases Nat.eq_zero_or_pos (b + c) with h0 | h0
  · rw [h0, Nat.zero_mul] at h1
    omega
  · have : 1 * W (n + 1) ≤ (b + c) * W (n + 1) := Nat.mul_le_mul_right _ h0
    omega

/-- A number's digits from place k on, as one number, where all above are told. -/
theorem part_above {u v : Nat → Nat} {n : Nat} (hv : ∀ t, t < n → v t < 4294967296) (h : 0 < u n) : val v n ≤ val u (n + 1) := by
  rw [val_succ]
  have h1 : val v n < W n := val_lt hv
  have h2 : 1 * W n ≤ u n * W n := Nat.mul_le_mul_right _ h
  omega

/-- A division's start where the row has two digits more than the number. -/
theorem div_start {U V n L : Nat} (hU : U < W (L - 1)) (hV : W (n - 1) ≤ V) (hn : 0 < n) (hL : n ≤ L) : U < V * W (L - n) := by
  refine Nat.lt_of_lt_of_le hU ?_
  have : W (L - 1) = W (n - 1) * W (L - n) := by rw [← W_add]; congr 1; omega
  rw [this]
  exact Nat.mul_le_mul_right _ hV

end Go.Proofs.Ytfknjfmgpfhjiaa
