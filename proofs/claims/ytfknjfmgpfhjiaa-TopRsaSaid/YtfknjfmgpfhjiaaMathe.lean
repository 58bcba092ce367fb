/-
  The plain arithmetic of one digit of a quotient, guessed from the first digits and put right. No program in sight.
-/
import Derived.Test.YtfknjfmgpfhjiaaMathd
namespace Go.Proofs.Ytfknjfmgpfhjiaa

/-- The numbers of a guess: U is Ul and T times X, V is Vl and Z times X; T ends in u2, Z in v2. -/
structure Gss (U V Ul T X Vl Z top v1 u2 v2 : Nat) : Prop where
  hU : U = Ul + T * X
  hV : V = Vl + Z * X
  hUl : Ul < X
  hVl : Vl < X
  hT : T = u2 + top * 4294967296
  hZ : Z = v2 + v1 * 4294967296
  hu2 : u2 < 4294967296
  hv1 : 0 < v1

theorem gss_of {u v : Nat → Nat} {m : Nat} (hu : ∀ t, u t < 4294967296) (hv : ∀ t, t < m + 2 → v t < 4294967296) (h1 : 0 < v (m + 1)) :
    Gss (val u (m + 3)) (val v (m + 2)) (val u m) (u m + (u (m + 2) * 4294967296 + u (m + 1)) * 4294967296) (W m) (val v m) (v m + v (m + 1) * 4294967296) (u (m + 2) * 4294967296 + u (m + 1)) (v (m + 1)) (u m) (v m) := by
  refine ⟨?_, ?_, val_lt (fun t _ => hu t), val_lt (fun t ht => hv t (by omega)), rfl, rfl, hu m, h1⟩
  · rw [val_succ, val_succ, val_succ, show W (m + 2) = 4294967296 * (4294967296 * W m) from by rw [W_succ, W_succ], W_succ, Nat.add_mul, Nat.add_mul, Nat.add_mul]
    have e1 : u (m + 1) * (4294967296 * W m) = u (m + 1) * 4294967296 * W m := by rw [Nat.mul_assoc]
    have e2 : u (m + 2) * (4294967296 * (4294967296 * W m)) = u (m + 2) * 4294967296 * 4294967296 * W m := by rw [Nat.mul_assoc, Nat.mul_assoc]
    rw [e1, e2]
    omega
  · rw [val_succ, val_succ, W_succ, Nat.add_mul]
    have e1 : v (m + 1) * (4294967296 * W m) = v (m + 1) * 4294967296 * W m := by rw [Nat.mul_assoc]
    rw [e1]
    omega

namespace Gss
variable {U V Ul T X Vl Z top v1 u2 v2 : Nat} (G : Gss U V Ul T X Vl Z top v1 u2 v2)
include G

theorem Xpos : 0 < X := Nat.lt_of_le_of_lt (Nat.zero_le _) G.hUl

theorem U_lt : U < (T + 1) * X := by
  have := G.hU; have := G.hUl
  rw [Nat.add_mul]; omega

theorem ZX_le : Z * X ≤ V := by have := G.hV; omega

theorem Zge : 4294967296 ≤ Z := by
  have := G.hZ; have := G.hv1; omega

theorem Vpos : 0 < V := by
  have h1 := G.ZX_le
  have h2 := G.Zge
  have h3 := G.Xpos
  have h4 : 1 * 1 ≤ Z * X := Nat.mul_le_mul (by omega) h3
  omega

/-- The first guess is not too small. -/
theorem first : U / V ≤ top / v1 := by
  rw [Nat.le_div_iff_mul_le G.hv1]
  have h1 : U / V * V ≤ U := Nat.div_mul_le_self U V
  have h2 : U / V * (Z * X) ≤ U / V * V := Nat.mul_le_mul_left _ G.ZX_le
  have h3 : U / V * Z * X < (T + 1) * X := by
    rw [Nat.mul_assoc]
    exact Nat.lt_of_le_of_lt (Nat.le_trans h2 h1) G.U_lt
  have h4 : U / V * Z < T + 1 := Nat.lt_of_mul_lt_mul_right h3
  have h5 : U / V * (v1 * 4294967296) ≤ U / V * Z := Nat.mul_le_mul_left _ (by have := G.hZ; omega)
  rw [← Nat.mul_assoc] at h5
  have := G.hT
  have := G.hu2
  omega

/-- A guess that fails the test on the next digit is too great. -/
theorem great {g r : Nat} (hr : v1 * g + r = top) (ht : r * 4294967296 + u2 < g * v2) : U / V < g := by
  rw [Nat.div_lt_iff_lt_mul G.Vpos]
  have h1 : T + 1 ≤ g * Z := by
    have e : g * Z = g * v2 + v1 * g * 4294967296 := by rw [G.hZ, Nat.mul_add, ← Nat.mul_assoc, Nat.mul_comm g v1]
    have e2 : top * 4294967296 = v1 * g * 4294967296 + r * 4294967296 := by rw [← hr, Nat.add_mul]
    have := G.hT
    omega
  have h2 : (T + 1) * X ≤ g * Z * X := Nat.mul_le_mul_right _ h1
  have h3 : g * Z * X ≤ g * V := by rw [Nat.mul_assoc]; exact Nat.mul_le_mul_left _ G.ZX_le
  have := G.U_lt
  omega

/-- A guess that passes it is too great by one at most. -/
theorem near {g r : Nat} (hr : v1 * g + r = top) (hg : g ≤ 4294967296) (ht : g * v2 ≤ r * 4294967296 + u2) : g ≤ U / V + 1 := by
  rcases Nat.eq_zero_or_pos g with h0 | h0
  · rw [h0]; exact Nat.zero_le _
  · obtain ⟨p, rfl⟩ : ∃ p, g = p + 1 := ⟨g - 1, by omega⟩
    have : p ≤ U / V := by
      rw [Nat.le_div_iff_mul_le G.Vpos]
      have h1 : (p + 1) * Z ≤ T := by
        have e : (p + 1) * Z = (p + 1) * v2 + v1 * (p + 1) * 4294967296 := by rw [G.hZ, Nat.mul_add, ← Nat.mul_assoc, Nat.mul_comm (p + 1) v1]
        have e2 : top * 4294967296 = v1 * (p + 1) * 4294967296 + r * 4294967296 := by rw [← hr, Nat.add_mul]
        have := G.hT
        omega
      have h2 : p * V = p * Vl + p * Z * X := by rw [G.hV, Nat.mul_add, Nat.mul_assoc]
      have h3 : p * Vl ≤ p * X := Nat.mul_le_mul_left _ (Nat.le_of_lt G.hVl)
      have h4 : p * X + p * Z * X ≤ T * X := by
        rw [← Nat.add_mul]
        refine Nat.mul_le_mul_right _ ?_
        rw [Nat.add_mul] at h1
        have := G.Zge
        omega
      have := G.hU
      omega
    omega
end Gss

/-! ### The guess's multiple is taken away, digit by digit -/

structure Mss (u u' v : Nat → Nat) (g i b c : Nat) : Prop where
  lt : ∀ t, u' t < 4294967296
  same : ∀ t, i ≤ t → u' t = u t
  ble : b ≤ 1
  cle : c ≤ g - 1
  sum : val u' i + g * val v i = val u i + (b + c) * W i

theorem Mss.start {u v : Nat → Nat} {g : Nat} (hu : ∀ t, u t < 4294967296) : Mss u u v g 0 0 0 :=
  ⟨hu, fun _ _ => rfl, by omega, by omega, by rw [val_zero, val_zero, Nat.mul_zero, Nat.zero_mul]⟩

theorem Mss.bound {u u' v : Nat → Nat} {g i b c : Nat} (M : Mss u u' v g i b c) (hg : g ≤ 4294967296) (hv : v i < 4294967296) : c + g * v i < 18446744073709551616 := by
  have h1 : g * v i ≤ g * 4294967295 := Nat.mul_le_mul_left _ (by omega)
  have := M.cle
  omega

theorem Mss.carry {u u' v : Nat → Nat} {g i b c : Nat} (M : Mss u u' v g i b c) (hv : v i < 4294967296) : (c + g * v i) / 4294967296 ≤ g - 1 := by
  rcases Nat.eq_zero_or_pos g with h0 | h0
  · subst h0
    have := M.cle
    rw [Nat.zero_mul]
    omega
  · have h1 : g * v i ≤ g * 4294967295 := Nat.mul_le_mul_left _ (by omega)
    have := M.cle
    have h2 : c + g * v i < 4294967296 * g := by omega
    have := Nat.div_lt_of_lt_mul h2
    omega

theorem Mss.step {u u' v : Nat → Nat} {g i b c x b' : Nat} (M : Mss u u' v g i b c) (hv : v i < 4294967296) (hx : x < 4294967296) (hb : b' ≤ 1) (hd : x + b + (c + g * v i) % 4294967296 = u i + b' * 4294967296) :
    Mss u (fun t => if t = i then x else u' t) v g (i + 1) b' ((c + g * v i) / 4294967296) := by
  refine ⟨fun t => ?_, fun t ht => ?_, hb, M.carry hv, ?_⟩
  · show (if _ then _ else _) < _
    split
    · exact hx
    · exact M.lt t
  · show (if _ then _ else _) = _
    rw [if_neg (by omega)]
    exact M.same t (by omega)
  · rw [val_upd_at, val_succ u, val_succ v, W_succ, Nat.mul_add, ← Nat.mul_assoc g]
    have h1 := M.sum
    have h2 := Nat.div_add_mod (c + g * v i) 4294967296
    generalize (c + g * v i) / 4294967296 = q at *
    generalize (c + g * v i) % 4294967296 = r at *
    have h3 : (x + b + r) * W i = (u i + b' * 4294967296) * W i := by rw [hd]
    have h4 : (4294967296 * q + r) * W i = (c + g * v i) * W i := by rw [h2]
    have h5 : (b' + q) * (4294967296 * W i) = b' * 4294967296 * W i + 4294967296 * q * W i := by
      rw [Nat.add_mul, ← Nat.mul_assoc, ← Nat.mul_assoc, Nat.mul_comm q]
    rw [h5]
    simp only [Nat.add_mul] at h1 h3 h4
    omega

/-- The multiple was not too great: it was the right one. -/
theorem Mss.right {u u' v : Nat → Nat} {g n b c : Nat} (M : Mss u u' v g n b c) (hV : 0 < val v n) (hq : val u (n + 1) / val v n ≤ g) (hd : b + c ≤ u n) (hun : u n < 4294967296) :
    g = val u (n + 1) / val v n ∧ val (fun t => if t = n then u n - (b + c) else u' t) (n + 1) = val u (n + 1) % val v n ∧ (∀ t, (fun t => if t = n then u n - (b + c) else u' t) t < 4294967296) := by
  have h1 := M.sum
  have e : val (fun t => if t = n then u n - (b + c) else u' t) (n + 1) + g * val v n = val u (n + 1) := by
    rw [val_upd_at, val_succ, Nat.sub_mul]
    have : (b + c) * W n ≤ u n * W n := Nat.mul_le_mul_right _ hd
    omega
  have hg : g = val u (n + 1) / val v n := by
    have : g ≤ val u (n + 1) / val v n := by rw [Nat.le_div_iff_mul_le hV]; omega
    omega
  refine ⟨hg, ?_, fun t => ?_⟩
  · have h2 := Nat.div_add_mod (val u (n + 1)) (val v n)
    rw [← hg, Nat.mul_comm] at h2
    omega
  · show (if _ then _ else _) < _
    split
    · exact Nat.lt_of_le_of_lt (Nat.sub_le _ _) hun
    · exact M.lt t

/-- It was too great by one. -/
theorem Mss.wrong {u u' v : Nat → Nat} {g n b c : Nat} (M : Mss u u' v g n b c) (hV : 0 < val v n) (hVl : val v n < W n) (hq : g ≤ val u (n + 1) / val v n + 1) (hd : u n < b + c) :
    g = val u (n + 1) / val v n + 1 ∧ b + c = u n + 1 ∧ val u' n + val v n = val u (n + 1) % val v n + W n := by
  have h1 := M.sum
  have hu' : val u' n < W n := val_lt (fun t _ => M.lt t)
  have h2 := Nat.div_add_mod (val u (n + 1)) (val v n)
  have h3 := Nat.mod_lt (val u (n + 1)) hV
  have hs := val_succ u n
  have h4 : (u n + 1) * W n ≤ (b + c) * W n := Nat.mul_le_mul_right _ hd
  rw [Nat.add_mul, Nat.one_mul] at h4
  have hgt : val u (n + 1) / val v n < g := by
    rw [Nat.div_lt_iff_lt_mul hV]
    omega
  have hg : g = val u (n + 1) / val v n + 1 := by omega
  have h5 : g * val v n = val v n * (val u (n + 1) / val v n) + val v n := by rw [hg, Nat.add_mul, Nat.one_mul, Nat.mul_comm]
  have hbc : b + c = u n + 1 := by
    rcases Nat.lt_or_ge (u n + 1) (b + c) with h6 | h6
    · have h7 : (u n + 2) * W n ≤ (b + c) * W n := Nat.mul_le_mul_right _ h6
      rw [Nat.add_mul] at h7
      omega
    · omega
  refine ⟨hg, hbc, ?_⟩
  rw [hbc, Nat.add_mul, Nat.one_mul] at h1
  omega

/-! ### The number is given back once -/

structure Adb (u u' v : Nat → Nat) (i c : Nat) : Prop where
  lt : ∀ t, u' t < 4294967296
  same : ∀ t, i ≤ t → u' t = u t
  cle : c ≤ 1
  sum : val u' i + c * W i = val u i + val v i

theorem Adb.start {u v : Nat → Nat} (hu : ∀ t, u t < 4294967296) : Adb u u v 0 0 :=
  ⟨hu, fun _ _ => rfl, by omega, by rw [val_zero, val_zero, Nat.zero_mul]⟩

theorem Adb.step {u u' v : Nat → Nat} {i c : Nat} (A : Adb u u' v i c) (hu : u i < 4294967296) (hv : v i < 4294967296) :
    Adb u (fun t => if t = i then (c + (u i + v i)) % 4294967296 else u' t) v (i + 1) ((c + (u i + v i)) / 4294967296) := by
  have hc := A.cle
  refine ⟨fun t => ?_, fun t ht => ?_, by omega, ?_⟩
  · show (if _ then _ else _) < _
    split
    · exact Nat.mod_lt _ (by decide)
    · exact A.lt t
  · show (if _ then _ else _) = _
    rw [if_neg (by omega)]
    exact A.same t (by omega)
  · rw [val_upd_at, val_succ, val_succ, W_succ]
    have h1 := A.sum
    have h2 := Nat.div_add_mod (c + (u i + v i)) 4294967296
    generalize (c + (u i + v i)) / 4294967296 = q at *
    generalize (c + (u i + v i)) % 4294967296 = r at *
    have h4 : (4294967296 * q + r) * W i = (c + (u i + v i)) * W i := by rw [h2]
    have h5 : q * (4294967296 * W i) = 4294967296 * q * W i := by rw [← Nat.mul_assoc, Nat.mul_comm q]
    rw [h5]
    simp only [Nat.add_mul] at h4
    omega

theorem Adb.done {u u' v : Nat → Nat} {n c R : Nat} (A : Adb u u' v n c) (h : val u n + val v n = R + W n) : c = 1 ∧ val u' n = R := by
  have h1 := A.sum
  have h2 := A.cle
  have h3 : val u' n < W n := val_lt (fun t _ => A.lt t)
  rcases Nat.eq_zero_or_pos c with h0 | h0
  · subst h0; omega
  · obtain rfl : c = 1 := by omega
    omega

end Go.Proofs.Ytfknjfmgpfhjiaa
