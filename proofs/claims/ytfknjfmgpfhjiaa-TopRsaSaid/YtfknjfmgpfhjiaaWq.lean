/-
  The walked functions in words of numbers: a value that reads as the number N over n digits; what each call makes of such values.
-/
import Derived.Test.YtfknjfmgpfhjiaaWp
namespace Go.Proofs.Ytfknjfmgpfhjiaa
open Go.RowKit

/-- The value is a slice of n digits that reads as the number N. -/
def Rd (w : World) (v : Value) (n N : Nat) : Prop := ∃ oa c f, v = .slice oa n c ∧ Sl w .u32 oa n c f ∧ (∀ j, j < n → f j < 4294967296) ∧ val f n = N

section
variable {w w' : World} {v a b : Value} {n m N X Y B : Nat}

theorem Rd.below (h : Rd w v n N) (hb : Below w.heap.size w w') : Rd w' v n N := by
  obtain ⟨oa, c, f, h1, h2, h3, h4⟩ := h
  exact ⟨oa, c, f, h1, h2.below hb, h3, h4⟩

theorem Rd.drewN (h : Rd w v n N) (d : Nat) : Rd (w.drewN d) v n N := h

theorem Rd.of_num (h : Num .u32 B w v N) : Rd w v (nd N) N := by
  obtain ⟨oa, c, h1, h2, _⟩ := h
  exact ⟨oa, c, dg N, h1, h2, fun _ _ => dg_lt _ _, val_dg_nd N⟩

theorem Num.drewN {k : IntKind} (h : Num k B w v N) (d : Nat) : Num k B (w.drewN d) v N := h

theorem Rd.lt (h : Rd w v n N) : N < W n := by
  obtain ⟨oa, c, f, h1, h2, h3, rfl⟩ := h
  exact val_lt h3

theorem Rd.nd_le (h : Rd w v n N) : nd N ≤ n := Go.Proofs.Ytfknjfmgpfhjiaa.nd_le.2 h.lt

theorem Rd.zero (w : World) : Rd w (.slice none 0 0) 0 0 := ⟨none, 0, fun _ => 0, rfl, Sl.nil _ _ _, fun _ h => absurd h (Nat.not_lt_zero _), rfl⟩

theorem below_drewN' (B : Nat) (w : World) (d : Nat) : Below B w (w.drewN d) := ⟨rfl, rfl, rfl, Nat.le_refl _, fun _ _ => rfl⟩

/-! ### The calls -/

theorem size_r (h : Rd w a n N) : Calls Try.prog 55 #[a] w fun e w' => e = .returned (.int .i64 (nd N : Nat)) ∧ w = w' := by
  obtain ⟨oa, c, f, rfl, h2, h3, rfl⟩ := h
  exact size_any oa n c f w h2 h3

theorem bits_r (h : Rd w a n N) (hn : n ≤ 100000) : Calls Try.prog 36 #[a] w fun e w' => e = .returned (.int .i64 (bits N : Nat)) ∧ w = w' := by
  obtain ⟨oa, c, f, rfl, h2, h3, rfl⟩ := h
  exact nbits_any oa n c f w h2 h3 (by omega)

theorem cmp_r (ha : Rd w a n X) (hb : Rd w b m Y) : Calls Try.prog 21 #[a, b] w fun e w' => e = .returned (.int .i64 (cmp X Y)) ∧ ∃ d, w' = w.drewN d := by
  obtain ⟨oa, ca, f, rfl, h2, h3, rfl⟩ := ha
  obtain ⟨ob, cb, g, rfl, k2, k3, rfl⟩ := hb
  exact ncmp_any oa ob n m ca cb f g w h2 k2 h3 k3

theorem trim_r (hB : B ≤ w.heap.size) (h : Rd w a n N) (hn : n ≤ 100000) : Calls Try.prog 35 #[a] w fun e w' => ∃ v, e = .returned v ∧ Num .u32 B w' v N ∧ Below w.heap.size w w' := by
  obtain ⟨oa, c, f, rfl, h2, h3, rfl⟩ := h
  refine (trim_any oa n c f w h2 h3 (by omega)).mono ?_
  rintro e w' ⟨v, rfl, h5, h6⟩
  exact ⟨v, rfl, h5.mono hB, h6⟩

theorem of_r (N : Nat) (w : World) (hN : N < 18446744073709551616) (hB : B ≤ w.heap.size) : Calls Try.prog 20 #[.int .u64 (N : Nat)] w fun e w' => ∃ v, e = .returned v ∧ Num .u32 B w' v N ∧ Below w.heap.size w w' := by
  refine (nof_any N w hN).mono ?_
  rintro e w' ⟨v, rfl, h5, h6⟩
  exact ⟨v, rfl, h5.mono hB, h6⟩

theorem rof_r (N : Nat) (w : World) (hN : N < 18446744073709551616) (hB : B ≤ w.heap.size) : Calls Try.prog 40 #[.int .u64 (N : Nat)] w fun e w' => ∃ v, e = .returned v ∧ Num .u32 B w' v N ∧ Below w.heap.size w w' := by
  refine (rof_any N w hN).mono ?_
  rintro e w' ⟨v, rfl, h5, h6⟩
  exact ⟨v, rfl, h5.mono hB, h6⟩

theorem add_r (hB : B ≤ w.heap.size) (ha : Rd w a n X) (hb : Rd w b m Y) (hn : n ≤ 100000) (hm : m ≤ 100000) : Calls Try.prog 29 #[a, b] w fun e w' => ∃ v, e = .returned v ∧ Num .u32 B w' v (X + Y) ∧ Below w.heap.size w w' := by
  obtain ⟨oa, ca, f, rfl, h2, h3, rfl⟩ := ha
  obtain ⟨ob, cb, g, rfl, k2, k3, rfl⟩ := hb
  refine (nadd_any oa ob n m ca cb f g w h2 k2 h3 k3 hn hm).mono ?_
  rintro e w' ⟨v, rfl, h5, h6⟩
  exact ⟨v, rfl, h5.mono hB, h6⟩

theorem radd_r (hB : B ≤ w.heap.size) (ha : Rd w a n X) (hb : Rd w b m Y) (hn : n ≤ 100000) (hm : m ≤ 100000) : Calls Try.prog 30 #[a, b] w fun e w' => ∃ v, e = .returned v ∧ Num .u32 B w' v (X + Y) ∧ Below w.heap.size w w' := by
  obtain ⟨oa, ca, f, rfl, h2, h3, rfl⟩ := ha
  obtain ⟨ob, cb, g, rfl, k2, k3, rfl⟩ := hb
  refine (radd_any oa ob n m ca cb f g w h2 k2 h3 k3 hn hm).mono ?_
  rintro e w' ⟨v, rfl, h5, h6⟩
  exact ⟨v, rfl, h5.mono hB, h6⟩

theorem sub_r (hB : B ≤ w.heap.size) (ha : Rd w a n X) (hb : Rd w b m Y) (hn : n ≤ 100000) (hle : Y ≤ X) : Calls Try.prog 27 #[a, b] w fun e w' => ∃ v, e = .returned (.tuple #[v, .int .i64 0]) ∧ Num .u32 B w' v (X - Y) ∧ Below w.heap.size w w' := by
  obtain ⟨oa, ca, f, rfl, h2, h3, rfl⟩ := ha
  obtain ⟨ob, cb, g, rfl, k2, k3, rfl⟩ := hb
  refine (nsub_any oa ob n m ca cb f g w h2 k2 h3 k3 hn hle).mono ?_
  rintro e w' ⟨v, rfl, h5, h6⟩
  exact ⟨v, rfl, h5.mono hB, h6⟩

theorem sub_l (ha : Rd w a n X) (hb : Rd w b m Y) (hlt : X < Y) : Calls Try.prog 27 #[a, b] w fun e w' => e = .returned (.tuple #[.slice none 0 0, .int .i64 11]) ∧ Below w.heap.size w w' := by
  obtain ⟨oa, ca, f, rfl, h2, h3, rfl⟩ := ha
  obtain ⟨ob, cb, g, rfl, k2, k3, rfl⟩ := hb
  exact nsub_less oa ob n m ca cb f g w h2 k2 h3 k3 hlt

/-- A difference: the number, or nought and a word. -/
theorem sub_both (hB : B ≤ w.heap.size) (ha : Rd w a n X) (hb : Rd w b m Y) (hn : n ≤ 100000) : Calls Try.prog 27 #[a, b] w fun e w' => ∃ v, e = .returned (.tuple #[v, .int .i64 (if X < Y then 11 else 0)]) ∧ Num .u32 B w' v (X - Y) ∧ Below w.heap.size w w' := by
  by_cases h : X < Y
  · refine (sub_l ha hb h).mono ?_
    rintro e w' ⟨rfl, h5⟩
    refine ⟨_, by rw [if_pos h], ?_, h5⟩
    rw [Nat.sub_eq_zero_of_le (Nat.le_of_lt h)]
    exact Num.zero _ _ _
  · refine (sub_r hB ha hb hn (by omega)).mono ?_
    rintro e w' ⟨v, rfl, h5, h6⟩
    exact ⟨v, by rw [if_neg h], h5, h6⟩

theorem rsub_both (hB : B ≤ w.heap.size) (ha : Rd w a n X) (hb : Rd w b m Y) (hn : n ≤ 100000) (hm : m ≤ 100000) : Calls Try.prog 28 #[a, b] w fun e w' => ∃ v, e = .returned (.tuple #[v, .int .i64 (if X < Y then 11 else 0)]) ∧ Num .u32 B w' v (X - Y) ∧ Below w.heap.size w w' := by
  obtain ⟨oa, ca, f, rfl, h2, h3, rfl⟩ := ha
  obtain ⟨ob, cb, g, rfl, k2, k3, rfl⟩ := hb
  by_cases h : val f n < val g m
  · refine (rsub_less oa ob n m ca cb f g w h2 k2 h3 k3 hn hm h).mono ?_
    rintro e w' ⟨rfl, h5⟩
    refine ⟨_, by rw [if_pos h], ?_, h5⟩
    rw [Nat.sub_eq_zero_of_le (Nat.le_of_lt h)]
    exact Num.zero _ _ _
  · refine (rsub_any oa ob n m ca cb f g w h2 k2 h3 k3 hn hm (by omega)).mono ?_
    rintro e w' ⟨v, rfl, h5, h6⟩
    exact ⟨v, by rw [if_neg h], h5.mono hB, h6⟩

theorem mul_r (hB : B ≤ w.heap.size) (ha : Rd w a n X) (hb : Rd w b m Y) (hn : n ≤ 100000) (hm : m ≤ 100000) : Calls Try.prog 32 #[a, b] w fun e w' => ∃ v, e = .returned v ∧ Num .u32 B w' v (X * Y) ∧ Below w.heap.size w w' := by
  obtain ⟨oa, ca, f, rfl, h2, h3, rfl⟩ := ha
  obtain ⟨ob, cb, g, rfl, k2, k3, rfl⟩ := hb
  refine (nmul_any oa ob n m ca cb f g w h2 k2 h3 k3 hn hm).mono ?_
  rintro e w' ⟨v, rfl, h5, h6⟩
  exact ⟨v, rfl, h5.mono hB, h6⟩

theorem div_r (hB : B ≤ w.heap.size) (ha : Rd w a n X) (hb : Rd w b m Y) (hn : n ≤ 100000) (h0 : Y ≠ 0) :
    Calls Try.prog 16 #[a, b] w fun e w' => ∃ v u, e = .returned (.tuple #[v, u, .int .i64 0]) ∧ Num .u32 B w' v (X / Y) ∧ Num .u32 B w' u (X % Y) ∧ Below w.heap.size w w' := by
  obtain ⟨oa, ca, f, rfl, h2, h3, rfl⟩ := ha
  obtain ⟨ob, cb, g, rfl, k2, k3, rfl⟩ := hb
  refine (ndiv_any oa ob n m ca cb f g w h2 k2 h3 k3 hn h0).mono ?_
  rintro e w' ⟨v, u, rfl, h5, h7, h6⟩
  exact ⟨v, u, rfl, h5.mono hB, h7.mono hB, h6⟩

theorem div_0 (ha : Rd w a n X) (hb : Rd w b m 0) : Calls Try.prog 16 #[a, b] w fun e w' => e = .returned (.tuple #[.slice none 0 0, .slice none 0 0, .int .i64 10]) ∧ Below w.heap.size w w' := by
  obtain ⟨oa, ca, f, rfl, h2, h3, rfl⟩ := ha
  obtain ⟨ob, cb, g, rfl, k2, k3, k4⟩ := hb
  exact ndiv_zero oa ob n m ca cb f g w h2 k2 h3 k3 k4

/-- Two numbers held digit by digit: of one number, both without noughts at their end. -/
theorem same_r {C : Nat} (ha : Num .u32 B w a N) (hb : Num .u32 C w b N) : Calls Try.prog 22 #[a, b] w fun e w' => e = .returned (.bool true) ∧ ∃ d, w' = w.drewN d := by
  obtain ⟨oa, ca, rfl, h2, _⟩ := ha
  obtain ⟨ob, cb, rfl, k2, _⟩ := hb
  exact same_true oa ob (nd N) ca cb (dg N) (dg N) w h2 k2 (fun _ _ => rfl)
end

/-- A binary digit of a number, read in its limb. -/
theorem bit_dg (E i : Nat) : dg E (i / 32) / 2 ^ (i % 32) % 2 = E / 2 ^ i % 2 := by
  have h1 : 4294967296 = 2 ^ (i % 32) * (2 * 2 ^ (31 - i % 32)) := by
    rw [show 2 * 2 ^ (31 - i % 32) = 2 ^ (31 - i % 32 + 1) from by rw [Nat.pow_succ, Nat.mul_comm], ← Nat.pow_add]
    rw [show i % 32 + (31 - i % 32 + 1) = 32 from by omega]
  have h2 : E / 2 ^ i = E / W (i / 32) / 2 ^ (i % 32) := by
    rw [Nat.div_div_eq_div_mul, W, ← Nat.pow_add]
    congr 2
    omega
  rw [h2, dg]
  conv => lhs; rw [h1]
  rw [Nat.mod_mul_right_div_self, Nat.mod_mul_right_mod]

end Go.Proofs.Ytfknjfmgpfhjiaa
