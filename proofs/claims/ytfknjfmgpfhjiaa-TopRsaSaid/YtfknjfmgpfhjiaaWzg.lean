/-
  The walks of the laws NatProducts, NatPowers, NatInverses.
-/
import Derived.Test.YtfknjfmgpfhjiaaWzf
namespace Go.Proofs.Ytfknjfmgpfhjiaa
open Go.RowKit

theorem IsInv.uniq {A N V V' : Nat} {c c' : Int} (h : IsInv A N V c) (h' : IsInv A N V' c') : V = V' ∧ c = c' := by
  obtain ⟨h1, h2⟩ := h
  obtain ⟨h3, h4⟩ := h'
  by_cases hg : Nat.gcd A N = 1
  · rw [if_pos hg] at h2 h4
    refine ⟨?_, by rw [h2.1, h4.1]⟩
    have e1 : V * (V' * A) % N = V := by
      rw [Nat.mul_mod, h4.2, ← Nat.mul_mod, Nat.mul_one, Nat.mod_eq_of_lt h1]
    have e2 : V * (V' * A) % N = V' := by
      rw [Nat.mul_left_comm, Nat.mul_mod, h2.2, ← Nat.mul_mod, Nat.mul_one, Nat.mod_eq_of_lt h3]
    rw [← e1, e2]
  · rw [if_neg hg] at h2 h4
    exact ⟨by rw [h2.2, h4.2], by rw [h2.1, h4.1]⟩

theorem num_nil (B : Nat) (w : World) : Num .u32 B w (.slice none 0 0) 0 := Num.zero _ _ _

set_option maxRecDepth 100000 in
set_option maxHeartbeats 3200000 in
theorem products_any {w : World} {a b : Value} {na nb : Nat} {f g : Nat → Nat} (ha : Rf w a na f) (hb : Rf w b nb g) :
    Calls Try.prog 5 #[a, b] w fun e w' => e = .returned (.bool true) ∧ Below w.heap.size w w' := by
  have HA := hid ha
  have HB := hid hb
  have HW := hid (Below.refl w.heap.size w)
  have hz : w.heap.size ≤ w.heap.size := Nat.le_refl _
  clear ha hb
  go_enter Try.func5, Try.ntmps5
  go_wp2_with fail
  refine (heavy_r HA.out).mono ?_
  rintro e w1 ⟨rfl, rfl⟩
  by_cases h1 : 24 < na
  · rw [decide_eq_true h1]
    go_wp2_with fail
    refine Calls.mono (known_true w) ?_
    rintro e w2 ⟨rfl, hb⟩
    have HW := hid (HW.out.trans (hb.mono hz))
    have hz := HW.out.size
    clear hb
    go_wp2_with fail
    go_ret
    exact ⟨rfl, HW.out⟩
  rw [decide_eq_false h1]
  go_wp2_with fail
  refine (heavy_r HB.out).mono ?_
  rintro e w1 ⟨rfl, rfl⟩
  by_cases h2 : 24 < nb
  · rw [decide_eq_true h2]
    go_wp2_with fail
    refine Calls.mono (known_true w) ?_
    rintro e w2 ⟨rfl, hb⟩
    have HW := hid (HW.out.trans (hb.mono hz))
    have hz := HW.out.size
    clear hb
    go_wp2_with fail
    go_ret
    exact ⟨rfl, HW.out⟩
  rw [decide_eq_false h2]
  go_wp2_with fail
  refine Calls.mono (own_r HA.out (by omega)) ?_
  rintro e w1 ⟨x, rfl, hx, hb⟩
  have HX := hid hx
  have HA := hid (HA.out.below hb)
  have HB := hid (HB.out.below hb)
  have HW := hid (HW.out.trans (hb.mono hz))
  have hz := HW.out.size
  clear hx hb
  go_wp2_with fail
  refine Calls.mono (own_r HB.out (by omega)) ?_
  rintro e w2 ⟨y, rfl, hx, hb⟩
  have HY := hid hx
  have HA := hid (HA.out.below hb)
  have HB := hid (HB.out.below hb)
  have HX := hid (HX.out.below hb)
  have HW := hid (HW.out.trans (hb.mono hz))
  have hz := HW.out.size
  clear hx hb
  go_wp2_with fail
  by_cases h0 : val g nb = 0
  · have HY0 : Hid (Rd w2 y nb 0) := by rw [← h0]; exact HY.out.rd
    refine Calls.mono (div_0 HX.out.rd HY0.out) ?_
    rintro e w3 ⟨rfl, hb⟩
    have HA := hid (HA.out.below hb)
    have HB := hid (HB.out.below hb)
    have HX := hid (HX.out.below hb)
    have HY := hid (HY.out.below hb)
    have HW := hid (HW.out.trans (hb.mono hz))
    have hz := HW.out.size
    clear hb
    go_wp2_with fail
    have HB0 : Hid (Rd w3 b nb 0) := by rw [← h0]; exact HB.out.rd
    refine Calls.mono (rdiv_0 HA.out.rd HB0.out (by omega)) ?_
    rintro e w4 ⟨rfl, hb⟩
    have HA := hid (HA.out.below hb)
    have HB := hid (HB.out.below hb)
    have HX := hid (HX.out.below hb)
    have HY := hid (HY.out.below hb)
    have HW := hid (HW.out.trans (hb.mono hz))
    have hz := HW.out.size
    clear hb
    go_wp2_with fail
    have HQ := hid (num_nil w.heap.size w4)
    have HR := hid (num_nil w.heap.size w4)
    have HP := hid (num_nil w.heap.size w4)
    have HS := hid (num_nil w.heap.size w4)
    refine Calls.mono (mul_r (B := w.heap.size) hz HX.out.rd HY.out.rd (by omega) (by omega)) ?_
    rintro e w5 ⟨s1, rfl, hx, hb⟩
    have HS1 := hid hx
    have HA := hid (HA.out.below hb)
    have HB := hid (HB.out.below hb)
    have HX := hid (HX.out.below hb)
    have HY := hid (HY.out.below hb)
    have HQ := hid (HQ.out.below hb)
    have HR := hid (HR.out.below hb)
    have HP := hid (HP.out.below hb)
    have HS := hid (HS.out.below hb)
    have HW := hid (HW.out.trans (hb.mono hz))
    have hz := HW.out.size
    clear hx hb
    go_wp2_with fail
    refine Calls.mono (rmul_r (B := w.heap.size) hz HA.out.rd HB.out.rd (by omega) (by omega)) ?_
    rintro e w6 ⟨s2, rfl, hx, hb⟩
    have HS2 := hid hx
    have HA := hid (HA.out.below hb)
    have HB := hid (HB.out.below hb)
    have HX := hid (HX.out.below hb)
    have HY := hid (HY.out.below hb)
    have HQ := hid (HQ.out.below hb)
    have HR := hid (HR.out.below hb)
    have HP := hid (HP.out.below hb)
    have HS := hid (HS.out.below hb)
    have HS1 := hid (HS1.out.below hb)
    have HW := hid (HW.out.trans (hb.mono hz))
    have hz := HW.out.size
    clear hx hb
    go_wp2_with fail
    refine Calls.mono (same_n HS1.out HS2.out) ?_
    rintro e w7 ⟨rfl, hb⟩
    have HA := hid (HA.out.below hb)
    have HB := hid (HB.out.below hb)
    have HX := hid (HX.out.below hb)
    have HY := hid (HY.out.below hb)
    have HQ := hid (HQ.out.below hb)
    have HR := hid (HR.out.below hb)
    have HP := hid (HP.out.below hb)
    have HS := hid (HS.out.below hb)
    have HW := hid (HW.out.trans (hb.mono hz))
    have hz := HW.out.size
    clear hb
    go_wp2_with fail
    refine Calls.mono (same_n HQ.out HP.out) ?_
    rintro e w8 ⟨rfl, hb⟩
    have HA := hid (HA.out.below hb)
    have HB := hid (HB.out.below hb)
    have HX := hid (HX.out.below hb)
    have HY := hid (HY.out.below hb)
    have HR := hid (HR.out.below hb)
    have HS := hid (HS.out.below hb)
    have HW := hid (HW.out.trans (hb.mono hz))
    have hz := HW.out.size
    clear hb
    go_wp2_with fail
    refine Calls.mono (same_n HR.out HS.out) ?_
    rintro e w9 ⟨rfl, hb⟩
    have HA := hid (HA.out.below hb)
    have HB := hid (HB.out.below hb)
    have HX := hid (HX.out.below hb)
    have HY := hid (HY.out.below hb)
    have HW := hid (HW.out.trans (hb.mono hz))
    have hz := HW.out.size
    clear hb
    go_wp2_with fail
    refine Calls.mono (same_b HX.out HA.out) ?_
    rintro e w10 ⟨rfl, hb⟩
    have HB := hid (HB.out.below hb)
    have HY := hid (HY.out.below hb)
    have HW := hid (HW.out.trans (hb.mono hz))
    have hz := HW.out.size
    clear hb
    go_wp2_with fail
    refine Calls.mono (same_b HY.out HB.out) ?_
    rintro e w11 ⟨rfl, hb⟩
    have HW := hid (HW.out.trans (hb.mono hz))
    have hz := HW.out.size
    clear hb
    go_wp2_with fail
    refine Calls.mono (known_true _) ?_
    rintro e w12 ⟨rfl, hb⟩
    have HW := hid (HW.out.trans (hb.mono hz))
    have hz := HW.out.size
    clear hb
    go_wp2_with fail
    go_ret
    exact ⟨rfl, HW.out⟩
  · have H0 := hid h0
    clear h0
    refine Calls.mono (div_r (B := w.heap.size) hz HX.out.rd HY.out.rd (by omega) H0.out) ?_
    rintro e w3 ⟨q, r, rfl, hx, hy, hb⟩
    have HQ := hid hx
    have HR := hid hy
    have HA := hid (HA.out.below hb)
    have HB := hid (HB.out.below hb)
    have HX := hid (HX.out.below hb)
    have HY := hid (HY.out.below hb)
    have HW := hid (HW.out.trans (hb.mono hz))
    have hz := HW.out.size
    clear hx hy hb
    go_wp2_with fail
    refine Calls.mono (rdiv_r (B := w.heap.size) hz HA.out.rd HB.out.rd (by omega) (by omega) H0.out) ?_
    rintro e w4 ⟨p, s, rfl, hx, hy, hb⟩
    have HP := hid hx
    have HS := hid hy
    have HA := hid (HA.out.below hb)
    have HB := hid (HB.out.below hb)
    have HX := hid (HX.out.below hb)
    have HY := hid (HY.out.below hb)
    have HQ := hid (HQ.out.below hb)
    have HR := hid (HR.out.below hb)
    have HW := hid (HW.out.trans (hb.mono hz))
    have hz := HW.out.size
    clear hx hy hb
    go_wp2_with fail
    refine Calls.mono (mul_r (B := w.heap.size) hz HX.out.rd HY.out.rd (by omega) (by omega)) ?_
    rintro e w5 ⟨s1, rfl, hx, hb⟩
    have HS1 := hid hx
    have HA := hid (HA.out.below hb)
    have HB := hid (HB.out.below hb)
    have HX := hid (HX.out.below hb)
    have HY := hid (HY.out.below hb)
    have HQ := hid (HQ.out.below hb)
    have HR := hid (HR.out.below hb)
    have HP := hid (HP.out.below hb)
    have HS := hid (HS.out.below hb)
    have HW := hid (HW.out.trans (hb.mono hz))
    have hz := HW.out.size
    clear hx hb
    go_wp2_with fail
    refine Calls.mono (rmul_r (B := w.heap.size) hz HA.out.rd HB.out.rd (by omega) (by omega)) ?_
    rintro e w6 ⟨s2, rfl, hx, hb⟩
    have HS2 := hid hx
    have HA := hid (HA.out.below hb)
    have HB := hid (HB.out.below hb)
    have HX := hid (HX.out.below hb)
    have HY := hid (HY.out.below hb)
    have HQ := hid (HQ.out.below hb)
    have HR := hid (HR.out.below hb)
    have HP := hid (HP.out.below hb)
    have HS := hid (HS.out.below hb)
    have HS1 := hid (HS1.out.below hb)
    have HW := hid (HW.out.trans (hb.mono hz))
    have hz := HW.out.size
    clear hx hb
    go_wp2_with fail
    refine Calls.mono (same_n HS1.out HS2.out) ?_
    rintro e w7 ⟨rfl, hb⟩
    have HA := hid (HA.out.below hb)
    have HB := hid (HB.out.below hb)
    have HX := hid (HX.out.below hb)
    have HY := hid (HY.out.below hb)
    have HQ := hid (HQ.out.below hb)
    have HR := hid (HR.out.below hb)
    have HP := hid (HP.out.below hb)
    have HS := hid (HS.out.below hb)
    have HW := hid (HW.out.trans (hb.mono hz))
    have hz := HW.out.size
    clear hb
    go_wp2_with fail
    refine Calls.mono (same_n HQ.out HP.out) ?_
    rintro e w8 ⟨rfl, hb⟩
    have HA := hid (HA.out.below hb)
    have HB := hid (HB.out.below hb)
    have HX := hid (HX.out.below hb)
    have HY := hid (HY.out.below hb)
    have HR := hid (HR.out.below hb)
    have HS := hid (HS.out.below hb)
    have HW := hid (HW.out.trans (hb.mono hz))
    have hz := HW.out.size
    clear hb
    go_wp2_with fail
    refine Calls.mono (same_n HR.out HS.out) ?_
    rintro e w9 ⟨rfl, hb⟩
    have HA := hid (HA.out.below hb)
    have HB := hid (HB.out.below hb)
    have HX := hid (HX.out.below hb)
    have HY := hid (HY.out.below hb)
    have HW := hid (HW.out.trans (hb.mono hz))
    have hz := HW.out.size
    clear hb
    go_wp2_with fail
    refine Calls.mono (same_b HX.out HA.out) ?_
    rintro e w10 ⟨rfl, hb⟩
    have HB := hid (HB.out.below hb)
    have HY := hid (HY.out.below hb)
    have HW := hid (HW.out.trans (hb.mono hz))
    have hz := HW.out.size
    clear hb
    go_wp2_with fail
    refine Calls.mono (same_b HY.out HB.out) ?_
    rintro e w11 ⟨rfl, hb⟩
    have HW := hid (HW.out.trans (hb.mono hz))
    have hz := HW.out.size
    clear hb
    go_wp2_with fail
    refine Calls.mono (known_true _) ?_
    rintro e w12 ⟨rfl, hb⟩
    have HW := hid (HW.out.trans (hb.mono hz))
    have hz := HW.out.size
    clear hb
    go_wp2_with fail
    go_ret
    exact ⟨rfl, HW.out⟩

set_option maxRecDepth 100000 in
set_option maxHeartbeats 3200000 in
theorem powers_any {w : World} {a e n : Value} {na ne nn : Nat} {f g h : Nat → Nat} (ha : Rf w a na f) (he : Rf w e ne g) (hn : Rf w n nn h) :
    Calls Try.prog 6 #[a, e, n] w fun x w' => x = .returned (.bool true) ∧ Below w.heap.size w w' := by
  have HA := hid ha
  have HE := hid he
  have HN := hid hn
  obtain ⟨⟨oe, ce, rfl, _⟩, _⟩ := he
  obtain ⟨⟨on, cn, rfl, _⟩, _⟩ := hn
  have HW := hid (Below.refl w.heap.size w)
  have hz : w.heap.size ≤ w.heap.size := Nat.le_refl _
  rename_i q1 q2 q3 q4
  clear ha q1 q2 q3 q4
  go_enter Try.func6, Try.ntmps6
  go_wp2_with fail
  refine (heavy_r HA.out).mono ?_
  rintro e w1 ⟨rfl, rfl⟩
  by_cases h1 : 24 < na
  · rw [decide_eq_true h1]
    go_wp2_with fail
    refine Calls.mono (known_true w) ?_
    rintro e w2 ⟨rfl, hb⟩
    have HW := hid (HW.out.trans (hb.mono hz))
    have hz := HW.out.size
    clear hb
    go_wp2_with fail
    go_ret
    exact ⟨rfl, HW.out⟩
  rw [decide_eq_false h1]
  by_cases h2 : 2 < ne
  · go_wp2_with fail
    refine Calls.mono (known_true w) ?_
    rintro e w2 ⟨rfl, hb⟩
    have HW := hid (HW.out.trans (hb.mono hz))
    have hz := HW.out.size
    clear hb
    go_wp2_with fail
    go_ret
    exact ⟨rfl, HW.out⟩
  by_cases h3 : 6 < nn
  · go_wp2_with fail
    refine Calls.mono (known_true w) ?_
    rintro e w2 ⟨rfl, hb⟩
    have HW := hid (HW.out.trans (hb.mono hz))
    have hz := HW.out.size
    clear hb
    go_wp2_with fail
    go_ret
    exact ⟨rfl, HW.out⟩
  go_wp2_with fail
  refine Calls.mono (own_r HA.out (by omega)) ?_
  rintro e w1 ⟨x, rfl, hx, hb⟩
  have HX := hid hx
  have HA := hid (HA.out.below hb)
  have HE := hid (HE.out.below hb)
  have HN := hid (HN.out.below hb)
  have HW := hid (HW.out.trans (hb.mono hz))
  have hz := HW.out.size
  clear hx hb
  go_wp2_with fail
  refine Calls.mono (own_r HE.out (by omega)) ?_
  rintro e w2 ⟨y, rfl, hx, hb⟩
  have HY := hid hx
  have HA := hid (HA.out.below hb)
  have HE := hid (HE.out.below hb)
  have HN := hid (HN.out.below hb)
  have HX := hid (HX.out.below hb)
  have HW := hid (HW.out.trans (hb.mono hz))
  have hz := HW.out.size
  clear hx hb
  go_wp2_with fail
  refine Calls.mono (own_r HN.out (by omega)) ?_
  rintro e w3 ⟨z, rfl, hx, hb⟩
  have HZ := hid hx
  have HA := hid (HA.out.below hb)
  have HE := hid (HE.out.below hb)
  have HN := hid (HN.out.below hb)
  have HX := hid (HX.out.below hb)
  have HY := hid (HY.out.below hb)
  have HW := hid (HW.out.trans (hb.mono hz))
  have hz := HW.out.size
  clear hx hb
  go_wp2_with fail
  by_cases h0 : val h nn = 0
  · have HZ0 : Hid (Rd w3 z nn 0) := by rw [← h0]; exact HZ.out.rd
    refine Calls.mono (npow_0 HX.out.rd HY.out.rd HZ0.out) ?_
    rintro e w4 ⟨rfl, hb⟩
    have HN := hid (HN.out.below hb)
    have HW := hid (HW.out.trans (hb.mono hz))
    have hz := HW.out.size
    clear hb
    go_wp2_with fail
    have HN0 : Hid (Rd w4 (.slice on nn cn) nn 0) := by rw [← h0]; exact HN.out.rd
    refine Calls.mono (rpow_0 HN0.out (by omega)) ?_
    rintro e w5 ⟨rfl, hb⟩
    have HW := hid (HW.out.trans (hb.mono hz))
    have hz := HW.out.size
    clear hb
    go_wp2_with fail
    refine Calls.mono (same_n (num_nil w.heap.size w5) (num_nil w.heap.size w5)) ?_
    rintro e w6 ⟨rfl, hb⟩
    have HW := hid (HW.out.trans (hb.mono hz))
    have hz := HW.out.size
    clear hb
    go_wp2_with fail
    refine Calls.mono (known_true _) ?_
    rintro e w7 ⟨rfl, hb⟩
    have HW := hid (HW.out.trans (hb.mono hz))
    have hz := HW.out.size
    clear hb
    go_wp2_with fail
    go_ret
    exact ⟨rfl, HW.out⟩
  · have H0 := hid h0
    clear h0
    refine Calls.mono (pow_r (B := w.heap.size) hz HX.out.rd HY.out.rd HZ.out.rd (by omega) (by omega) (by omega) H0.out) ?_
    rintro e w4 ⟨p, rfl, hx, hb⟩
    have HP := hid hx
    have HA := hid (HA.out.below hb)
    have HE := hid (HE.out.below hb)
    have HN := hid (HN.out.below hb)
    have HW := hid (HW.out.trans (hb.mono hz))
    have hz := HW.out.size
    clear hx hb
    go_wp2_with fail
    refine Calls.mono (rpow_r (B := w.heap.size) hz HA.out.rd HE.out.rd HN.out.rd (by omega) (by omega) (by omega) H0.out) ?_
    rintro e w5 ⟨q, rfl, hx, hb⟩
    have HQ := hid hx
    have HP := hid (HP.out.below hb)
    have HW := hid (HW.out.trans (hb.mono hz))
    have hz := HW.out.size
    clear hx hb
    go_wp2_with fail
    refine Calls.mono (same_n HP.out HQ.out) ?_
    rintro e w6 ⟨rfl, hb⟩
    have HW := hid (HW.out.trans (hb.mono hz))
    have hz := HW.out.size
    clear hb
    go_wp2_with fail
    refine Calls.mono (known_true _) ?_
    rintro e w7 ⟨rfl, hb⟩
    have HW := hid (HW.out.trans (hb.mono hz))
    have hz := HW.out.size
    clear hb
    go_wp2_with fail
    go_ret
    exact ⟨rfl, HW.out⟩

theorem rinv_0 {w : World} {a n : Value} {nn : Nat} (hn : Rd w n nn 0) (hnn : nn ≤ 40000) :
    Calls Try.prog 41 #[a, n] w fun x w' => x = .returned (.tuple #[.slice none 0 0, .int .i64 10]) ∧ Below w.heap.size w w' := by
  have HB := hid hn
  have hz : w.heap.size ≤ w.heap.size := Nat.le_refl _
  clear hn
  go_enter Try.func41, Try.ntmps41
  go_wp2_with fail
  refine Calls.mono (digits_r (B := w.heap.size) hz HB.out (by omega)) ?_
  rintro e w1 ⟨v1, rfl, hx, hb⟩
  have HW := hid hb
  obtain ⟨o1, c1, rfl, h2, h3⟩ := hx
  rw [nd_zero]
  clear hb h2 h3
  go_wp2_with fail
  go_ret2
  exact ⟨rfl, HW.out⟩

theorem gcd_r {w : World} {a b : Value} {na nb X Y B : Nat} (hB : B ≤ w.heap.size) (ha : Rd w a na X) (hb : Rd w b nb Y) (hna : na ≤ 10000) (hnb : nb ≤ 10000) :
    Calls Try.prog 42 #[a, b] w fun e w' => ∃ v, e = .returned v ∧ Num .u32 B w' v (Nat.gcd X Y) ∧ Below w.heap.size w w' := by
  refine (ngcd_any ha hb hna hnb).mono ?_
  rintro e w' ⟨v, rfl, h1, h2⟩
  exact ⟨v, rfl, h1.mono hB, h2⟩

set_option maxRecDepth 100000 in
set_option maxHeartbeats 3200000 in
theorem inverses_any {w : World} {a n : Value} {na nn : Nat} {f h : Nat → Nat} (ha : Rf w a na f) (hn : Rf w n nn h) :
    Calls Try.prog 11 #[a, n] w fun x w' => x = .returned (.bool true) ∧ Below w.heap.size w w' := by
  have HA := hid ha
  have HN := hid hn
  obtain ⟨⟨oa, ca, rfl, _⟩, _⟩ := ha
  obtain ⟨⟨on, cn, rfl, _⟩, _⟩ := hn
  have HW := hid (Below.refl w.heap.size w)
  have hz : w.heap.size ≤ w.heap.size := Nat.le_refl _
  rename_i q1 q2 q3 q4
  clear q1 q2 q3 q4
  go_enter Try.func11, Try.ntmps11
  by_cases h1 : 10 < na
  · go_wp2_with fail
    refine Calls.mono (known_true w) ?_
    rintro e w2 ⟨rfl, hb⟩
    have HW := hid (HW.out.trans (hb.mono hz))
    have hz := HW.out.size
    clear hb
    go_wp2_with fail
    go_ret
    exact ⟨rfl, HW.out⟩
  by_cases h2 : 10 < nn
  · go_wp2_with fail
    refine Calls.mono (known_true w) ?_
    rintro e w2 ⟨rfl, hb⟩
    have HW := hid (HW.out.trans (hb.mono hz))
    have hz := HW.out.size
    clear hb
    go_wp2_with fail
    go_ret
    exact ⟨rfl, HW.out⟩
  go_wp2_with fail
  refine Calls.mono (own_r HA.out (by omega)) ?_
  rintro e w1 ⟨x, rfl, hx, hb⟩
  have HX := hid hx
  have HA := hid (HA.out.below hb)
  have HN := hid (HN.out.below hb)
  have HW := hid (HW.out.trans (hb.mono hz))
  have hz := HW.out.size
  clear hx hb
  go_wp2_with fail
  refine Calls.mono (own_r HN.out (by omega)) ?_
  rintro e w2 ⟨y, rfl, hx, hb⟩
  have HY := hid hx
  have HA := hid (HA.out.below hb)
  have HN := hid (HN.out.below hb)
  have HX := hid (HX.out.below hb)
  have HW := hid (HW.out.trans (hb.mono hz))
  have hz := HW.out.size
  clear hx hb
  go_wp2_with fail
  by_cases h0 : val h nn = 0
  · have HY0 : Hid (Rd w2 y nn 0) := by rw [← h0]; exact HY.out.rd
    refine Calls.mono (ninv_0 HX.out.rd HY0.out) ?_
    rintro e w3 ⟨rfl, hb⟩
    have HA := hid (HA.out.below hb)
    have HN := hid (HN.out.below hb)
    have HW := hid (HW.out.trans (hb.mono hz))
    have hz := HW.out.size
    clear hb
    go_wp2_with fail
    have HN0 : Hid (Rd w3 (.slice on nn cn) nn 0) := by rw [← h0]; exact HN.out.rd
    refine Calls.mono (rinv_0 HN0.out (by omega)) ?_
    rintro e w4 ⟨rfl, hb⟩
    have HA := hid (HA.out.below hb)
    have HN := hid (HN.out.below hb)
    have HW := hid (HW.out.trans (hb.mono hz))
    have hz := HW.out.size
    clear hb
    go_wp2_with fail
    refine Calls.mono (same_n (num_nil w.heap.size w4) (num_nil w.heap.size w4)) ?_
    rintro e w5 ⟨rfl, hb⟩
    have HA := hid (HA.out.below hb)
    have HN := hid (HN.out.below hb)
    have HW := hid (HW.out.trans (hb.mono hz))
    have hz := HW.out.size
    clear hb
    go_wp2_with fail
    refine Calls.mono (gcd_r (B := w.heap.size) hz HA.out.rd HN.out.rd (by omega) (by omega)) ?_
    rintro e w6 ⟨g1, rfl, hx, hb⟩
    have HG1 := hid hx
    have HA := hid (HA.out.below hb)
    have HN := hid (HN.out.below hb)
    have HW := hid (HW.out.trans (hb.mono hz))
    have hz := HW.out.size
    clear hx hb
    go_wp2_with fail
    refine Calls.mono (rgcd_r (B := w.heap.size) hz HA.out.rd HN.out.rd (by omega) (by omega)) ?_
    rintro e w7 ⟨g2, rfl, hx, hb⟩
    have HG2 := hid hx
    have HG1 := hid (HG1.out.below hb)
    have HW := hid (HW.out.trans (hb.mono hz))
    have hz := HW.out.size
    clear hx hb
    go_wp2_with fail
    refine Calls.mono (same_n HG1.out HG2.out) ?_
    rintro e w8 ⟨rfl, hb⟩
    have HW := hid (HW.out.trans (hb.mono hz))
    have hz := HW.out.size
    clear hb
    go_wp2_with fail
    refine Calls.mono (known_true _) ?_
    rintro e w9 ⟨rfl, hb⟩
    have HW := hid (HW.out.trans (hb.mono hz))
    have hz := HW.out.size
    clear hb
    go_wp2_with fail
    go_ret
    exact ⟨rfl, HW.out⟩
  · have H0 := hid h0
    clear h0
    refine Calls.mono (ninv_any HX.out.rd HY.out.rd (by omega) (by omega) H0.out) ?_
    rintro e w3 ⟨v, V, c, rfl, hx, hi, hb⟩
    have HV := hid hx
    have HI := hid hi
    have HA := hid (HA.out.below hb)
    have HN := hid (HN.out.below hb)
    have HW := hid (HW.out.trans (hb.mono hz))
    have hz := HW.out.size
    clear hx hi hb
    go_wp2_with fail
    refine Calls.mono (rinv_any HA.out.rd HN.out.rd (by omega) (by omega) H0.out) ?_
    rintro e w4 ⟨v', V', c', rfl, hx, hi, hb⟩
    obtain ⟨rfl, rfl⟩ := HI.out.uniq hi
    have HV' := hid hx
    have HA := hid (HA.out.below hb)
    have HN := hid (HN.out.below hb)
    have HV := hid (HV.out.below hb)
    have HW := hid (HW.out.trans (hb.mono hz))
    have hz := HW.out.size
    clear hx hi hb
    go_wp2_with fail
    refine Calls.mono (same_n HV.out HV'.out) ?_
    rintro e w5 ⟨rfl, hb⟩
    have HA := hid (HA.out.below hb)
    have HN := hid (HN.out.below hb)
    have HW := hid (HW.out.trans (hb.mono hz))
    have hz := HW.out.size
    clear hb
    go_wp2_with fail
    refine Calls.mono (gcd_r (B := w.heap.size) hz HA.out.rd HN.out.rd (by omega) (by omega)) ?_
    rintro e w6 ⟨g1, rfl, hx, hb⟩
    have HG1 := hid hx
    have HA := hid (HA.out.below hb)
    have HN := hid (HN.out.below hb)
    have HW := hid (HW.out.trans (hb.mono hz))
    have hz := HW.out.size
    clear hx hb
    go_wp2_with fail
    refine Calls.mono (rgcd_r (B := w.heap.size) hz HA.out.rd HN.out.rd (by omega) (by omega)) ?_
    rintro e w7 ⟨g2, rfl, hx, hb⟩
    have HG2 := hid hx
    have HG1 := hid (HG1.out.below hb)
    have HW := hid (HW.out.trans (hb.mono hz))
    have hz := HW.out.size
    clear hx hb
    go_wp2_with fail
    refine Calls.mono (same_n HG1.out HG2.out) ?_
    rintro e w8 ⟨rfl, hb⟩
    have HW := hid (HW.out.trans (hb.mono hz))
    have hz := HW.out.size
    clear hb
    go_wp2_with fail
    refine Calls.mono (known_true _) ?_
    rintro e w9 ⟨rfl, hb⟩
    have HW := hid (HW.out.trans (hb.mono hz))
    have hz := HW.out.size
    clear hb
    go_wp2_with fail
    go_ret
    exact ⟨rfl, HW.out⟩

end Go.Proofs.Ytfknjfmgpfhjiaa
