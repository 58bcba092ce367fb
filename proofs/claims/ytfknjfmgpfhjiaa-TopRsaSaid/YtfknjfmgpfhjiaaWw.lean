/-
  The walks of the laws NatRing and NatBack.
-/
import Derived.Test.YtfknjfmgpfhjiaaWv
namespace Go.Proofs.Ytfknjfmgpfhjiaa
open Go.RowKit

theorem nd_add {X Y a : Nat} (hx : nd X ≤ a) (hy : nd Y ≤ a) : nd (X + Y) ≤ a + 1 := nd_le.2 (add_lt_W_succ (nd_le.1 hx) (nd_le.1 hy))

theorem nd_mul {X Y a b : Nat} (hx : nd X ≤ a) (hy : nd Y ≤ b) : nd (X * Y) ≤ a + b := nd_le.2 (mul_lt_W (nd_le.1 hx) (nd_le.1 hy))

theorem nd_div {X Y a : Nat} (hx : nd X ≤ a) : nd (X / Y) ≤ a := Nat.le_trans (nd_mono (Nat.div_le_self _ _)) hx

theorem nd_modl {X Y a : Nat} (hx : nd X ≤ a) : nd (X % Y) ≤ a := Nat.le_trans (nd_mono (Nat.mod_le _ _)) hx

theorem same_e {w : World} {a b : Value} {A C M N : Nat} (ha : Num .u32 A w a M) (hb : Num .u32 C w b N) (h : M = N) : Calls Try.prog 22 #[a, b] w fun e w' => e = .returned (.bool true) ∧ Below w.heap.size w w' := by
  subst h
  exact same_n ha hb

set_option maxHeartbeats 3200000 in
theorem ring_any {w : World} {a b c : Value} {na nb nc : Nat} {f g h : Nat → Nat} (ha : Rf w a na f) (hb : Rf w b nb g) (hc : Rf w c nc h) :
    Calls Try.prog 7 #[a, b, c] w fun e w' => e = .returned (.bool true) ∧ Below w.heap.size w w' := by
  have HA := hid ha
  have HB := hid hb
  have HC := hid hc
  have HW := hid (Below.refl w.heap.size w)
  have hz : w.heap.size ≤ w.heap.size := Nat.le_refl _
  clear ha hb hc
  go_enter Try.func7, Try.ntmps7
  go_wp2_with fail
  refine (heavy_r HA.out).mono ?_
  rintro e w1 ⟨rfl, rfl⟩
  by_cases h1 : 24 < na
  · rw [decide_eq_true h1]
    go_wp2_with fail
    refine Calls.mono (known_true w) ?_
    rintro e w2 ⟨rfl, hb⟩
    have HW := hid (HW.out.trans (hb.mono hz))
    have hz := HW.out.size
    clear hb
    go_wp2_with fail
    go_ret
    exact ⟨rfl, HW.out⟩
  rw [decide_eq_false h1]
  go_wp2_with fail
  refine (heavy_r HB.out).mono ?_
  rintro e w1 ⟨rfl, rfl⟩
  by_cases h2 : 24 < nb
  · rw [decide_eq_true h2]
    go_wp2_with fail
    refine Calls.mono (known_true w) ?_
    rintro e w2 ⟨rfl, hb⟩
    have HW := hid (HW.out.trans (hb.mono hz))
    have hz := HW.out.size
    clear hb
    go_wp2_with fail
    go_ret
    exact ⟨rfl, HW.out⟩
  rw [decide_eq_false h2]
  go_wp2_with fail
  refine (heavy_r HC.out).mono ?_
  rintro e w1 ⟨rfl, rfl⟩
  by_cases h3 : 24 < nc
  · rw [decide_eq_true h3]
    go_wp2_with fail
    refine Calls.mono (known_true w) ?_
    rintro e w2 ⟨rfl, hb⟩
    have HW := hid (HW.out.trans (hb.mono hz))
    have hz := HW.out.size
    clear hb
    go_wp2_with fail
    go_ret
    exact ⟨rfl, HW.out⟩
  rw [decide_eq_false h3]
  have na1 : nd (val f na) ≤ 24 := Nat.le_trans HA.out.rd.nd_le (by omega)
  have nb1 : nd (val g nb) ≤ 24 := Nat.le_trans HB.out.rd.nd_le (by omega)
  have nc1 : nd (val h nc) ≤ 24 := Nat.le_trans HC.out.rd.nd_le (by omega)
  have NA := hid na1
  have NB := hid nb1
  have NC := hid nc1
  clear na1 nb1 nc1
  go_wp2_with fail
  refine Calls.mono (add_r (B := w.heap.size) hz HB.out.rd HC.out.rd (by omega) (by omega)) ?_
  rintro e w1 ⟨v1, rfl, hx, hb⟩
  have H1 := hid hx
  have HA := hid (HA.out.below hb)
  have HB := hid (HB.out.below hb)
  have HC := hid (HC.out.below hb)
  have HW := hid (HW.out.trans (hb.mono hz))
  have hz := HW.out.size
  clear hx hb
  go_wp2_with fail
  refine Calls.mono (mul_r (B := w.heap.size) hz HA.out.rd (Rd.of_num H1.out) (by omega) (Nat.le_trans (nd_add NB.out NC.out) (by decide))) ?_
  rintro e w2 ⟨v2, rfl, hx, hb⟩
  have H2 := hid hx
  have HA := hid (HA.out.below hb)
  have HB := hid (HB.out.below hb)
  have HC := hid (HC.out.below hb)
  have HW := hid (HW.out.trans (hb.mono hz))
  have hz := HW.out.size
  clear hx hb
  go_wp2_with fail
  refine Calls.mono (mul_r (B := w.heap.size) hz HC.out.rd HA.out.rd (by omega) (by omega)) ?_
  rintro e w3 ⟨v3, rfl, hx, hb⟩
  have H3 := hid hx
  have HA := hid (HA.out.below hb)
  have HB := hid (HB.out.below hb)
  have HC := hid (HC.out.below hb)
  have H2 := hid (H2.out.below hb)
  have HW := hid (HW.out.trans (hb.mono hz))
  have hz := HW.out.size
  clear hx hb
  go_wp2_with fail
  refine Calls.mono (mul_r (B := w.heap.size) hz HB.out.rd HA.out.rd (by omega) (by omega)) ?_
  rintro e w4 ⟨v4, rfl, hx, hb⟩
  have H4 := hid hx
  have HA := hid (HA.out.below hb)
  have HB := hid (HB.out.below hb)
  have HC := hid (HC.out.below hb)
  have H2 := hid (H2.out.below hb)
  have H3 := hid (H3.out.below hb)
  have HW := hid (HW.out.trans (hb.mono hz))
  have hz := HW.out.size
  clear hx hb
  go_wp2_with fail
  refine Calls.mono (add_r (B := w.heap.size) hz (Rd.of_num H3.out) (Rd.of_num H4.out) (Nat.le_trans (nd_mul NC.out NA.out) (by decide)) (Nat.le_trans (nd_mul NB.out NA.out) (by decide))) ?_
  rintro e w5 ⟨v5, rfl, hx, hb⟩
  have H5 := hid hx
  have HA := hid (HA.out.below hb)
  have HB := hid (HB.out.below hb)
  have HC := hid (HC.out.below hb)
  have H2 := hid (H2.out.below hb)
  have HW := hid (HW.out.trans (hb.mono hz))
  have hz := HW.out.size
  clear hx hb
  go_wp2_with fail
  refine Calls.mono (same_e H2.out H5.out (by rw [Nat.mul_add, Nat.add_comm, Nat.mul_comm (val f na) (val h nc), Nat.mul_comm (val f na) (val g nb)])) ?_
  rintro e w6 ⟨rfl, hb⟩
  have HA := hid (HA.out.below hb)
  have HB := hid (HB.out.below hb)
  have HC := hid (HC.out.below hb)
  have HW := hid (HW.out.trans (hb.mono hz))
  have hz := HW.out.size
  clear hb
  go_wp2_with fail
  refine Calls.mono (add_r (B := w.heap.size) hz HA.out.rd HB.out.rd (by omega) (by omega)) ?_
  rintro e w7 ⟨v6, rfl, hx, hb⟩
  have H6 := hid hx
  have HA := hid (HA.out.below hb)
  have HB := hid (HB.out.below hb)
  have HC := hid (HC.out.below hb)
  have HW := hid (HW.out.trans (hb.mono hz))
  have hz := HW.out.size
  clear hx hb
  go_wp2_with fail
  refine Calls.mono (add_r (B := w.heap.size) hz (Rd.of_num H6.out) HC.out.rd (Nat.le_trans (nd_add NA.out NB.out) (by decide)) (by omega)) ?_
  rintro e w8 ⟨v7, rfl, hx, hb⟩
  have H7 := hid hx
  have HA := hid (HA.out.below hb)
  have HB := hid (HB.out.below hb)
  have HC := hid (HC.out.below hb)
  have HW := hid (HW.out.trans (hb.mono hz))
  have hz := HW.out.size
  clear hx hb
  go_wp2_with fail
  refine Calls.mono (add_r (B := w.heap.size) hz HC.out.rd HB.out.rd (by omega) (by omega)) ?_
  rintro e w9 ⟨v8, rfl, hx, hb⟩
  have H8 := hid hx
  have HA := hid (HA.out.below hb)
  have HB := hid (HB.out.below hb)
  have HC := hid (HC.out.below hb)
  have H7 := hid (H7.out.below hb)
  have HW := hid (HW.out.trans (hb.mono hz))
  have hz := HW.out.size
  clear hx hb
  go_wp2_with fail
  refine Calls.mono (add_r (B := w.heap.size) hz HA.out.rd (Rd.of_num H8.out) (by omega) (Nat.le_trans (nd_add NC.out NB.out) (by decide))) ?_
  rintro e w10 ⟨v9, rfl, hx, hb⟩
  have H9 := hid hx
  have HA := hid (HA.out.below hb)
  have HB := hid (HB.out.below hb)
  have HC := hid (HC.out.below hb)
  have H7 := hid (H7.out.below hb)
  have HW := hid (HW.out.trans (hb.mono hz))
  have hz := HW.out.size
  clear hx hb
  go_wp2_with fail
  refine Calls.mono (same_e H7.out H9.out (by omega)) ?_
  rintro e w11 ⟨rfl, hb⟩
  have HA := hid (HA.out.below hb)
  have HB := hid (HB.out.below hb)
  have HC := hid (HC.out.below hb)
  have HW := hid (HW.out.trans (hb.mono hz))
  have hz := HW.out.size
  clear hb
  go_wp2_with fail
  refine Calls.mono (mul_r (B := w.heap.size) hz HA.out.rd HB.out.rd (by omega) (by omega)) ?_
  rintro e w12 ⟨v10, rfl, hx, hb⟩
  have H10 := hid hx
  have HA := hid (HA.out.below hb)
  have HB := hid (HB.out.below hb)
  have HC := hid (HC.out.below hb)
  have HW := hid (HW.out.trans (hb.mono hz))
  have hz := HW.out.size
  clear hx hb
  go_wp2_with fail
  refine Calls.mono (mul_r (B := w.heap.size) hz (Rd.of_num H10.out) HC.out.rd (Nat.le_trans (nd_mul NA.out NB.out) (by decide)) (by omega)) ?_
  rintro e w13 ⟨v11, rfl, hx, hb⟩
  have H11 := hid hx
  have HA := hid (HA.out.below hb)
  have HB := hid (HB.out.below hb)
  have HC := hid (HC.out.below hb)
  have HW := hid (HW.out.trans (hb.mono hz))
  have hz := HW.out.size
  clear hx hb
  go_wp2_with fail
  refine Calls.mono (mul_r (B := w.heap.size) hz HB.out.rd HC.out.rd (by omega) (by omega)) ?_
  rintro e w14 ⟨v12, rfl, hx, hb⟩
  have H12 := hid hx
  have HA := hid (HA.out.below hb)
  have HB := hid (HB.out.below hb)
  have HC := hid (HC.out.below hb)
  have H11 := hid (H11.out.below hb)
  have HW := hid (HW.out.trans (hb.mono hz))
  have hz := HW.out.size
  clear hx hb
  go_wp2_with fail
  refine Calls.mono (mul_r (B := w.heap.size) hz HA.out.rd (Rd.of_num H12.out) (by omega) (Nat.le_trans (nd_mul NB.out NC.out) (by decide))) ?_
  rintro e w15 ⟨v13, rfl, hx, hb⟩
  have H13 := hid hx
  have H11 := hid (H11.out.below hb)
  have HW := hid (HW.out.trans (hb.mono hz))
  have hz := HW.out.size
  clear hx hb
  go_wp2_with fail
  refine Calls.mono (same_e H11.out H13.out (Nat.mul_assoc _ _ _)) ?_
  rintro e w16 ⟨rfl, hb⟩
  have HW := hid (HW.out.trans (hb.mono hz))
  have hz := HW.out.size
  clear hb
  go_wp2_with fail
  refine Calls.mono (known_true _) ?_
  rintro e w17 ⟨rfl, hb⟩
  have HW := hid (HW.out.trans (hb.mono hz))
  have hz := HW.out.size
  clear hb
  go_wp2_with fail
  go_ret
  exact ⟨rfl, HW.out⟩

set_option maxHeartbeats 3200000 in
theorem back_any {w : World} {a b : Value} {na nb : Nat} {f g : Nat → Nat} (ha : Rf w a na f) (hb : Rf w b nb g) :
    Calls Try.prog 8 #[a, b] w fun e w' => e = .returned (.bool true) ∧ Below w.heap.size w w' := by
  have HA := hid ha
  have HB := hid hb
  have HW := hid (Below.refl w.heap.size w)
  have hz : w.heap.size ≤ w.heap.size := Nat.le_refl _
  clear ha hb
  go_enter Try.func8, Try.ntmps8
  go_wp2_with fail
  refine (heavy_r HA.out).mono ?_
  rintro e w1 ⟨rfl, rfl⟩
  by_cases h1 : 24 < na
  · rw [decide_eq_true h1]
    go_wp2_with fail
    refine Calls.mono (known_true w) ?_
    rintro e w2 ⟨rfl, hb⟩
    have HW := hid (HW.out.trans (hb.mono hz))
    have hz := HW.out.size
    clear hb
    go_wp2_with fail
    go_ret
    exact ⟨rfl, HW.out⟩
  rw [decide_eq_false h1]
  go_wp2_with fail
  refine (heavy_r HB.out).mono ?_
  rintro e w1 ⟨rfl, rfl⟩
  by_cases h2 : 24 < nb
  · rw [decide_eq_true h2]
    go_wp2_with fail
    refine Calls.mono (known_true w) ?_
    rintro e w2 ⟨rfl, hb⟩
    have HW := hid (HW.out.trans (hb.mono hz))
    have hz := HW.out.size
    clear hb
    go_wp2_with fail
    go_ret
    exact ⟨rfl, HW.out⟩
  rw [decide_eq_false h2]
  have na1 : nd (val f na) ≤ 24 := Nat.le_trans HA.out.rd.nd_le (by omega)
  have nb1 : nd (val g nb) ≤ 24 := Nat.le_trans HB.out.rd.nd_le (by omega)
  have NA := hid na1
  have NB := hid nb1
  clear na1 nb1
  go_wp2_with fail
  refine Calls.mono (add_r (B := w.heap.size) hz HA.out.rd HB.out.rd (by omega) (by omega)) ?_
  rintro e w1 ⟨v1, rfl, hx, hb⟩
  have H1 := hid hx
  have HA := hid (HA.out.below hb)
  have HB := hid (HB.out.below hb)
  have HW := hid (HW.out.trans (hb.mono hz))
  have hz := HW.out.size
  clear hx hb
  go_wp2_with fail
  refine Calls.mono (sub_r (B := w.heap.size) hz (Rd.of_num H1.out) HB.out.rd (Nat.le_trans (nd_add NA.out NB.out) (by decide)) (by omega)) ?_
  rintro e w2 ⟨v2, rfl, hx, hb⟩
  have H2 := hid hx
  have HA := hid (HA.out.below hb)
  have HB := hid (HB.out.below hb)
  have HW := hid (HW.out.trans (hb.mono hz))
  have hz := HW.out.size
  clear hx hb
  go_wp2_with fail
  by_cases h0 : val g nb = 0
  · have HBZ := HB.out.rd
    rw [h0] at HBZ
    have HBZ := hid HBZ
    have H0 := hid h0
    clear h0
    refine Calls.mono (div_0 HA.out.rd HBZ.out) ?_
    rintro e w3 ⟨rfl, hb⟩
    have HA := hid (HA.out.below hb)
    have HB := hid (HB.out.below hb)
    have H2 := hid (H2.out.below hb)
    have HW := hid (HW.out.trans (hb.mono hz))
    have hz := HW.out.size
    clear hb
    go_wp2_with fail
    refine Calls.mono (trim_r (B := w.heap.size) hz HA.out.rd (by omega)) ?_
    rintro e w4 ⟨v3, rfl, hx, hb⟩
    have H3 := hid hx
    have HA := hid (HA.out.below hb)
    have HB := hid (HB.out.below hb)
    have H2 := hid (H2.out.below hb)
    have HW := hid (HW.out.trans (hb.mono hz))
    have hz := HW.out.size
    clear hx hb
    go_wp2_with fail
    refine Calls.mono (same_e H2.out H3.out (Nat.add_sub_cancel _ _)) ?_
    rintro e w5 ⟨rfl, hb⟩
    have HA := hid (HA.out.below hb)
    have HB := hid (HB.out.below hb)
    have HW := hid (HW.out.trans (hb.mono hz))
    have hz := HW.out.size
    clear hb
    go_wp2_with fail
    refine Calls.mono (bits_r HB.out.rd (by omega)) ?_
    rw [H0.out, bits_zero]
    rintro e w6 ⟨rfl, rfl⟩
    go_wp2_with fail
    refine Calls.mono (known_true _) ?_
    rintro e w7 ⟨rfl, hb⟩
    have HW := hid (HW.out.trans (hb.mono hz))
    have hz := HW.out.size
    clear hb
    go_wp2_with fail
    go_ret
    exact ⟨rfl, HW.out⟩
  · have H0 := hid h0
    have hp : 0 < val g nb := Nat.pos_of_ne_zero h0
    have hmod : val f na % val g nb < val g nb := Nat.mod_lt _ hp
    have hbp : ((bits (val g nb) : Nat) : Int) ≠ 0 := by
      have := nd_pos hp
      unfold nd at this
      omega
    have HM := hid hmod
    have hbe : (((bits (val g nb) : Nat) : Int) == 0) = false := by simpa using hbp
    clear h0 hp hmod hbp
    refine Calls.mono (div_r (B := w.heap.size) hz HA.out.rd HB.out.rd (by omega) H0.out) ?_
    rintro e w3 ⟨v3, v4, rfl, hx, hy, hb⟩
    have H3 := hid hx
    have H4 := hid hy
    have HA := hid (HA.out.below hb)
    have HB := hid (HB.out.below hb)
    have H2 := hid (H2.out.below hb)
    have HW := hid (HW.out.trans (hb.mono hz))
    have hz := HW.out.size
    clear hx hy hb
    go_wp2_with fail
    refine Calls.mono (trim_r (B := w.heap.size) hz HA.out.rd (by omega)) ?_
    rintro e w4 ⟨v5, rfl, hx, hb⟩
    have H5 := hid hx
    have HA := hid (HA.out.below hb)
    have HB := hid (HB.out.below hb)
    have H2 := hid (H2.out.below hb)
    have H3 := hid (H3.out.below hb)
    have H4 := hid (H4.out.below hb)
    have HW := hid (HW.out.trans (hb.mono hz))
    have hz := HW.out.size
    clear hx hb
    go_wp2_with fail
    refine Calls.mono (same_e H2.out H5.out (Nat.add_sub_cancel _ _)) ?_
    rintro e w5 ⟨rfl, hb⟩
    have HA := hid (HA.out.below hb)
    have HB := hid (HB.out.below hb)
    have H3 := hid (H3.out.below hb)
    have H4 := hid (H4.out.below hb)
    have HW := hid (HW.out.trans (hb.mono hz))
    have hz := HW.out.size
    clear hb
    go_wp2_with fail
    refine Calls.mono (bits_r HB.out.rd (by omega)) ?_
    rintro e w6 ⟨rfl, rfl⟩
    generalize bits (val g nb) = kb at *
    go_wp2_with fail
    refine Calls.mono (mul_r (B := w.heap.size) hz (Rd.of_num H3.out) HB.out.rd (Nat.le_trans (nd_div NA.out) (by decide)) (by omega)) ?_
    rintro e w7 ⟨v6, rfl, hx, hb⟩
    have H6 := hid hx
    have HA := hid (HA.out.below hb)
    have HB := hid (HB.out.below hb)
    have H4 := hid (H4.out.below hb)
    have HW := hid (HW.out.trans (hb.mono hz))
    have hz := HW.out.size
    clear hx hb
    go_wp2_with fail
    refine Calls.mono (add_r (B := w.heap.size) hz (Rd.of_num H6.out) (Rd.of_num H4.out) (Nat.le_trans (nd_mul (nd_div NA.out) NB.out) (by decide)) (Nat.le_trans (nd_modl NA.out) (by decide))) ?_
    rintro e w8 ⟨v7, rfl, hx, hb⟩
    have H7 := hid hx
    have HA := hid (HA.out.below hb)
    have HB := hid (HB.out.below hb)
    have H4 := hid (H4.out.below hb)
    have HW := hid (HW.out.trans (hb.mono hz))
    have hz := HW.out.size
    clear hx hb
    go_wp2_with fail
    refine Calls.mono (trim_r (B := w.heap.size) hz HA.out.rd (by omega)) ?_
    rintro e w9 ⟨v8, rfl, hx, hb⟩
    have H8 := hid hx
    have HA := hid (HA.out.below hb)
    have HB := hid (HB.out.below hb)
    have H4 := hid (H4.out.below hb)
    have H7 := hid (H7.out.below hb)
    have HW := hid (HW.out.trans (hb.mono hz))
    have hz := HW.out.size
    clear hx hb
    go_wp2_with fail
    refine Calls.mono (same_e H7.out H8.out (by rw [Nat.mul_comm]; exact Nat.div_add_mod _ _)) ?_
    rintro e w10 ⟨rfl, hb⟩
    have HA := hid (HA.out.below hb)
    have HB := hid (HB.out.below hb)
    have H4 := hid (H4.out.below hb)
    have HW := hid (HW.out.trans (hb.mono hz))
    have hz := HW.out.size
    clear hb
    go_wp2_with fail
    have hcm := cmp_b (Rd.of_num H4.out) HB.out.rd
    rw [cmp_lt HM.out] at hcm
    have HCM := hid hcm
    clear hcm
    refine Calls.mono (HCM.out) ?_
    rintro e w11 ⟨rfl, hb⟩
    have HW := hid (HW.out.trans (hb.mono hz))
    have hz := HW.out.size
    clear hb
    go_wp2_with fail
    refine Calls.mono (known_true _) ?_
    rintro e w12 ⟨rfl, hb⟩
    have HW := hid (HW.out.trans (hb.mono hz))
    have hz := HW.out.size
    clear hb
    go_wp2_with fail
    go_ret
    exact ⟨rfl, HW.out⟩

end Go.Proofs.Ytfknjfmgpfhjiaa
