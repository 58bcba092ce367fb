/-
  The walks of nat.Small and of the reference's Trim, Cmp, Small, Bits.
-/
import Derived.Test.YtfknjfmgpfhjiaaWx
namespace Go.Proofs.Ytfknjfmgpfhjiaa
open Go.RowKit

section
variable {w w' : World} {a b v : Value} {n m N X Y B C : Nat}

theorem digits_r (hB : B ≤ w.heap.size) (h : Rd w a n N) (hn : n ≤ 100000) : Calls Try.prog 62 #[a] w fun e w' => ∃ v, e = .returned v ∧ Num .u64 B w' v N ∧ Below w.heap.size w w' := by
  obtain ⟨oa, c, f, rfl, h2, h3, rfl⟩ := h
  refine (digits_any oa n c f w h2 h3 (by omega)).mono ?_
  rintro e w' ⟨v, rfl, h5, h6⟩
  exact ⟨v, rfl, h5.mono hB, h6⟩

theorem number_r (hB : B ≤ w.heap.size) (h : Num .u64 C w a N) (hn : nd N ≤ 100000) : Calls Try.prog 64 #[a] w fun e w' => ∃ v, e = .returned v ∧ Num .u32 B w' v N ∧ Below w.heap.size w w' := by
  obtain ⟨oa, c, rfl, h2, h3⟩ := h
  have := number_any oa (nd N) c (dg N) w h2 (fun _ _ => dg_lt _ _) (by omega)
  rw [val_dg_nd] at this
  refine this.mono ?_
  rintro e w' ⟨v, rfl, h5, h6⟩
  exact ⟨v, rfl, h5.mono hB, h6⟩

theorem compare_r {D : Nat} (ha : Num .u64 C w a X) (hb : Num .u64 D w b Y) : Calls Try.prog 63 #[a, b] w fun e w' => e = .returned (.int .i64 (cmp X Y)) ∧ Below w.heap.size w w' := by
  obtain ⟨oa, c, rfl, h2, h3⟩ := ha
  obtain ⟨ob, d, rfl, k2, k3⟩ := hb
  refine (compare_any oa ob c d X Y w h2 k2).mono ?_
  rintro e w' ⟨rfl, d, rfl⟩
  exact ⟨rfl, below_drewN' _ _ _⟩

theorem digit_r (h : Num .u64 C w a N) (i : Nat) : Calls Try.prog 66 #[a, .int .i64 i] w fun e w' => e = .returned (.int .u64 (dg N i : Nat)) ∧ w = w' := by
  obtain ⟨oa, c, rfl, h2, h3⟩ := h
  exact digit_num oa c i N w h2

theorem rtrim_r (hB : B ≤ w.heap.size) (h : Rd w a n N) (hn : n ≤ 100000) : Calls Try.prog 51 #[a] w fun e w' => ∃ v, e = .returned v ∧ Num .u32 B w' v N ∧ Below w.heap.size w w' := by
  have HA := hid h
  have HN := hid (Nat.le_trans h.nd_le hn)
  have HW := hid (Below.refl w.heap.size w)
  obtain ⟨z, hzd⟩ : ∃ z, z = w.heap.size := ⟨_, rfl⟩
  have HB := hid hB
  have hz : w.heap.size ≤ w.heap.size := Nat.le_refl _
  clear h hB hzd
  go_enter Try.func51, Try.ntmps51
  go_wp2_with fail
  refine Calls.mono (digits_r (B := w.heap.size) hz HA.out hn) ?_
  rintro e w1 ⟨v1, rfl, hx, hb⟩
  have H1 := hid hx
  have HW := hid (HW.out.trans (hb.mono hz))
  have hz := HW.out.size
  clear hx hb
  go_wp2_with fail
  refine Calls.mono (number_r (B := w.heap.size) hz H1.out HN.out) ?_
  rintro e w2 ⟨v2, rfl, hx, hb⟩
  have H2 := hid hx
  have HW := hid (HW.out.trans (hb.mono hz))
  have hz := HW.out.size
  clear hx hb
  go_wp2_with fail
  go_ret
  exact ⟨_, rfl, H2.out.mono HB.out, HW.out⟩

theorem rcmp_r (ha : Rd w a n X) (hb : Rd w b m Y) (hn : n ≤ 100000) (hm : m ≤ 100000) : Calls Try.prog 52 #[a, b] w fun e w' => e = .returned (.int .i64 (cmp X Y)) ∧ Below w.heap.size w w' := by
  have HA := hid ha
  have HB := hid hb
  have HW := hid (Below.refl w.heap.size w)
  have hz : w.heap.size ≤ w.heap.size := Nat.le_refl _
  clear ha hb
  go_enter Try.func52, Try.ntmps52
  go_wp2_with fail
  refine Calls.mono (digits_r (B := w.heap.size) hz HA.out hn) ?_
  rintro e w1 ⟨v1, rfl, hx, hb⟩
  have H1 := hid hx
  have HB := hid (HB.out.below hb)
  have HW := hid (HW.out.trans (hb.mono hz))
  have hz := HW.out.size
  clear hx hb
  go_wp2_with fail
  refine Calls.mono (digits_r (B := w.heap.size) hz HB.out hm) ?_
  rintro e w2 ⟨v2, rfl, hx, hb⟩
  have H2 := hid hx
  have H1 := hid (H1.out.below hb)
  have HW := hid (HW.out.trans (hb.mono hz))
  have hz := HW.out.size
  clear hx hb
  go_wp2_with fail
  refine Calls.mono (compare_r H1.out H2.out) ?_
  rintro e w3 ⟨rfl, hb⟩
  have HW := hid (HW.out.trans (hb.mono hz))
  have hz := HW.out.size
  clear hb
  go_wp2_with fail
  go_ret
  exact ⟨rfl, HW.out⟩

/-- A small number, and whether it is one. -/
def smallV (N : Nat) : Nat := if nd N ≤ 2 then N else 0
def smallB (N : Nat) : Bool := decide (nd N ≤ 2)

theorem two_digits {N : Nat} (h : nd N ≤ 2) : dg N 1 * 4294967296 + dg N 0 = N := by
  have h1 : N < W 2 := nd_le.1 h
  have h2 := val_dg_of_lt h1
  rw [val_succ, val_succ, val_zero, W_zero, W_one] at h2
  omega

theorem rsmall_yes (h : Rd w a n N) (hn : n ≤ 100000) (hs : nd N ≤ 2) : Calls Try.prog 50 #[a] w fun e w' => e = .returned (.tuple #[.int .u64 (N : Nat), .bool true]) ∧ Below w.heap.size w w' := by
  have HA := hid h
  have HW := hid (Below.refl w.heap.size w)
  have hz : w.heap.size ≤ w.heap.size := Nat.le_refl _
  have HE := hid (two_digits hs)
  have l1 := dg_lt N 1
  have l0 := dg_lt N 0
  clear h
  go_enter Try.func50, Try.ntmps50
  go_wp2_with fail
  refine Calls.mono (digits_r (B := w.heap.size) hz HA.out hn) ?_
  rintro e w1 ⟨v, rfl, h1, hb⟩
  have H1 := hid h1
  have HW := hid hb
  obtain ⟨oa, c, rfl, h2, h3⟩ := h1
  clear hb h2 h3
  go_wp2_with fail
  refine Calls.mono (digit_r H1.out 1) ?_
  rintro e w2 ⟨rfl, rfl⟩
  go_wp2_with fail
  refine Calls.mono (digit_r H1.out 0) ?_
  rintro e w2 ⟨rfl, rfl⟩
  go_wp2_with fail
  go_ret2
  refine ⟨?_, HW.out⟩
  conv => rhs; rw [← HE.out]
  rw [Int.natCast_add, Int.natCast_mul]
  rfl

theorem rsmall_no (h : Rd w a n N) (hn : n ≤ 100000) (hs : ¬ nd N ≤ 2) : Calls Try.prog 50 #[a] w fun e w' => e = .returned (.tuple #[.int .u64 ((0 : Nat) : Nat), .bool false]) ∧ Below w.heap.size w w' := by
  have HA := hid h
  have hz : w.heap.size ≤ w.heap.size := Nat.le_refl _
  clear h
  go_enter Try.func50, Try.ntmps50
  go_wp2_with fail
  refine Calls.mono (digits_r (B := w.heap.size) hz HA.out hn) ?_
  rintro e w1 ⟨v, rfl, h1, hb⟩
  have HW := hid hb
  obtain ⟨oa, c, rfl, h2, h3⟩ := h1
  clear hb h2 h3
  go_wp2_with fail
  go_ret2
  exact ⟨rfl, HW.out⟩

theorem rsmall_r (h : Rd w a n N) (hn : n ≤ 100000) : Calls Try.prog 50 #[a] w fun e w' => e = .returned (.tuple #[.int .u64 (smallV N : Nat), .bool (smallB N)]) ∧ Below w.heap.size w w' := by
  by_cases hs : nd N ≤ 2
  · rw [show smallV N = N from if_pos hs, show smallB N = true from decide_eq_true hs]
    exact rsmall_yes h hn hs
  · rw [show smallV N = 0 from if_neg hs, show smallB N = false from decide_eq_false hs]
    exact rsmall_no h hn hs

theorem nsmall_no (h : Rd w a n N) (hs : ¬ nd N ≤ 2) : Calls Try.prog 49 #[a] w fun e w' => e = .returned (.tuple #[.int .u64 ((0 : Nat) : Nat), .bool false]) ∧ w = w' := by
  have HA := hid h
  clear h
  go_enter Try.func49, Try.ntmps49
  go_wp2_with fail
  refine Calls.mono (size_r HA.out) ?_
  rintro e w1 ⟨rfl, rfl⟩
  go_wp2_with fail
  go_ret2
  exact ⟨rfl, rfl⟩

theorem nsmall_yes (h : Rd w a n N) (hs : nd N ≤ 2) : Calls Try.prog 49 #[a] w fun e w' => e = .returned (.tuple #[.int .u64 (N : Nat), .bool true]) ∧ w = w' := by
  have HA := hid h
  have hnl := h.nd_le
  obtain ⟨oa, c, f, rfl, h2, h3, h4⟩ := h
  have HE := hid (two_digits hs)
  have hd : ∀ j, j < nd N → f j = dg N j := fun j hj => by rw [← h4, dg_val h3 j (by omega)]
  rcases Nat.lt_or_ge (nd N) 1 with h0 | h0
  · have h00 : nd N = 0 := by omega
    have hN : N = 0 := nd_eq_zero.1 h00
    subst hN
    clear h2 h3 h4 hd HE
    go_enter Try.func49, Try.ntmps49
    go_wp2_with fail
    refine Calls.mono (size_r HA.out) ?_
    rw [nd_zero]
    rintro e w1 ⟨rfl, rfl⟩
    go_wp2_with fail
    go_ret2
    exact ⟨rfl, rfl⟩
  · obtain ⟨b, off, rfl, hlt, hc⟩ := h2.at_ (by omega)
    have hc0 := hc 0 (by omega)
    rw [hd 0 (by omega), Nat.add_zero] at hc0
    have l0 := dg_lt N 0
    by_cases h1 : nd N = 1
    · have e1 : dg N 0 = N := by
        have := HE.out
        rw [dg_out (show nd N ≤ 1 by omega)] at this
        omega
      have HE1 := hid e1
      have hor := u64_or_nat 0 (dg N 0) (by decide) (by omega)
      rw [Nat.zero_or] at hor
      have hor2 : Go.bits .or .u64 0 ((dg N 0 : Nat) : Int) = ((dg N 0 : Nat) : Int) := hor
      clear h2 h3 h4 hd HE hc hor e1
      go_enter Try.func49, Try.ntmps49
      go_wp2_with fail
      refine Calls.mono (size_r HA.out) ?_
      rw [h1]
      rintro e w1 ⟨rfl, rfl⟩
      clear h1
      go_wp2_with fail
      go_ret2
      rw [HE1.out]
      exact ⟨rfl, rfl⟩
    · have h2' : nd N = 2 := by omega
      have hc1 := hc 1 (by omega)
      rw [hd 1 (by omega)] at hc1
      have l1 := dg_lt N 1
      have hor := or_shift64 (dg N 1) (dg N 0) l1 l0
      have hn2 : 2 ≤ n := by omega
      clear h2 h3 h4 hd hc h1
      go_enter Try.func49, Try.ntmps49
      go_wp2_with fail
      refine Calls.mono (size_r HA.out) ?_
      rw [h2']
      rintro e w1 ⟨rfl, rfl⟩
      clear h2'
      go_wp2_with fail
      go_ret2
      refine ⟨?_, rfl⟩
      conv => rhs; rw [← HE.out]
      rw [Int.natCast_add, Int.natCast_mul]
      rfl

theorem nsmall_r (h : Rd w a n N) : Calls Try.prog 49 #[a] w fun e w' => e = .returned (.tuple #[.int .u64 (smallV N : Nat), .bool (smallB N)]) ∧ w = w' := by
  by_cases hs : nd N ≤ 2
  · rw [show smallV N = N from if_pos hs, show smallB N = true from decide_eq_true hs]
    exact nsmall_yes h hs
  · rw [show smallV N = 0 from if_neg hs, show smallB N = false from decide_eq_false hs]
    exact nsmall_no h hs

end

end Go.Proofs.Ytfknjfmgpfhjiaa
