/-
  The reference's calls in words of numbers; the walks of its Mul, Div, Pow, Gcd, Inverse.
-/
import Derived.Test.YtfknjfmgpfhjiaaWz
import Derived.Test.YtfknjfmgpfhjiaaWzd
namespace Go.Proofs.Ytfknjfmgpfhjiaa
open Go.RowKit

section
variable {w w' : World} {a b x y v : Value} {n m N X Y M B C D E : Nat}

theorem parted_r (hB : B ≤ w.heap.size) (hx : Num .u64 C w x X) (hy : Num .u64 D w y Y) (hX : nd X ≤ 50000) (hY : nd Y ≤ 50000) (h0 : Y ≠ 0) :
    Calls Try.prog 67 #[x, y] w fun e w' => ∃ q r, e = .returned (.tuple #[q, r]) ∧ Num .u64 B w' q (X / Y) ∧ Num .u64 B w' r (X % Y) ∧ Below w.heap.size w w' := by
  have hp := nd_pos (Nat.pos_of_ne_zero h0)
  by_cases h1 : nd Y = 1
  · exact parted_one hB hx hy (by omega) h1
  · refine (parted_long hx hy hX hY (by omega)).mono ?_
    rintro e w' ⟨q, r, rfl, h2, h3, h4⟩
    exact ⟨q, r, rfl, h2.mono hB, h3.mono hB, h4⟩

theorem rest_r (hB : B ≤ w.heap.size) (hx : Num .u64 C w x X) (hy : Num .u64 D w y Y) (hv : Num .u64 E w v (M * fac M)) (hM : 0 < M) (hX : nd X ≤ 20000) (hY : nd Y ≤ 20000) (hn : nd M ≤ 20000) :
    Calls Try.prog 69 #[x, y, v, .int .u64 (fac M : Nat)] w fun e w' => ∃ r, e = .returned r ∧ Num .u64 B w' r (X * Y % M) ∧ Below w.heap.size w w' := by
  obtain ⟨ov, cv, rfl, h2, h3⟩ := hv
  rw [fac_len hM] at h2 ⊢
  refine (rest_any hx hy h2 hM hX hY hn).mono ?_
  rintro e w' ⟨r, rfl, h4, h5⟩
  exact ⟨r, rfl, h4.mono hB, h5⟩

theorem less_r (hB : B ≤ w.heap.size) (hx : Num .u64 C w x X) (hy : Num .u64 D w y Y) (hX : nd X ≤ 100000) (h : Y ≤ X) :
    Calls Try.prog 65 #[x, y] w fun e w' => ∃ r, e = .returned r ∧ Num .u64 B w' r (X - Y) ∧ Below w.heap.size w w' := by
  obtain ⟨ox, cx, rfl, h2, h3⟩ := hx
  obtain ⟨oy, cy, rfl, k2, k3⟩ := hy
  refine (less_any ox oy (nd X) (nd Y) cx cy (dg X) (dg Y) w h2 k2 (fun _ _ => dg_lt _ _) (fun _ _ => dg_lt _ _) (by omega) (by rw [val_dg_nd, val_dg_nd]; exact h)).mono ?_
  rintro e w' ⟨r, rfl, h4, h5⟩
  rw [val_dg_nd, val_dg_nd] at h4
  exact ⟨r, rfl, h4.mono hB, h5⟩

/-- The number that a slice reads as, told from memory. -/
theorem Num.rdn (h : Num .u64 C w v N) : Go.Proofs.Ytfknjfmgpfhjiaa.rdn w v = N := by
  obtain ⟨oa, c, rfl, h2, h3⟩ := h
  rcases Nat.eq_zero_or_pos N with h0 | h0
  · subst h0
    rw [nd_zero]
    cases oa <;> rfl
  · obtain ⟨b, off, rfl, hlt, hc⟩ := h2.at_ (nd_pos h0)
    refine Eq.trans (val_congr fun j hj => ?_) (val_dg_nd N)
    rw [hc j hj]; simp [intOf]

theorem dg_one : dg 1 0 = 1 := by rw [dg_zero]

theorem nd_one : nd 1 = 1 := by decide

/-- The one, laid in a new block. -/
theorem num_one (hB : B ≤ w.heap.size) : Num .u64 B (w.alloc (.cells #[.int .u64 1] 36)) (.slice (some ⟨w.heap.size, 0, none⟩) 1 1) 1 := by
  refine ⟨some ⟨w.heap.size, 0, none⟩, 1, by rw [nd_one], ?_, fun a ha => ?_⟩
  · rw [nd_one]
    exact (sl_one w .u64 36 1).congr fun j hj => by
      obtain rfl : j = 0 := by omega
      exact dg_one.symm
  · cases ha
    exact ⟨hB, by simp, fun o => World.frozen?_alloc_at _ _ _ _ rfl⟩

theorem rmul_r (hB : B ≤ w.heap.size) (ha : Rd w a n X) (hb : Rd w b m Y) (hn : n ≤ 40000) (hm : m ≤ 40000) : Calls Try.prog 33 #[a, b] w fun e w' => ∃ v, e = .returned v ∧ Num .u32 B w' v (X * Y) ∧ Below w.heap.size w w' := by
  have HA := hid ha
  have HB := hid hb
  have hX := ha.nd_le
  have hY := hb.nd_le
  have HN : Hid (nd (X * Y) ≤ 100000) := Nat.le_trans (nd_mul hX hY) (by omega)
  have HW := hid (Below.refl w.heap.size w)
  have HBB := hid hB
  have hz : w.heap.size ≤ w.heap.size := Nat.le_refl _
  clear ha hb hB
  go_enter Try.func33, Try.ntmps33
  go_wp2_with fail
  refine Calls.mono (digits_r (B := w.heap.size) hz HA.out (by omega)) ?_
  rintro e w1 ⟨v1, rfl, hx, hb⟩
  have H1 := hid hx
  have HB := hid (HB.out.below hb)
  have HW := hid (HW.out.trans (hb.mono hz))
  have hz := HW.out.size
  clear hx hb
  go_wp2_with fail
  refine Calls.mono (digits_r (B := w.heap.size) hz HB.out (by omega)) ?_
  rintro e w2 ⟨v2, rfl, hx, hb⟩
  have H2 := hid hx
  have H1 := hid (H1.out.below hb)
  have HW := hid (HW.out.trans (hb.mono hz))
  have hz := HW.out.size
  clear hx hb
  go_wp2_with fail
  refine Calls.mono (times_r (B := w.heap.size) hz H1.out H2.out (by omega) (by omega)) ?_
  rintro e w3 ⟨v3, rfl, hx, hb⟩
  have H3 := hid hx
  have HW := hid (HW.out.trans (hb.mono hz))
  have hz := HW.out.size
  clear hx hb
  go_wp2_with fail
  refine Calls.mono (number_r (B := w.heap.size) hz H3.out HN.out) ?_
  rintro e w4 ⟨v4, rfl, hx, hb⟩
  have H4 := hid hx
  have HW := hid (HW.out.trans (hb.mono hz))
  have hz := HW.out.size
  clear hx hb
  go_wp2_with fail
  go_ret
  exact ⟨_, rfl, H4.out.mono HBB.out, HW.out⟩

theorem rdiv_0 (_ : Rd w a n X) (hb : Rd w b m 0) (hm : m ≤ 40000) : Calls Try.prog 31 #[a, b] w fun e w' => e = .returned (.tuple #[.slice none 0 0, .slice none 0 0, .int .i64 10]) ∧ Below w.heap.size w w' := by
  have HB := hid hb
  have hz : w.heap.size ≤ w.heap.size := Nat.le_refl _
  clear hb
  go_enter Try.func31, Try.ntmps31
  go_wp2_with fail
  refine Calls.mono (digits_r (B := w.heap.size) hz HB.out (by omega)) ?_
  rintro e w1 ⟨v1, rfl, hx, hb⟩
  have HW := hid hb
  obtain ⟨o1, c1, rfl, h2, h3⟩ := hx
  rw [nd_zero]
  clear hb h2 h3
  go_wp2_with fail
  go_ret3
  exact ⟨rfl, HW.out⟩

theorem rdiv_r (hB : B ≤ w.heap.size) (ha : Rd w a n X) (hb : Rd w b m Y) (hn : n ≤ 40000) (hm : m ≤ 40000) (h0 : Y ≠ 0) :
    Calls Try.prog 31 #[a, b] w fun e w' => ∃ v u, e = .returned (.tuple #[v, u, .int .i64 0]) ∧ Num .u32 B w' v (X / Y) ∧ Num .u32 B w' u (X % Y) ∧ Below w.heap.size w w' := by
  have HA := hid ha
  have HB := hid hb
  have hX := ha.nd_le
  have hY := hb.nd_le
  have hp := nd_pos (Nat.pos_of_ne_zero h0)
  have HN1 : Hid (nd (X / Y) ≤ 100000) := Nat.le_trans (nd_div hX) (by omega)
  have HN2 : Hid (nd (X % Y) ≤ 100000) := Nat.le_trans (nd_modl hX) (by omega)
  have HW := hid (Below.refl w.heap.size w)
  have HBB := hid hB
  have hz : w.heap.size ≤ w.heap.size := Nat.le_refl _
  have H0 := hid h0
  clear ha hb hB h0
  go_enter Try.func31, Try.ntmps31
  go_wp2_with fail
  refine Calls.mono (digits_r (B := w.heap.size) hz HB.out (by omega)) ?_
  rintro e w1 ⟨v1, rfl, hx, hb⟩
  have HA := hid (HA.out.below hb)
  have HW := hid (HW.out.trans (hb.mono hz))
  have hz := HW.out.size
  have H1 := hid hx
  obtain ⟨o1, c1, rfl, h2, h3⟩ := hx
  have hq : (((nd Y : Nat) : Int) == 0) = false := by simp; omega
  clear hb h2 h3
  go_wp2_with fail
  refine Calls.mono (digits_r (B := w.heap.size) hz HA.out (by omega)) ?_
  rintro e w2 ⟨v2, rfl, hx, hb⟩
  have H2 := hid hx
  have H1 := hid (H1.out.below hb)
  have HW := hid (HW.out.trans (hb.mono hz))
  have hz := HW.out.size
  clear hx hb
  go_wp2_with fail
  refine Calls.mono (parted_r (B := w.heap.size) hz H2.out H1.out (by omega) (by omega) H0.out) ?_
  rintro e w3 ⟨q, r, rfl, hx, hy, hb⟩
  have HQ := hid hx
  have HR := hid hy
  have HW := hid (HW.out.trans (hb.mono hz))
  have hz := HW.out.size
  clear hx hy hb
  go_wp2_with fail
  refine Calls.mono (number_r (B := w.heap.size) hz HQ.out HN1.out) ?_
  rintro e w4 ⟨v4, rfl, hx, hb⟩
  have H4 := hid hx
  have HR := hid (HR.out.below hb)
  have HW := hid (HW.out.trans (hb.mono hz))
  have hz := HW.out.size
  clear hx hb
  go_wp2_with fail
  refine Calls.mono (number_r (B := w.heap.size) hz HR.out HN2.out) ?_
  rintro e w5 ⟨v5, rfl, hx, hb⟩
  have H5 := hid hx
  have H4 := hid (H4.out.below hb)
  have HW := hid (HW.out.trans (hb.mono hz))
  have hz := HW.out.size
  clear hx hb
  go_wp2_with fail
  go_ret3
  exact ⟨_, _, rfl, H4.out.mono HBB.out, H5.out.mono HBB.out, HW.out⟩

theorem rgcd_r (hB : B ≤ w.heap.size) (ha : Rd w a n X) (hb : Rd w b m Y) (hn : n ≤ 40000) (hm : m ≤ 40000) : Calls Try.prog 43 #[a, b] w fun e w' => ∃ v, e = .returned v ∧ Num .u32 B w' v (Nat.gcd X Y) ∧ Below w.heap.size w w' := by
  have HA := hid ha
  have HB := hid hb
  have hX := ha.nd_le
  have hY := hb.nd_le
  have HW := hid (Below.refl w.heap.size w)
  have HBB := hid hB
  have hz : w.heap.size ≤ w.heap.size := Nat.le_refl _
  clear ha hb hB
  go_enter Try.func43, Try.ntmps43
  go_wp2_with fail
  refine Calls.mono (digits_r (B := w.heap.size) hz HA.out (by omega)) ?_
  rintro e w1 ⟨v1, rfl, hx, hb⟩
  have H1 := hid hx
  have HB := hid (HB.out.below hb)
  have HW := hid (HW.out.trans (hb.mono hz))
  have hz := HW.out.size
  clear hx hb
  go_wp2_with fail
  refine Calls.mono (digits_r (B := w.heap.size) hz HB.out (by omega)) ?_
  rintro e w2 ⟨v2, rfl, hx, hb⟩
  have H2 := hid hx
  have H1 := hid (H1.out.below hb)
  have HW := hid (HW.out.trans (hb.mono hz))
  have hz := HW.out.size
  clear hx hb
  go_wp2_with fail
  go_loopw [5, 6] (fun a1 b1 wr => ∃ X1 Y1 : Nat, nd X1 ≤ 40000 ∧ nd Y1 ≤ 40000 ∧ Nat.gcd X1 Y1 = Nat.gcd X Y ∧ Num .u64 w.heap.size wr a1 X1 ∧ Num .u64 w.heap.size wr b1 Y1 ∧ Below w.heap.size w wr) (fun _ b1 wr => rdn wr b1)
  case atStart => exact ⟨X, Y, by omega, by omega, rfl, H1.out, H2.out, HW.out⟩
  case round =>
    obtain ⟨X1, Y1, hn1, hn2, hg, ha, hb, hl⟩ := hrel
    have HA := hid ha
    have HB := hid hb
    have HL := hid hl
    have HG := hid hg
    have hz := hl.size
    have HR := hid hb.rdn
    obtain ⟨ob, cb, rfl, k2, k3⟩ := hb
    clear ha hl hg k2 k3
    by_cases h0 : Y1 = 0
    · subst h0
      rw [nd_zero] at HB HR ⊢
      have hg := HG.out
      rw [Nat.gcd_zero_right] at hg
      go_wp2_with fail
      refine Calls.mono (number_r (B := w.heap.size) hz HA.out (by omega)) ?_
      rintro e w5 ⟨v, rfl, hv, hb⟩
      have HV := hid hv
      have HL := hid (HL.out.trans (hb.mono hz))
      clear hv hb
      rw [hg] at HV
      clear hg
      go_wp2_with fail
      go_ret
      exact ⟨_, rfl, HV.out.mono HBB.out, HL.out⟩
    · have hnd := nd_pos (Nat.pos_of_ne_zero h0)
      have hd : decide (((nd Y1 : Nat) : Int) > 0) = true := by simp; omega
      have H0 := hid h0
      clear h0
      go_wp2_with fail
      refine Calls.mono (parted_r (B := w.heap.size) hz HA.out HB.out (by omega) (by omega) H0.out) ?_
      rintro e w5 ⟨q, r, rfl, -, hr, hb⟩
      have HRR := hid hr
      have HB := hid (HB.out.below hb)
      have HL := hid (HL.out.trans (hb.mono hz))
      clear hr hb
      go_wp2_with fail
      go_roundw
      case rel => exact ⟨Y1, X1 % Y1, hn2, Nat.le_trans (nd_mod_le (Nat.pos_of_ne_zero H0.out) (Nat.le_refl _)) hn2, by rw [gcd_round, HG.out], HB.out, HRR.out, HL.out⟩
      case measure =>
        rw [HRR.out.rdn]
        show _ < rdn wr _
        rw [HR.out]
        exact Nat.mod_lt _ (Nat.pos_of_ne_zero H0.out)
end

end Go.Proofs.Ytfknjfmgpfhjiaa
