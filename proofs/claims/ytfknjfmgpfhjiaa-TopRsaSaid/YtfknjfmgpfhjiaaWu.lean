/-
  The walk of known: what must come of fixed calls.
-/
import Derived.Test.YtfknjfmgpfhjiaaWt
namespace Go.Proofs.Ytfknjfmgpfhjiaa
open Go.RowKit

theorem known_bytes : byt (9223372036854775808 * 6) 8 = 3 ∧ byt (9223372036854775808 * 6) 7 = 0 := by decide +kernel
theorem known_bits : (bits (9223372036854775808 * 6) + 7) / 8 = 9 := by decide +kernel

theorem known_inv {V : Nat} {c : Int} (h : IsInv 3 7 V c) : c = 0 ∧ V = 5 := by
  obtain ⟨h1, h2⟩ := h
  rw [if_pos (by decide)] at h2
  obtain ⟨rfl, h3⟩ := h2
  refine ⟨rfl, ?_⟩
  have : ∀ V, V < 7 → V * 3 % 7 = 1 % 7 → V = 5 := by decide
  exact this V h1 h3

theorem nd_small {N : Nat} (h : N < 18446744073709551616) : nd N ≤ 2 := nd_le.2 h

set_option maxRecDepth 100000 in
set_option maxHeartbeats 3200000 in
theorem known_true (w : World) : Calls Try.prog 25 #[] w fun e w' => e = .returned (.bool true) ∧ Below w.heap.size w w' := by
  have HKB := hid known_bytes
  have h0 : w.heap.size ≤ w.heap.size := Nat.le_refl _
  go_enter Try.func25, Try.ntmps25
  go_wp2_with fail
  refine (of_r (B := w.heap.size) 9223372036854775808 w (by decide) h0).mono ?_
  rintro x w1 ⟨o1, rfl, ho, hb⟩
  have HO := hid ho
  have HB := hid hb
  have hz := hb.size
  clear ho hb
  go_wp2_with fail
  refine (of_r (B := w.heap.size) 6 w1 (by decide) hz).mono ?_
  rintro x w2 ⟨o2, rfl, ho, hb⟩
  have HO2 := hid ho
  have HO := hid (HO.out.below hb)
  have HB := hid (HB.out.trans (hb.mono hz))
  have hz := HB.out.size
  clear ho hb
  go_wp2_with fail
  refine (mul_r (B := w.heap.size) hz (Rd.of_num HO.out) (Rd.of_num HO2.out) (Nat.le_trans (nd_small (by decide)) (by decide)) (Nat.le_trans (nd_small (by decide)) (by decide))).mono ?_
  rintro x w3 ⟨m, rfl, hm, hb⟩
  have HM := hid hm
  have HB := hid (HB.out.trans (hb.mono hz))
  have hz := HB.out.size
  clear hm hb
  go_wp2_with fail
  refine (nwrite_any (n := 9) (Rd.of_num HM.out) (Nat.le_trans (nd_le (k := 4) |>.2 (by decide +kernel)) (by decide)) (by decide) (Nat.le_of_eq known_bits)).mono ?_
  rintro x w4 ⟨rfl, hown, hb⟩
  have HS := hid (hown.sl.congr (g := fun t => byt (9223372036854775808 * 6) (8 - t)) (fun t ht => rfl))
  have HB := hid (HB.out.trans (hb.mono hz))
  clear hz
  generalize w3.heap.size = gb at *
  have hz := HB.out.size
  clear hown hb HM HO HO2 HKB
  go_wp2_with fail
  -- the power
  refine (of_r (B := w.heap.size) 3 w4 (by decide) hz).mono ?_
  rintro x w5 ⟨p1, rfl, ho, hb⟩
  have H1 := hid ho
  have HS := hid (HS.out.below hb)
  have HB := hid (HB.out.trans (hb.mono hz))
  have hz := HB.out.size
  clear ho hb
  go_wp2_with fail
  refine (of_r (B := w.heap.size) 5 w5 (by decide) hz).mono ?_
  rintro x w6 ⟨p2, rfl, ho, hb⟩
  have H2 := hid ho
  have HS := hid (HS.out.below hb)
  have H1 := hid (H1.out.below hb)
  have HB := hid (HB.out.trans (hb.mono hz))
  have hz := HB.out.size
  clear ho hb
  go_wp2_with fail
  refine (of_r (B := w.heap.size) 7 w6 (by decide) hz).mono ?_
  rintro x w7 ⟨p3, rfl, ho, hb⟩
  have H3 := hid ho
  have HS := hid (HS.out.below hb)
  have H1 := hid (H1.out.below hb)
  have H2 := hid (H2.out.below hb)
  have HB := hid (HB.out.trans (hb.mono hz))
  have hz := HB.out.size
  clear ho hb
  go_wp2_with fail
  refine (npow_any (Rd.of_num H1.out) (Rd.of_num H2.out) (Rd.of_num H3.out) (Nat.le_trans (nd_small (by decide)) (by decide)) (Nat.le_trans (nd_small (by decide)) (by decide)) (Nat.le_trans (nd_small (by decide)) (by decide)) (by decide)).mono ?_
  rintro x w8 ⟨pw, rfl, ho, hb⟩
  have HP : Hid (Num .u32 w.heap.size w8 pw 5) := ho.mono hz
  have HS := hid (HS.out.below hb)
  have HB := hid (HB.out.trans (hb.mono hz))
  have hz := HB.out.size
  clear ho hb H1 H2 H3
  go_wp2_with fail
  -- the inverse
  refine (of_r (B := w.heap.size) 3 w8 (by decide) hz).mono ?_
  rintro x w9 ⟨i1, rfl, ho, hb⟩
  have H1 := hid ho
  have HS := hid (HS.out.below hb)
  have HP := hid (HP.out.below hb)
  have HB := hid (HB.out.trans (hb.mono hz))
  have hz := HB.out.size
  clear ho hb
  go_wp2_with fail
  refine (of_r (B := w.heap.size) 7 w9 (by decide) hz).mono ?_
  rintro x w10 ⟨i2, rfl, ho, hb⟩
  have H2 := hid ho
  have HS := hid (HS.out.below hb)
  have HP := hid (HP.out.below hb)
  have H1 := hid (H1.out.below hb)
  have HB := hid (HB.out.trans (hb.mono hz))
  have hz := HB.out.size
  clear ho hb
  go_wp2_with fail
  refine (ninv_any (Rd.of_num H1.out) (Rd.of_num H2.out) (Nat.le_trans (nd_small (by decide)) (by decide)) (Nat.le_trans (nd_small (by decide)) (by decide)) (by decide)).mono ?_
  rintro x w11 ⟨iv, V, c, rfl, ho, hi, hb⟩
  obtain ⟨rfl, rfl⟩ := known_inv hi
  have HI := hid (ho.mono hz)
  have HS := hid (HS.out.below hb)
  have HP := hid (HP.out.below hb)
  have HB := hid (HB.out.trans (hb.mono hz))
  have hz := HB.out.size
  clear ho hb hi H1 H2
  go_wp2_with fail
  -- the difference
  refine (of_r (B := w.heap.size) 1 w11 (by decide) hz).mono ?_
  rintro x w12 ⟨s1, rfl, ho, hb⟩
  have H1 := hid ho
  have HS := hid (HS.out.below hb)
  have HP := hid (HP.out.below hb)
  have HI := hid (HI.out.below hb)
  have HB := hid (HB.out.trans (hb.mono hz))
  have hz := HB.out.size
  clear ho hb
  go_wp2_with fail
  refine (of_r (B := w.heap.size) 2 w12 (by decide) hz).mono ?_
  rintro x w13 ⟨s2, rfl, ho, hb⟩
  have H2 := hid ho
  have HS := hid (HS.out.below hb)
  have HP := hid (HP.out.below hb)
  have HI := hid (HI.out.below hb)
  have H1 := hid (H1.out.below hb)
  have HB := hid (HB.out.trans (hb.mono hz))
  have hz := HB.out.size
  clear ho hb
  go_wp2_with fail
  refine (sub_l (Rd.of_num H1.out) (Rd.of_num H2.out) (by decide)).mono ?_
  rintro x w14 ⟨rfl, hb⟩
  have HS := hid (HS.out.below hb)
  have HP := hid (HP.out.below hb)
  have HI := hid (HI.out.below hb)
  have HB := hid (HB.out.trans (hb.mono hz))
  have hz := HB.out.size
  clear hb H1 H2
  obtain ⟨b0, off, hbe, hlt, hc⟩ := HS.out.at_ (by decide)
  cases hbe
  have hc0 := hc 0 (by decide)
  have hc1 := hc 1 (by decide)
  rw [show byt (9223372036854775808 * 6) (8 - 0) = 3 from known_bytes.1] at hc0
  rw [show byt (9223372036854775808 * 6) (8 - 1) = 0 from known_bytes.2] at hc1
  clear hc HS
  go_wp2_with fail
  refine (of_r (B := w.heap.size) 5 w14 (by decide) hz).mono ?_
  rintro x w15 ⟨f1, rfl, ho, hb⟩
  have H1 := hid ho
  have HP := hid (HP.out.below hb)
  have HI := hid (HI.out.below hb)
  have HB := hid (HB.out.trans (hb.mono hz))
  have hz := HB.out.size
  clear ho hb
  go_wp2_with fail
  refine (cmp_r (Rd.of_num HP.out) (Rd.of_num H1.out)).mono ?_
  rintro x w16 ⟨rfl, d1, rfl⟩
  rw [show cmp 5 5 = 0 from rfl]
  go_wp2_with fail
  refine (of_r (B := w.heap.size) 5 (w15.drewN d1) (by decide) hz).mono ?_
  rintro x w17 ⟨f2, rfl, ho, hb⟩
  have H2 := hid ho
  have HI := hid ((HI.out.drewN d1).below hb)
  have HB := hid ((HB.out.trans (below_drewN' _ _ d1)).trans (hb.mono hz))
  have hz := HB.out.size
  clear ho hb
  go_wp2_with fail
  refine (cmp_r (Rd.of_num HI.out) (Rd.of_num H2.out)).mono ?_
  rintro x w18 ⟨rfl, d2, rfl⟩
  rw [show cmp 5 5 = 0 from rfl]
  go_wp2_with fail
  go_ret
  exact ⟨rfl, HB.out.trans (below_drewN' _ _ _)⟩

end Go.Proofs.Ytfknjfmgpfhjiaa
