/-
  The walks of the laws NatPowerLaws and NatWritten.
-/
import Derived.Test.YtfknjfmgpfhjiaaWw
namespace Go.Proofs.Ytfknjfmgpfhjiaa
open Go.RowKit

theorem pow_r {w : World} {a e n : Value} {na ne nn A E N B : Nat} (hB : B ≤ w.heap.size) (ha : Rd w a na A) (he : Rd w e ne E) (hn : Rd w n nn N) (hna : na ≤ 10000) (hne : ne ≤ 10000) (hnn : nn ≤ 10000) (hN : N ≠ 0) :
    Calls Try.prog 17 #[a, e, n] w fun x w' => ∃ v, x = .returned (.tuple #[v, .int .i64 0]) ∧ Num .u32 B w' v (A ^ E % N) ∧ Below w.heap.size w w' := by
  refine (npow_any ha he hn hna hne hnn hN).mono ?_
  rintro e w' ⟨v, rfl, h1, h2⟩
  exact ⟨v, rfl, h1.mono hB, h2⟩

theorem write_i {w : World} {a : Value} {na A m : Nat} {n : Int} (hnm : n = (m : Int)) (ha : Rd w a na A) (hna : na ≤ 10000) (hn : m ≤ 65536) (h : (bits A + 7) / 8 ≤ m) :
    Calls Try.prog 44 #[a, .int .i64 n] w fun x w' => ∃ v, x = .returned (.tuple #[v, .int .i64 0]) ∧ Rb w' v m (fun t => byt A (m - 1 - t)) ∧ Below w.heap.size w w' := by
  subst hnm
  refine (nwrite_any ha hna hn h).mono ?_
  rintro e w' ⟨rfl, h1, h2⟩
  exact ⟨_, rfl, ⟨_, _, rfl, h1.sl, fun _ _ => byt_lt _ _⟩, h2⟩

theorem wide_i {w : World} {a : Value} {na A m : Nat} {n : Int} (hnm : n = (m : Int)) (ha : Rd w a na A) (hna : na ≤ 10000) (hn : m ≤ 65536) (h : m < (bits A + 7) / 8) :
    Calls Try.prog 44 #[a, .int .i64 n] w fun x w' => x = .returned (.tuple #[.slice none 0 0, .int .i64 12]) ∧ Below w.heap.size w w' := by
  subst hnm
  exact nwrite_wide ha hna hn h

theorem read_r {w : World} {b : Value} {n B : Nat} {g : Nat → Nat} (hB : B ≤ w.heap.size) (hb : Rb w b n g) (hn : n ≤ 100000) :
    Calls Try.prog 46 #[b] w fun e w' => ∃ v, e = .returned v ∧ Num .u32 B w' v (bval g n n) ∧ Below w.heap.size w w' := by
  refine (nread_any hb hn).mono ?_
  rintro e w' ⟨v, rfl, h1, h2⟩
  exact ⟨v, rfl, h1.mono hB, h2⟩

/-- The bytes of a number make the number. -/
theorem bval_byt {X m : Nat} : ∀ j, j ≤ m → bval (fun t => byt X (m - 1 - t)) m j = X % 2 ^ (8 * j)
  | 0, _ => by rw [Nat.mul_zero, Nat.pow_zero, Nat.mod_one]; rfl
  | j + 1, hj => by
    show bval (fun t => byt X (m - 1 - t)) m j + byt X (m - 1 - (m - 1 - j)) * 2 ^ (8 * j) = _
    rw [bval_byt j (by omega), show m - 1 - (m - 1 - j) = j from by omega, byt, show 8 * (j + 1) = 8 * j + 8 from by omega, Nat.pow_add, Nat.mod_mul, Nat.mul_comm (2 ^ (8 * j))]

theorem bval_whole {X m : Nat} (h : (bits X + 7) / 8 ≤ m) : bval (fun t => byt X (m - 1 - t)) m m = X := by
  rw [bval_byt m (Nat.le_refl _), Nat.mod_eq_of_lt (bits_le.1 (by omega))]

/-- A number below n, whichever is asked. -/
theorem among_any {w : World} (k : Int) (n : Nat) (hk : -9223372036854775808 ≤ k ∧ k ≤ 9223372036854775807) (hn : 0 < n) (hn' : n ≤ 1000) :
    Calls Try.prog 38 #[.int .i64 k, .int .i64 n] w fun e w' => ∃ r : Nat, e = .returned (.int .i64 r) ∧ r < n ∧ w = w' := by
  obtain ⟨hk1, hk2⟩ := hk
  have h1 := Int.tmod_lt_of_pos k (show (0 : Int) < n by omega)
  have h2 : -(n : Int) < Int.tmod k n := by
    have := Int.lt_tmod_of_pos k (show (0 : Int) < n by omega)
    omega
  generalize hr : Int.tmod k n = r at *
  have hr2 : (Int.tmod k (n : Int)) = r := hr
  clear hr
  go_enter Try.func38, Try.ntmps38
  by_cases h0 : r < 0
  · go_wp2_with fail
    go_ret
    exact ⟨(r + n).toNat, congrArg (fun x => Ending.returned (Value.int .i64 x)) (by omega), by omega, rfl⟩
  · go_wp2_with fail
    go_ret
    exact ⟨r.toNat, congrArg (fun x => Ending.returned (Value.int .i64 x)) (by omega), by omega, rfl⟩

set_option maxRecDepth 100000 in
set_option maxHeartbeats 3200000 in
theorem powerlaws_any {w : World} {a e f n : Value} {na ne nf nn : Nat} {fa fe ff fn : Nat → Nat} (ha : Rf w a na fa) (he : Rf w e ne fe) (hf : Rf w f nf ff) (hn : Rf w n nn fn) :
    Calls Try.prog 9 #[a, e, f, n] w fun x w' => x = .returned (.bool true) ∧ Below w.heap.size w w' := by
  have RA := hid ha.rd
  have RE := hid he.rd
  have RF := hid hf.rd
  have RN := hid hn.rd
  obtain ⟨⟨oa, ca, rfl, _⟩, _⟩ := ha
  obtain ⟨⟨oe, ce, rfl, _⟩, _⟩ := he
  obtain ⟨⟨of, cf, rfl, _⟩, _⟩ := hf
  obtain ⟨⟨on, cn, rfl, _⟩, _⟩ := hn
  have HW := hid (Below.refl w.heap.size w)
  have hz : w.heap.size ≤ w.heap.size := Nat.le_refl _
  obtain ⟨A, hA⟩ : ∃ A, A = val fa na := ⟨_, rfl⟩
  obtain ⟨E, hE⟩ : ∃ E, E = val fe ne := ⟨_, rfl⟩
  obtain ⟨F, hF⟩ : ∃ F, F = val ff nf := ⟨_, rfl⟩
  obtain ⟨N, hN⟩ : ∃ N, N = val fn nn := ⟨_, rfl⟩
  rw [← hA] at RA
  rw [← hE] at RE
  rw [← hF] at RF
  rw [← hN] at RN
  clear hA hE hF hN
  rename_i q1 q2 q3 q4 q5 q6 q7 q8
  clear q1 q2 q3 q4 q5 q6 q7 q8
  go_enter Try.func9, Try.ntmps9
  by_cases h1 : 8 < na
  · go_wp2_with fail
    refine Calls.mono (known_true w) ?_
    rintro e w2 ⟨rfl, hb⟩
    have HW := hid (HW.out.trans (hb.mono hz))
    have hz := HW.out.size
    clear hb
    go_wp2_with fail
    go_ret
    exact ⟨rfl, HW.out⟩
  by_cases h2 : 2 < ne
  · go_wp2_with fail
    refine Calls.mono (known_true w) ?_
    rintro e w2 ⟨rfl, hb⟩
    have HW := hid (HW.out.trans (hb.mono hz))
    have hz := HW.out.size
    clear hb
    go_wp2_with fail
    go_ret
    exact ⟨rfl, HW.out⟩
  by_cases h3 : 2 < nf
  · go_wp2_with fail
    refine Calls.mono (known_true w) ?_
    rintro e w2 ⟨rfl, hb⟩
    have HW := hid (HW.out.trans (hb.mono hz))
    have hz := HW.out.size
    clear hb
    go_wp2_with fail
    go_ret
    exact ⟨rfl, HW.out⟩
  by_cases h4 : 8 < nn
  · go_wp2_with fail
    refine Calls.mono (known_true w) ?_
    rintro e w2 ⟨rfl, hb⟩
    have HW := hid (HW.out.trans (hb.mono hz))
    have hz := HW.out.size
    clear hb
    go_wp2_with fail
    go_ret
    exact ⟨rfl, HW.out⟩
  go_wp2_with fail
  refine Calls.mono (bits_r RN.out (by omega)) ?_
  rintro e w1 ⟨rfl, rfl⟩
  by_cases h0 : N = 0
  · subst h0
    rw [bits_zero]
    go_wp2_with fail
    refine Calls.mono (known_true w) ?_
    rintro e w2 ⟨rfl, hb⟩
    have HW := hid (HW.out.trans (hb.mono hz))
    have hz := HW.out.size
    clear hb
    go_wp2_with fail
    go_ret
    exact ⟨rfl, HW.out⟩
  have hp : 0 < N := Nat.pos_of_ne_zero h0
  have hbe : (((bits N : Nat) : Int) == 0) = false := by
    have := nd_pos hp
    unfold nd at this
    have h5 : ((bits N : Nat) : Int) ≠ 0 := by omega
    simpa using h5
  have H0 := hid h0
  have M1 : Hid (∀ x, nd (x % N) ≤ 8) := fun x => Nat.le_trans (nd_mono (Nat.le_of_lt (Nat.mod_lt _ hp))) (Nat.le_trans RN.out.nd_le (by omega))
  clear h0 hp
  generalize bits N = kb at *
  go_wp2_with fail
  refine Calls.mono (pow_r (B := w.heap.size) hz RA.out RE.out RN.out (by omega) (by omega) (by omega) H0.out) ?_
  rintro e w1 ⟨v1, rfl, hx, hb⟩
  have H1 := hid hx
  have RA := hid (RA.out.below hb)
  have RE := hid (RE.out.below hb)
  have RF := hid (RF.out.below hb)
  have RN := hid (RN.out.below hb)
  have HW := hid (HW.out.trans (hb.mono hz))
  have hz := HW.out.size
  clear hx hb
  go_wp2_with fail
  refine Calls.mono (pow_r (B := w.heap.size) hz RA.out RF.out RN.out (by omega) (by omega) (by omega) H0.out) ?_
  rintro e w2 ⟨v2, rfl, hx, hb⟩
  have H2 := hid hx
  have RA := hid (RA.out.below hb)
  have RE := hid (RE.out.below hb)
  have RF := hid (RF.out.below hb)
  have RN := hid (RN.out.below hb)
  have H1 := hid (H1.out.below hb)
  have HW := hid (HW.out.trans (hb.mono hz))
  have hz := HW.out.size
  clear hx hb
  go_wp2_with fail
  refine Calls.mono (add_r (B := w.heap.size) hz RE.out RF.out (by omega) (by omega)) ?_
  rintro e w3 ⟨v3, rfl, hx, hb⟩
  have H3 := hid hx
  have RA := hid (RA.out.below hb)
  have RE := hid (RE.out.below hb)
  have RF := hid (RF.out.below hb)
  have RN := hid (RN.out.below hb)
  have H1 := hid (H1.out.below hb)
  have H2 := hid (H2.out.below hb)
  have HW := hid (HW.out.trans (hb.mono hz))
  have hz := HW.out.size
  clear hx hb
  go_wp2_with fail
  refine Calls.mono (pow_r (B := w.heap.size) hz RA.out (Rd.of_num H3.out) RN.out (by omega) (Nat.le_trans (nd_add (a := 2) (Nat.le_trans RE.out.nd_le (by omega)) (Nat.le_trans RF.out.nd_le (by omega))) (by decide)) (by omega) H0.out) ?_
  rintro e w4 ⟨v4, rfl, hx, hb⟩
  have H4 := hid hx
  have RN := hid (RN.out.below hb)
  have H1 := hid (H1.out.below hb)
  have H2 := hid (H2.out.below hb)
  have HW := hid (HW.out.trans (hb.mono hz))
  have hz := HW.out.size
  clear hx hb
  go_wp2_with fail
  refine Calls.mono (mul_r (B := w.heap.size) hz (Rd.of_num H1.out) (Rd.of_num H2.out) (Nat.le_trans (M1.out _) (by decide)) (Nat.le_trans (M1.out _) (by decide))) ?_
  rintro e w5 ⟨v5, rfl, hx, hb⟩
  have H5 := hid hx
  have RN := hid (RN.out.below hb)
  have H4 := hid (H4.out.below hb)
  have HW := hid (HW.out.trans (hb.mono hz))
  have hz := HW.out.size
  clear hx hb
  go_wp2_with fail
  refine Calls.mono (div_r (B := w.heap.size) hz (Rd.of_num H5.out) RN.out (Nat.le_trans (nd_mul (M1.out _) (M1.out _)) (by decide)) H0.out) ?_
  rintro e w6 ⟨v6, v7, rfl, hx, hy, hb⟩
  have H6 := hid hx
  have H7 := hid hy
  have H4 := hid (H4.out.below hb)
  have HW := hid (HW.out.trans (hb.mono hz))
  have hz := HW.out.size
  clear hx hy hb
  go_wp2_with fail
  refine Calls.mono (same_e H7.out H4.out (by rw [← Nat.mul_mod, ← Nat.pow_add])) ?_
  rintro e w7 ⟨rfl, hb⟩
  have HW := hid (HW.out.trans (hb.mono hz))
  have hz := HW.out.size
  clear hb
  go_wp2_with fail
  refine Calls.mono (known_true _) ?_
  rintro e w8 ⟨rfl, hb⟩
  have HW := hid (HW.out.trans (hb.mono hz))
  have hz := HW.out.size
  clear hb
  go_wp2_with fail
  go_ret
  exact ⟨rfl, HW.out⟩

set_option maxHeartbeats 3200000 in
theorem written_any {w : World} {a : Value} {na : Nat} {f : Nat → Nat} {more : Int} (ha : Rf w a na f) (hk : -9223372036854775808 ≤ more ∧ more ≤ 9223372036854775807) :
    Calls Try.prog 13 #[a, .int .i64 more] w fun x w' => x = .returned (.bool true) ∧ Below w.heap.size w w' := by
  have HA := hid ha
  have HW := hid (Below.refl w.heap.size w)
  have hz : w.heap.size ≤ w.heap.size := Nat.le_refl _
  have AM := hid (fun w => among_any (w := w) more 9 hk (by decide) (by decide))
  clear ha hk
  go_enter Try.func13, Try.ntmps13
  go_wp2_with fail
  refine (heavy_r HA.out).mono ?_
  rintro e w1 ⟨rfl, rfl⟩
  by_cases h1 : 24 < na
  · rw [decide_eq_true h1]
    go_wp2_with fail
    refine Calls.mono (known_true w) ?_
    rintro e w2 ⟨rfl, hb⟩
    have HW := hid (HW.out.trans (hb.mono hz))
    have hz := HW.out.size
    clear hb
    go_wp2_with fail
    go_ret
    exact ⟨rfl, HW.out⟩
  rw [decide_eq_false h1]
  have RA := hid HA.out.rd
  obtain ⟨X, hX⟩ : ∃ X, X = val f na := ⟨_, rfl⟩
  rw [← hX] at RA
  clear hX HA
  have hbx : bits X ≤ 32 * na := bits_le.2 RA.out.lt
  go_wp2_with fail
  refine Calls.mono (bits_r RA.out (by omega)) ?_
  rintro e w1 ⟨rfl, rfl⟩
  obtain ⟨kb, hkb⟩ : ∃ kb, kb = bits X := ⟨_, rfl⟩
  rw [← hkb]
  have HKB := hid hkb
  rw [← hkb] at hbx
  clear hkb
  go_wp2_with fail
  refine Calls.mono (AM.out w) ?_
  rintro e w1 ⟨r, rfl, hr, rfl⟩
  go_wp2_with fail
  refine Calls.mono (write_i (m := (kb + 7) / 8 + r) (by omega) RA.out (by omega) (by omega) (by rw [← HKB.out]; omega)) ?_
  rintro e w1 ⟨v1, rfl, hx, hb⟩
  have H1 := hid hx
  have RA := hid (RA.out.below hb)
  have HW := hid (HW.out.trans (hb.mono hz))
  have hz := HW.out.size
  clear hx hb
  go_wp2_with fail
  by_cases h0 : kb = 0
  · subst h0
    refine Calls.mono (nwrite_no (n := (((0 : Nat) : Int) + 7) / 8 - 1) (by omega) (by omega)) ?_
    rintro e w2 ⟨rfl, hb⟩
    have H1 := hid (H1.out.below hb)
    have RA := hid (RA.out.below hb)
    have HW := hid (HW.out.trans (hb.mono hz))
    have hz := HW.out.size
    clear hb
    go_wp2_with fail
    refine Calls.mono (read_r (B := w.heap.size) hz H1.out (by omega)) ?_
    rintro e w3 ⟨v2, rfl, hx, hb⟩
    have H2 := hid hx
    have RA := hid (RA.out.below hb)
    have HW := hid (HW.out.trans (hb.mono hz))
    have hz := HW.out.size
    clear hx hb
    go_wp2_with fail
    refine Calls.mono (trim_r (B := w.heap.size) hz RA.out (by omega)) ?_
    rintro e w4 ⟨v3, rfl, hx, hb⟩
    have H3 := hid hx
    have H2 := hid (H2.out.below hb)
    have HW := hid (HW.out.trans (hb.mono hz))
    have hz := HW.out.size
    clear hx hb
    go_wp2_with fail
    refine Calls.mono (same_e H2.out H3.out (bval_whole (by rw [← HKB.out]; omega))) ?_
    rintro e w5 ⟨rfl, hb⟩
    have HW := hid (HW.out.trans (hb.mono hz))
    have hz := HW.out.size
    clear hb
    go_wp2_with fail
    refine Calls.mono (known_true _) ?_
    rintro e w6 ⟨rfl, hb⟩
    have HW := hid (HW.out.trans (hb.mono hz))
    have hz := HW.out.size
    clear hb
    go_wp2_with fail
    go_ret
    exact ⟨rfl, HW.out⟩
  · have hne : (((kb : Nat) : Int) + 7) / 8 ≠ 0 := by omega
    have hnb : ((((kb : Nat) : Int) + 7) / 8 == 0) = false := by simpa using hne
    clear hne
    refine Calls.mono (wide_i (m := (kb + 7) / 8 - 1) (by omega) RA.out (by omega) (by omega) (by rw [← HKB.out]; omega)) ?_
    rintro e w2 ⟨rfl, hb⟩
    have H1 := hid (H1.out.below hb)
    have RA := hid (RA.out.below hb)
    have HW := hid (HW.out.trans (hb.mono hz))
    have hz := HW.out.size
    clear hb
    go_wp2_with fail
    refine Calls.mono (read_r (B := w.heap.size) hz H1.out (by omega)) ?_
    rintro e w3 ⟨v2, rfl, hx, hb⟩
    have H2 := hid hx
    have RA := hid (RA.out.below hb)
    have HW := hid (HW.out.trans (hb.mono hz))
    have hz := HW.out.size
    clear hx hb
    go_wp2_with fail
    refine Calls.mono (trim_r (B := w.heap.size) hz RA.out (by omega)) ?_
    rintro e w4 ⟨v3, rfl, hx, hb⟩
    have H3 := hid hx
    have H2 := hid (H2.out.below hb)
    have HW := hid (HW.out.trans (hb.mono hz))
    have hz := HW.out.size
    clear hx hb
    go_wp2_with fail
    refine Calls.mono (same_e H2.out H3.out (bval_whole (by rw [← HKB.out]; omega))) ?_
    rintro e w5 ⟨rfl, hb⟩
    have HW := hid (HW.out.trans (hb.mono hz))
    have hz := HW.out.size
    clear hb
    go_wp2_with fail
    refine Calls.mono (known_true _) ?_
    rintro e w6 ⟨rfl, hb⟩
    have HW := hid (HW.out.trans (hb.mono hz))
    have hz := HW.out.size
    clear hb
    go_wp2_with fail
    go_ret
    exact ⟨rfl, HW.out⟩

end Go.Proofs.Ytfknjfmgpfhjiaa
