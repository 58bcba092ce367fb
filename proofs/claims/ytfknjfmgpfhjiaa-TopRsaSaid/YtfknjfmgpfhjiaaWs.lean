/-
  The walks of nat.Gcd and nat.Inverse.
-/
import Derived.Test.YtfknjfmgpfhjiaaWr
namespace Go.Proofs.Ytfknjfmgpfhjiaa
open Go.RowKit

/-- The number that a slice reads as, told from memory. -/
def rdn (w : World) : Value → Nat
  | .slice (some a) n _ => val (fun j => (intOf ((w.cell? ⟨a.block, a.off + j, none⟩).getD undef)).toNat) n
  | _ => 0

theorem Rd.rdn {w : World} {v : Value} {n N : Nat} (h : Rd w v n N) : Go.Proofs.Ytfknjfmgpfhjiaa.rdn w v = N := by
  obtain ⟨oa, c, f, rfl, h2, h3, rfl⟩ := h
  rcases Nat.eq_zero_or_pos n with h0 | h0
  · subst h0
    cases oa <;> rfl
  · obtain ⟨b, off, rfl, hlt, hc⟩ := h2.at_ h0
    exact val_congr fun j hj => by rw [hc j hj]; simp [intOf]

theorem gcd_round (X Y : Nat) : Nat.gcd Y (X % Y) = Nat.gcd X Y := by
  rw [Nat.gcd_comm X Y, Nat.gcd_rec Y X, Nat.gcd_comm]

theorem nd_mod_le {X Y m : Nat} (hY : 0 < Y) (h : nd Y ≤ m) : nd (X % Y) ≤ m := Nat.le_trans (nd_mono (Nat.le_of_lt (Nat.mod_lt _ hY))) h

set_option maxHeartbeats 1600000 in
theorem ngcd_any {w : World} {a b : Value} {na nb X Y : Nat} (ha : Rd w a na X) (hb : Rd w b nb Y) (hna : na ≤ 10000) (hnb : nb ≤ 10000) :
    Calls Try.prog 42 #[a, b] w fun e w' => ∃ v, e = .returned v ∧ Num .u32 w.heap.size w' v (Nat.gcd X Y) ∧ Below w.heap.size w w' := by
  have HA := hid ha
  have HB := hid hb
  clear ha hb
  go_enter Try.func42, Try.ntmps42
  go_wp2_with fail
  go_loopw [0, 1] (fun a1 b1 wr => ∃ n1 n2 X1 Y1 : Nat, n1 ≤ 10000 ∧ n2 ≤ 10000 ∧ Nat.gcd X1 Y1 = Nat.gcd X Y ∧ Rd wr a1 n1 X1 ∧ Rd wr b1 n2 Y1 ∧ Below w.heap.size w wr) (fun _ b1 wr => rdn wr b1)
  case atStart => exact ⟨na, nb, X, Y, hna, hnb, rfl, HA.out, HB.out, Below.refl _ _⟩
  case round =>
    obtain ⟨n1, n2, X1, Y1, hn1, hn2, hg, ha, hb, hl⟩ := hrel
    have HA := hid ha
    have HB := hid hb
    have HL := hid hl
    have HG := hid hg
    have hz := hl.size
    clear ha hb hl hg
    go_wp2_with fail
    refine (size_r HB.out).mono ?_
    rintro e w1 ⟨rfl, rfl⟩
    by_cases h0 : Y1 = 0
    · subst h0
      rw [nd_zero]
      go_wp2_with fail
      refine (trim_r (B := w.heap.size) hz HA.out (by omega)).mono ?_
      rintro e w1 ⟨v, rfl, hv, hb⟩
      have HV := hid hv
      have HL := hid (HL.out.trans (hb.mono hz))
      clear hv hb
      go_wp2_with fail
      go_ret
      have hg := HG.out
      rw [Nat.gcd_zero_right] at hg
      exact ⟨_, rfl, hg ▸ HV.out, HL.out⟩
    · have hnd := nd_pos (Nat.pos_of_ne_zero h0)
      have hd : decide (((nd Y1 : Nat) : Int) > 0) = true := by simp; omega
      have HR := hid HB.out.rdn
      have hyn := HB.out.nd_le
      have H0 := hid h0
      clear h0
      go_wp2_with fail
      refine (div_r (B := w.heap.size) hz HA.out HB.out (by omega) H0.out).mono ?_
      rintro e w1 ⟨q, r, rfl, -, hr, hb⟩
      have HRR := hid (Rd.of_num hr)
      have HB2 := hid (HB.out.below hb)
      have HL := hid (HL.out.trans (hb.mono hz))
      clear hr hb
      go_wp2_with fail
      go_roundw
      case rel => exact ⟨n2, _, Y1, X1 % Y1, hn2, Nat.le_trans (nd_mod_le (Nat.pos_of_ne_zero H0.out) hyn) hn2, by rw [gcd_round, HG.out], HB2.out, HRR.out, HL.out⟩
      case measure =>
        show rdn w1 r < rdn wr u1
        rw [HR.out, HRR.out.rdn]
        exact Nat.mod_lt _ (Nat.pos_of_ne_zero H0.out)

theorem mod_of_dvd {x y N : Nat} (h : (N : Int) ∣ ((x : Nat) : Int) - (y : Int)) : x % N = y % N := by
  have h1 := Int.emod_eq_emod_iff_emod_sub_eq_zero.2 (Int.emod_eq_zero_of_dvd h)
  omega

theorem cmp_ne {a b : Nat} (h : a ≠ b) : cmp a b ≠ 0 := by
  unfold cmp
  split
  · decide
  · decide

/-- What a round of the search for an inverse keeps. -/
theorem inv_round {A N R S U V Z D : Nat} (hu : (N : Int) ∣ U * A - R) (hv : (N : Int) ∣ V * A - S) (hZ : Z = R / S * V % N) (hD : ((N : Int) ∣ (D : Int) - ((U : Int) - (Z : Int)))) :
    (N : Int) ∣ D * A - (R % S : Nat) := by
  have e1 : (N : Int) ∣ ((R / S * V : Nat) : Int) - (Z : Int) := by
    rw [hZ]
    refine ⟨((R / S * V / N : Nat) : Int), ?_⟩
    have := Nat.div_add_mod (R / S * V) N
    have h2 : ((R / S * V : Nat) : Int) = (N : Int) * ((R / S * V / N : Nat) : Int) + ((R / S * V % N : Nat) : Int) := by
      rw [← Int.natCast_mul, ← Int.natCast_add, this]
    omega
  have e2 : ((R : Nat) : Int) = (S : Int) * ((R / S : Nat) : Int) + ((R % S : Nat) : Int) := by
    rw [← Int.natCast_mul, ← Int.natCast_add, Nat.div_add_mod]
  obtain ⟨a, ha⟩ := hu
  obtain ⟨b, hb⟩ := hv
  obtain ⟨c, hc⟩ := e1
  obtain ⟨d, hd⟩ := hD
  rw [Int.natCast_mul] at hc
  refine ⟨d * A + c * A + a - ((R / S : Nat) : Int) * b, ?_⟩
  have h1 : (D : Int) = N * d + U - Z := by omega
  have h2 : (Z : Int) = ((R / S : Nat) : Int) * V - N * c := by omega
  have h3 : ((R % S : Nat) : Int) = R - S * ((R / S : Nat) : Int) := by omega
  have h4 : (R : Int) = U * A - N * a := by omega
  have h5 : (S : Int) = V * A - N * b := by omega
  rw [h1, h2, h3, h4, h5]
  simp only [Int.mul_add, Int.add_mul, Int.mul_sub, Int.sub_mul, Int.mul_assoc]
  have e3 : ∀ x y z : Int, x * (y * z) = y * (x * z) := fun x y z => Int.mul_left_comm x y z
  rw [Int.mul_comm (A : Int) ((R / S : Nat) : Int), e3 (V : Int), Int.mul_comm b ((R / S : Nat) : Int)]
  omega


set_option maxHeartbeats 1600000 in
theorem ninv_0 {w : World} {a n : Value} {na nn A : Nat} (ha : Rd w a na A) (hn : Rd w n nn 0) :
    Calls Try.prog 39 #[a, n] w fun x w' => x = .returned (.tuple #[.slice none 0 0, .int .i64 10]) ∧ Below w.heap.size w w' := by
  have HA := hid ha
  have HN := hid hn
  clear ha hn
  go_enter Try.func39, Try.ntmps39
  go_wp2_with fail
  refine (div_0 HA.out HN.out).mono ?_
  rintro e w1 ⟨rfl, hb⟩
  have HB := hid hb
  clear hb
  go_wp2_with fail
  go_ret2
  exact ⟨rfl, HB.out⟩

/-- What an inverse is: the number, and the word. -/
def IsInv (A N V : Nat) (c : Int) : Prop := V < N ∧ if Nat.gcd A N = 1 then c = 0 ∧ V * A % N = 1 % N else c = 13 ∧ V = 0

set_option maxHeartbeats 3200000 in
theorem ninv_any {w : World} {a n : Value} {na nn A N : Nat} (ha : Rd w a na A) (hn : Rd w n nn N) (hna : na ≤ 10000) (hnn : nn ≤ 10000) (hN : N ≠ 0) :
    Calls Try.prog 39 #[a, n] w fun x w' => ∃ v V c, x = .returned (.tuple #[v, .int .i64 c]) ∧ Num .u32 w.heap.size w' v V ∧ IsInv A N V c ∧ Below w.heap.size w w' := by
  have hNp : 0 < N := Nat.pos_of_ne_zero hN
  have hndN := hn.nd_le
  have HA := hid ha
  have HN := hid hn
  clear ha hn
  go_enter Try.func39, Try.ntmps39
  go_wp2_with fail
  refine (div_r (B := w.heap.size) (Nat.le_refl _) HA.out HN.out (by omega) hN).mono ?_
  rintro x w1 ⟨q1, x1, rfl, -, hx, hb⟩
  have HX := hid hx
  have HB := hid hb
  have hz := hb.size
  clear hx hb
  go_wp2_with fail
  refine (of_r (B := w.heap.size) 1 w1 (by decide) hz).mono ?_
  rintro x w2 ⟨o1, rfl, ho, hb⟩
  have HO := hid ho
  have HX := hid (HX.out.below hb)
  have HB := hid (HB.out.trans (hb.mono hz))
  have hz := HB.out.size
  clear ho hb
  go_wp2_with fail
  have hcm := cmp_r (HN.out.below HB.out) (Rd.of_num HO.out)
  by_cases h1 : N = 1
  · subst h1
    rw [cmp_eq rfl] at hcm
    have HC := hid hcm
    clear hcm
    refine HC.out.mono ?_
    rintro x w3 ⟨rfl, d, rfl⟩
    go_wp2_with fail
    go_ret2
    refine ⟨_, 0, 0, rfl, Num.zero _ _ _, ⟨by decide, ?_⟩, HB.out.trans (below_drewN' _ _ _)⟩
    rw [if_pos (Nat.gcd_one_right A)]
    exact ⟨rfl, by rw [Nat.zero_mul]⟩
  · rw [cmp_gt (by omega)] at hcm
    have HC := hid hcm
    clear hcm
    refine HC.out.mono ?_
    rintro x w3 ⟨rfl, d, rfl⟩
    go_wp2_with fail
    refine (trim_r (B := w.heap.size) (w := w2.drewN d) hz (HN.out.below (HB.out.trans (below_drewN' _ _ _))) (by omega)).mono ?_
    rintro x w4 ⟨r1, rfl, hr, hb⟩
    have HR := hid hr
    have HX := hid ((HX.out.drewN d).below hb)
    have HO := hid ((HO.out.drewN d).below hb)
    have HB := hid ((HB.out.trans (below_drewN' _ _ d)).trans (hb.mono hz))
    have hz := HB.out.size
    clear hr hb
    go_wp2_with fail
    go_loopw [10, 11, 12, 13] (fun r s u v wr => ∃ R S U V : Nat, R ≤ N ∧ S ≤ N ∧ U < N ∧ V < N ∧ Nat.gcd R S = Nat.gcd A N ∧ (N : Int) ∣ U * A - R ∧ (N : Int) ∣ V * A - S ∧ Num .u32 w.heap.size wr r R ∧ Num .u32 w.heap.size wr s S ∧ Num .u32 w.heap.size wr u U ∧ Num .u32 w.heap.size wr v V ∧ Num .u32 w.heap.size wr o1 1 ∧ Below w.heap.size w wr) (fun _ s _ _ wr => rdn wr s)
    case atStart =>
      refine ⟨N, A % N, 0, 1, Nat.le_refl _, Nat.le_of_lt (Nat.mod_lt _ hNp), by omega, by omega, ?_, ?_, ?_, HR.out, HX.out, Num.zero _ _ _, HO.out, HO.out, HB.out⟩
      · exact gcd_round A N
      · exact ⟨-1, by omega⟩
      · refine ⟨((A / N : Nat) : Int), ?_⟩
        have := Nat.div_add_mod A N
        have h2 : ((A : Nat) : Int) = (N : Int) * ((A / N : Nat) : Int) + ((A % N : Nat) : Int) := by
          rw [← Int.natCast_mul, ← Int.natCast_add, this]
        omega
    case round =>
      obtain ⟨R, S, U, V, hRN, hSN, hUN, hVN, hg, hdu, hdv, hr, hs, hu, hv, ho, hl⟩ := hrel
      have HR := hid hr
      have HS := hid hs
      have HU := hid hu
      have HV := hid hv
      have HO := hid ho
      have HL := hid hl
      have HG := hid hg
      have HDU := hid hdu
      have HDV := hid hdv
      have hz2 := hl.size
      have n1 : nd R ≤ nn := Nat.le_trans (nd_mono hRN) hndN
      have n2 : nd S ≤ nn := Nat.le_trans (nd_mono hSN) hndN
      have n3 : nd U ≤ nn := Nat.le_trans (nd_mono (Nat.le_of_lt hUN)) hndN
      have n4 : nd V ≤ nn := Nat.le_trans (nd_mono (Nat.le_of_lt hVN)) hndN
      clear hr hs hu hv ho hl hg hdu hdv
      go_wp2_with fail
      refine (size_r (Rd.of_num HS.out)).mono ?_
      rintro e w5 ⟨rfl, rfl⟩
      by_cases h0 : S = 0
      · subst h0
        rw [nd_zero]
        go_wp2_with fail
        have hg := HG.out
        rw [Nat.gcd_zero_right] at hg
        have HG := hid hg
        have hcm := cmp_r (Rd.of_num HR.out) (Rd.of_num HO.out)
        clear hg
        by_cases h2 : R = 1
        · subst h2
          rw [cmp_eq rfl] at hcm
          have HC := hid hcm
          clear hcm
          refine HC.out.mono ?_
          rintro x w6 ⟨rfl, d6, rfl⟩
          go_wp2_with fail
          go_ret2
          refine ⟨_, U, 0, rfl, HU.out.drewN _, ⟨hUN, ?_⟩, HL.out.trans (below_drewN' _ _ _)⟩
          rw [if_pos HG.out.symm]
          exact ⟨rfl, mod_of_dvd (by rw [Int.natCast_mul]; exact HDU.out)⟩
        · have hcm2 : ∃ cm : Int, cm ≠ 0 ∧ cmp R 1 = cm := ⟨_, cmp_ne h2, rfl⟩
          obtain ⟨cm, hcm3, hcm4⟩ := hcm2
          rw [hcm4] at hcm
          have HC := hid hcm
          have hcd : (cm != 0) = true := by simp [hcm3]
          clear hcm hcm3 hcm4
          refine HC.out.mono ?_
          rintro x w6 ⟨rfl, d6, rfl⟩
          go_wp2_with fail
          go_ret2
          refine ⟨_, 0, 13, rfl, Num.zero _ _ _, ⟨hNp, ?_⟩, HL.out.trans (below_drewN' _ _ _)⟩
          rw [if_neg (fun e => h2 (HG.out.trans e))]
          exact ⟨rfl, rfl⟩
      · have hnd := nd_pos (Nat.pos_of_ne_zero h0)
        have hd : decide (((nd S : Nat) : Int) > 0) = true := by simp; omega
        have HRD := hid (Rd.of_num HS.out).rdn
        have H0 := hid h0
        clear h0
        go_wp2_with fail
        refine (div_r (B := w.heap.size) hz2 (Rd.of_num HR.out) (Rd.of_num HS.out) (by omega) H0.out).mono ?_
        rintro e w6 ⟨q, t, rfl, hq, ht, hb⟩
        have HQ := hid hq
        have HT := hid ht
        have HS := hid (HS.out.below hb)
        have HU := hid (HU.out.below hb)
        have HV := hid (HV.out.below hb)
        have HO := hid (HO.out.below hb)
        have HL := hid (HL.out.trans (hb.mono hz2))
        have hz2 := HL.out.size
        clear hq ht hb
        have n5 : nd (R / S) ≤ nn := Nat.le_trans (nd_mono (Nat.div_le_self _ _)) n1
        go_wp2_with fail
        refine (mul_r (B := w.heap.size) hz2 (Rd.of_num HQ.out) (Rd.of_num HV.out) (by omega) (by omega)).mono ?_
        rintro e w7 ⟨m, rfl, hm, hb⟩
        have HM := hid hm
        have HS := hid (HS.out.below hb)
        have HU := hid (HU.out.below hb)
        have HV := hid (HV.out.below hb)
        have HO := hid (HO.out.below hb)
        have HT := hid (HT.out.below hb)
        have HL := hid (HL.out.trans (hb.mono hz2))
        have hz2 := HL.out.size
        have n6 : nd (R / S * V) ≤ 20000 := nd_le.2 (Nat.lt_of_lt_of_le (mul_lt_W (lt_W_nd _) (lt_W_nd _)) (W_le (by omega)))
        clear hm hb
        go_wp2_with fail
        refine (div_r (B := w.heap.size) hz2 (Rd.of_num HM.out) (HN.out.below HL.out) (by omega) hN).mono ?_
        rintro e w8 ⟨q2, z, rfl, -, hzz, hb⟩
        obtain ⟨Z, hZ⟩ : ∃ Z, Z = R / S * V % N := ⟨_, rfl⟩
        rw [← hZ] at hzz
        have hZN : Z < N := by rw [hZ]; exact Nat.mod_lt _ hNp
        have HZ := hid hzz
        have HZE := hid hZ
        have HS := hid (HS.out.below hb)
        have HU := hid (HU.out.below hb)
        have HV := hid (HV.out.below hb)
        have HO := hid (HO.out.below hb)
        have HT := hid (HT.out.below hb)
        have HL := hid (HL.out.trans (hb.mono hz2))
        have hz2 := HL.out.size
        have n7 : nd Z ≤ nn := Nat.le_trans (nd_mono (Nat.le_of_lt hZN)) hndN
        clear hzz hb n6 hZ HM
        go_wp2_with fail
        have hsub := sub_both (B := w.heap.size) hz2 (Rd.of_num HU.out) (Rd.of_num HZ.out) (by omega)
        by_cases hlt : U < Z
        · rw [if_pos hlt] at hsub
          have HSUB := hid hsub
          clear hsub
          refine HSUB.out.mono ?_
          rintro e w9 ⟨d1, rfl, -, hb⟩
          have HS := hid (HS.out.below hb)
          have HU := hid (HU.out.below hb)
          have HV := hid (HV.out.below hb)
          have HO := hid (HO.out.below hb)
          have HT := hid (HT.out.below hb)
          have HZ := hid (HZ.out.below hb)
          have HL := hid (HL.out.trans (hb.mono hz2))
          have hz2 := HL.out.size
          clear hb
          go_wp2_with fail
          refine (add_r (B := w.heap.size) hz2 (Rd.of_num HU.out) (HN.out.below HL.out) (by omega) (by omega)).mono ?_
          rintro e w10 ⟨s1, rfl, hs1, hb⟩
          have HS1 := hid hs1
          have HS := hid (HS.out.below hb)
          have HU := hid (HU.out.below hb)
          have HV := hid (HV.out.below hb)
          have HO := hid (HO.out.below hb)
          have HT := hid (HT.out.below hb)
          have HZ := hid (HZ.out.below hb)
          have HL := hid (HL.out.trans (hb.mono hz2))
          have hz2 := HL.out.size
          clear hb hs1
          have n8 : nd (U + N) ≤ 20000 := nd_le.2 (Nat.lt_of_lt_of_le (add_lt_W_succ (j := nn) (Nat.lt_of_lt_of_le (lt_W_nd _) (W_le n3)) (Nat.lt_of_lt_of_le (lt_W_nd _) (W_le hndN))) (W_le (by omega)))
          go_wp2_with fail
          refine (sub_r (B := w.heap.size) hz2 (Rd.of_num HS1.out) (Rd.of_num HZ.out) (by omega) (by omega)).mono ?_
          rintro e w11 ⟨d2, rfl, hd2, hb⟩
          have HD2 := hid hd2
          have HS := hid (HS.out.below hb)
          have HU := hid (HU.out.below hb)
          have HV := hid (HV.out.below hb)
          have HO := hid (HO.out.below hb)
          have HT := hid (HT.out.below hb)
          have HZ := hid (HZ.out.below hb)
          have HL := hid (HL.out.trans (hb.mono hz2))
          clear hb hd2
          go_wp2_with fail
          go_roundw
          case rel =>
            refine ⟨S, R % S, V, U + N - Z, hSN, Nat.le_trans (Nat.mod_le _ _) hRN, hVN, by omega, by rw [gcd_round, HG.out], HDV.out, inv_round HDU.out HDV.out HZE.out ⟨1, by omega⟩, HS.out, HT.out, HV.out, HD2.out, HO.out, HL.out⟩
          case measure =>
            show rdn w11 t < rdn wr u11
            rw [HRD.out, (Rd.of_num HT.out).rdn]
            exact Nat.mod_lt _ (Nat.pos_of_ne_zero H0.out)
        · rw [if_neg hlt] at hsub
          have HSUB := hid hsub
          clear hsub
          refine HSUB.out.mono ?_
          rintro e w9 ⟨d1, rfl, hd1, hb⟩
          have HD1 := hid hd1
          have HS := hid (HS.out.below hb)
          have HU := hid (HU.out.below hb)
          have HV := hid (HV.out.below hb)
          have HO := hid (HO.out.below hb)
          have HT := hid (HT.out.below hb)
          have HL := hid (HL.out.trans (hb.mono hz2))
          clear hb hd1
          go_wp2_with fail
          go_roundw
          case rel =>
            refine ⟨S, R % S, V, U - Z, hSN, Nat.le_trans (Nat.mod_le _ _) hRN, hVN, by omega, by rw [gcd_round, HG.out], HDV.out, inv_round HDU.out HDV.out HZE.out ⟨0, by omega⟩, HS.out, HT.out, HV.out, HD1.out, HO.out, HL.out⟩
          case measure =>
            show rdn w9 t < rdn wr u11
            rw [HRD.out, (Rd.of_num HT.out).rdn]
            exact Nat.mod_lt _ (Nat.pos_of_ne_zero H0.out)

end Go.Proofs.Ytfknjfmgpfhjiaa
