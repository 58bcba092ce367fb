/-
  The walks of the reference's Pow and Inverse.
-/
import Derived.Test.YtfknjfmgpfhjiaaWze
namespace Go.Proofs.Ytfknjfmgpfhjiaa
open Go.RowKit

section
variable {w w' : World} {a b e x y v : Value} {na ne nn m A N X Y M B C D E : Nat}

theorem rpow_0 (hb : Rd w b m 0) (hm : m ≤ 40000) : Calls Try.prog 34 #[a, e, b] w fun x w' => x = .returned (.tuple #[.slice none 0 0, .int .i64 10]) ∧ Below w.heap.size w w' := by
  have HB := hid hb
  have hz : w.heap.size ≤ w.heap.size := Nat.le_refl _
  clear hb
  go_enter Try.func34, Try.ntmps34
  go_wp2_with fail
  refine Calls.mono (digits_r (B := w.heap.size) hz HB.out (by omega)) ?_
  rintro e w1 ⟨v1, rfl, hx, hb⟩
  have HW := hid hb
  obtain ⟨o1, c1, rfl, h2, h3⟩ := hx
  rw [nd_zero]
  clear hb h2 h3
  go_wp2_with fail
  go_ret2
  exact ⟨rfl, HW.out⟩

theorem dg_bit (E i t : Nat) (ht : t < 32) : dg E i / 2 ^ t % 2 = E / 2 ^ (32 * i + t) % 2 := by
  have := bit_dg E (32 * i + t)
  rw [show (32 * i + t) / 32 = i from by omega, show (32 * i + t) % 32 = t from by omega] at this
  exact this

set_option maxRecDepth 100000 in
set_option maxHeartbeats 3200000 in
theorem rpow_r (hB : B ≤ w.heap.size) (ha : Rd w a na A) (he : Rd w e ne E) (hn : Rd w b nn M) (hna : na ≤ 20000) (hne : ne ≤ 20000) (hnn : nn ≤ 20000) (h0 : M ≠ 0) :
    Calls Try.prog 34 #[a, e, b] w fun x w' => ∃ v, x = .returned (.tuple #[v, .int .i64 0]) ∧ Num .u32 B w' v (A ^ E % M) ∧ Below w.heap.size w w' := by
  have HA := hid ha
  have HE := hid he
  have HN := hid hn
  have hA := ha.nd_le
  have hE := he.nd_le
  have hM := hn.nd_le
  have hMp := Nat.pos_of_ne_zero h0
  have hp := nd_pos hMp
  have HW := hid (Below.refl w.heap.size w)
  have HBB := hid hB
  have hz : w.heap.size ≤ w.heap.size := Nat.le_refl _
  have hf2 := fac_lt hMp
  have H0 := hid h0
  have HLX : Hid (∀ x, nd (x % M) ≤ 20000) := fun x => Nat.le_trans (nd_mono (Nat.le_of_lt (Nat.mod_lt _ hMp))) (by omega)
  clear ha he hn hB h0
  go_enter Try.func34, Try.ntmps34
  go_wp2_with fail
  refine Calls.mono (digits_r (B := w.heap.size) hz HN.out (by omega)) ?_
  rintro x w1 ⟨m1, rfl, hx, hb⟩
  have HA := hid (HA.out.below hb)
  have HE := hid (HE.out.below hb)
  have HW := hid (HW.out.trans (hb.mono hz))
  have hz := HW.out.size
  have HM := hid hx
  obtain ⟨om, cm, rfl, h2, h3⟩ := hx
  obtain ⟨bm, fm, rfl, hlt, hc⟩ := h2.at_ hp
  have hct := hc (nd M - 1) (by omega)
  have hq : (((nd M : Nat) : Int) == 0) = false := by simp; omega
  have hfe : (4294967296 : Int) / (((dg M (nd M - 1) : Nat) : Int) + 1) = ((fac M : Nat) : Int) := by simp [fac]
  have htl := dg_lt M (nd M - 1)
  have HFE := hid hfe
  have hml := h2.len_le
  clear hb h2 h3 hc hfe
  go_wp2_with fail
  rw [HFE.out]
  obtain ⟨f, hfd⟩ : ∃ f, f = fac M := ⟨_, rfl⟩
  have HFD := hid hfd
  rw [← hfd] at hf2 ⊢
  clear hfd hct htl HFE
  refine Calls.mono (times_one (B := w.heap.size) hz HM.out hf2 (by omega)) ?_
  rintro x w2 ⟨v, rfl, hx, hb⟩
  have HV := hid hx
  have HA := hid (HA.out.below hb)
  have HE := hid (HE.out.below hb)
  have HM := hid (HM.out.below hb)
  have HW := hid (HW.out.trans (hb.mono hz))
  have hz := HW.out.size
  clear hx hb
  go_wp2_with fail
  refine Calls.mono (digits_r (B := w.heap.size) hz HA.out (by omega)) ?_
  rintro e w3 ⟨x1, rfl, hx, hb⟩
  have HX1 := hid hx
  have HE := hid (HE.out.below hb)
  have HM := hid (HM.out.below hb)
  have HV := hid (HV.out.below hb)
  have HW := hid (HW.out.trans (hb.mono hz))
  have hz := HW.out.size
  clear hx hb
  go_wp2_with fail
  refine Calls.mono (parted_r (B := w.heap.size) hz HX1.out HM.out (by omega) (by omega) H0.out) ?_
  rintro e w4 ⟨xq, x2, rfl, hx, hy, hb⟩
  have HXQ := hid hx
  have HX := hid hy
  have HE := hid (HE.out.below hb)
  have HM := hid (HM.out.below hb)
  have HV := hid (HV.out.below hb)
  have HW := hid (HW.out.trans (hb.mono hz))
  have hz := HW.out.size
  clear hx hy hb
  go_wp2_with fail
  have hb1 := (Below.refl w4.heap.size w4).alloc (Nat.le_refl _) (.cells #[.int .u64 1] 36)
  have HE := hid (HE.out.below hb1)
  have HM := hid (HM.out.below hb1)
  have HV := hid (HV.out.below hb1)
  have HX := hid (HX.out.below hb1)
  have HONE := hid (num_one (B := w.heap.size) (w := w4) hz)
  have HW := hid (HW.out.trans (hb1.mono hz))
  have hz := HW.out.size
  have hpn : nd 1 ≤ 50000 := by rw [nd_one]; decide
  clear hb1
  refine Calls.mono (parted_r (B := w.heap.size) hz HONE.out HM.out hpn (by omega) H0.out) ?_
  rintro x w5 ⟨oq, o1, rfl, -, hx, hb⟩
  have HO := hid hx
  have HE := hid (HE.out.below hb)
  have HM := hid (HM.out.below hb)
  have HV := hid (HV.out.below hb)
  have HX := hid (HX.out.below hb)
  have HW := hid (HW.out.trans (hb.mono hz))
  have hz := HW.out.size
  clear hx hb HONE hpn
  go_wp2_with fail
  refine Calls.mono (digits_r (B := w.heap.size) hz HE.out (by omega)) ?_
  rintro x w6 ⟨le, rfl, hx, hb⟩
  have HEE := hid hx
  have HV := hid (HV.out.below hb)
  have HX := hid (HX.out.below hb)
  have HO := hid (HO.out.below hb)
  have HW := hid (HW.out.trans (hb.mono hz))
  have hz := HW.out.size
  obtain ⟨oe, ce, rfl, hl2, hl3⟩ := hx
  have HL := hid hl2
  have hll := hl2.len_le
  have hE0 : E / 2 ^ (32 * nd E) = 0 := Nat.div_eq_of_lt (lt_W_nd E)
  have HO1 : Hid (Num .u64 w.heap.size w6 o1 (A ^ (E / 2 ^ (32 * nd E)) % M)) := by rw [hE0, Nat.pow_zero]; exact HO.out
  clear hb hl2 hl3 hE0 HO HEE HM HE HA
  go_wp2_with fail
  go_loopw [14, 16] (fun o i wr => ∃ j, j ≤ nd E ∧ i = .int .i64 ((j : Int) - 1) ∧ Num .u64 w.heap.size wr o (A ^ (E / 2 ^ (32 * j)) % M) ∧ Num .u64 w.heap.size wr x2 (A % M) ∧ Num .u64 w.heap.size wr v (M * f) ∧ Sl wr .u64 oe (nd E) ce (dg E) ∧ Below w.heap.size w wr) (fun _ i _ => (intOf i + 1).toNat)
  case atStart => exact ⟨nd E, Nat.le_refl _, rfl, HO1.out, HX.out, HV.out, HL.out, HW.out⟩
  case round =>
    obtain ⟨j, hj, rfl, ho, hx, hv, hl, hbl⟩ := hrel
    have HO := hid ho
    have HX := hid hx
    have HV := hid hv
    have HL := hid hl
    have HW := hid hbl
    have hz := hbl.size
    clear ho hx hv hl hbl HO1
    rcases j with _ | j
    · have HO2 := HO.out
      rw [Nat.mul_zero, Nat.pow_zero, Nat.div_one] at HO2
      have HO := hid HO2
      clear HO2
      go_wp2_with fail
      refine Calls.mono (number_r (B := w.heap.size) hz HO.out (Nat.le_trans (HLX.out _) (by decide))) ?_
      rintro x w7 ⟨r, rfl, hx, hb⟩
      have HR := hid hx
      have HW := hid (HW.out.trans (hb.mono hz))
      clear hx hb
      go_wp2_with fail
      go_ret2
      exact ⟨_, rfl, HR.out.mono HBB.out, HW.out⟩
    · rw [show (((j + 1 : Nat) : Int) - 1) = (j : Int) from by omega]
      have HO2 : Hid (Num .u64 w.heap.size wr u14 (A ^ (E / 2 ^ (32 * j + 32)) % M)) := by
        rw [show 32 * j + 32 = 32 * (j + 1) from by omega]; exact HO.out
      go_wp2_with fail
      go_loopw [14, 17] (fun o kv wx => ∃ s, s ≤ 32 ∧ kv = .int .u64 ((2 ^ s / 2 : Nat) : Int) ∧ Num .u64 w.heap.size wx o (A ^ (E / 2 ^ (32 * j + s)) % M) ∧ Num .u64 w.heap.size wx x2 (A % M) ∧ Num .u64 w.heap.size wx v (M * f) ∧ Sl wx .u64 oe (nd E) ce (dg E) ∧ Below w.heap.size w wx) (fun _ kv _ => (intOf kv).toNat)
      case atStart => exact ⟨32, Nat.le_refl _, rfl, HO2.out, HX.out, HV.out, HL.out, HW.out⟩
      case round =>
        obtain ⟨s, hs, rfl, ho, hx, hv, hl, hbl⟩ := hrel
        have HX := hid hx
        have HV := hid hv
        have HL := hid hl
        have HW := hid hbl
        have hz := hbl.size
        rcases s with _ | t
        · have HO := hid ho
          rw [show 2 ^ 0 / 2 = 0 from rfl]
          clear ho hx hv hl hbl HO2
          go_wp2_with fail
          go_roundw
          case rel => exact ⟨j, by omega, rfl, HO.out, HX.out, HV.out, HL.out, HW.out⟩
          case measure => simp [intOf]
        · obtain ⟨o, ho2⟩ : ∃ o, o = E / 2 ^ (32 * j + t + 1) := ⟨_, rfl⟩
          rw [show 32 * j + (t + 1) = 32 * j + t + 1 from by omega] at ho
          have hbit := dg_bit E j t (by omega)
          have hs1 := pow_step A E M (32 * j + t)
          have hs2 := fun h => pow_step0 (A := A) (E := E) (N := M) (j := 32 * j + t) h
          have hs3 := fun h => pow_step1 (A := A) (E := E) (N := M) (j := 32 * j + t) h
          have he2 : 2 ^ (t + 1) / 2 = 2 ^ t := by rw [Nat.pow_succ, Nat.mul_div_cancel _ (by decide)]
          rw [he2]
          have hkp : 0 < 2 ^ t := Nat.pow_pos (by decide)
          have hkl : 2 ^ t ≤ 2147483648 := Nat.pow_le_pow_right (n := 2) (by decide) (show t ≤ 31 by omega)
          obtain ⟨k, hk⟩ : ∃ k, k = 2 ^ t := ⟨_, rfl⟩
          rw [← hk] at hkp hkl hbit ⊢
          obtain ⟨be, fe, rfl, hle, hce⟩ := hl.at_ (by omega)
          have hcj := hce j (by omega)
          have hdl := dg_lt E j
          obtain ⟨dj, hdj⟩ : ∃ dj, dj = dg E j := ⟨_, rfl⟩
          rw [← hdj] at hcj hbit hdl
          have R1 := rest_r (B := w.heap.size) hz ho ho (show Num .u64 w.heap.size wr v (M * fac M) by rw [← HFD.out]; exact hv) hMp (HLX.out _) (HLX.out _) (by omega)
          rw [← HFD.out, hs1] at R1
          have HR1 := hid R1
          have HK := hid hk
          have HS2 := hid hs2
          have HS3 := hid hs3
          have HT := hid hs
          clear ho hx hv hl hbl HO HO2 hs2 hs3 hs1 he2 hk hce hdj R1 ho2 o hs
          go_wp2_with fail
          refine HR1.out.mono ?_
          rintro x w7 ⟨o7, rfl, h7, hb⟩
          have HO7 := hid h7
          have HX := hid (HX.out.below hb)
          have HV := hid (HV.out.below hb)
          have HL := hid (HL.out.below hb)
          have HW := hid (HW.out.trans (hb.mono hz))
          have hz := HW.out.size
          have hcj2 : w7.cell? ⟨be, fe + j, none⟩ = some (.int .u64 (dj : Nat)) := by rw [hb.cell (p := ⟨be, fe + j, none⟩) hle]; exact hcj
          have hle7 : be < w7.heap.size := Nat.lt_of_lt_of_le hle hb.size
          clear h7 hb hcj HR1
          have hkk : ((k : Nat) : Int) / 2 = ((2 ^ t / 2 : Nat) : Int) := by rw [← HK.out]; simp
          have HKK := hid hkk
          have hkne : ((k : Nat) : Int) ≠ 0 := by omega
          obtain ⟨q, hqe⟩ : ∃ q, q = dj / k := ⟨_, rfl⟩
          have hqd : ((dj : Nat) : Int) / ((k : Nat) : Int) = ((q : Nat) : Int) := by rw [hqe]; exact (Int.natCast_ediv _ _).symm
          have hql : q < 4294967296 := by rw [hqe]; exact Nat.lt_of_le_of_lt (Nat.div_le_self _ _) hdl
          rw [← hqe] at hbit
          clear hkk hqe
          by_cases hb1 : q % 2 = 1
          · have hq1 : (((q : Nat) : Int) % 2 == 1) = true := by simp; omega
            have hs3 := HS3.out (by rw [← hbit]; exact hb1)
            have R2 := rest_r (B := w.heap.size) hz HO7.out HX.out (show Num .u64 w.heap.size w7 v (M * fac M) by rw [← HFD.out]; exact HV.out) hMp (HLX.out _) (HLX.out _) (by omega)
            rw [← HFD.out, show A ^ (2 * (E / 2 ^ (32 * j + t + 1))) % M * (A % M) % M = A ^ (E / 2 ^ (32 * j + t)) % M from hs3] at R2
            have HR2 := hid R2
            clear hs3 R2 hb1 hbit
            go_wp2_with fail
            refine HR2.out.mono ?_
            rintro x w8 ⟨o8, rfl, h8, hb⟩
            have HO8 := hid h8
            have HX := hid (HX.out.below hb)
            have HV := hid (HV.out.below hb)
            have HL := hid (HL.out.below hb)
            have HW := hid (HW.out.trans (hb.mono hz))
            clear h8 hb HR2
            go_wp2_with fail
            rw [HKK.out]
            go_roundw
            case rel => exact ⟨t, by have := HT.out; omega, rfl, HO8.out, HX.out, HV.out, HL.out, HW.out⟩
            case measure => simp only [intOf, Int.toNat_natCast]; have := HK.out; omega
          · have hb0 : q % 2 = 0 := by omega
            have hq1 : (((q : Nat) : Int) % 2 == 1) = false := by simp; omega
            have HO8 := HO7.out
            rw [HS2.out (by rw [← hbit]; exact hb0)] at HO8
            have HO8 := hid HO8
            clear hb1 hb0 hbit
            go_wp2_with fail
            rw [HKK.out]
            go_roundw
            case rel => exact ⟨t, by have := HT.out; omega, rfl, HO8.out, HX.out, HV.out, HL.out, HW.out⟩
            case measure => simp only [intOf, Int.toNat_natCast]; have := HK.out; omega

set_option maxRecDepth 100000 in
set_option maxHeartbeats 3200000 in
theorem rinv_any (ha : Rd w a na A) (hn : Rd w b nn N) (hna : na ≤ 10000) (hnn : nn ≤ 10000) (h0 : N ≠ 0) :
    Calls Try.prog 41 #[a, b] w fun x w' => ∃ v V c, x = .returned (.tuple #[v, .int .i64 c]) ∧ Num .u32 w.heap.size w' v V ∧ IsInv A N V c ∧ Below w.heap.size w w' := by
  have HA := hid ha
  have HN := hid hn
  have HN0 := hid hn
  have hA := ha.nd_le
  have hNN := hn.nd_le
  have hNp := Nat.pos_of_ne_zero h0
  have hp := nd_pos hNp
  have HW := hid (Below.refl w.heap.size w)
  have hz : w.heap.size ≤ w.heap.size := Nat.le_refl _
  have H0 := hid h0
  have hgl : nd (Nat.gcd A N) ≤ 10000 := Nat.le_trans (nd_mono (Nat.le_of_dvd hNp (Nat.gcd_dvd_right A N))) (by omega)
  clear ha hn h0
  go_enter Try.func41, Try.ntmps41
  go_wp2_with fail
  refine Calls.mono (digits_r (B := w.heap.size) hz HN.out (by omega)) ?_
  rintro x w1 ⟨m1, rfl, hx, hb⟩
  have HA := hid (HA.out.below hb)
  have HN := hid (HN.out.below hb)
  have HW := hid (HW.out.trans (hb.mono hz))
  have hz := HW.out.size
  have HM := hid hx
  obtain ⟨om, cm, rfl, h2, h3⟩ := hx
  have hq : (((nd N : Nat) : Int) == 0) = false := by simp; omega
  clear hb h2 h3
  go_wp2_with fail
  refine Calls.mono (rgcd_r (B := w.heap.size) hz HA.out HN.out (by omega) (by omega)) ?_
  rintro e w2 ⟨g1, rfl, hx, hb⟩
  have HG1 := hid hx
  have HA := hid (HA.out.below hb)
  have HN := hid (HN.out.below hb)
  have HM := hid (HM.out.below hb)
  have HW := hid (HW.out.trans (hb.mono hz))
  have hz := HW.out.size
  clear hx hb
  go_wp2_with fail
  refine Calls.mono (digits_r (B := w.heap.size) hz (Rd.of_num HG1.out) (by omega)) ?_
  rintro x w3 ⟨g2, rfl, hx, hb⟩
  have HA := hid (HA.out.below hb)
  have HN := hid (HN.out.below hb)
  have HM := hid (HM.out.below hb)
  have HW := hid (HW.out.trans (hb.mono hz))
  have hz := HW.out.size
  obtain ⟨og, cg, rfl, h2, h3⟩ := hx
  clear hb HG1
  by_cases hg1 : Nat.gcd A N = 1
  · rw [hg1, nd_one] at h2 ⊢
    obtain ⟨bg, fg, rfl, hlg, hcg⟩ := h2.at_ (by decide)
    have hc0 := hcg 0 (by decide)
    rw [dg_one, Nat.add_zero] at hc0
    have hgz := h2.len_le
    have HG := hid hg1
    clear h2 h3 hcg hg1 hgl
    go_wp2_with fail
    refine Calls.mono (digits_r (B := w.heap.size) hz HA.out (by omega)) ?_
    rintro e w4 ⟨a2, rfl, hx, hb⟩
    have HA2 := hid hx
    have HN := hid (HN.out.below hb)
    have HM := hid (HM.out.below hb)
    have HW := hid (HW.out.trans (hb.mono hz))
    have hz := HW.out.size
    clear hx hb
    go_wp2_with fail
    refine Calls.mono (parted_r (B := w.heap.size) hz HA2.out HM.out (by omega) (by omega) H0.out) ?_
    rintro e w5 ⟨sq, s1, rfl, hx, hy, hb⟩
    have HSQ := hid hx
    have HS1 := hid hy
    have HN := hid (HN.out.below hb)
    have HM := hid (HM.out.below hb)
    have HW := hid (HW.out.trans (hb.mono hz))
    have hz := HW.out.size
    clear hx hy hb
    go_wp2_with fail
    have hb1 := (Below.refl w5.heap.size w5).alloc (Nat.le_refl _) (.cells #[.int .u64 1] 36)
    have HN := hid (HN.out.below hb1)
    have HM := hid (HM.out.below hb1)
    have HS1 := hid (HS1.out.below hb1)
    have HONE := hid (num_one (B := w.heap.size) (w := w5) hz)
    have HW := hid (HW.out.trans (hb1.mono hz))
    have hz := HW.out.size
    clear hb1
    go_loopw [9, 10, 11, 12, 17] (fun s r u v _d wr => ∃ R S U V : Nat, R ≤ N ∧ S ≤ N ∧ U ≤ N ∧ V ≤ N ∧ Nat.gcd R S = Nat.gcd A N ∧ (N : Int) ∣ U * A - R ∧ (N : Int) ∣ V * A - S ∧ Num .u64 w.heap.size wr r R ∧ Num .u64 w.heap.size wr s S ∧ Num .u64 w.heap.size wr u U ∧ Num .u64 w.heap.size wr v V ∧ Num .u64 w.heap.size wr (.slice om (nd N) cm) N ∧ Below w.heap.size w wr) (fun s _ _ _ _ wr => rdn wr s)
    case atStart =>
      refine ⟨N, A % N, 0, 1, Nat.le_refl _, Nat.le_of_lt (Nat.mod_lt _ hNp), by omega, by omega, gcd_round A N, ⟨-1, by omega⟩, ?_, HM.out, HS1.out, Num.zero _ _ _, HONE.out, HM.out, HW.out⟩
      refine ⟨((A / N : Nat) : Int), ?_⟩
      have := Nat.div_add_mod A N
      have h2 : ((A : Nat) : Int) = (N : Int) * ((A / N : Nat) : Int) + ((A % N : Nat) : Int) := by
        rw [← Int.natCast_mul, ← Int.natCast_add, this]
      omega
    case round =>
      obtain ⟨R, S, U, V, hRN, hSN, hUN, hVN, hg, hdu, hdv, hr, hs, hu, hv, hm, hl⟩ := hrel
      have HR := hid hr
      have HS := hid hs
      have HU := hid hu
      have HV := hid hv
      have HN := hid (HN0.out.below hl)
      have HM := hid hm
      have HL := hid hl
      have HG1 := hid hg
      have HDU := hid hdu
      have HDV := hid hdv
      have hz2 := hl.size
      have n1 : nd R ≤ 10000 := Nat.le_trans (nd_mono hRN) (by omega)
      have n2 : nd S ≤ 10000 := Nat.le_trans (nd_mono hSN) (by omega)
      have n3 : nd U ≤ 10000 := Nat.le_trans (nd_mono hUN) (by omega)
      have n4 : nd V ≤ 10000 := Nat.le_trans (nd_mono hVN) (by omega)
      have HRD := hid hs.rdn
      obtain ⟨os, cs, rfl, k2, k3⟩ := hs
      clear hr hu hv hm hl hg hdu hdv k2 k3
      by_cases h0 : S = 0
      · subst h0
        rw [nd_zero] at HS HRD ⊢
        have hg := HG1.out
        rw [Nat.gcd_zero_right, HG.out] at hg
        subst hg
        go_wp2_with fail
        refine Calls.mono (parted_r (B := w.heap.size) hz2 HU.out HM.out (by omega) (by omega) H0.out) ?_
        rintro x w6 ⟨q, u2, rfl, -, hu2, hb⟩
        have HU2 := hid hu2
        have HL := hid (HL.out.trans (hb.mono hz2))
        have hz2 := HL.out.size
        have hun : nd (U % N) ≤ 100000 := Nat.le_trans (nd_modl n3) (by decide)
        have hul : U % N < N := Nat.mod_lt _ hNp
        clear hu2 hb
        go_wp2_with fail
        refine Calls.mono (number_r (B := w.heap.size) hz2 HU2.out hun) ?_
        rintro x w7 ⟨u3, rfl, hu3, hb⟩
        have HU3 := hid hu3
        have HL := hid (HL.out.trans (hb.mono hz2))
        clear hu3 hb
        go_wp2_with fail
        go_ret2
        refine ⟨_, U % N, 0, rfl, HU3.out, ⟨hul, ?_⟩, HL.out⟩
        rw [if_pos HG.out]
        refine ⟨rfl, ?_⟩
        rw [Nat.mod_mul_mod]
        exact mod_of_dvd (by rw [Int.natCast_mul]; exact HDU.out)
      · have hnd := nd_pos (Nat.pos_of_ne_zero h0)
        have hd : decide (((nd S : Nat) : Int) > 0) = true := by simp; omega
        have HS0 := hid h0
        have n5 : nd (R / S) ≤ 10000 := nd_div n1
        have n6 : nd (R / S * V) ≤ 20000 := nd_mul n5 n4
        have n8 : nd (U + N) ≤ 10001 := nd_add n3 (by omega)
        clear h0
        go_wp2_with fail
        refine Calls.mono (parted_r (B := w.heap.size) hz2 HR.out HS.out (by omega) (by omega) HS0.out) ?_
        rintro x w6 ⟨q, t, rfl, hq, ht, hb⟩
        have HQ := hid hq
        have HT := hid ht
        have HS := hid (HS.out.below hb)
        have HU := hid (HU.out.below hb)
        have HV := hid (HV.out.below hb)
        have HM := hid (HM.out.below hb)
        have HN := hid (HN.out.below hb)
        have HL := hid (HL.out.trans (hb.mono hz2))
        have hz2 := HL.out.size
        clear hq ht hb
        go_wp2_with fail
        refine Calls.mono (times_r (B := w.heap.size) hz2 HQ.out HV.out (by omega) (by omega)) ?_
        rintro x w7 ⟨m2, rfl, hm, hb⟩
        have HM2 := hid hm
        have HS := hid (HS.out.below hb)
        have HU := hid (HU.out.below hb)
        have HV := hid (HV.out.below hb)
        have HM := hid (HM.out.below hb)
        have HN := hid (HN.out.below hb)
        have HT := hid (HT.out.below hb)
        have HL := hid (HL.out.trans (hb.mono hz2))
        have hz2 := HL.out.size
        clear hm hb
        go_wp2_with fail
        refine Calls.mono (parted_r (B := w.heap.size) hz2 HM2.out HM.out (by omega) (by omega) H0.out) ?_
        rintro x w8 ⟨q2, z, rfl, -, hzz, hb⟩
        obtain ⟨Z, hZ⟩ : ∃ Z, Z = R / S * V % N := ⟨_, rfl⟩
        rw [← hZ] at hzz
        have hZN : Z < N := by rw [hZ]; exact Nat.mod_lt _ hNp
        have HZ := hid hzz
        have HZE := hid hZ
        have HS := hid (HS.out.below hb)
        have HU := hid (HU.out.below hb)
        have HV := hid (HV.out.below hb)
        have HM := hid (HM.out.below hb)
        have HN := hid (HN.out.below hb)
        have HT := hid (HT.out.below hb)
        have HL := hid (HL.out.trans (hb.mono hz2))
        have hz2 := HL.out.size
        clear hzz hb n6 hZ HM2
        go_wp2_with fail
        refine Calls.mono (number_r (B := w.heap.size) hz2 HU.out (by omega)) ?_
        rintro x w9 ⟨u1, rfl, hu1, hb⟩
        have HU1 := hid hu1
        have HS := hid (HS.out.below hb)
        have HV := hid (HV.out.below hb)
        have HM := hid (HM.out.below hb)
        have HN := hid (HN.out.below hb)
        have HT := hid (HT.out.below hb)
        have HZ := hid (HZ.out.below hb)
        have HL := hid (HL.out.trans (hb.mono hz2))
        have hz2 := HL.out.size
        clear hu1 hb
        go_wp2_with fail
        refine Calls.mono (radd_r (B := w.heap.size) hz2 (Rd.of_num HU1.out) HN.out (by omega) (by omega)) ?_
        rintro x w10 ⟨s1, rfl, hs1, hb⟩
        have HS1 := hid hs1
        have HS := hid (HS.out.below hb)
        have HV := hid (HV.out.below hb)
        have HM := hid (HM.out.below hb)
        have HN := hid (HN.out.below hb)
        have HT := hid (HT.out.below hb)
        have HZ := hid (HZ.out.below hb)
        have HL := hid (HL.out.trans (hb.mono hz2))
        have hz2 := HL.out.size
        clear hs1 hb
        go_wp2_with fail
        refine Calls.mono (digits_r (B := w.heap.size) hz2 (Rd.of_num HS1.out) (by omega)) ?_
        rintro x w11 ⟨s2, rfl, hs2, hb⟩
        have HS2 := hid hs2
        have HS := hid (HS.out.below hb)
        have HV := hid (HV.out.below hb)
        have HM := hid (HM.out.below hb)
        have HN := hid (HN.out.below hb)
        have HT := hid (HT.out.below hb)
        have HZ := hid (HZ.out.below hb)
        have HL := hid (HL.out.trans (hb.mono hz2))
        have hz2 := HL.out.size
        clear hs2 hb
        go_wp2_with fail
        refine Calls.mono (less_r (B := w.heap.size) hz2 HS2.out HZ.out (by omega) (by omega)) ?_
        rintro x w12 ⟨d1, rfl, hd1, hb⟩
        have HD1 := hid hd1
        have HS := hid (HS.out.below hb)
        have HV := hid (HV.out.below hb)
        have HM := hid (HM.out.below hb)
        have HN := hid (HN.out.below hb)
        have HT := hid (HT.out.below hb)
        have HL := hid (HL.out.trans (hb.mono hz2))
        have hz2 := HL.out.size
        have n9 : nd (U + N - Z) ≤ 10001 := Nat.le_trans (nd_mono (Nat.sub_le _ _)) n8
        clear hd1 hb
        go_wp2_with fail
        refine Calls.mono (parted_r (B := w.heap.size) hz2 HD1.out HM.out (by omega) (by omega) H0.out) ?_
        rintro x w13 ⟨q3, d2, rfl, -, hd2, hb⟩
        have HD2 := hid hd2
        have HS := hid (HS.out.below hb)
        have HV := hid (HV.out.below hb)
        have HM := hid (HM.out.below hb)
        have HT := hid (HT.out.below hb)
        have HL := hid (HL.out.trans (hb.mono hz2))
        have hz2 := HL.out.size
        clear hd2 hb
        go_wp2_with fail
        go_roundw
        case rel =>
          refine ⟨S, R % S, V, (U + N - Z) % N, hSN, Nat.le_trans (Nat.mod_le _ _) hRN, hVN, Nat.le_of_lt (Nat.mod_lt _ hNp), by rw [gcd_round, HG1.out], HDV.out, inv_round HDU.out HDV.out HZE.out ?_, HS.out, HT.out, HV.out, HD2.out, HM.out, HL.out⟩
          have h5 := Nat.div_add_mod (U + N - Z) N
          refine ⟨1 - (((U + N - Z) / N : Nat) : Int), ?_⟩
          rw [Int.mul_sub, ← Int.natCast_mul]
          omega
        case measure =>
          rw [HT.out.rdn]
          show _ < rdn wr _
          rw [HRD.out]
          exact Nat.mod_lt _ (Nat.pos_of_ne_zero HS0.out)
  · have hgp : 0 < Nat.gcd A N := Nat.gcd_pos_of_pos_right _ hNp
    have hgn := nd_pos hgp
    obtain ⟨bg, fg, rfl, hlg, hcg⟩ := h2.at_ hgn
    have hc0 := hcg 0 hgn
    rw [Nat.add_zero] at hc0
    have hgz := h2.len_le
    have HG := hid hg1
    have HH : Hid (IsInv A N 0 13) := ⟨hNp, by rw [if_neg hg1]; exact ⟨rfl, rfl⟩⟩
    by_cases hn1 : nd (Nat.gcd A N) = 1
    · have hd0 := one_digit hn1
      rw [hd0] at hc0
      rw [hn1] at hgz ⊢
      have hgne : (((Nat.gcd A N : Nat) : Int) != 1) = true := by simp; omega
      clear h2 h3 hcg hg1 hgl hd0 hn1
      generalize Nat.gcd A N = G at *
      go_wp2_with fail
      go_ret2
      exact ⟨_, 0, 13, rfl, Num.zero _ _ _, HH.out, HW.out⟩
    · have hgne : (((nd (Nat.gcd A N) : Nat) : Int) != 1) = true := by simp; omega
      clear h2 h3 hcg hg1 hgl hn1 hc0
      generalize Nat.gcd A N = G at *
      go_wp2_with fail
      go_ret2
      exact ⟨_, 0, 13, rfl, Num.zero _ _ _, HH.out, HW.out⟩

end

end Go.Proofs.Ytfknjfmgpfhjiaa
