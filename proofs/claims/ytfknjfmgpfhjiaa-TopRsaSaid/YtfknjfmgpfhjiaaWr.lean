/-
  The walk of nat.Pow.
-/
import Derived.Test.YtfknjfmgpfhjiaaWq
namespace Go.Proofs.Ytfknjfmgpfhjiaa
open Go.RowKit

theorem pow_step (A E N j : Nat) : A ^ (E / 2 ^ (j + 1)) % N * (A ^ (E / 2 ^ (j + 1)) % N) % N = A ^ (2 * (E / 2 ^ (j + 1))) % N := by
  generalize E / 2 ^ (j + 1) = t
  rw [← Nat.mul_mod, Nat.two_mul, Nat.pow_add]

theorem pow_step0 {A E N j : Nat} (h : E / 2 ^ j % 2 = 0) : A ^ (2 * (E / 2 ^ (j + 1))) % N = A ^ (E / 2 ^ j) % N := by
  have e : E / 2 ^ (j + 1) = E / 2 ^ j / 2 := by rw [Nat.pow_succ, Nat.div_div_eq_div_mul]
  rw [e]
  congr 2
  omega

theorem pow_step1 {A E N j : Nat} (h : E / 2 ^ j % 2 = 1) : A ^ (2 * (E / 2 ^ (j + 1))) % N * (A % N) % N = A ^ (E / 2 ^ j) % N := by
  have e : E / 2 ^ (j + 1) = E / 2 ^ j / 2 := by rw [Nat.pow_succ, Nat.div_div_eq_div_mul]
  rw [← Nat.mul_mod, ← Nat.pow_succ, e]
  congr 2
  omega

theorem and1 (x s : Nat) (h : x < 4294967296) : Go.bits .and .u32 (((x : Nat) : Int) / 2 ^ s) 1 = ((x / 2 ^ s % 2 : Nat) : Int) := by
  have h1 : ((x : Int) / 2 ^ s) = ((x / 2 ^ s : Nat) : Int) := by rw [Int.natCast_ediv]; simp
  have h2 : x / 2 ^ s ≤ x := Nat.div_le_self _ _
  have h3 := u32_and_nat (x / 2 ^ s) 1 (by omega) (by decide)
  rw [Nat.and_one_is_mod] at h3
  rw [h1]
  exact h3

theorem npow_0 {w : World} {a e n : Value} {na ne nn A E : Nat} (ha : Rd w a na A) (_ : Rd w e ne E) (hn : Rd w n nn 0) :
    Calls Try.prog 17 #[a, e, n] w fun x w' => x = .returned (.tuple #[.slice none 0 0, .int .i64 10]) ∧ Below w.heap.size w w' := by
  have HA := hid ha
  have HN := hid hn
  clear ha hn
  go_enter Try.func17, Try.ntmps17
  go_wp2_with fail
  refine (div_0 HA.out HN.out).mono ?_
  rintro e w1 ⟨rfl, hb⟩
  have HB := hid hb
  clear hb
  go_wp2_with fail
  go_ret2
  exact ⟨rfl, HB.out⟩

set_option maxHeartbeats 1600000 in
theorem npow_any {w : World} {a e n : Value} {na ne nn A E N : Nat} (ha : Rd w a na A) (he : Rd w e ne E) (hn : Rd w n nn N) (hna : na ≤ 10000) (hne : ne ≤ 10000) (hnn : nn ≤ 10000) (hN : N ≠ 0) :
    Calls Try.prog 17 #[a, e, n] w fun x w' => ∃ v, x = .returned (.tuple #[v, .int .i64 0]) ∧ Num .u32 w.heap.size w' v (A ^ E % N) ∧ Below w.heap.size w w' := by
  have hNp : 0 < N := Nat.pos_of_ne_zero hN
  have hndN := hn.nd_le
  have HA := hid ha
  have HN := hid hn
  have hmod : ∀ x, nd (x % N) ≤ nn := fun x => Nat.le_trans (nd_mono (Nat.le_of_lt (Nat.mod_lt _ hNp))) hndN
  have HMOD := hid hmod
  have HE := hid he
  clear ha hn hndN hmod he
  go_enter Try.func17, Try.ntmps17
  go_wp2_with fail
  refine (div_r (B := w.heap.size) (Nat.le_refl _) HA.out HN.out (by omega) hN).mono ?_
  rintro x w1 ⟨q1, x1, rfl, -, hx, hb⟩
  have HX := hid hx
  have HB := hid hb
  have hz := hb.size
  clear hx hb
  go_wp2_with fail
  refine (of_r (B := w.heap.size) 1 w1 (by decide) hz).mono ?_
  rintro x w2 ⟨o1, rfl, ho, hb⟩
  have HO := hid ho
  have HX := hid (HX.out.below hb)
  have HB := hid (HB.out.trans (hb.mono hz))
  have hz := HB.out.size
  clear ho hb
  go_wp2_with fail
  refine (div_r (B := w.heap.size) hz (Rd.of_num HO.out) (HN.out.below HB.out) (by have : nd 1 = 1 := rfl; omega) hN).mono ?_
  rintro x w3 ⟨q2, x2, rfl, -, hx, hb⟩
  have HOUT := hid hx
  have HX := hid (HX.out.below hb)
  have HB := hid (HB.out.trans (hb.mono hz))
  have hz := HB.out.size
  clear hx hb HO
  go_wp2_with fail
  refine (bits_r (HE.out.below HB.out) (by omega)).mono ?_
  rintro x w4 ⟨rfl, rfl⟩
  have hbe : bits E ≤ 32 * ne := bits_le.2 HE.out.lt
  obtain ⟨oe, ce, f, rfl, he2, hf, hval⟩ := HE.out
  have HE2 := hid he2
  have HF := hid hf
  have hbd : ∀ i, i < bits E → f (i / 32) / 2 ^ (i % 32) % 2 = E / 2 ^ i % 2 := fun i hi => by
    rw [← bit_dg E i, ← hval, dg_val hf (i / 32) (by omega)]
  have HBD := hid hbd
  have hst : Num .u32 w.heap.size w3 x2 (A ^ (E / 2 ^ bits E) % N) := by
    rw [Nat.div_eq_of_lt (bits_le.1 (Nat.le_refl _)), Nat.pow_zero]
    exact HOUT.out
  have HST := hid hst
  clear hbd hst he2 hf hval HOUT HE
  generalize bits E = k at *
  go_wp2_with fail
  go_loopw [12, 14] (fun o i wr => ∃ (j : Nat), j ≤ k ∧ i = .int .i64 ((j : Int) - 1) ∧ Num .u32 w.heap.size wr o (A ^ (E / 2 ^ j) % N) ∧ Num .u32 w.heap.size wr x1 (A % N) ∧ Below w.heap.size w wr) (fun _ i _ => (intOf i + 1).toNat)
  case atStart => exact ⟨k, Nat.le_refl _, rfl, HST.out, HX.out, HB.out⟩
  case round =>
    obtain ⟨j, hj, rfl, ho, hx, hbl⟩ := hrel
    have HO := hid ho
    have HX := hid hx
    have HL := hid hbl
    have hz2 := hbl.size
    clear ho hx hbl
    by_cases hlt : 0 < j
    · obtain ⟨i, rfl⟩ : ∃ i, j = i + 1 := ⟨j - 1, by omega⟩
      have ek : (((i + 1 : Nat) : Int) - 1) = (i : Int) := by omega
      rw [ek]
      clear ek
      go_wp2_with fail
      have hnd1 := HMOD.out (A ^ (E / 2 ^ (i + 1)))
      refine (mul_r (B := w.heap.size) hz2 (Rd.of_num HO.out) (Rd.of_num HO.out) (by omega) (by omega)).mono ?_
      rintro x w5 ⟨m1, rfl, hm, hb⟩
      have HM := hid hm
      have HX := hid (HX.out.below hb)
      have HL := hid (HL.out.trans (hb.mono hz2))
      have hz2 := HL.out.size
      clear hm hb
      go_wp2_with fail
      have hmd : nd (A ^ (E / 2 ^ (i + 1)) % N * (A ^ (E / 2 ^ (i + 1)) % N)) ≤ 20000 := by
        refine nd_le.2 (Nat.lt_of_lt_of_le (mul_lt_W (lt_W_nd _) (lt_W_nd _)) (W_le (by omega)))
      refine (div_r (B := w.heap.size) hz2 (Rd.of_num HM.out) (HN.out.below HL.out) (by omega) hN).mono ?_
      rintro x w6 ⟨q3, x3, rfl, -, hx, hb⟩
      rw [pow_step] at hx
      have HO := hid hx
      have HX := hid (HX.out.below hb)
      have HL := hid (HL.out.trans (hb.mono hz2))
      have hz2 := HL.out.size
      clear hx hb HM hmd
      obtain ⟨be, offe, rfl, hbe2, hce⟩ := (HE2.out.below HL.out).at_ (by omega)
      have hc1 := hce (i / 32) (by omega)
      have hfl := HF.out (i / 32) (by omega)
      have hbi := HBD.out i (by omega)
      have hnd2 := HMOD.out (A ^ (2 * (E / 2 ^ (i + 1))))
      have hnd3 := HMOD.out A
      have hand : Go.bits .and .u32 (((f (i / 32) : Nat) : Int) / 2 ^ (i % 32)) 1 = ((E / 2 ^ i % 2 : Nat) : Int) := by
        rw [and1, hbi]
        exact hfl
      clear hce hnd1 hbi
      rcases Nat.mod_two_eq_zero_or_one (E / 2 ^ i) with hb0 | hb1
      · have hd : (Go.bits .and .u32 (((f (i / 32) : Nat) : Int) / 2 ^ (i % 32)) 1 == 1) = false := by rw [hand, hb0]; rfl
        have HB0 := hid hb0
        clear hand hb0
        go_wp2_with fail
        go_roundw
        case rel => exact ⟨i, by omega, rfl, by have := HO.out; rw [pow_step0 HB0.out] at this; exact this, HX.out, HL.out⟩
        case measure => simp [intOf]
      · have hd : (Go.bits .and .u32 (((f (i / 32) : Nat) : Int) / 2 ^ (i % 32)) 1 == 1) = true := by rw [hand, hb1]; rfl
        have HB1 := hid hb1
        clear hand hb1
        go_wp2_with fail
        refine (mul_r (B := w.heap.size) hz2 (Rd.of_num HO.out) (Rd.of_num HX.out) (by omega) (by omega)).mono ?_
        rintro x w5 ⟨m1, rfl, hm, hb⟩
        have HM := hid hm
        have HX := hid (HX.out.below hb)
        have HL := hid (HL.out.trans (hb.mono hz2))
        have hz2 := HL.out.size
        clear hm hb
        have hmd : nd (A ^ (2 * (E / 2 ^ (i + 1))) % N * (A % N)) ≤ 20000 := by
          refine nd_le.2 (Nat.lt_of_lt_of_le (mul_lt_W (lt_W_nd _) (lt_W_nd _)) (W_le (by omega)))
        have hmd2 : nd (A ^ (2 * (E / 2 ^ (i + 1))) % N * (A % N)) ≤ 100000 := by omega
        clear hmd hd hc1 hfl
        go_wp2_with fail
        refine (div_r (B := w.heap.size) hz2 (Rd.of_num HM.out) (HN.out.below HL.out) hmd2 hN).mono ?_
        rintro x w6 ⟨q3, x3, rfl, -, hx, hb⟩
        rw [pow_step1 HB1.out] at hx
        have HO := hid hx
        have HX := hid (HX.out.below hb)
        have HL := hid (HL.out.trans (hb.mono hz2))
        have hz2 := HL.out.size
        clear hx hb HM hmd2
        go_wp2_with fail
        go_roundw
        case rel => exact ⟨i, by omega, rfl, HO.out, HX.out, HL.out⟩
        case measure => simp [intOf]
    · obtain rfl : j = 0 := by omega
      go_wp2_with fail
      go_ret2
      exact ⟨_, rfl, by have := HO.out; rw [Nat.pow_zero, Nat.div_one] at this; exact this, HL.out⟩
end Go.Proofs.Ytfknjfmgpfhjiaa
