/-
  The walks of bits.Len32, bits.LeadingZeros32 and nat.Bits.
-/
import Derived.Test.YtfknjfmgpfhjiaaWk
import Derived.Lib.BitFns
import Derived.Lib.ItoaNum
import Derived.Lib.Strings
import Derived.Lib.Slices
import Derived.Lib.Small
import Derived.Lib.Walk
namespace Go.Proofs.Ytfknjfmgpfhjiaa
open Go.RowKit

set_option maxHeartbeats 1000000 in
theorem len32_lib (x : Int) (w : World) (h0 : 0 ≤ x) (h1 : x ≤ 4294967295) :
    Calls Try.prog 70 #[.int .u32 x] w fun e w' => e = .returned (.int .i64 (Lib.bitLen x.toNat)) ∧ w' = w := by
  by_cases c1 : x ≤ 255
  · have l := Lib.bitLen_le8' x h0 c1
    have HL := hid (Lib.len8_of x h0 c1)
    go_enter Try.func70, Try.ntmps70
    go_wp2
    go_ret
    refine ⟨ret_i64 ?_, rfl⟩
    rw [HL.out]
    unfold wrap64; omega
  · by_cases c2 : x ≤ 65535
    · have d1 : 0 ≤ x / 256 := by omega
      have d2 : x / 256 ≤ 255 := by omega
      have l := Lib.bitLen_le8' (x / 256) d1 d2
      have HL := hid (Lib.len8_of (x / 256) d1 d2)
      have s := hid (Lib.bitLen_shift8 x.toNat (by omega) (by omega))
      have e := hid (show (x / 256).toNat = x.toNat / 256 by omega)
      go_enter Try.func70, Try.ntmps70
      go_wp2
      go_ret
      refine ⟨ret_i64 ?_, rfl⟩
      rw [HL.out, s.out, e.out]
      rw [e.out] at l
      unfold wrap64; omega
    · by_cases c3 : x ≤ 16777215
      · have d1 : 0 ≤ x / 65536 := by omega
        have d2 : x / 65536 ≤ 255 := by omega
        have l := Lib.bitLen_le8' (x / 65536) d1 d2
        have HL := hid (Lib.len8_of (x / 65536) d1 d2)
        have s := hid (Lib.bitLen_shift16 x.toNat (by omega) (by omega))
        have e := hid (show (x / 65536).toNat = x.toNat / 65536 by omega)
        go_enter Try.func70, Try.ntmps70
        go_wp2
        go_ret
        refine ⟨ret_i64 ?_, rfl⟩
        rw [HL.out, s.out, e.out]
        rw [e.out] at l
        unfold wrap64; omega
      · have d1 : 0 ≤ x / 65536 / 256 := by omega
        have d2 : x / 65536 / 256 ≤ 255 := by omega
        have l := Lib.bitLen_le8' (x / 65536 / 256) d1 d2
        have HL := hid (Lib.len8_of (x / 65536 / 256) d1 d2)
        have s := hid (Lib.bitLen_shift24 x.toNat (by omega) (by omega))
        have e := hid (show (x / 65536 / 256).toNat = x.toNat / 16777216 by omega)
        go_enter Try.func70, Try.ntmps70
        go_wp2
        go_ret
        refine ⟨ret_i64 ?_, rfl⟩
        rw [HL.out, s.out, e.out]
        rw [e.out] at l
        unfold wrap64; omega

theorem bitLen_bits (x : Nat) (h : x < 4294967296) : Lib.bitLen x = bits x := by
  rcases Nat.eq_zero_or_pos x with h0 | h0
  · subst h0; exact Lib.bitLenAux_zero 64
  · have hb := Lib.bitLenAux_bounds 64 x (by omega) (by omega)
    have h1 := (@bits_le x (Lib.bitLen x)).2 hb.2.2
    have h2 := le_bits hb.2.1
    unfold Lib.bitLen at *
    omega

theorem len32_any (x : Nat) (w : World) (h : x < 4294967296) :
    Calls Try.prog 70 #[.int .u32 x] w fun e w' => e = .returned (.int .i64 (bits x : Nat)) ∧ w = w' := by
  refine (len32_lib x w (by omega) (by omega)).mono fun e w' ⟨h1, h2⟩ => ⟨?_, h2.symm⟩
  rw [h1, Int.toNat_natCast, bitLen_bits x h]

theorem lead_any (x : Nat) (w : World) (h : x < 4294967296) :
    Calls Try.prog 57 #[.int .u32 x] w fun e w' => e = .returned (.int .i64 ((32 - bits x : Nat) : Nat)) ∧ w = w' := by
  have hb : bits x ≤ 32 := bits_le.2 (by omega)
  go_enter Try.func57, Try.ntmps57
  go_wp2_with fail
  refine (len32_any x w h).mono ?_
  rintro e w' ⟨rfl, rfl⟩
  go_wp2_with fail
  go_ret
  exact ⟨ret_i64 (by omega), rfl⟩

set_option maxHeartbeats 400000 in
/-- nat.Bits. -/
theorem nbits_any (oa : Option Addr) (n c : Nat) (f : Nat → Nat) (w : World) (h : Sl w .u32 oa n c f) (hf : ∀ j, j < n → f j < 4294967296) (hn : n ≤ 1000000) :
    Calls Try.prog 36 #[.slice oa n c] w fun e w' => e = .returned (.int .i64 (bits (val f n) : Nat)) ∧ w = w' := by
  have hX := nd_val_le hf
  have HS := hid (size_any oa n c f w h hf)
  have hla := h.len_le
  have hma := h.cap_le
  unfold maxLen at hma
  have HA := hid ((h.take hX).congr fun j hj => (dg_val hf j (by omega)).symm)
  clear h hf
  generalize val f n = X at *
  by_cases h0 : X = 0
  · have HS0 : Hid (Calls Try.prog 55 #[.slice oa n c] w fun e w' => e = .returned (.int .i64 0) ∧ w = w') := by
      have := HS.out
      rwa [h0, nd_zero] at this
    have HB : Hid (bits X = 0) := by show bits X = 0; rw [h0]; rfl
    clear h0
    go_enter Try.func36, Try.ntmps36
    go_wp2_with fail
    refine HS0.out.mono ?_
    rintro e w' ⟨rfl, rfl⟩
    go_wp2_with fail
    go_ret
    exact ⟨by rw [HB.out]; rfl, rfl⟩
  · have hp := nd_pos (Nat.pos_of_ne_zero h0)
    have ht := dg_top (Nat.pos_of_ne_zero h0)
    have hbt := bits_top (f := dg X) (n := nd X - 1) (fun _ _ => dg_lt _ _) (by omega)
    rw [show nd X - 1 + 1 = nd X from by omega, val_dg_nd] at hbt
    have hl := dg_lt X (nd X - 1)
    obtain ⟨b, off, rfl, hb, hc⟩ := HA.out.at_ hp
    have hx := hc (nd X - 1) (by omega)
    obtain ⟨p, hp'⟩ : ∃ p, nd X = p + 1 := ⟨nd X - 1, by omega⟩
    rw [hp'] at hx hbt hl HS hX
    rw [Nat.add_sub_cancel] at hx hbt hl
    have hb32 : bits (dg X p) ≤ 32 := bits_le.2 (by omega)
    have HBT := hid hbt
    clear hbt hp' hc hp ht h0
    have e1 : (((p + 1 : Nat) : Int) == 0) = false := by simp; omega
    go_enter Try.func36, Try.ntmps36
    go_wp2_with fail
    refine HS.out.mono ?_
    rintro e w' ⟨rfl, rfl⟩
    go_wp2_with fail
    refine (len32_any (dg X p) w hl).mono ?_
    rintro e w' ⟨rfl, rfl⟩
    go_wp2_with fail
    go_ret
    exact ⟨ret_i64 (by rw [HBT.out]; omega), rfl⟩

end Go.Proofs.Ytfknjfmgpfhjiaa
