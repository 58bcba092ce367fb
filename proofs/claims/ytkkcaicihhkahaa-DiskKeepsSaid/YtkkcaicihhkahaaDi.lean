/-
  The walk of disk's numbers.
-/
import Derived.Test.YtkkcaicihhkahaaDh
namespace Go.Proofs.Ytkkcaicihhkahaa
open Go.RowKit

theorem nums_step {f : Nat → Nat} {o j : Nat} (hj : j < 8) (hf : ∀ i, f i < 256) : Go.bits .or .u64 (IntKind.u64.wrap (((nums f o j : Nat) : Int) * 256)) (IntKind.u64.wrap ((f (o + j) : Nat) : Int)) = ((nums f o (j + 1) : Nat) : Int) := by
  have h1 : nums f o j < 256 ^ j := nums_lt fun i _ => hf _
  have h2 : 256 ^ j ≤ 256 ^ 7 := Nat.pow_le_pow_right (by decide) (by omega)
  have h3 : nums f o j < 72057594037927936 := Nat.lt_of_lt_of_le h1 h2
  have hb := hf (o + j)
  rw [IntKind.wrap_u64, IntKind.wrap_u64]
  have e2 : ((f (o + j) : Nat) : Int) % 18446744073709551616 = ((f (o + j) : Nat) : Int) := by omega
  have e1 : ((nums f o j : Nat) : Int) * 256 % 18446744073709551616 = ((2 ^ 8 * nums f o j : Nat) : Int) := by
    have : (2 : Nat) ^ 8 = 256 := rfl
    rw [this]
    omega
  rw [e1, e2, u64_or_nat _ _ (by have : (2 : Nat) ^ 8 = 256 := rfl; omega) (by omega), ← Nat.two_pow_add_eq_or_of_lt (by exact hb)]
  show ((2 ^ 8 * nums f o j + f (o + j) : Nat) : Int) = ((nums f o j * 256 + f (o + j) : Nat) : Int)
  have : (2 : Nat) ^ 8 = 256 := rfl
  rw [this, Nat.mul_comm]

theorem sgn_int {U : Nat} (h : U < 18446744073709551616) : IntKind.i64.wrap (U : Int) = sgn U := by
  rw [IntKind.wrap_i64, sgn]
  split <;> omega

theorem sgn_w64 {U : Nat} (h : U < 18446744073709551616) : wrap64 (U : Int) = sgn U := by
  unfold wrap64 sgn
  split <;> omega

set_option maxRecDepth 100000 in
theorem numbers_any {w : World} {oa : Option Addr} {c : Nat} {f : Nat → Nat} (hs : Sl w .u8 oa 24 c f) (hf : ∀ i, f i < 256) :
    Calls Try.prog 25 #[.slice oa 24 c] w fun e w' => e = .returned (.tuple #[.int .u64 (num8 f 0 : Nat), .int .i64 (sgn (num8 f 8))]) ∧ w = w' := by
  obtain ⟨b, off, rfl, hlt, hc⟩ := hs.at_ (by decide)
  have HC := hid hc
  have HF := hid hf
  clear hs hc hf
  go_enter Try.func25, Try.ntmps25
  go_wp2_with fail
  go_loopw [4, 5, 7] (fun x y i wr => ∃ (j : Nat), j ≤ 8 ∧ x = .int .u64 (nums f 0 j : Nat) ∧ y = .int .u64 (nums f 8 j : Nat) ∧ i = .int .i64 (j : Int) ∧ wr = w) (fun _ _ i _ => 8 - (intOf i).toNat)
  case atStart => exact ⟨0, by decide, rfl, rfl, rfl, rfl⟩
  case round =>
    obtain ⟨j, hj, rfl, rfl, rfl, rfl⟩ := hrel
    by_cases hlt : j < 8
    · have c1 := HC.out j (by omega)
      have c2 := HC.out (8 + j) (by omega)
      have S1 := hid (nums_step (f := f) (o := 0) hlt HF.out)
      have S2 := hid (nums_step (f := f) (o := 8) hlt HF.out)
      rw [Nat.zero_add] at S1
      obtain ⟨x, hx⟩ : ∃ x, x = nums f 0 j := ⟨_, rfl⟩
      obtain ⟨y, hy⟩ : ∃ y, y = nums f 8 j := ⟨_, rfl⟩
      rw [← hx] at S1 ⊢
      rw [← hy] at S2 ⊢
      have HX := hid hx
      have HY := hid hy
      clear hx hy
      have s0 : (0 : Int) ≤ (j : Int) := by omega
      have s1 : (j : Int) < 24 := by omega
      have s2 : (8 : Int) + (j : Int) < 24 := by omega
      go_wp2_with fail
      refine ⟨⟨j + 1, by omega, by rw [S1.out], by rw [S2.out], by go_num, trivial⟩, ?_⟩
      simp [intOf]
      omega
    · obtain rfl : j = 8 := by omega
      have hN : num8 f 8 < 18446744073709551616 := num8_lt fun i _ => HF.out _
      have HN := hid (sgn_w64 hN)
      clear hN
      go_wp2_with fail
      go_ret2
      refine ⟨?_, rfl⟩
      rw [← HN.out]
      rfl

end Go.Proofs.Ytkkcaicihhkahaa
