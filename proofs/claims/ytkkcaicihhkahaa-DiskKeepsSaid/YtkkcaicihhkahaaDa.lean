/-
  The walks of a word's turn.
-/
import Derived.Test.YtkkcaicihhkahaaBase
import Derived.Laws.BitsAllLaws
namespace Go.Proofs.Ytkkcaicihhkahaa
open Go.RowKit

/-- A word of 32 binary digits turned n places down. -/
def rot (x n : Nat) : Nat := (x * 2 ^ (32 - n)) % 4294967296 ||| x / 2 ^ n

theorem rot_lt {x n : Nat} (hx : x < 4294967296) : rot x n < 4294967296 :=
  Nat.or_lt_two_pow (n := 32) (Nat.mod_lt _ (by decide)) (Nat.lt_of_le_of_lt (Nat.div_le_self _ _) hx)

theorem mask_turn : ∀ n : Fin 32, n.val ≠ 0 → Go.bits .and .u64 (18446744073709551616 - (n.val : Int)) 31 = ((32 - n.val : Nat) : Int) := by decide +kernel

set_option maxHeartbeats 1600000 in
theorem rotl_any (x n : Nat) (hx : x < 4294967296) (hn : 1 ≤ n) (hn' : n ≤ 31) (w : World) :
    Calls Try.prog 68 #[.int .u32 (x : Nat), .int .i64 (-(n : Int))] w fun e w' => e = .returned (.int .u32 (rot x n : Nat)) ∧ w = w' := by
  have hm := mask_turn ⟨n, by omega⟩ (show n ≠ 0 by omega)
  have hm2 : Go.bits .and .u64 (18446744073709551616 - (n : Int)) 31 = ((32 - n : Nat) : Int) := hm
  have hw : IntKind.u64.wrap (-(n : Int)) = 18446744073709551616 - (n : Int) := by
    rw [show IntKind.u64.wrap (-(n : Int)) = (-(n : Int)) % 18446744073709551616 from by simp [IntKind.wrap, IntKind.bits, IntKind.signed]]
    omega
  have hs : ((32 - n : Nat) : Int) = 32 - (n : Int) := by omega
  obtain ⟨s, hsd⟩ : ∃ s, s = 32 - n := ⟨_, rfl⟩
  rw [← hsd] at hm2
  have hs1 : 1 ≤ s := by omega
  have hs2 : s ≤ 31 := by omega
  have hns : IntKind.u64.wrap (32 - (s : Int)) = (n : Int) := by
    rw [show IntKind.u64.wrap (32 - (s : Int)) = (32 - (s : Int)) % 18446744073709551616 from by simp [IntKind.wrap, IntKind.bits, IntKind.signed]]
    omega
  have HS := hid hsd
  clear hm hs hsd
  go_enter Try.func68, Try.ntmps68
  go_wp2_with fail
  go_ret
  refine ⟨?_, rfl⟩
  have e1 : ((x : Int) * 2 ^ s % 4294967296) = ((x * 2 ^ s % 4294967296 : Nat) : Int) := by simp
  have e2 : ((x : Int) / 2 ^ n) = ((x / 2 ^ n : Nat) : Int) := by simp
  rw [e1, e2]
  show Ending.returned (.int .u32 (Go.bits .or .u32 ((x * 2 ^ s % 4294967296 : Nat) : Int) ((x / 2 ^ n : Nat) : Int))) = _
  rw [u32_or_nat _ _ (Nat.mod_lt _ (by decide)) (Nat.lt_of_le_of_lt (Nat.div_le_self _ _) hx), HS.out]
  rfl

/-- A word turned. -/
theorem turn_any (x n : Nat) (hx : x < 4294967296) (hn : 1 ≤ n) (hn' : n ≤ 31) (w : World) :
    Calls Try.prog 67 #[.int .u32 (x : Nat), .int .i64 (n : Nat)] w fun e w' => e = .returned (.int .u32 (rot x n : Nat)) ∧ w = w' := by
  go_enter Try.func67, Try.ntmps67
  go_wp2_with fail
  refine (rotl_any x n hx hn hn' w).mono ?_
  rintro e w1 ⟨rfl, rfl⟩
  go_wp2_with fail
  go_ret
  exact ⟨rfl, rfl⟩

end Go.Proofs.Ytkkcaicihhkahaa
