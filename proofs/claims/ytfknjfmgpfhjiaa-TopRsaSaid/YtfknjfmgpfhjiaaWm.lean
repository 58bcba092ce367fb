/-
  The walk of nat.shifted.
-/
import Derived.Test.YtfknjfmgpfhjiaaWl
import Derived.Test.YtfknjfmgpfhjiaaMathd
namespace Go.Proofs.Ytfknjfmgpfhjiaa
open Go.RowKit

theorem pow_div_base {s : Nat} (hs : s < 32) : 4294967296 % 2 ^ s = 0 := by
  have : (4294967296 : Nat) = 2 ^ s * 2 ^ (32 - s) := by rw [← Nat.pow_add]; rw [show s + (32 - s) = 32 from by omega]
  rw [this, Nat.mul_mod_right]

theorem or_low32 (a y P : Nat) (s : Nat) (hP : P = 2 ^ s) (ha : a < P) (hy : y % P = 0) (hy' : y < 4294967296) (hP' : P ≤ 4294967296) : Go.bits .or .u32 (a : Int) (y : Int) = ((a + y : Nat) : Int) := by
  have h := u32_or_nat a y (by omega) hy'
  rw [Nat.or_comm, nat_join s y a (by rw [← hP]; exact hy) (by rw [← hP]; exact ha)] at h
  rw [h, Nat.add_comm]

set_option maxHeartbeats 1600000 in
theorem shifted_any (oa : Option Addr) (n ca s : Nat) (f : Nat → Nat) (w : World) (ha : Sl w .u32 oa n ca f) (hf : ∀ j, j < n → f j < 4294967296) (hn : n ≤ 1000000) (hs : s < 32) :
    Calls Try.prog 58 #[.slice oa n ca, .int .u64 s] w fun e w' => e = .returned (.slice (some ⟨w.heap.size, 0, none⟩) (n + 1) (n + 1)) ∧ Own w.heap.size w' .u32 60 (some ⟨w.heap.size, 0, none⟩) (n + 1) (n + 1) (dg (val f n * 2 ^ s)) ∧ Below w.heap.size w w' := by
  have HA := hid ha
  have HF := hid hf
  clear ha hf
  go_enter Try.func58, Try.ntmps58
  go_wp2_with (at_make; refine wpList_mk rfl _ _ k32 rfl .i64 .i64 _ _ (n + 1) rfl rfl (by omega) (by omega) (by omega) ?_)
  intro w1 hown hbl hz
  have HO := hid hown
  have HB1 := hid hbl
  clear hown hbl
  go_wp2_with fail
  go_loopw [15] (fun i wr => ∃ (j : Nat), j ≤ n ∧ i = .int .i64 j ∧ Own w.heap.size wr .u32 60 (some ⟨w.heap.size, 0, none⟩) (n + 1) (n + 1) (dg (val f j * 2 ^ s)) ∧ Below w.heap.size w wr) (fun i _ => n - (intOf i).toNat)
  case atStart => exact ⟨0, Nat.zero_le _, rfl, HO.out.congr (fun t _ => by rw [val_zero, Nat.zero_mul]; simp [dg]), HB1.out⟩
  case round =>
    obtain ⟨j, hj, rfl, hown, hbl⟩ := hrel
    have HO2 := hid hown
    have HL := hid hbl
    have hz2 := hbl.size
    by_cases hlt : j < n
    · obtain ⟨g0, hg0, _, hz3, hcell, hfr⟩ := hown.at_ (by omega)
      cases hg0
      have hcj := hcell j (by omega)
      have hcj1 := hcell (j + 1) (by omega)
      have hfrj := hfr j
      have hfrj1 := hfr (j + 1)
      have hx : ∃ b off, oa = some ⟨b, off, none⟩ ∧ wr.cell? ⟨b, off + j, none⟩ = some (.int .u32 (f j : Nat)) := by
        obtain ⟨b, off, e, hb, hc⟩ := HA.out.at_ (by omega)
        refine ⟨b, off, e, ?_⟩
        rw [HL.out.cell (p := ⟨b, off + j, none⟩) hb, hc j (by omega)]
      obtain ⟨b, off, rfl, hx⟩ := hx
      clear hown hbl hcell hfr
      have hl := HF.out j hlt
      go_wp2_with fail
      obtain ⟨P, hP⟩ : ∃ P, P = 2 ^ s := ⟨_, rfl⟩
      have hPd : 4294967296 % P = 0 := by rw [hP]; exact pow_div_base hs
      have hPp : 0 < P := by rw [hP]; exact Nat.pow_pos (by decide)
      have hPle : P ≤ 2147483648 := by rw [hP]; exact Nat.pow_le_pow_right (by decide) (show s ≤ 31 by omega)
      obtain ⟨s1, s2, s3, s4, s5, s6, s7⟩ := shift_step (f := f) (j := j) (fun t ht => HF.out t (by omega)) hPp hPd
      have hyb : f j * P ≤ 4294967295 * 2147483648 := Nat.mul_le_mul (by omega) hPle
      have hp2 : ((2 : Int) ^ s) = ((P : Nat) : Int) := by rw [hP]; simp
      have e1 : IntKind.u64.wrap (((f j : Nat) : Int) * 2 ^ s) = ((f j * P : Nat) : Int) := by
        rw [hp2, ← Int.natCast_mul, IntKind.wrap_u64]
        omega
      have e2 : ((f j * P : Nat) : Int) % 4294967296 = ((f j * P % 4294967296 : Nat) : Int) := by omega
      have e3 : Go.bits .or .u32 ((dg (val f j * P) j : Nat) : Int) ((f j * P % 4294967296 : Nat) : Int) = ((dg (val f (j + 1) * P) j : Nat) : Int) := by
        rw [s2]; exact or_low32 _ _ P s hP s3 s4 (Nat.mod_lt _ (by decide)) (by omega)
      have e4 : ((f j * P : Nat) : Int) / 4294967296 % 4294967296 = ((dg (val f (j + 1) * P) (j + 1) : Nat) : Int) := by
        rw [s5 (by omega)]; omega
      rw [e1, e2, e4]
      have HO3 := HO2.out
      rw [← hP] at HO3 ⊢
      rw [e3]
      go_roundw
      case rel =>
        refine ⟨j + 1, by omega, by go_num, ((HO3.stored j _).stored (j + 1) _).congr fun t ht => ?_, (HL.out.setCell (Nat.le_refl _) _).setCell (Nat.le_refl _) _⟩
        by_cases c1 : t = j + 1
        · subst c1; exact upd_same _ _ _
        · rw [upd_other _ _ c1]
          by_cases c2 : t = j
          · subst c2; exact upd_same _ _ _
          · rw [upd_other _ _ c2]
            by_cases c3 : t < j
            · exact (s1 t c3).symm
            · rw [s7 t (by omega) (by omega), s6 t (by omega) (by omega)]
      case measure => simp [intOf]; omega
    · obtain rfl : j = n := by omega
      clear hown hbl
      go_wp2_with fail
      go_ret
      exact ⟨rfl, HO2.out, HL.out⟩

end Go.Proofs.Ytfknjfmgpfhjiaa
