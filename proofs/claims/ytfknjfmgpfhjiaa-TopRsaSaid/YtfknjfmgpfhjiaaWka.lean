/-
  The walks of the reference's below, Primes, exponent, and of Among told whole.
-/
import Derived.Test.YtfknjfmgpfhjiaaWzg
import Derived.Test.YtfknjfmgpfhjiaaPrmb
namespace Go.Proofs.Ytfknjfmgpfhjiaa
open Go.RowKit Keys

def fulls : Nat → Nat := fun _ => 4294967295

theorem full_val : ∀ n, val fulls n + 1 = W n
  | 0 => rfl
  | n + 1 => by
    rw [val_succ, W_succ]
    have := full_val n
    have e : fulls n = 4294967295 := rfl
    rw [e]
    omega

/-- A row whose first digit is turned. -/
theorem val_first {f : Nat → Nat} {v : Nat} : ∀ n, 0 < n → val (upd f 0 v) n + f 0 = val f n + v
  | 0, h => absurd h (by decide)
  | 1, _ => by
    rw [val_succ, val_succ, val_zero, val_zero, upd_same, W_zero]
    omega
  | n + 2, _ => by
    have h := val_first (f := f) (v := v) (n + 1) (by omega)
    rw [val_succ, val_succ (f := f) (n + 1), upd_other _ _ (by omega)]
    omega

/-- A remainder as one that is not below 0. -/
theorem emod_of_tmod (k : Int) (n : Nat) (hn : 0 < n) : (Int.tmod k n < 0 → Int.tmod k n + n = k % n) ∧ (¬ Int.tmod k n < 0 → Int.tmod k n = k % n) := by
  have h1 := Int.emod_nonneg k (show (n : Int) ≠ 0 by omega)
  have h2 := Int.emod_lt_of_pos k (show (0 : Int) < n by omega)
  have h4 := Int.tmod_lt_of_pos k (show (0 : Int) < n by omega)
  have h5 : -(n : Int) < Int.tmod k n := by
    have := Int.lt_tmod_of_pos k (show (0 : Int) < n by omega)
    omega
  have h6 : (n : Int) ∣ Int.tmod k n - k % n := by
    have a1 := Int.tmod_add_mul_tdiv k n
    have a2 := Int.emod_add_mul_ediv k n
    refine ⟨k / n - Int.tdiv k n, ?_⟩
    rw [Int.mul_sub]
    omega
  obtain ⟨c, hc⟩ := h6
  have hc1 : c = 0 ∨ c = -1 := by
    have b1 : (n : Int) * c < n * 1 := by omega
    have b2 : (n : Int) * (-2) < n * c := by omega
    have c1 := Int.lt_of_mul_lt_mul_left b1 (by omega)
    have c2 := Int.lt_of_mul_lt_mul_left b2 (by omega)
    omega
  rcases hc1 with rfl | rfl
  · rw [Int.mul_zero] at hc
    constructor <;> intro h <;> omega
  · rw [Int.mul_neg, Int.mul_one] at hc
    constructor <;> intro h <;> omega

theorem among_exact (k : Int) (n : Nat) (hk : -9223372036854775808 ≤ k ∧ k ≤ 9223372036854775807) (hn : 0 < n) (hn' : n ≤ 1000) (w : World) :
    Calls Try.prog 38 #[.int .i64 k, .int .i64 n] w fun e w' => e = .returned (.int .i64 ((k % (n : Int)).toNat : Nat)) ∧ w = w' := by
  obtain ⟨hk1, hk2⟩ := hk
  have h0 := Int.emod_nonneg k (show (n : Int) ≠ 0 by omega)
  have h1 := Int.tmod_lt_of_pos k (show (0 : Int) < n by omega)
  have h2 : -(n : Int) < Int.tmod k n := by
    have := Int.lt_tmod_of_pos k (show (0 : Int) < n by omega)
    omega
  have HE := hid (emod_of_tmod k n hn)
  have H0 := hid h0
  clear h0
  generalize hr : Int.tmod k n = r at *
  have hr2 : (Int.tmod k (n : Int)) = r := hr
  clear hr
  by_cases h0 : r < 0
  · have HR := hid (HE.out.1 h0)
    go_enter Try.func38, Try.ntmps38
    go_wp2_with fail
    go_ret
    exact ⟨congrArg (fun x => Ending.returned (Value.int .i64 x)) (by rw [Int.max_eq_left H0.out]; exact HR.out), rfl⟩
  · have HR := hid (HE.out.2 h0)
    go_enter Try.func38, Try.ntmps38
    go_wp2_with fail
    go_ret
    exact ⟨congrArg (fun x => Ending.returned (Value.int .i64 x)) (by rw [Int.max_eq_left H0.out]; exact HR.out), rfl⟩

set_option maxHeartbeats 1600000 in
theorem below_any (n k : Nat) (w : World) (hn : n ≤ 1000) (hn0 : 32 ≤ n) (hk0 : 1 ≤ k) (hk : k ≤ 1000) :
    Calls Try.prog 60 #[.int .i64 (n : Nat), .int .u32 (k : Nat)] w fun e w' => ∃ v L, e = .returned v ∧ L ≤ 40 ∧ Rd w' v L (2 ^ n - k) ∧ Below w.heap.size w w' := by
  go_enter Try.func60, Try.ntmps60
  go_wp2_with fail
  go_loopw [5, 6] (fun a i wr => ∃ (j c : Nat) (oa : Option Addr), j ≤ n / 32 ∧ i = .int .i64 j ∧ a = .slice oa j c ∧ Own w.heap.size wr .u32 60 oa j c fulls ∧ Below w.heap.size w wr) (fun _ i _ => n / 32 - (intOf i).toNat)
  case atStart => exact ⟨0, 0, none, Nat.zero_le _, rfl, rfl, Own.nil _ _ _ _ _, Below.refl _ _⟩
  case round =>
    obtain ⟨j, c, oa, hj, rfl, rfl, hown, hbl⟩ := hrel
    have HO := hid hown
    have HL := hid hbl
    have hz := hbl.size
    clear hown hbl
    by_cases hlt : j < n / 32
    · go_wp2_with (at_builtin; refine wpList_app1 (w0 := wr) (v := 4294967295) rfl _ _ k32 rfl w.heap.size j oa c fulls rfl rfl HO.out (by omega) hz ?_)
      intro oa' c' w' h1 h2 h3
      have HO2 := hid (h1.congr (g := fulls) fun t _ => by unfold upd fulls; split <;> rfl)
      have HL2 := hid (HL.out.trans h3)
      clear h1 h2 h3
      go_wp2_with fail
      go_roundw
      case rel => exact ⟨j + 1, c', oa', by omega, by go_num, rfl, HO2.out, HL2.out⟩
      case measure => simp [intOf]; omega
    · obtain rfl : j = n / 32 := by omega
      have hfv := full_val (n / 32)
      by_cases hm : n % 32 = 0
      · have hmi : decide (((n : Int) % 32) > 0) = false := by simp; omega
        have HF0 := hid (show fulls 0 = 4294967295 from rfl)
        have HFL := hid (show ∀ t, fulls t < 4294967296 from fun _ => (by decide : (4294967295 : Nat) < 4294967296))
        have HVAL := hid (show val fulls (n / 32) + 1 = 2 ^ n by rw [hfv, W]; congr 1; omega)
        have HO3 := HO
        have HL3 := HL
        clear hfv hm
        obtain ⟨g0, hg0, hgB, hz3, hcell, hfr⟩ := HO3.out.at_ (by omega)
        cases hg0
        have hc0 := hcell 0 (by omega)
        have HC0 := hid hc0
        rw [show fulls 0 = 4294967295 from HF0.out] at hc0
        have hf0 := hfr 0
        have hke2 : ((4294967295 : Int) - (k : Int)) + 1 = ((4294967296 - k : Nat) : Int) := by omega
        clear hcell hfr
        go_wp2_with fail
        go_ret
        refine ⟨_, (n/32), rfl, by omega, ⟨_, _, _, rfl, (HO3.out.stored 0 (4294967296 - k)).sl, fun t ht => ?_, ?_⟩, HL3.out.setCell hgB _⟩
        · by_cases c1 : t = 0
          · subst c1; rw [upd_same]; omega
          · rw [upd_other _ _ c1]; exact HFL.out t
        · have h5 := val_first (f := fulls) (v := 4294967296 - k) ((n/32)) (by omega)
          have h6 := HF0.out
          have h7 := HVAL.out
          have h8 : k ≤ 2 ^ n := Nat.le_trans (show k ≤ 2 ^ 32 by omega) (Nat.pow_le_pow_right (by decide) hn0)
          omega
      · have hmi : decide (((n : Int) % 32) > 0) = true := by simp; omega
        have hP : 2 ^ (n % 32) ≤ 2147483648 := Nat.pow_le_pow_right (n := 2) (by decide) (show n % 32 ≤ 31 by omega)
        have hP0 : 0 < 2 ^ (n % 32) := Nat.pow_pos (by decide)
        have e1 : (((2 : Int) ^ (n % 32)) - 1) % 4294967296 = ((2 ^ (n % 32) - 1 : Nat) : Int) := by
          have : ((2 : Int) ^ (n % 32)) = ((2 ^ (n % 32) : Nat) : Int) := by simp
          rw [this]
          omega
        have E1 := hid e1
        have hvl : 2 ^ (n % 32) - 1 < 4294967296 := by omega
        have HVAL : Hid (val (upd fulls (n / 32) (2 ^ (n % 32) - 1)) (n / 32 + 1) + 1 = 2 ^ n) := by
          have h1 : val (upd fulls (n / 32) (2 ^ (n % 32) - 1)) (n / 32 + 1) + 1 = 2 ^ n := by
            rw [val_succ, upd_same, val_congr (g := fulls) (fun j hj => upd_other _ _ (by omega))]
            have h2 : 2 ^ n = 2 ^ (n % 32) * W (n / 32) := by rw [W, ← Nat.pow_add]; congr 1; omega
            rw [h2, Nat.sub_mul, Nat.one_mul]
            have h4 : W (n / 32) ≤ 2 ^ (n % 32) * W (n / 32) := Nat.le_mul_of_pos_left _ hP0
            omega
          exact h1
        have HF0 := hid (show upd fulls (n / 32) (2 ^ (n % 32) - 1) 0 = 4294967295 from upd_other _ _ (by omega))
        have HFL := hid (show ∀ t, upd fulls (n / 32) (2 ^ (n % 32) - 1) t < 4294967296 from fun t => by
          unfold upd
          split
          · exact hvl
          · exact (by decide : (4294967295 : Nat) < 4294967296))
        obtain ⟨row, hrow⟩ : ∃ row, row = upd fulls (n / 32) (2 ^ (n % 32) - 1) := ⟨_, rfl⟩
        rw [← hrow] at HVAL HF0 HFL
        have HROW := hid hrow
        clear e1 hP hP0 hvl hfv hm hrow
        go_wp2_with (at_builtin; rw [E1.out]; refine wpList_app1 (w0 := wr) (v := 2 ^ (n % 32) - 1) rfl _ _ k32 rfl w.heap.size (n / 32) oa c fulls rfl rfl HO.out (by omega) hz ?_)
        intro oa' c' w' h1 h2 h3
        rw [← HROW.out] at h1
        have HO3 := hid h1
        have HL3 := hid (HL.out.trans h3)
        clear h1 h2 h3 HO
        obtain ⟨g0, hg0, hgB, hz3, hcell, hfr⟩ := HO3.out.at_ (by omega)
        cases hg0
        have hc0 := hcell 0 (by omega)
        have HC0 := hid hc0
        rw [show row 0 = 4294967295 from HF0.out] at hc0
        have hf0 := hfr 0
        have hke2 : ((4294967295 : Int) - (k : Int)) + 1 = ((4294967296 - k : Nat) : Int) := by omega
        clear hcell hfr
        go_wp2_with fail
        go_ret
        refine ⟨_, (n/32+1), rfl, by omega, ⟨_, _, _, rfl, (HO3.out.stored 0 (4294967296 - k)).sl, fun t ht => ?_, ?_⟩, HL3.out.setCell hgB _⟩
        · by_cases c1 : t = 0
          · subst c1; rw [upd_same]; omega
          · rw [upd_other _ _ c1]; exact HFL.out t
        · have h5 := val_first (f := row) (v := 4294967296 - k) ((n/32+1)) (by omega)
          have h6 := HF0.out
          have h7 := HVAL.out
          have h8 : k ≤ 2 ^ n := Nat.le_trans (show k ≤ 2 ^ 32 by omega) (Nat.pow_le_pow_right (by decide) hn0)
          omega

theorem rd_len {w : World} {v : Value} {L N : Nat} (h : Rd w v L N) : Rd w v L N := h

/-- The reference's primes. -/
theorem primes_ref (i : Nat) (hi : i < 6) (w : World) : Calls Try.prog 19 #[.int .i64 (i : Nat)] w fun e w' => ∃ v L, e = .returned v ∧ L ≤ 40 ∧ Rd w' v L (pt i) ∧ Below w.heap.size w w' := by
  have HA := hid (fun w => among_exact (i : Int) 6 (by omega) (by decide) (by decide) w)
  rw [show (((i : Int) % ((6 : Nat) : Int)).toNat) = i from by omega] at HA
  match i, hi with
  | 0, _ =>
    have hpt : pt 0 = 2 ^ 256 - 189 := by decide +kernel
    rw [hpt]
    go_enter Try.func19, Try.ntmps19
    go_wp2_with fail
    refine (HA.out w).mono ?_
    rintro e w1 ⟨rfl, rfl⟩
    go_wp2_with fail
    refine Calls.mono (below_any 256 189 w (by decide) (by decide) (by decide) (by decide)) ?_
    rintro e w1 ⟨v, L, rfl, hL, hr, hb⟩
    have HR := hid hr
    have HB := hid hb
    clear hr hb
    go_wp2_with fail
    go_ret
    exact ⟨_, L, rfl, hL, HR.out, HB.out⟩
  | 1, _ =>
    have hpt : pt 1 = 2 ^ 255 - 19 := by decide +kernel
    rw [hpt]
    go_enter Try.func19, Try.ntmps19
    go_wp2_with fail
    refine (HA.out w).mono ?_
    rintro e w1 ⟨rfl, rfl⟩
    go_wp2_with fail
    refine Calls.mono (below_any 255 19 w (by decide) (by decide) (by decide) (by decide)) ?_
    rintro e w1 ⟨v, L, rfl, hL, hr, hb⟩
    have HR := hid hr
    have HB := hid hb
    clear hr hb
    go_wp2_with fail
    go_ret
    exact ⟨_, L, rfl, hL, HR.out, HB.out⟩
  | 2, _ =>
    have hpt : pt 2 = 2 ^ 256 - 357 := by decide +kernel
    rw [hpt]
    go_enter Try.func19, Try.ntmps19
    go_wp2_with fail
    refine (HA.out w).mono ?_
    rintro e w1 ⟨rfl, rfl⟩
    go_wp2_with fail
    refine Calls.mono (below_any 256 357 w (by decide) (by decide) (by decide) (by decide)) ?_
    rintro e w1 ⟨v, L, rfl, hL, hr, hb⟩
    have HR := hid hr
    have HB := hid hb
    clear hr hb
    go_wp2_with fail
    go_ret
    exact ⟨_, L, rfl, hL, HR.out, HB.out⟩
  | 3, _ =>
    have hpt : pt 3 = 2 ^ 255 - 31 := by decide +kernel
    rw [hpt]
    go_enter Try.func19, Try.ntmps19
    go_wp2_with fail
    refine (HA.out w).mono ?_
    rintro e w1 ⟨rfl, rfl⟩
    go_wp2_with fail
    refine Calls.mono (below_any 255 31 w (by decide) (by decide) (by decide) (by decide)) ?_
    rintro e w1 ⟨v, L, rfl, hL, hr, hb⟩
    have HR := hid hr
    have HB := hid hb
    clear hr hb
    go_wp2_with fail
    go_ret
    exact ⟨_, L, rfl, hL, HR.out, HB.out⟩
  | 4, _ =>
    have hpt : pt 4 = 2 ^ 257 - 93 := by decide +kernel
    rw [hpt]
    go_enter Try.func19, Try.ntmps19
    go_wp2_with fail
    refine (HA.out w).mono ?_
    rintro e w1 ⟨rfl, rfl⟩
    go_wp2_with fail
    refine Calls.mono (below_any 257 93 w (by decide) (by decide) (by decide) (by decide)) ?_
    rintro e w1 ⟨v, L, rfl, hL, hr, hb⟩
    have HR := hid hr
    have HB := hid hb
    clear hr hb
    go_wp2_with fail
    go_ret
    exact ⟨_, L, rfl, hL, HR.out, HB.out⟩
  | 5, _ =>
    have hpt : pt 5 = 2 ^ 521 - 1 := by decide +kernel
    rw [hpt]
    go_enter Try.func19, Try.ntmps19
    go_wp2_with fail
    refine (HA.out w).mono ?_
    rintro e w1 ⟨rfl, rfl⟩
    go_wp2_with fail
    refine Calls.mono (below_any 521 1 w (by decide) (by decide) (by decide) (by decide)) ?_
    rintro e w1 ⟨v, L, rfl, hL, hr, hb⟩
    have HR := hid hr
    have HB := hid hb
    clear hr hb
    go_wp2_with fail
    go_ret
    exact ⟨_, L, rfl, hL, HR.out, HB.out⟩
  | _ + 6, h => exact absurd h (by omega)

/-- Numbers that have been laid in a new block. -/
theorem sl_lits (w : World) (l : List Nat) (hl : l.length ≤ 1000) : Sl (w.alloc (.cells (l.map fun x => Value.int .u32 (x : Nat)).toArray 60)) .u32 (some ⟨w.heap.size, 0, none⟩) l.length l.length (fun j => l.getD j 0) := by
  refine ⟨Nat.le_refl _, by simp only [maxLen]; omega, (fun h => by cases h), fun _ => ⟨w.heap.size, 0, rfl, by simp, fun j hj => ?_⟩⟩
  rw [World.cell?_alloc_at _ _ _ _ rfl]
  simp [hj]

end Go.Proofs.Ytfknjfmgpfhjiaa
