/-
  The walk of the law NatPrimes.
-/
import Derived.Test.YtfknjfmgpfhjiaaWx
import Derived.Test.YtfknjfmgpfhjiaaPrma
namespace Go.Proofs.Ytfknjfmgpfhjiaa
open Go.RowKit

theorem val_full : ∀ n, val (fun _ => 4294967295) n + 1 = W n
  | 0 => rfl
  | n + 1 => by
    rw [val_succ, W_succ]
    have := val_full n
    omega

/-- The digits of 2 to the n, less 1. -/
theorem val_mersenne (n : Nat) : val (upd (fun _ => 4294967295) (n / 32) (2 ^ (n % 32) - 1)) (n / 32 + 1) = 2 ^ n - 1 := by
  rw [val_succ, upd_same, val_congr (g := fun _ => 4294967295) (fun j hj => upd_other _ _ (by omega))]
  have h1 := val_full (n / 32)
  have h2 : 2 ^ n = 2 ^ (n % 32) * W (n / 32) := by rw [W, ← Nat.pow_add]; congr 1; omega
  have h3 : 0 < 2 ^ (n % 32) := Nat.pow_pos (by decide)
  rw [h2, Nat.sub_mul, Nat.one_mul]
  have h4 : W (n / 32) ≤ 2 ^ (n % 32) * W (n / 32) := Nat.le_mul_of_pos_left _ h3
  omega

set_option maxHeartbeats 1600000 in
theorem mersenne_any (n : Nat) (w : World) (hn : n ≤ 1000) :
    Calls Try.prog 37 #[.int .i64 (n : Nat)] w fun e w' => ∃ v, e = .returned v ∧ Rd w' v (n / 32 + 1) (2 ^ n - 1) ∧ Below w.heap.size w w' := by
  go_enter Try.func37, Try.ntmps37
  go_wp2_with fail
  go_loopw [3, 4] (fun a i wr => ∃ (j c : Nat) (oa : Option Addr), j ≤ n / 32 ∧ i = .int .i64 j ∧ a = .slice oa j c ∧ Own w.heap.size wr .u32 60 oa j c (fun _ => 4294967295) ∧ Below w.heap.size w wr) (fun _ i _ => n / 32 - (intOf i).toNat)
  case atStart => exact ⟨0, 0, none, Nat.zero_le _, rfl, rfl, Own.nil _ _ _ _ _, Below.refl _ _⟩
  case round =>
    obtain ⟨j, c, oa, hj, rfl, rfl, hown, hbl⟩ := hrel
    have HO := hid hown
    have HL := hid hbl
    have hz := hbl.size
    clear hown hbl
    by_cases hlt : j < n / 32
    · go_wp2_with (at_builtin; refine wpList_app1 (w0 := wr) (v := 4294967295) rfl _ _ k32 rfl w.heap.size j oa c (fun _ => 4294967295) rfl rfl HO.out (by omega) hz ?_)
      intro oa' c' w' h1 h2 h3
      have HO2 := hid (h1.congr (g := fun _ => 4294967295) fun t _ => by unfold upd; split <;> rfl)
      have HL2 := hid (HL.out.trans h3)
      clear h1 h2 h3
      go_wp2_with fail
      go_roundw
      case rel => exact ⟨j + 1, c', oa', by omega, by go_num, rfl, HO2.out, HL2.out⟩
      case measure => simp [intOf]; omega
    · obtain rfl : j = n / 32 := by omega
      have hP : 2 ^ (n % 32) ≤ 2147483648 := Nat.pow_le_pow_right (n := 2) (by decide) (show n % 32 ≤ 31 by omega)
      have hP0 : 0 < 2 ^ (n % 32) := Nat.pow_pos (by decide)
      have e1 : (((2 : Int) ^ (n % 32)) - 1) % 4294967296 = ((2 ^ (n % 32) - 1 : Nat) : Int) := by
        have : ((2 : Int) ^ (n % 32)) = ((2 ^ (n % 32) : Nat) : Int) := by simp
        rw [this]
        omega
      have E1 := hid e1
      have hvl : 2 ^ (n % 32) - 1 < 4294967296 := by omega
      have HVL := hid hvl
      clear e1 hP hP0 hvl
      go_wp2_with (at_builtin; rw [E1.out]; refine wpList_app1 (w0 := wr) (v := 2 ^ (n % 32) - 1) rfl _ _ k32 rfl w.heap.size (n / 32) oa c (fun _ => 4294967295) rfl rfl HO.out (by omega) hz ?_)
      intro oa' c' w' h1 h2 h3
      have HO2 := hid h1
      have HL2 := hid (HL.out.trans h3)
      clear h1 h2 h3
      go_wp2_with fail
      go_ret
      refine ⟨_, rfl, ⟨oa', c', _, rfl, HO2.out.sl, fun j _ => ?_, val_mersenne n⟩, HL2.out⟩
      unfold upd
      split
      · exact HVL.out
      · exact Nat.lt_succ_self _

/-- The exponents of NatPrimes. -/
def mexp : Nat → Nat := fun i => [13, 17, 19, 31, 61, 89, 107, 127].getD i 0

theorem mexp_prm : ∀ i, i < 8 → Prm (2 ^ mexp i - 1) ∧ mexp i ≤ 127
  | 0, _ => ⟨prm_8191, by decide⟩
  | 1, _ => ⟨prm_131071, by decide⟩
  | 2, _ => ⟨prm_524287, by decide⟩
  | 3, _ => ⟨prm_2147483647, by decide⟩
  | 4, _ => ⟨prm_2305843009213693951, by decide⟩
  | 5, _ => ⟨prm_618970019642690137449562111, by decide⟩
  | 6, _ => ⟨prm_162259276829213363391578010288127, by decide⟩
  | 7, _ => ⟨prm_170141183460469231731687303715884105727, by decide⟩
  | _ + 8, h => absurd h (by omega)

theorem inv_prime {A p V : Nat} {c : Int} (hp : Prm p) (h : IsInv A p V c) : if A % p = 0 then c = 13 ∧ V = 0 else c = 0 ∧ V * A % p = 1 := by
  obtain ⟨h1, h2⟩ := h
  have h3 := hp.1
  by_cases hd : A % p = 0
  · rw [if_pos hd]
    rw [if_neg] at h2
    · exact h2
    · intro hg
      have h4 : p ∣ Nat.gcd A p := Nat.dvd_gcd (Nat.dvd_of_mod_eq_zero hd) (Nat.dvd_refl p)
      rw [hg] at h4
      have := Nat.le_of_dvd (by decide) h4
      omega
  · rw [if_neg hd]
    rw [if_pos (hp.coprime fun h => hd (Nat.mod_eq_zero_of_dvd h)), Nat.mod_eq_of_lt (show 1 < p by omega)] at h2
    exact h2

set_option maxRecDepth 100000 in
set_option maxHeartbeats 3200000 in
theorem primes_any {w : World} {a : Value} {na : Nat} {f : Nat → Nat} {which : Int} (ha : Rf w a na f) (hk : -9223372036854775808 ≤ which ∧ which ≤ 9223372036854775807) :
    Calls Try.prog 10 #[a, .int .i64 which] w fun x w' => x = .returned (.bool true) ∧ Below w.heap.size w w' := by
  have HA := hid ha
  have HW := hid (Below.refl w.heap.size w)
  have hz : w.heap.size ≤ w.heap.size := Nat.le_refl _
  have AM := hid (fun w => among_any (w := w) which 8 hk (by decide) (by decide))
  clear ha hk
  go_enter Try.func10, Try.ntmps10
  go_wp2_with fail
  have hcl : ∀ i, i < 8 → (w.alloc (.cells #[.int .i64 13, .int .i64 17, .int .i64 19, .int .i64 31, .int .i64 61, .int .i64 89, .int .i64 107, .int .i64 127] 3)).cell? ⟨w.heap.size, i, none⟩ = some (.int .i64 (mexp i : Nat)) := by
    intro i hi
    rw [World.cell?_alloc_at _ _ _ _ rfl]
    match i, hi with
    | 0, _ => rfl
    | 1, _ => rfl
    | 2, _ => rfl
    | 3, _ => rfl
    | 4, _ => rfl
    | 5, _ => rfl
    | 6, _ => rfl
    | 7, _ => rfl
  have hb : Below w.heap.size w (w.alloc (.cells #[.int .i64 13, .int .i64 17, .int .i64 19, .int .i64 31, .int .i64 61, .int .i64 89, .int .i64 107, .int .i64 127] 3)) := (Below.refl _ w).alloc (Nat.le_refl _) _
  have hsz : w.heap.size < (w.alloc (.cells #[.int .i64 13, .int .i64 17, .int .i64 19, .int .i64 31, .int .i64 61, .int .i64 89, .int .i64 107, .int .i64 127] 3)).heap.size := by simp
  generalize (w.alloc (.cells #[.int .i64 13, .int .i64 17, .int .i64 19, .int .i64 31, .int .i64 61, .int .i64 89, .int .i64 107, .int .i64 127] 3)) = w0 at *
  have HS : Hid (Sl w0 .i64 (some ⟨w.heap.size, 0, none⟩) 8 8 mexp) := ⟨Nat.le_refl _, by simp [maxLen], (fun h => by cases h), fun _ => ⟨w.heap.size, 0, rfl, hsz, fun j hj => by rw [Nat.zero_add]; exact hcl j hj⟩⟩
  have HA := hid (HA.out.below hb)
  have HW := hid (HW.out.trans (hb.mono hz))
  have hz := HW.out.size
  clear hcl hb hsz
  refine (heavy_r HA.out).mono ?_
  rintro e w1 ⟨rfl, rfl⟩
  by_cases h1 : 24 < na
  · rw [decide_eq_true h1]
    go_wp2_with fail
    refine Calls.mono (known_true w0) ?_
    rintro e w2 ⟨rfl, hb⟩
    have HW := hid (HW.out.trans (hb.mono hz))
    have hz := HW.out.size
    clear hb
    go_wp2_with fail
    go_ret
    exact ⟨rfl, HW.out⟩
  rw [decide_eq_false h1]
  have RA := hid HA.out.rd
  obtain ⟨X, hX⟩ : ∃ X, X = val f na := ⟨_, rfl⟩
  rw [← hX] at RA
  have NX : Hid (nd X ≤ 24) := Nat.le_trans RA.out.nd_le (by omega)
  clear hX HA
  go_wp2_with fail
  refine Calls.mono (AM.out w0) ?_
  rintro e w1 ⟨r, rfl, hr, rfl⟩
  obtain ⟨hpm, hle⟩ := mexp_prm r hr
  obtain ⟨b0, off, hbe, hlt, hc⟩ := HS.out.at_ (by decide)
  cases hbe
  have hcr := hc r hr
  rw [Nat.zero_add] at hcr
  obtain ⟨n, hn⟩ : ∃ n, n = mexp r := ⟨_, rfl⟩
  rw [← hn] at hcr hpm hle
  have HP := hid hpm
  clear hc hpm hn HS
  go_wp2_with fail
  refine Calls.mono (mersenne_any n w0 (by omega)) ?_
  rintro e w1 ⟨v0, rfl, hx, hb⟩
  have HM := hid hx
  have RA := hid (RA.out.below hb)
  have HW := hid (HW.out.trans (hb.mono hz))
  have hz := HW.out.size
  clear hx hb
  go_wp2_with fail
  obtain ⟨p, hp⟩ : ∃ p, p = 2 ^ n - 1 := ⟨_, rfl⟩
  rw [← hp] at HM HP
  have hp0 : p ≠ 0 := fun h => by have := HP.out.1; omega
  have HP0 := hid hp0
  have HF := hid (fermat HP.out X)
  clear hp hp0 hcr
  refine Calls.mono (div_r (B := w.heap.size) hz RA.out HM.out (by omega) HP0.out) ?_
  rintro e w2 ⟨q, x, rfl, hx, hy, hb⟩
  have HQ := hid hx
  have HX := hid hy
  have RA := hid (RA.out.below hb)
  have HM := hid (HM.out.below hb)
  have HW := hid (HW.out.trans (hb.mono hz))
  have hz := HW.out.size
  clear hx hy hb
  go_wp2_with fail
  refine Calls.mono (pow_r (B := w.heap.size) hz RA.out HM.out HM.out (by omega) (by omega) (by omega) HP0.out) ?_
  rintro e w3 ⟨y, rfl, hx, hb⟩
  have HY := hid hx
  have RA := hid (RA.out.below hb)
  have HM := hid (HM.out.below hb)
  have HX := hid (HX.out.below hb)
  have HW := hid (HW.out.trans (hb.mono hz))
  have hz := HW.out.size
  clear hx hb
  go_wp2_with fail
  refine Calls.mono (ninv_any RA.out HM.out (by omega) (by omega) HP0.out) ?_
  rintro e w4 ⟨iv, V, c, rfl, ho, hi, hb⟩
  have hi2 := inv_prime HP.out hi
  have HVP := hid hi.1
  have HI := hid (ho.mono hz)
  have RA := hid (RA.out.below hb)
  have HM := hid (HM.out.below hb)
  have HX := hid (HX.out.below hb)
  have HY := hid (HY.out.below hb)
  have HW := hid (HW.out.trans (hb.mono hz))
  have hz := HW.out.size
  clear ho hi hb
  have NP : Hid (nd p ≤ 10) := Nat.le_trans HM.out.nd_le (by omega)
  by_cases hd : X % p = 0
  · rw [if_pos hd] at hi2
    obtain ⟨rfl, rfl⟩ := hi2
    have HD := hid hd
    clear hd
    go_wp2_with fail
    have HX2 := HX.out
    rw [HD.out] at HX2
    obtain ⟨ox, cx, rfl, hx1, hx2⟩ := HX2
    obtain ⟨oi, ci, rfl, hi1, hi2⟩ := HI.out
    clear hx1 hx2 hi1 hi2
    rw [nd_zero] at HX ⊢
    refine Calls.mono (same_e HX.out HY.out HF.out.symm) ?_
    rintro e w5 ⟨rfl, hb⟩
    have HW := hid (HW.out.trans (hb.mono hz))
    have hz := HW.out.size
    clear hb
    go_wp2_with fail
    refine Calls.mono (known_true _) ?_
    rintro e w6 ⟨rfl, hb⟩
    have HW := hid (HW.out.trans (hb.mono hz))
    have hz := HW.out.size
    clear hb
    go_wp2_with fail
    go_ret
    exact ⟨rfl, HW.out⟩
  · rw [if_neg hd] at hi2
    obtain ⟨rfl, h1⟩ := hi2
    have H1 := hid h1
    have hxp := nd_pos (Nat.pos_of_ne_zero hd)
    obtain ⟨ox, cx, rfl, hx1, hx2⟩ := HX.out
    have hlen : (((nd (X % p) : Nat) : Int) == 0) = false := by
      have h5 : ((nd (X % p) : Nat) : Int) ≠ 0 := by omega
      simpa using h5
    clear hx1 hx2 h1 hd hxp
    go_wp2_with fail
    refine Calls.mono (same_e HX.out HY.out HF.out.symm) ?_
    rintro e w5 ⟨rfl, hb⟩
    have RA := hid (RA.out.below hb)
    have HM := hid (HM.out.below hb)
    have HI := hid (HI.out.below hb)
    have HW := hid (HW.out.trans (hb.mono hz))
    have hz := HW.out.size
    clear hb
    go_wp2_with fail
    refine Calls.mono (mul_r (B := w.heap.size) hz (Rd.of_num HI.out) RA.out (Nat.le_trans (nd_mono (Nat.le_of_lt HVP.out)) (Nat.le_trans NP.out (by decide))) (by omega)) ?_
    rintro e w6 ⟨v1, rfl, hx, hb⟩
    have H2 := hid hx
    have RA := hid (RA.out.below hb)
    have HM := hid (HM.out.below hb)
    have HW := hid (HW.out.trans (hb.mono hz))
    have hz := HW.out.size
    clear hx hb
    go_wp2_with fail
    refine Calls.mono (div_r (B := w.heap.size) hz (Rd.of_num H2.out) HM.out (Nat.le_trans (nd_mul (Nat.le_trans (nd_mono (Nat.le_of_lt HVP.out)) NP.out) NX.out) (by decide)) HP0.out) ?_
    rintro e w7 ⟨q2, x2, rfl, hx, hy, hb⟩
    have HQ2 := hid hx
    have HX2 := hid hy
    have HW := hid (HW.out.trans (hb.mono hz))
    have hz := HW.out.size
    clear hx hy hb
    go_wp2_with fail
    refine Calls.mono (rof_r (B := w.heap.size) 1 _ (by decide) hz) ?_
    rintro e w8 ⟨o, rfl, hx, hb⟩
    have HO := hid hx
    have HX2 := hid (HX2.out.below hb)
    have HW := hid (HW.out.trans (hb.mono hz))
    have hz := HW.out.size
    clear hx hb
    go_wp2_with fail
    refine Calls.mono (same_e HX2.out HO.out H1.out) ?_
    rintro e w9 ⟨rfl, hb⟩
    have HW := hid (HW.out.trans (hb.mono hz))
    have hz := HW.out.size
    clear hb
    go_wp2_with fail
    refine Calls.mono (known_true _) ?_
    rintro e w10 ⟨rfl, hb⟩
    have HW := hid (HW.out.trans (hb.mono hz))
    have hz := HW.out.size
    clear hb
    go_wp2_with fail
    go_ret
    exact ⟨rfl, HW.out⟩

end Go.Proofs.Ytfknjfmgpfhjiaa
