/-
  The walks of small numbers made, of nat's division by one limb.
-/
import Derived.Test.YtfknjfmgpfhjiaaWj
import Derived.Laws.BitsAllLaws
namespace Go.Proofs.Ytfknjfmgpfhjiaa
open Go.RowKit

theorem of_digits {N : Nat} (_ : N < 18446744073709551616) : val (fun t => if t = 0 then N % 4294967296 else N / 4294967296) 2 = N := by
  rw [val_succ, val_succ, val_zero, W_zero, W_one]
  simp
  omega

set_option maxHeartbeats 400000 in
theorem nof_any (N : Nat) (w : World) (h : N < 18446744073709551616) :
    Calls Try.prog 20 #[.int .u64 (N : Nat)] w fun e w' => ∃ v, e = .returned v ∧ Num .u32 w.heap.size w' v N ∧ Below w.heap.size w w' := by
  obtain ⟨lo, hlo⟩ : ∃ lo, lo = N % 4294967296 := ⟨_, rfl⟩
  obtain ⟨hi, hhi⟩ : ∃ hi, hi = N / 4294967296 := ⟨_, rfl⟩
  have e1 : (N : Int) % 4294967296 = (lo : Int) := by omega
  have e2 : (N : Int) / 4294967296 = (hi : Int) := by omega
  have hb : hi < 4294967296 := by omega
  have hb' : lo < 4294967296 := by omega
  have hv : val (fun t => if t = 0 then lo else hi) 2 = N := by rw [hlo, hhi]; exact of_digits h
  have HV := hid hv
  clear hlo hhi hv
  go_enter Try.func20, Try.ntmps20
  go_wp2_with fail
  have hsl : Sl (w.alloc (.cells #[.int .u32 (lo : Nat), .int .u32 (hi : Nat)] 60)) .u32 (some ⟨w.heap.size, 0, none⟩) 2 2 (fun t => if t = 0 then lo else hi) := by
    refine ⟨Nat.le_refl _, by simp [maxLen], (fun h => by cases h), fun _ => ⟨w.heap.size, 0, rfl, by simp, fun j hj => ?_⟩⟩
    have : j = 0 ∨ j = 1 := by omega
    rcases this with rfl | rfl
    · rw [World.cell?_alloc_at _ _ _ _ rfl]; rfl
    · rw [World.cell?_alloc_at _ _ _ _ rfl]; rfl
  refine (trim_any _ 2 2 _ _ hsl (fun t _ => by show (if _ then _ else _) < _; split <;> omega) (by omega)).mono ?_
  rintro e w3 ⟨v3, rfl, hv3, hb3⟩
  rw [HV.out] at hv3
  have HV3 := hid hv3
  have HB3 := hid hb3
  clear hv3 hb3
  go_wp2_with fail
  go_ret
  exact ⟨_, rfl, HV3.out.mono (by simp), ((Below.refl _ w).alloc (Nat.le_refl _) _).trans (HB3.out.mono (by simp))⟩

set_option maxHeartbeats 400000 in
theorem rof_any (N : Nat) (w : World) (h : N < 18446744073709551616) :
    Calls Try.prog 40 #[.int .u64 (N : Nat)] w fun e w' => ∃ v, e = .returned v ∧ Num .u32 w.heap.size w' v N ∧ Below w.heap.size w w' := by
  obtain ⟨lo, hlo⟩ : ∃ lo, lo = N % 4294967296 := ⟨_, rfl⟩
  obtain ⟨hi, hhi⟩ : ∃ hi, hi = N / 4294967296 := ⟨_, rfl⟩
  have e1 : (N : Int) % 4294967296 = (lo : Int) := by omega
  have e2 : (N : Int) / 4294967296 = (hi : Int) := by omega
  have hb : hi < 4294967296 := by omega
  have hb' : lo < 4294967296 := by omega
  have hv : val (fun t => if t = 0 then lo else hi) 2 = N := by rw [hlo, hhi]; exact of_digits h
  have HV := hid hv
  clear hlo hhi hv
  go_enter Try.func40, Try.ntmps40
  go_wp2_with fail
  have hsl : Sl (w.alloc (.cells #[.int .u64 (lo : Nat), .int .u64 (hi : Nat)] 36)) .u64 (some ⟨w.heap.size, 0, none⟩) 2 2 (fun t => if t = 0 then lo else hi) := by
    refine ⟨Nat.le_refl _, by simp [maxLen], (fun h => by cases h), fun _ => ⟨w.heap.size, 0, rfl, by simp, fun j hj => ?_⟩⟩
    have : j = 0 ∨ j = 1 := by omega
    rcases this with rfl | rfl
    · rw [World.cell?_alloc_at _ _ _ _ rfl]; rfl
    · rw [World.cell?_alloc_at _ _ _ _ rfl]; rfl
  refine (number_any _ 2 2 _ _ hsl (fun t _ => by show (if _ then _ else _) < _; split <;> omega) (by omega)).mono ?_
  rintro e w3 ⟨v3, rfl, hv3, hb3⟩
  rw [HV.out] at hv3
  have HV3 := hid hv3
  have HB3 := hid hb3
  clear hv3 hb3
  go_wp2_with fail
  go_ret
  exact ⟨_, rfl, HV3.out.mono (by simp), ((Below.refl _ w).alloc (Nat.le_refl _) _).trans (HB3.out.mono (by simp))⟩

theorem or_shift64 (r x : Nat) (hr : r < 4294967296) (hx : x < 4294967296) : Go.bits .or .u64 ((r : Int) * 4294967296) (x : Int) = (r : Int) * 4294967296 + (x : Int) := by
  have h := u64_or_nat (r * 4294967296) x (by omega) (by omega)
  rw [nat_join 32 (r * 4294967296) x (by show _ % 4294967296 = 0; omega) (by show _ < 4294967296; omega)] at h
  rw [Int.natCast_mul, Int.natCast_add, Int.natCast_mul] at h
  exact h

set_option maxHeartbeats 1600000 in
theorem short_any (oa : Option Addr) (n ca y : Nat) (f : Nat → Nat) (w : World) (ha : Sl w .u32 oa n ca f) (hf : ∀ j, j < n → f j < 4294967296) (hn : n ≤ 1000000) (hy : 0 < y) (hy' : y < 4294967296) :
    Calls Try.prog 56 #[.slice oa n ca, .int .u32 y] w fun e w' => ∃ v u, e = .returned (.tuple #[v, u, .int .i64 0]) ∧ Num .u32 w.heap.size w' v (val f n / y) ∧ Num .u32 w.heap.size w' u (val f n % y) ∧ Below w.heap.size w w' := by
  have hXl := val_lt hf
  have HX : Hid (∀ j, dg (val f n) j = if j < n then f j else 0) := dg_val_any hf
  have HA := hid ha
  clear ha hf
  generalize val f n = X at *
  have HXL := hid hXl
  clear hXl
  go_enter Try.func56, Try.ntmps56
  go_wp2_with (at_make; refine wpList_mk rfl _ _ k32 rfl .i64 .i64 _ _ n rfl rfl (by omega) (by omega) (by omega) ?_)
  intro w1 hown hbl hz
  have HO := hid hown
  have HB1 := hid hbl
  clear hown hbl
  go_wp2_with fail
  go_loopw [8, 9] (fun r i wr => ∃ (j : Nat), j ≤ n ∧ i = .int .i64 ((j : Int) - 1) ∧ r = .int .u64 ((X / W j % y : Nat) : Nat) ∧ Own w.heap.size wr .u32 60 (some ⟨w.heap.size, 0, none⟩) n n (fun t => if j ≤ t then dg (X / y) t else 0) ∧ Below w.heap.size w wr) (fun _ i _ => (intOf i + 1).toNat)
  case atStart => exact ⟨n, Nat.le_refl _, rfl, by rw [Nat.div_eq_of_lt HXL.out, Nat.zero_mod]; rfl, HO.out.congr (fun t ht => by rw [if_neg (by omega)]), HB1.out⟩
  case round =>
    obtain ⟨j, hj, rfl, rfl, hown, hbl⟩ := hrel
    have HO2 := hid hown
    have HL := hid hbl
    have hz2 := hbl.size
    rcases j with _ | j
    · clear hown hbl
      have hv : val (fun t => if 0 ≤ t then dg (X / y) t else 0) n = X / y := by
        refine Eq.trans (val_congr fun t _ => by simp) (val_dg_of_lt (Nat.lt_of_le_of_lt (Nat.div_le_self X y) HXL.out))
      have hnd : nd (X / y) ≤ n := nd_le.2 (Nat.lt_of_le_of_lt (Nat.div_le_self X y) HXL.out)
      have HV := hid hv
      have hmy : X % y < y := Nat.mod_lt _ hy
      clear hv
      rw [W_zero, Nat.div_one]
      go_wp2_with fail
      refine (trim_any _ n n _ wr HO2.out.sl (fun t _ => by show (if _ then _ else _) < _; split; exact dg_lt _ _; omega) (by omega)).mono ?_
      rintro e w3 ⟨v3, rfl, hv3, hb3⟩
      rw [HV.out] at hv3
      have HV3 := hid hv3
      have HB3 := hid hb3
      clear hv3 hb3
      have hz3 := HB3.out.size
      generalize hRM : X % y = rm at *
      go_wp2_with fail
      refine (nof_any rm w3 (by omega)).mono ?_
      rintro e w4 ⟨v4, rfl, hv4, hb4⟩
      have HV4 := hid hv4
      have HB4 := hid hb4
      clear hv4 hb4
      go_wp2_with fail
      go_ret3
      have HV5 : Num .u32 w.heap.size w4 v4 (X % y) := by rw [hRM]; exact HV4.out.mono (Nat.le_trans hz2 hz3)
      exact ⟨_, _, rfl, (HV3.out.below HB4.out).mono hz2, HV5, HL.out.trans ((HB3.out.mono hz2).trans (HB4.out.mono (by omega)))⟩
    · obtain ⟨g0, hg0, _, hz3, hcell, hfr⟩ := hown.at_ (by omega)
      cases hg0
      have hcj := hcell j (by omega)
      have hfrj := hfr j
      have hx : ∃ b off, oa = some ⟨b, off, none⟩ ∧ wr.cell? ⟨b, off + j, none⟩ = some (.int .u32 (dg X j : Nat)) := by
        obtain ⟨b, off, e, hb, hc⟩ := HA.out.at_ (by omega)
        refine ⟨b, off, e, ?_⟩
        rw [HL.out.cell (p := ⟨b, off + j, none⟩) hb, hc j (by omega), HX.out j, if_pos (by omega)]
      obtain ⟨b, off, rfl, hx⟩ := hx
      clear hown hbl hcell hfr
      obtain ⟨r, hr⟩ : ∃ r, r = X / W (j + 1) % y := ⟨_, rfl⟩
      have hrl : r < y := by rw [hr]; exact Nat.mod_lt _ hy
      have hd := div_digit (x := dg X j) hy hr rfl
      have HD1 := hid hd.1
      have HD2 := hid hd.2
      rw [← hr]
      have hl1 := dg_lt X j
      have HR := hid hr
      clear hd hr
      rw [show (((j + 1 : Nat) : Int) - 1) = (j : Int) from by omega]
      have hor := or_shift64 r (dg X j) (by omega) hl1
      have hq : ((r : Int) * 4294967296 + ((dg X j : Nat) : Int)) / (y : Int) = ((dg (X / y) j : Nat) : Int) := by
        rw [HD1.out]; simp
      have hm : ((r : Int) * 4294967296 + ((dg X j : Nat) : Int)) % (y : Int) = ((X / W j % y : Nat) : Int) := by
        rw [HD2.out]; simp
      have hlq := dg_lt (X / y) j
      have HM := hid hm
      clear hm
      go_wp2_with fail
      rw [HM.out]
      go_roundw
      case rel => exact ⟨j, by omega, by go_num, rfl, HO2.out.filled_down, HL.out.setCell (Nat.le_refl _) _⟩
      case measure => simp [intOf]

end Go.Proofs.Ytfknjfmgpfhjiaa
