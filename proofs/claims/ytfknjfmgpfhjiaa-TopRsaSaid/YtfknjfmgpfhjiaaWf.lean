/-
  The walk of nat.Sub.
-/
import Derived.Test.YtfknjfmgpfhjiaaWe
namespace Go.Proofs.Ytfknjfmgpfhjiaa
open Go.RowKit

set_option maxHeartbeats 400000 in
theorem nsub_less (oa ob : Option Addr) (n m ca cb : Nat) (f g : Nat → Nat) (w : World) (ha : Sl w .u32 oa n ca f) (hb : Sl w .u32 ob m cb g) (hf : ∀ j, j < n → f j < 4294967296) (hg : ∀ j, j < m → g j < 4294967296) (hlt : val f n < val g m) :
    Calls Try.prog 27 #[.slice oa n ca, .slice ob m cb] w fun e w' => e = .returned (.tuple #[.slice none 0 0, .int .i64 11]) ∧ Below w.heap.size w w' := by
  have hc := ncmp_any oa ob n m ca cb f g w ha hb hf hg
  rw [cmp_lt hlt] at hc
  have HC := hid hc
  clear hc ha hb hf hg hlt
  go_enter Try.func27, Try.ntmps27
  go_wp2_with fail
  refine HC.out.mono ?_
  rintro e w1 ⟨rfl, d, rfl⟩
  go_wp2_with fail
  go_ret2
  exact ⟨rfl, below_drewN _ _ _⟩

set_option maxHeartbeats 1600000 in
theorem nsub_any (oa ob : Option Addr) (n m ca cb : Nat) (f g : Nat → Nat) (w : World) (ha : Sl w .u32 oa n ca f) (hb : Sl w .u32 ob m cb g) (hf : ∀ j, j < n → f j < 4294967296) (hg : ∀ j, j < m → g j < 4294967296) (hn : n ≤ 100000) (hle : val g m ≤ val f n) :
    Calls Try.prog 27 #[.slice oa n ca, .slice ob m cb] w fun e w' => ∃ v, e = .returned (.tuple #[v, .int .i64 0]) ∧ Num .u32 w.heap.size w' v (val f n - val g m) ∧ Below w.heap.size w w' := by
  have hc := ncmp_any oa ob n m ca cb f g w ha hb hf hg
  have hs := fun d => size_any oa n ca f (w.drewN d) ha hf
  have hcge : 0 ≤ cmp (val f n) (val g m) := by unfold cmp; split; omega; split <;> omega
  have hX := nd_val_le hf
  have HX : Hid (∀ j, dg (val f n) j = if j < n then f j else 0) := dg_val_any hf
  have HY : Hid (∀ j, dg (val g m) j = if j < m then g j else 0) := dg_val_any hg
  have hmb := hb.len_le
  have hmc := hb.cap_le
  unfold maxLen at hmc
  have HA := hid ha
  have HB := hid hb
  clear ha hb hf hg
  generalize val f n = X at *
  generalize val g m = Y at *
  obtain ⟨D, hD⟩ : ∃ D, D = X - Y := ⟨_, rfl⟩
  have hXD : D + Y = X := by omega
  rw [← hD]
  have hDX : nd D ≤ nd X := nd_mono (by omega)
  have HXD := hid hXD
  clear hXD hle hD
  generalize hp : nd X = p at *
  generalize cmp X Y = cm at *
  have HP := hid hp
  have HC := hid hc
  have HS := hid hs
  clear hc hs hp
  go_enter Try.func27, Try.ntmps27
  go_wp2_with fail
  refine HC.out.mono ?_
  rintro e w1 ⟨rfl, d, rfl⟩
  go_wp2_with fail
  refine (HS.out d).mono ?_
  rintro e w1 ⟨rfl, rfl⟩
  go_wp2_with (at_make; refine wpList_mk rfl _ _ k32 rfl .i64 .i64 _ _ p rfl rfl (by omega) (by omega) (by omega) ?_)
  intro w1 hown hbl hz
  have hb0 : Below w.heap.size w w1 := (below_drewN _ _ _).trans hbl
  have HO := hid hown
  have HB1 := hid hb0
  clear hown hbl hb0
  go_wp2_with fail
  go_loopw [7, 19] (fun br i wr => ∃ (j : Nat), j ≤ p ∧ i = .int .i64 j ∧ br = .int .i64 (car D Y j : Nat) ∧ Own w.heap.size wr .u32 60 (some ⟨w.heap.size, 0, none⟩) p p (fun t => if t < j then dg D t else 0) ∧ Below w.heap.size w wr) (fun _ i _ => p - (intOf i).toNat)
  case atStart => exact ⟨0, Nat.zero_le _, rfl, by rw [car_zero]; rfl, HO.out.congr (fun t _ => by simp), HB1.out⟩
  case round =>
    obtain ⟨j, hj, rfl, rfl, hown, hbl⟩ := hrel
    have HO2 := hid hown
    have HL := hid hbl
    have hz2 := hbl.size
    by_cases hlt : j < p
    · obtain ⟨g0, hg0, _, hz3, hcell, hfr⟩ := hown.at_ (by omega)
      cases hg0
      have hcj := hcell j (by omega)
      have hfrj := hfr j
      clear hown hbl hcell hfr
      have hx : ∃ b off, oa = some ⟨b, off, none⟩ ∧ wr.cell? ⟨b, off + j, none⟩ = some (.int .u32 (dg X j : Nat)) := by
        obtain ⟨b, off, e, hb, hc⟩ := HA.out.at_ (by omega)
        refine ⟨b, off, e, ?_⟩
        rw [HL.out.cell (p := ⟨b, off + j, none⟩) hb, hc j (by omega), HX.out j, if_pos (by omega)]
      have hy : j < m → ∃ b off, ob = some ⟨b, off, none⟩ ∧ wr.cell? ⟨b, off + j, none⟩ = some (.int .u32 (dg Y j : Nat)) := fun h2 => by
        obtain ⟨b, off, e, hb, hc⟩ := HB.out.at_ (by omega)
        refine ⟨b, off, e, ?_⟩
        rw [HL.out.cell (p := ⟨b, off + j, none⟩) hb, hc j h2, HY.out j, if_pos h2]
      have ey : ¬ j < m → dg Y j = 0 := fun h => by rw [HY.out j, if_neg h]
      obtain ⟨b, off, rfl, hx⟩ := hx
      have hc1 := car_le D Y j
      have hl1 := dg_lt X j
      have hl2 := dg_lt Y j
      have hl3 := dg_lt D j
      have hdx : dg X j = (car D Y j + dg D j + dg Y j) % 4294967296 := by rw [← HXD.out, dg_add]
      have hdc : car D Y (j + 1) = (car D Y j + dg D j + dg Y j) / 4294967296 := car_succ D Y j
      by_cases hs : car D Y j + dg D j + dg Y j < 4294967296
      · have hcn : Hid (car D Y (j + 1) = 0) := by show _ = _; omega
        have hd : ((dg X j : Nat) : Int) - ((car D Y j : Nat) : Int) - ((dg Y j : Nat) : Int) = ((dg D j : Nat) : Int) := by omega
        by_cases h2 : j < m
        · obtain ⟨b', off', rfl, hy⟩ := hy h2
          clear ey hdx hdc hs
          go_wp2
          go_roundw
          case rel => exact ⟨j + 1, by omega, by go_num, by rw [hcn.out]; rfl, HO2.out.filled, HL.out.setCell (Nat.le_refl _) _⟩
          case measure => simp [intOf]; omega
        · rw [ey h2, show ((0 : Nat) : Int) = 0 from rfl, Int.sub_zero] at hd
          clear ey hdx hdc hs hy
          go_wp2
          go_roundw
          case rel => exact ⟨j + 1, by omega, by go_num, by rw [hcn.out]; rfl, HO2.out.filled, HL.out.setCell (Nat.le_refl _) _⟩
          case measure => simp [intOf]; omega
      · have hcn : Hid (car D Y (j + 1) = 1) := by show _ = _; omega
        have hd : ((dg X j : Nat) : Int) - ((car D Y j : Nat) : Int) - ((dg Y j : Nat) : Int) + 4294967296 = ((dg D j : Nat) : Int) := by omega
        have hneg : ((dg X j : Nat) : Int) - ((car D Y j : Nat) : Int) - ((dg Y j : Nat) : Int) < 0 := by omega
        by_cases h2 : j < m
        · obtain ⟨b', off', rfl, hy⟩ := hy h2
          clear ey hdx hdc hs
          go_wp2
          go_roundw
          case rel => exact ⟨j + 1, by omega, by go_num, by rw [hcn.out]; rfl, HO2.out.filled, HL.out.setCell (Nat.le_refl _) _⟩
          case measure => simp [intOf]; omega
        · rw [ey h2, show ((0 : Nat) : Int) = 0 from rfl, Int.sub_zero] at hd hneg
          clear ey hdx hdc hs hy
          go_wp2
          go_roundw
          case rel => exact ⟨j + 1, by omega, by go_num, by rw [hcn.out]; rfl, HO2.out.filled, HL.out.setCell (Nat.le_refl _) _⟩
          case measure => simp [intOf]; omega
    · obtain rfl : j = p := by omega
      clear hown hbl
      have hDW : D < W j := nd_le.1 hDX
      have hval : val (fun t => if t < j then dg D t else 0) j = D := by
        refine Eq.trans (val_congr fun t ht => ?_) (val_dg_of_lt hDW)
        simp [ht]
      have HV := hid hval
      clear hval hDW
      go_wp2_with fail
      refine (trim_any _ _ _ _ _ HO2.out.sl (fun t _ => by show (if _ then _ else _) < _; split; exact dg_lt _ _; omega) (by omega)).mono ?_
      rintro e w3 ⟨v3, rfl, hv3, hb3⟩
      rw [HV.out] at hv3
      have HV3 := hid hv3
      have HB3 := hid hb3
      clear hv3 hb3
      go_wp2_with fail
      go_ret2
      exact ⟨_, rfl, HV3.out.mono (by omega), HL.out.trans (HB3.out.mono (by omega))⟩

end Go.Proofs.Ytfknjfmgpfhjiaa
