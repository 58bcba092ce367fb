/-
  The walk of nat.Add.
-/
import Derived.Test.YtfknjfmgpfhjiaaWd
import Derived.Test.YtfknjfmgpfhjiaaMathb
namespace Go.Proofs.Ytfknjfmgpfhjiaa
open Go.RowKit

/-- One digit more of a row that is filled from its low end. -/
theorem Own.filled {B : Nat} {w : World} {k : IntKind} {e : TypeId} {gb n c j : Nat} {D : Nat → Nat} (h : Own B w k e (some ⟨gb, 0, none⟩) n c (fun t => if t < j then D t else 0)) :
    Own B (w.setCell ⟨gb, j, none⟩ (.int k (D j : Nat))) k e (some ⟨gb, 0, none⟩) n c (fun t => if t < j + 1 then D t else 0) := by
  refine (h.stored j (D j)).congr fun t _ => ?_
  by_cases e : t = j
  · subst e; rw [upd_same, if_pos (by omega)]
  · rw [upd_other _ _ e]
    by_cases h2 : t < j
    · rw [if_pos h2, if_pos (by omega)]
    · rw [if_neg h2, if_neg (by omega)]

set_option maxHeartbeats 1600000 in
theorem nadd_any (oa ob : Option Addr) (n m ca cb : Nat) (f g : Nat → Nat) (w : World) (ha : Sl w .u32 oa n ca f) (hb : Sl w .u32 ob m cb g) (hf : ∀ j, j < n → f j < 4294967296) (hg : ∀ j, j < m → g j < 4294967296) (hn : n ≤ 100000) (hm : m ≤ 100000) :
    Calls Try.prog 29 #[.slice oa n ca, .slice ob m cb] w fun e w' => ∃ v, e = .returned v ∧ Num .u32 w.heap.size w' v (val f n + val g m) ∧ Below w.heap.size w w' := by
  have HA := hid ha
  have HB := hid hb
  have HX : Hid (∀ j, dg (val f n) j = if j < n then f j else 0) := dg_val_any hf
  have HY : Hid (∀ j, dg (val g m) j = if j < m then g j else 0) := dg_val_any hg
  have hX := val_lt hf
  have hY := val_lt hg
  clear ha hb hf hg
  obtain ⟨p, hp⟩ : ∃ p, p = max n m := ⟨_, rfl⟩
  have hX' := Nat.lt_of_lt_of_le hX (W_le (Nat.le_trans (Nat.le_max_left n m) (Nat.le_of_eq hp.symm)))
  have hY' := Nat.lt_of_lt_of_le hY (W_le (Nat.le_trans (Nat.le_max_right n m) (Nat.le_of_eq hp.symm)))
  have hpn : n ≤ p := by omega
  have hpm : m ≤ p := by omega
  have hpb : p ≤ 100000 := by omega
  have hmx : (if n < m then (m : Int) else (n : Int)) = (p : Int) := by split <;> omega
  have HP := hid hp
  clear hp hX hY
  generalize val f n = X at *
  generalize val g m = Y at *
  have HX' := hid hX'
  have HY' := hid hY'
  clear hX' hY'
  go_enter Try.func29, Try.ntmps29
  go_wp2_with (at_make; refine wpList_mk rfl _ _ k32 rfl .i64 .i64 _ _ (p + 1) rfl rfl (by omega) (by omega) (by omega) ?_)
  intro w1 hown hbl hz
  have HO := hid hown
  have HB1 := hid hbl
  clear hown hbl hmx
  go_wp2_with fail
  go_loopw [7, 18] (fun cr i wr => ∃ (j : Nat), j ≤ p ∧ i = .int .i64 j ∧ cr = .int .u64 (car X Y j : Nat) ∧ Own w.heap.size wr .u32 60 (some ⟨w.heap.size, 0, none⟩) (p + 1) (p + 1) (fun t => if t < j then dg (X + Y) t else 0) ∧ Below w.heap.size w wr) (fun _ i _ => p - (intOf i).toNat)
  case atStart => exact ⟨0, Nat.zero_le _, rfl, by rw [car_zero]; rfl, HO.out.congr (fun t _ => by simp), HB1.out⟩
  case round =>
    obtain ⟨j, hj, rfl, rfl, hown, hbl⟩ := hrel
    have HO2 := hid hown
    have HL := hid hbl
    have hz2 := hbl.size
    obtain ⟨g0, hg0, _, hz3, hcell, hfr⟩ := hown.at_ (by omega)
    cases hg0
    have hcj := hcell j (by omega)
    have hfrj := hfr j
    clear hown hbl hcell hfr
    by_cases hlt : j < p
    · have hc1 := car_le X Y j
      have hl1 := dg_lt X j
      have hl2 := dg_lt Y j
      have hv : (((car X Y j : Nat) : Int) + ((dg X j : Nat) : Int) + ((dg Y j : Nat) : Int)) % 4294967296 = ((dg (X + Y) j : Nat) : Int) := by
        rw [dg_add]; omega
      have hq : (((car X Y j : Nat) : Int) + ((dg X j : Nat) : Int) + ((dg Y j : Nat) : Int)) / 4294967296 = ((car X Y (j + 1) : Nat) : Int) := by
        rw [car_succ]; omega
      have hx : j < n → ∃ b off, oa = some ⟨b, off, none⟩ ∧ wr.cell? ⟨b, off + j, none⟩ = some (.int .u32 (dg X j : Nat)) := fun h1 => by
        obtain ⟨b, off, e, hb, hc⟩ := HA.out.at_ (by omega)
        refine ⟨b, off, e, ?_⟩
        rw [HL.out.cell (p := ⟨b, off + j, none⟩) hb, hc j h1, HX.out j, if_pos h1]
      have hy : j < m → ∃ b off, ob = some ⟨b, off, none⟩ ∧ wr.cell? ⟨b, off + j, none⟩ = some (.int .u32 (dg Y j : Nat)) := fun h2 => by
        obtain ⟨b, off, e, hb, hc⟩ := HB.out.at_ (by omega)
        refine ⟨b, off, e, ?_⟩
        rw [HL.out.cell (p := ⟨b, off + j, none⟩) hb, hc j h2, HY.out j, if_pos h2]
      have ex : ¬ j < n → dg X j = 0 := fun h => by rw [HX.out j, if_neg h]
      have ey : ¬ j < m → dg Y j = 0 := fun h => by rw [HY.out j, if_neg h]
      by_cases h1 : j < n
      · obtain ⟨b, off, rfl, hx⟩ := hx h1
        by_cases h2 : j < m
        · obtain ⟨b', off', rfl, hy⟩ := hy h2
          clear ex ey
          go_wp2
          go_roundw
          case rel => exact ⟨j + 1, by omega, by go_num, rfl, HO2.out.filled, HL.out.setCell (Nat.le_refl _) _⟩
          case measure => simp [intOf]; omega
        · have e0 := ey h2
          rw [e0, show ((0 : Nat) : Int) = 0 from rfl, Int.add_zero] at hv hq
          have E0 := hid e0
          clear hy ex ey e0
          go_wp2
          go_roundw
          case rel => exact ⟨j + 1, by omega, by go_num, rfl, HO2.out.filled, HL.out.setCell (Nat.le_refl _) _⟩
          case measure => simp [intOf]; omega
      · have h2 : j < m := by have := HP.out; omega
        obtain ⟨b', off', rfl, hy⟩ := hy h2
        have e0 := ex h1
        rw [e0, show ((0 : Nat) : Int) = 0 from rfl, Int.add_zero] at hv hq
        clear hx ex ey e0
        go_wp2
        go_roundw
        case rel => exact ⟨j + 1, by omega, by go_num, rfl, HO2.out.filled, HL.out.setCell (Nat.le_refl _) _⟩
        case measure => simp [intOf]; omega
    · obtain rfl : j = p := by omega
      have hc1 := car_le X Y j
      have hd : car X Y j = dg (X + Y) j := (dg_end HX'.out HY'.out).symm
      rw [hd] at hc1 ⊢
      have hO3 := HO2.out.filled
      have HO3 := hid hO3
      clear hO3 hd
      go_wp2_with fail
      refine (trim_any _ _ _ _ _ HO3.out.sl (fun t _ => by show (if _ then _ else _) < _; split; exact dg_lt _ _; omega) (by omega)).mono ?_
      rintro e w3 ⟨v3, rfl, hv3, hb3⟩
      have hval : val (fun t => if t < j + 1 then dg (X + Y) t else 0) (j + 1) = X + Y := by
        rw [← val_dg_of_lt (add_lt_W_succ HX'.out HY'.out)]
        exact val_congr fun t ht => by simp [ht, val_dg_of_lt (add_lt_W_succ HX'.out HY'.out)]
      rw [hval] at hv3
      have HV3 := hid hv3
      have HB3 := hid hb3
      clear hv3 hb3
      go_wp2_with fail
      go_ret
      refine ⟨_, rfl, HV3.out.mono (by simp; omega), (HL.out.setCell (p := ⟨w.heap.size, j, none⟩) (Nat.le_refl _) _).trans (HB3.out.mono (by simp; omega))⟩

end Go.Proofs.Ytfknjfmgpfhjiaa
