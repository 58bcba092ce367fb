/-
  The walk of the reference's sum.
-/
import Derived.Test.YtfknjfmgpfhjiaaWc
import Derived.Test.YtfknjfmgpfhjiaaMathb
namespace Go.Proofs.Ytfknjfmgpfhjiaa
open Go.RowKit

/-- A digit of a number's digits. -/
theorem digit_num (oa : Option Addr) (c i N : Nat) (w : World) (h : Sl w .u64 oa (nd N) c (dg N)) :
    Calls Try.prog 66 #[.slice oa (nd N) c, .int .i64 i] w fun e w' => e = .returned (.int .u64 (dg N i : Nat)) ∧ w = w' := by
  refine (digit_any oa (nd N) c i (dg N) w h).mono fun e w' ⟨he, hw⟩ => ⟨?_, hw⟩
  rw [he]
  by_cases hi : i < nd N
  · rw [if_pos hi]
  · rw [if_neg hi, dg_out (by omega)]

set_option maxHeartbeats 800000 in
theorem radd_any (oa ob : Option Addr) (n m ca cb : Nat) (f g : Nat → Nat) (w : World) (ha : Sl w .u32 oa n ca f) (hb : Sl w .u32 ob m cb g) (hf : ∀ j, j < n → f j < 4294967296) (hg : ∀ j, j < m → g j < 4294967296) (hn : n ≤ 100000) (hm : m ≤ 100000) :
    Calls Try.prog 30 #[.slice oa n ca, .slice ob m cb] w fun e w' => ∃ v, e = .returned v ∧ Num .u32 w.heap.size w' v (val f n + val g m) ∧ Below w.heap.size w w' := by
  have hX := nd_val_le hf
  have hY := nd_val_le hg
  have HA := hid ha
  have HB := hid hb
  have HF := hid hf
  have HG := hid hg
  clear ha hb hf hg
  generalize hXX : val f n = X at *
  generalize hYY : val g m = Y at *
  have HX := hid hXX
  have HY := hid hYY
  clear hXX hYY
  go_enter Try.func30, Try.ntmps30
  go_wp2_with fail
  refine (digits_any oa n ca f w HA.out HF.out (by omega)).mono ?_
  rintro e w1 ⟨v1, rfl, hx, hb1⟩
  rw [HX.out] at hx
  go_wp2_with fail
  refine (digits_any ob m cb g w1 (HB.out.below hb1) HG.out (by omega)).mono ?_
  rintro e w2 ⟨v2, rfl, hy, hb2⟩
  rw [HY.out] at hy
  obtain ⟨ox, cx, rfl, hx1, _⟩ := hx.below hb2
  obtain ⟨oy, cy, rfl, hy1, _⟩ := hy
  have hB2 := hb1.trans (hb2.mono hb1.size)
  have HX1 := hid hx1
  have HY1 := hid hy1
  have HB2 := hid hB2
  have hz := hB2.size
  clear hx hb1 hb2 hB2 hx1 hy1
  have hS : nd (X + Y) ≤ 100001 := by
    refine nd_le.2 ?_
    have h1 := Nat.lt_of_lt_of_le (nd_le.1 (Nat.le_trans hX hn)) (Nat.le_refl _)
    have h2 := Nat.lt_of_lt_of_le (nd_le.1 (Nat.le_trans hY hm)) (Nat.le_refl _)
    exact add_lt_W_succ h1 h2
  go_wp2_with fail
  go_loopw [7, 8, 9] (fun v cr i wr => ∃ (j : Nat) (oa' : Option Addr) (cs : Nat), j ≤ nd (X + Y) ∧ i = .int .i64 j ∧ cr = .int .u64 (car X Y j : Nat) ∧ v = .slice oa' j cs ∧ Own w2.heap.size wr .u64 36 oa' j cs (dg (X + Y)) ∧ Below w2.heap.size w2 wr) (fun _ _ i _ => nd (X + Y) - (intOf i).toNat)
  case atStart => exact ⟨0, none, 0, Nat.zero_le _, rfl, by rw [car_zero]; rfl, rfl, Own.nil _ _ _ _ _, Below.refl _ _⟩
  case round =>
    obtain ⟨j, oa', cs, hj, rfl, rfl, rfl, hown, hbl⟩ := hrel
    have HO := hid hown
    have HL := hid hbl
    have hz2 := hbl.size
    clear hown hbl
    by_cases hgo : (j < nd X ∨ j < nd Y) ∨ 0 < car X Y j
    · have hlt : j < nd (X + Y) := by
        have h1 := nd_mono (Nat.le_add_right X Y)
        have h2 := nd_mono (Nat.le_add_left Y X)
        rcases hgo with (h | h) | h
        · omega
        · omega
        · have h3 := car_pos_le h
          have h4 := @nd_le (X + Y) j
          omega
      have hdx := digit_num ox cx j X wr (HX1.out.below HL.out)
      have hdy := digit_num oy cy j Y wr (HY1.out.below HL.out)
      have HDX := hid hdx
      have HDY := hid hdy
      clear hdx hdy
      have hc1 := car_le X Y j
      have hl1 := dg_lt X j
      have hl2 := dg_lt Y j
      have hv : (((car X Y j : Nat) : Int) + ((dg X j : Nat) : Int) + ((dg Y j : Nat) : Int)) % 4294967296 = ((dg (X + Y) j : Nat) : Int) := by
        rw [dg_add]; omega
      have hq : (((car X Y j : Nat) : Int) + ((dg X j : Nat) : Int) + ((dg Y j : Nat) : Int)) / 4294967296 = ((car X Y (j + 1) : Nat) : Int) := by
        rw [car_succ]; omega
      by_cases h1 : j < nd X
      rotate_left
      by_cases h2 : j < nd Y
      all_goals
        go_wp2_with fail
        refine HDX.out.mono ?_
        rintro e w' ⟨rfl, rfl⟩
        go_wp2_with fail
        refine HDY.out.mono ?_
        rintro e w' ⟨rfl, rfl⟩
        go_wp2_with (at_builtin; refine wpList_app1 (w0 := wr) (v := dg (X + Y) j) rfl _ _ k64 rfl w2.heap.size j oa' cs (dg (X + Y)) rfl rfl HO.out (by omega) hz2 ?_)
        intro oa2 c2 w3 h3 h4 h5
        have H3 := hid h3
        clear h3
        go_wp2
        go_roundw
        case rel => exact ⟨j + 1, oa2, c2, by omega, by go_num, by first | rfl | rw [hq], rfl, H3.out.congr fun i hi => by
                      by_cases e : i = j
                      · subst e; exact upd_same _ _ _
                      · exact upd_other _ _ e, HL.out.trans h5⟩
        case measure => simp [intOf]; omega
    · have h1 : ¬ j < nd X := by omega
      have h2 : ¬ j < nd Y := by omega
      have h3 : ¬ 0 < car X Y j := by omega
      have hS2 : X + Y < W j := lt_of_car (nd_le.1 (by omega)) (nd_le.1 (by omega)) (by omega)
      have hj2 : j = nd (X + Y) := by
        have := nd_le.2 hS2
        omega
      have HJ := hid hj2
      clear hj2 hgo
      go_wp2_with fail
      refine (number_any oa' j cs (dg (X + Y)) wr HO.out.sl (fun _ _ => dg_lt _ _) (by omega)).mono ?_
      rintro e w3 ⟨v3, rfl, hv3, hb3⟩
      rw [val_dg_of_lt hS2] at hv3
      have HV3 := hid hv3
      have HB3 := hid hb3
      clear hv3 hb3
      go_wp2_with fail
      go_ret
      refine ⟨_, rfl, HV3.out.mono (by omega), HB2.out.trans ((HL.out.mono hz).trans (HB3.out.mono (by omega)))⟩

end Go.Proofs.Ytfknjfmgpfhjiaa
