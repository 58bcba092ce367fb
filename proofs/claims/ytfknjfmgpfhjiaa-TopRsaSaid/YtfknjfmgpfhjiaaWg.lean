/-
  The walks of the reference's differences.
-/
import Derived.Test.YtfknjfmgpfhjiaaWf
namespace Go.Proofs.Ytfknjfmgpfhjiaa
open Go.RowKit

theorem digit_q (oa : Option Addr) (n c i : Nat) (f : Nat → Nat) (w : World) (d : Nat) (h : Sl w .u64 oa n c f) :
    Calls Try.prog 66 #[.slice oa n c, .int .i64 i] (w.drewN d) fun e w' => e = .returned (.int .u64 ((if i < n then f i else 0 : Nat) : Nat)) ∧ w' = w.drewN d :=
  (digit_any oa n c i f (w.drewN d) h).mono fun _ _ h => ⟨h.1, h.2.symm⟩

set_option maxHeartbeats 1600000 in
theorem less_any (oa ob : Option Addr) (n m ca cb : Nat) (f g : Nat → Nat) (w : World) (ha : Sl w .u64 oa n ca f) (hb : Sl w .u64 ob m cb g) (hf : ∀ j, j < n → f j < 4294967296) (hg : ∀ j, j < m → g j < 4294967296) (hn : n ≤ 1000000) (hle : val g m ≤ val f n) :
    Calls Try.prog 65 #[.slice oa n ca, .slice ob m cb] w fun e w' => ∃ v, e = .returned v ∧ Num .u64 w.heap.size w' v (val f n - val g m) ∧ Below w.heap.size w w' := by
  have hXl := val_lt hf
  have HX : Hid (∀ j, dg (val f n) j = if j < n then f j else 0) := dg_val_any hf
  have HY : Hid (∀ j, dg (val g m) j = if j < m then g j else 0) := dg_val_any hg
  have HA := hid ha
  have HB := hid hb
  clear ha hb hf hg
  generalize val f n = X at *
  generalize val g m = Y at *
  obtain ⟨D, hD⟩ : ∃ D, D = X - Y := ⟨_, rfl⟩
  have hXD : D + Y = X := by omega
  rw [← hD]
  have hDl : D < W n := by omega
  have HXD := hid hXD
  have HDL := hid hDl
  clear hXD hle hD hXl hDl
  go_enter Try.func65, Try.ntmps65
  go_wp2_with fail
  go_loopw [5, 6, 7] (fun v br i wr => ∃ (j : Nat) (oa' : Option Addr) (cs : Nat), j ≤ n ∧ i = .int .i64 j ∧ br = .int .u64 (car D Y j : Nat) ∧ v = .slice oa' j cs ∧ Own w.heap.size wr .u64 36 oa' j cs (dg D) ∧ Below w.heap.size w wr) (fun _ _ i _ => n - (intOf i).toNat)
  case atStart => exact ⟨0, none, 0, Nat.zero_le _, rfl, by rw [car_zero]; rfl, rfl, Own.nil _ _ _ _ _, Below.refl _ _⟩
  case round =>
    obtain ⟨j, oa', cs, hj, rfl, rfl, rfl, hown, hbl⟩ := hrel
    have HO := hid hown
    have HL := hid hbl
    have hz2 := hbl.size
    clear hown hbl
    by_cases hlt : j < n
    · have hx : ∃ b off, oa = some ⟨b, off, none⟩ ∧ wr.cell? ⟨b, off + j, none⟩ = some (.int .u64 (dg X j : Nat)) := by
        obtain ⟨b, off, e, hb, hc⟩ := HA.out.at_ (by omega)
        refine ⟨b, off, e, ?_⟩
        rw [HL.out.cell (p := ⟨b, off + j, none⟩) hb, hc j (by omega), HX.out j, if_pos (by omega)]
      obtain ⟨b, off, rfl, hx⟩ := hx
      have hdy := fun d => digit_q ob m cb j g wr d (HB.out.below HL.out)
      rw [← HY.out j] at hdy
      have HDY := hid hdy
      have hc1 := car_le D Y j
      have hl1 := dg_lt X j
      have hl2 := dg_lt Y j
      have hl3 := dg_lt D j
      have hdx : dg X j = (car D Y j + dg D j + dg Y j) % 4294967296 := by rw [← HXD.out, dg_add]
      have hdc : car D Y (j + 1) = (car D Y j + dg D j + dg Y j) / 4294967296 := car_succ D Y j
      have hv : (4294967296 + ((dg X j : Nat) : Int) - ((dg Y j : Nat) : Int) - ((car D Y j : Nat) : Int)) % 4294967296 = ((dg D j : Nat) : Int) := by omega
      have hb1 : 0 ≤ 4294967296 + ((dg X j : Nat) : Int) - ((dg Y j : Nat) : Int) - ((car D Y j : Nat) : Int) := by omega
      by_cases hs : car D Y j + dg D j + dg Y j < 4294967296
      · have hcn : Hid (car D Y (j + 1) = 0) := by show _ = _; omega
        have ht : ¬ (4294967296 + ((dg X j : Nat) : Int) - ((dg Y j : Nat) : Int) - ((car D Y j : Nat) : Int) < 4294967296) := by omega
        clear hdx hdc hs hdy
        go_wp2_with fail
        go_quiet ((go_at_call 66; exact Calls.quiet_of_same (HDY.out _)))
        go_wp2_with (at_builtin; refine wpList_app1 (w0 := wr.drewN nq) (v := dg D j) rfl _ _ k64 rfl w.heap.size j oa' cs (dg D) rfl rfl HO.out (by omega) hz2 ?_)
        intro oa2 c2 w3 h3 h4 h5
        have H3 := hid h3
        clear h3
        go_wp2
        go_roundw
        case rel => exact ⟨j + 1, oa2, c2, by omega, by go_num, by rw [hcn.out]; rfl, rfl, H3.out.congr fun i hi => by
                      by_cases e : i = j
                      · subst e; exact upd_same _ _ _
                      · exact upd_other _ _ e, HL.out.trans ((below_drewN _ _ _).trans h5)⟩
        case measure => simp [intOf]; omega
      · have hcn : Hid (car D Y (j + 1) = 1) := by show _ = _; omega
        have ht : 4294967296 + ((dg X j : Nat) : Int) - ((dg Y j : Nat) : Int) - ((car D Y j : Nat) : Int) < 4294967296 := by omega
        clear hdx hdc hs hdy
        go_wp2_with fail
        go_quiet ((go_at_call 66; exact Calls.quiet_of_same (HDY.out _)))
        go_wp2_with (at_builtin; refine wpList_app1 (w0 := wr.drewN nq) (v := dg D j) rfl _ _ k64 rfl w.heap.size j oa' cs (dg D) rfl rfl HO.out (by omega) hz2 ?_)
        intro oa2 c2 w3 h3 h4 h5
        have H3 := hid h3
        clear h3
        go_wp2
        go_roundw
        case rel => exact ⟨j + 1, oa2, c2, by omega, by go_num, by rw [hcn.out]; rfl, rfl, H3.out.congr fun i hi => by
                      by_cases e : i = j
                      · subst e; exact upd_same _ _ _
                      · exact upd_other _ _ e, HL.out.trans ((below_drewN _ _ _).trans h5)⟩
        case measure => simp [intOf]; omega
    · obtain rfl : j = n := by omega
      go_wp2_with fail
      refine (cut_any oa' j cs (dg D) wr HO.out.sl (fun _ _ => dg_lt _ _)).mono ?_
      rintro e w' ⟨rfl, rfl⟩
      go_wp2_with fail
      go_ret
      have hv : val (dg D) j = D := val_dg_of_lt HDL.out
      have hnd : nd D ≤ j := nd_le.2 HDL.out
      rw [hv]
      exact ⟨_, rfl, ⟨oa', cs, rfl, HO.out.sl.take hnd, HO.out.nw⟩, HL.out⟩

set_option maxHeartbeats 800000 in
theorem rsub_any (oa ob : Option Addr) (n m ca cb : Nat) (f g : Nat → Nat) (w : World) (ha : Sl w .u32 oa n ca f) (hb : Sl w .u32 ob m cb g) (hf : ∀ j, j < n → f j < 4294967296) (hg : ∀ j, j < m → g j < 4294967296) (hn : n ≤ 100000) (hm : m ≤ 100000) (hle : val g m ≤ val f n) :
    Calls Try.prog 28 #[.slice oa n ca, .slice ob m cb] w fun e w' => ∃ v, e = .returned (.tuple #[v, .int .i64 0]) ∧ Num .u32 w.heap.size w' v (val f n - val g m) ∧ Below w.heap.size w w' := by
  have hX := nd_val_le hf
  have hY := nd_val_le hg
  have HD1 := hid (digits_any oa n ca f w ha hf (by omega))
  have HD2 : Hid (∀ w1, Below w.heap.size w w1 → Calls Try.prog 62 #[.slice ob m cb] w1 fun e w' => ∃ v, e = .returned v ∧ Num .u64 w1.heap.size w' v (val g m) ∧ Below w1.heap.size w1 w') := fun w1 h => digits_any ob m cb g w1 (hb.below h) hg (by omega)
  clear ha hb hf hg
  generalize val f n = X at *
  generalize val g m = Y at *
  go_enter Try.func28, Try.ntmps28
  go_wp2_with fail
  refine HD1.out.mono ?_
  rintro e w1 ⟨v1, rfl, hx, hb1⟩
  go_wp2_with fail
  refine (HD2.out w1 hb1).mono ?_
  rintro e w2 ⟨v2, rfl, hy, hb2⟩
  obtain ⟨ox, cx, rfl, hx1, _⟩ := hx.below hb2
  obtain ⟨oy, cy, rfl, hy1, _⟩ := hy
  have hB2 := hb1.trans (hb2.mono hb1.size)
  have HX1 := hid hx1
  have HY1 := hid hy1
  have HB2 := hid hB2
  have hz := hB2.size
  clear hx hb1 hb2 hB2 hx1 hy1
  have hcge : 0 ≤ cmp X Y := by unfold cmp; split; omega; split <;> omega
  generalize hcm : cmp X Y = cm at *
  have HCM := hid hcm
  clear hcm
  go_wp2_with fail
  refine (compare_any ox oy cx cy X Y w2 HX1.out HY1.out).mono ?_
  rintro e w3 ⟨he, d, rfl⟩
  rw [HCM.out] at he
  subst he
  go_wp2_with fail
  refine (less_any ox oy _ _ cx cy _ _ (w2.drewN d) HX1.out HY1.out (fun _ _ => dg_lt _ _) (fun _ _ => dg_lt _ _) (by omega) (by rw [val_dg_nd, val_dg_nd]; exact hle)).mono ?_
  rw [val_dg_nd, val_dg_nd]
  rintro e w3 ⟨v3, rfl, ⟨o3, c3, rfl, hv3, _⟩, hb3⟩
  have hnd3 : nd (X - Y) ≤ nd X := nd_mono (by omega)
  have HV3 := hid hv3
  have HB3 : Hid (Below w.heap.size w w3) := HB2.out.trans ((below_drewN _ _ _).trans (hb3.mono hz))
  have hz3 := HB3.out.size
  clear hv3 hb3
  go_wp2_with fail
  refine (number_any o3 _ c3 _ w3 HV3.out (fun _ _ => dg_lt _ _) (by omega)).mono ?_
  rw [val_dg_nd]
  rintro e w4 ⟨v4, rfl, hv4, hb4⟩
  have HV4 := hid hv4
  clear hv4
  go_wp2_with fail
  go_ret2
  exact ⟨_, rfl, HV4.out.mono hz3, HB3.out.trans (hb4.mono hz3)⟩

set_option maxHeartbeats 800000 in
theorem rsub_less (oa ob : Option Addr) (n m ca cb : Nat) (f g : Nat → Nat) (w : World) (ha : Sl w .u32 oa n ca f) (hb : Sl w .u32 ob m cb g) (hf : ∀ j, j < n → f j < 4294967296) (hg : ∀ j, j < m → g j < 4294967296) (hn : n ≤ 100000) (hm : m ≤ 100000) (hle : val f n < val g m) :
    Calls Try.prog 28 #[.slice oa n ca, .slice ob m cb] w fun e w' => e = .returned (.tuple #[.slice none 0 0, .int .i64 11]) ∧ Below w.heap.size w w' := by
  have hX := nd_val_le hf
  have hY := nd_val_le hg
  have HD1 := hid (digits_any oa n ca f w ha hf (by omega))
  have HD2 : Hid (∀ w1, Below w.heap.size w w1 → Calls Try.prog 62 #[.slice ob m cb] w1 fun e w' => ∃ v, e = .returned v ∧ Num .u64 w1.heap.size w' v (val g m) ∧ Below w1.heap.size w1 w') := fun w1 h => digits_any ob m cb g w1 (hb.below h) hg (by omega)
  clear ha hb hf hg
  generalize val f n = X at *
  generalize val g m = Y at *
  go_enter Try.func28, Try.ntmps28
  go_wp2_with fail
  refine HD1.out.mono ?_
  rintro e w1 ⟨v1, rfl, hx, hb1⟩
  go_wp2_with fail
  refine (HD2.out w1 hb1).mono ?_
  rintro e w2 ⟨v2, rfl, hy, hb2⟩
  obtain ⟨ox, cx, rfl, hx1, _⟩ := hx.below hb2
  obtain ⟨oy, cy, rfl, hy1, _⟩ := hy
  have hB2 := hb1.trans (hb2.mono hb1.size)
  have HX1 := hid hx1
  have HY1 := hid hy1
  have HB2 := hid hB2
  clear hx hb1 hb2 hB2 hx1 hy1
  go_wp2_with fail
  refine (compare_any ox oy cx cy X Y w2 HX1.out HY1.out).mono ?_
  rintro e w3 ⟨he, d, rfl⟩
  rw [cmp_lt hle] at he
  subst he
  go_wp2_with fail
  go_ret2
  exact ⟨rfl, HB2.out.trans (below_drewN _ _ _)⟩

end Go.Proofs.Ytfknjfmgpfhjiaa
