/-
  The walks of the laws NatBytes and NatForms.
-/
import Derived.Test.YtfknjfmgpfhjiaaWzh
namespace Go.Proofs.Ytfknjfmgpfhjiaa
open Go.RowKit

theorem rb_nil (w : World) (g : Nat → Nat) : Rb w (.slice none 0 0) 0 g := ⟨none, 0, rfl, Sl.nil _ _ _, fun _ h => absurd h (Nat.not_lt_zero _)⟩

set_option maxRecDepth 100000 in
set_option maxHeartbeats 3200000 in
theorem bytes_any {w : World} {b a : Value} {nb na : Nat} {g f : Nat → Nat} {n : Int} (hb : Rb w b nb g) (ha : Rf w a na f) (hn : -9223372036854775808 ≤ n ∧ n ≤ 9223372036854775807) :
    Calls Try.prog 12 #[b, a, .int .i64 n] w fun e w' => e = .returned (.bool true) ∧ Below w.heap.size w w' := by
  have HA := hid ha
  have HB := hid hb
  obtain ⟨ob, cb, rfl, _, _⟩ := hb
  have HW := hid (Below.refl w.heap.size w)
  have hz : w.heap.size ≤ w.heap.size := Nat.le_refl _
  rename_i q1 q2
  clear ha q1 q2
  have HN := hid hn
  obtain ⟨hn1, hn2⟩ := hn
  go_enter Try.func12, Try.ntmps12
  go_wp2_with fail
  refine (heavy_r HA.out).mono ?_
  rintro e w1 ⟨rfl, rfl⟩
  by_cases h1 : 24 < na
  · rw [decide_eq_true h1]
    go_wp2_with fail
    refine Calls.mono (known_true w) ?_
    rintro e w2 ⟨rfl, hb⟩
    have HW := hid (HW.out.trans (hb.mono hz))
    have hz := HW.out.size
    clear hb
    go_wp2_with fail
    go_ret
    exact ⟨rfl, HW.out⟩
  rw [decide_eq_false h1]
  by_cases h2 : 200 < nb
  · go_wp2_with fail
    refine Calls.mono (known_true w) ?_
    rintro e w2 ⟨rfl, hb⟩
    have HW := hid (HW.out.trans (hb.mono hz))
    have hz := HW.out.size
    clear hb
    go_wp2_with fail
    go_ret
    exact ⟨rfl, HW.out⟩
  by_cases h3 : n < 0
  · go_wp2_with fail
    refine Calls.mono (nwrite_no (.inl h3) HN.out) ?_
    rintro e w2 ⟨rfl, hb⟩
    have HA := hid (HA.out.below hb)
    have HB := hid (HB.out.below hb)
    have HW := hid (HW.out.trans (hb.mono hz))
    have hz := HW.out.size
    clear hb
    go_wp2_with fail
    refine Calls.mono (rwrite_no (.inl h3) HN.out) ?_
    rintro e w3 ⟨rfl, hb⟩
    have HA := hid (HA.out.below hb)
    have HB := hid (HB.out.below hb)
    have HW := hid (HW.out.trans (hb.mono hz))
    have hz := HW.out.size
    clear hb
    go_wp2_with fail
    have HV := hid (rb_nil w3 g)
    have HU := hid (rb_nil w3 g)
    refine Calls.mono (read_r (B := w.heap.size) hz HB.out (by omega)) ?_
    rintro e w5 ⟨v5, rfl, hx, hb⟩
    have H5 := hid hx
    have HA := hid (HA.out.below hb)
    have HB := hid (HB.out.below hb)
    have HV := hid (HV.out.below hb)
    have HU := hid (HU.out.below hb)
    have HW := hid (HW.out.trans (hb.mono hz))
    have hz := HW.out.size
    clear hx hb
    go_wp2_with fail
    refine Calls.mono (rread_r (B := w.heap.size) hz HB.out (by omega)) ?_
    rintro e w6 ⟨v6, rfl, hx, hb⟩
    have H6 := hid hx
    have HV := hid (HV.out.below hb)
    have HU := hid (HU.out.below hb)
    have H5 := hid (H5.out.below hb)
    have HW := hid (HW.out.trans (hb.mono hz))
    have hz := HW.out.size
    clear hx hb
    go_wp2_with fail
    refine Calls.mono (same_n H5.out H6.out) ?_
    rintro e w7 ⟨rfl, hb⟩
    have HV := hid (HV.out.below hb)
    have HU := hid (HU.out.below hb)
    have HW := hid (HW.out.trans (hb.mono hz))
    have hz := HW.out.size
    clear hb
    go_wp2_with fail
    refine Calls.mono (sameb_any HV.out HU.out (fun _ _ => rfl)) ?_
    rintro e w8 ⟨rfl, hb⟩
    have HW := hid (HW.out.trans (hb.mono hz))
    have hz := HW.out.size
    clear hb
    go_wp2_with fail
    refine Calls.mono (known_true _) ?_
    rintro e w9 ⟨rfl, hb⟩
    have HW := hid (HW.out.trans (hb.mono hz))
    have hz := HW.out.size
    clear hb
    go_wp2_with fail
    go_ret
    exact ⟨rfl, HW.out⟩
  by_cases h4 : 65536 < n
  · go_wp2_with fail
    refine Calls.mono (nwrite_no (.inr h4) HN.out) ?_
    rintro e w2 ⟨rfl, hb⟩
    have HA := hid (HA.out.below hb)
    have HB := hid (HB.out.below hb)
    have HW := hid (HW.out.trans (hb.mono hz))
    have hz := HW.out.size
    clear hb
    go_wp2_with fail
    refine Calls.mono (rwrite_no (.inr h4) HN.out) ?_
    rintro e w3 ⟨rfl, hb⟩
    have HA := hid (HA.out.below hb)
    have HB := hid (HB.out.below hb)
    have HW := hid (HW.out.trans (hb.mono hz))
    have hz := HW.out.size
    clear hb
    go_wp2_with fail
    have HV := hid (rb_nil w3 g)
    have HU := hid (rb_nil w3 g)
    refine Calls.mono (read_r (B := w.heap.size) hz HB.out (by omega)) ?_
    rintro e w5 ⟨v5, rfl, hx, hb⟩
    have H5 := hid hx
    have HA := hid (HA.out.below hb)
    have HB := hid (HB.out.below hb)
    have HV := hid (HV.out.below hb)
    have HU := hid (HU.out.below hb)
    have HW := hid (HW.out.trans (hb.mono hz))
    have hz := HW.out.size
    clear hx hb
    go_wp2_with fail
    refine Calls.mono (rread_r (B := w.heap.size) hz HB.out (by omega)) ?_
    rintro e w6 ⟨v6, rfl, hx, hb⟩
    have H6 := hid hx
    have HV := hid (HV.out.below hb)
    have HU := hid (HU.out.below hb)
    have H5 := hid (H5.out.below hb)
    have HW := hid (HW.out.trans (hb.mono hz))
    have hz := HW.out.size
    clear hx hb
    go_wp2_with fail
    refine Calls.mono (same_n H5.out H6.out) ?_
    rintro e w7 ⟨rfl, hb⟩
    have HV := hid (HV.out.below hb)
    have HU := hid (HU.out.below hb)
    have HW := hid (HW.out.trans (hb.mono hz))
    have hz := HW.out.size
    clear hb
    go_wp2_with fail
    refine Calls.mono (sameb_any HV.out HU.out (fun _ _ => rfl)) ?_
    rintro e w8 ⟨rfl, hb⟩
    have HW := hid (HW.out.trans (hb.mono hz))
    have hz := HW.out.size
    clear hb
    go_wp2_with fail
    refine Calls.mono (known_true _) ?_
    rintro e w9 ⟨rfl, hb⟩
    have HW := hid (HW.out.trans (hb.mono hz))
    have hz := HW.out.size
    clear hb
    go_wp2_with fail
    go_ret
    exact ⟨rfl, HW.out⟩
  by_cases h5 : 300 < n
  · go_wp2_with fail
    refine Calls.mono (known_true w) ?_
    rintro e w2 ⟨rfl, hb⟩
    have HW := hid (HW.out.trans (hb.mono hz))
    have hz := HW.out.size
    clear hb
    go_wp2_with fail
    go_ret
    exact ⟨rfl, HW.out⟩
  obtain ⟨m, rfl⟩ : ∃ m : Nat, n = (m : Int) := ⟨n.toNat, by omega⟩
  go_wp2_with fail
  by_cases h6 : m < (bits (val f na) + 7) / 8
  · have H6 := hid h6
    clear h6
    refine Calls.mono (nwrite_wide HA.out.rd (by omega) (by omega) H6.out) ?_
    rintro e w2 ⟨rfl, hb⟩
    have HA := hid (HA.out.below hb)
    have HB := hid (HB.out.below hb)
    have HW := hid (HW.out.trans (hb.mono hz))
    have hz := HW.out.size
    clear hb
    go_wp2_with fail
    refine Calls.mono (rwrite_wide HA.out.rd (by omega) (by omega) H6.out) ?_
    rintro e w3 ⟨rfl, hb⟩
    have HA := hid (HA.out.below hb)
    have HB := hid (HB.out.below hb)
    have HW := hid (HW.out.trans (hb.mono hz))
    have hz := HW.out.size
    clear hb
    go_wp2_with fail
    have HV := hid (rb_nil w3 g)
    have HU := hid (rb_nil w3 g)
    refine Calls.mono (read_r (B := w.heap.size) hz HB.out (by omega)) ?_
    rintro e w5 ⟨v5, rfl, hx, hb⟩
    have H5 := hid hx
    have HA := hid (HA.out.below hb)
    have HB := hid (HB.out.below hb)
    have HV := hid (HV.out.below hb)
    have HU := hid (HU.out.below hb)
    have HW := hid (HW.out.trans (hb.mono hz))
    have hz := HW.out.size
    clear hx hb
    go_wp2_with fail
    refine Calls.mono (rread_r (B := w.heap.size) hz HB.out (by omega)) ?_
    rintro e w6 ⟨v6, rfl, hx, hb⟩
    have H6 := hid hx
    have HV := hid (HV.out.below hb)
    have HU := hid (HU.out.below hb)
    have H5 := hid (H5.out.below hb)
    have HW := hid (HW.out.trans (hb.mono hz))
    have hz := HW.out.size
    clear hx hb
    go_wp2_with fail
    refine Calls.mono (same_n H5.out H6.out) ?_
    rintro e w7 ⟨rfl, hb⟩
    have HV := hid (HV.out.below hb)
    have HU := hid (HU.out.below hb)
    have HW := hid (HW.out.trans (hb.mono hz))
    have hz := HW.out.size
    clear hb
    go_wp2_with fail
    refine Calls.mono (sameb_any HV.out HU.out (fun _ _ => rfl)) ?_
    rintro e w8 ⟨rfl, hb⟩
    have HW := hid (HW.out.trans (hb.mono hz))
    have hz := HW.out.size
    clear hb
    go_wp2_with fail
    refine Calls.mono (known_true _) ?_
    rintro e w9 ⟨rfl, hb⟩
    have HW := hid (HW.out.trans (hb.mono hz))
    have hz := HW.out.size
    clear hb
    go_wp2_with fail
    go_ret
    exact ⟨rfl, HW.out⟩
  · have H6 : Hid ((bits (val f na) + 7) / 8 ≤ m) := Nat.le_of_not_lt h6
    clear h6
    refine Calls.mono (write_i (m := m) rfl HA.out.rd (by omega) (by omega) H6.out) ?_
    rintro e w2 ⟨v2, rfl, hx, hb⟩
    have HV := hid hx
    have HA := hid (HA.out.below hb)
    have HB := hid (HB.out.below hb)
    have HW := hid (HW.out.trans (hb.mono hz))
    have hz := HW.out.size
    clear hx hb
    go_wp2_with fail
    refine Calls.mono (rwrite_any HA.out.rd (by omega) (by omega) H6.out) ?_
    rintro e w3 ⟨v3, rfl, hx, hb⟩
    have HU := hid hx
    have HA := hid (HA.out.below hb)
    have HB := hid (HB.out.below hb)
    have HV := hid (HV.out.below hb)
    have HW := hid (HW.out.trans (hb.mono hz))
    have hz := HW.out.size
    clear hx hb
    go_wp2_with fail
    refine Calls.mono (read_r (B := w.heap.size) hz HB.out (by omega)) ?_
    rintro e w5 ⟨v5, rfl, hx, hb⟩
    have H5 := hid hx
    have HA := hid (HA.out.below hb)
    have HB := hid (HB.out.below hb)
    have HV := hid (HV.out.below hb)
    have HU := hid (HU.out.below hb)
    have HW := hid (HW.out.trans (hb.mono hz))
    have hz := HW.out.size
    clear hx hb
    go_wp2_with fail
    refine Calls.mono (rread_r (B := w.heap.size) hz HB.out (by omega)) ?_
    rintro e w6 ⟨v6, rfl, hx, hb⟩
    have H6 := hid hx
    have HV := hid (HV.out.below hb)
    have HU := hid (HU.out.below hb)
    have H5 := hid (H5.out.below hb)
    have HW := hid (HW.out.trans (hb.mono hz))
    have hz := HW.out.size
    clear hx hb
    go_wp2_with fail
    refine Calls.mono (same_n H5.out H6.out) ?_
    rintro e w7 ⟨rfl, hb⟩
    have HV := hid (HV.out.below hb)
    have HU := hid (HU.out.below hb)
    have HW := hid (HW.out.trans (hb.mono hz))
    have hz := HW.out.size
    clear hb
    go_wp2_with fail
    refine Calls.mono (sameb_any HV.out HU.out (fun _ _ => rfl)) ?_
    rintro e w8 ⟨rfl, hb⟩
    have HW := hid (HW.out.trans (hb.mono hz))
    have hz := HW.out.size
    clear hb
    go_wp2_with fail
    refine Calls.mono (known_true _) ?_
    rintro e w9 ⟨rfl, hb⟩
    have HW := hid (HW.out.trans (hb.mono hz))
    have hz := HW.out.size
    clear hb
    go_wp2_with fail
    go_ret
    exact ⟨rfl, HW.out⟩

/-- A cell of a row that may be written. -/
theorem Sl.stored {w : World} {k : IntKind} {b off n c : Nat} {f : Nat → Nat} (h : Sl w k (some ⟨b, off, none⟩) n c f) {j : Nat} (hj : j < n) (v : Nat) :
    Sl (w.setCell ⟨b, off + j, none⟩ (.int k (v : Nat))) k (some ⟨b, off, none⟩) n c (upd f j v) := by
  refine ⟨h.1, h.2.1, h.2.2.1, fun hn => ?_⟩
  obtain ⟨b', off', e, hlt, hc⟩ := h.at_ hn
  cases e
  refine ⟨b, off, rfl, by simpa using hlt, fun i hi => ?_⟩
  by_cases e : i = j
  · subst e
    rw [upd_same]
    exact World.cell?_setCell_same _ _ _ (hc i hi)
  · rw [upd_other _ _ e, World.cell?_setCell_other _ _ _ _ (fun h => e (by have h2 : off + j = off + i := congrArg Addr.off h; omega))]
    exact hc i hi

theorem Nw.stored {B : Nat} {w : World} {b off : Nat} (h : Nw B w (some ⟨b, off, none⟩)) (a : Addr) (v : Value) : Nw B (w.setCell a v) (some ⟨b, off, none⟩) := by
  intro x hx
  obtain ⟨h1, h2, h3⟩ := h x hx
  exact ⟨h1, by simpa using h2, fun o => by simpa using h3 o⟩

set_option maxRecDepth 100000 in
set_option maxHeartbeats 3200000 in
theorem forms_any {w : World} {a b : Value} {na nb N : Nat} {f g : Nat → Nat} (ha : Rf w a na f) (hb : Rf w b nb g) (hN : N < 18446744073709551616) :
    Calls Try.prog 14 #[a, b, .int .u64 (N : Nat)] w fun e w' => e = .returned (.bool true) ∧ Below w.heap.size w w' := by
  have HA := hid ha
  have HB := hid hb
  have HW := hid (Below.refl w.heap.size w)
  have hz : w.heap.size ≤ w.heap.size := Nat.le_refl _
  clear ha hb
  go_enter Try.func14, Try.ntmps14
  go_wp2_with fail
  refine (heavy_r HA.out).mono ?_
  rintro e w1 ⟨rfl, rfl⟩
  by_cases h1 : 24 < na
  · rw [decide_eq_true h1]
    go_wp2_with fail
    refine Calls.mono (known_true w) ?_
    rintro e w2 ⟨rfl, hb⟩
    have HW := hid (HW.out.trans (hb.mono hz))
    have hz := HW.out.size
    clear hb
    go_wp2_with fail
    go_ret
    exact ⟨rfl, HW.out⟩
  rw [decide_eq_false h1]
  go_wp2_with fail
  refine (heavy_r HB.out).mono ?_
  rintro e w1 ⟨rfl, rfl⟩
  by_cases h2 : 24 < nb
  · rw [decide_eq_true h2]
    go_wp2_with fail
    refine Calls.mono (known_true w) ?_
    rintro e w2 ⟨rfl, hb⟩
    have HW := hid (HW.out.trans (hb.mono hz))
    have hz := HW.out.size
    clear hb
    go_wp2_with fail
    go_ret
    exact ⟨rfl, HW.out⟩
  rw [decide_eq_false h2]
  go_wp2_with fail
  refine Calls.mono (own_r HA.out (by omega)) ?_
  rintro e w1 ⟨x, rfl, hx, hb⟩
  have HX := hid hx
  have HA := hid (HA.out.below hb)
  have HB := hid (HB.out.below hb)
  have HW := hid (HW.out.trans (hb.mono hz))
  have hz := HW.out.size
  clear hx hb
  go_wp2_with fail
  refine Calls.mono (own_r HB.out (by omega)) ?_
  rintro e w2 ⟨y, rfl, hx, hb⟩
  have HY := hid hx
  have HA := hid (HA.out.below hb)
  have HB := hid (HB.out.below hb)
  have HX := hid (HX.out.below hb)
  have HW := hid (HW.out.trans (hb.mono hz))
  have hz := HW.out.size
  clear hx hb
  go_wp2_with fail
  have HW0 := HW
  have hz0 := hz
  have HW := hid (Below.refl w2.heap.size w2)
  have hz : w2.heap.size ≤ w2.heap.size := Nat.le_refl _
  have HX2 := HX
  have HY2 := HY
  have HA2 := HA
  have HB2 := HB
  obtain ⟨X, hX⟩ : ∃ X, X = val f na := ⟨_, rfl⟩
  obtain ⟨Y, hY⟩ : ∃ Y, Y = val g nb := ⟨_, rfl⟩
  have RX := hid HX.out.rd
  have RY := hid HY.out.rd
  have RA := hid HA.out.rd
  have RB := hid HB.out.rd
  rw [← hX] at RX RA
  rw [← hY] at RY RB
  have hnX : nd X ≤ 24 := Nat.le_trans RX.out.nd_le (by omega)
  clear hX hY HX HY HA HB
  refine Calls.mono (trim_r (B := w2.heap.size) hz RX.out (by omega)) ?_
  rintro e w3 ⟨t, rfl, hx, hb⟩
  have HT := hid hx
  have RX := hid (RX.out.below hb)
  have RY := hid (RY.out.below hb)
  have RA := hid (RA.out.below hb)
  have RB := hid (RB.out.below hb)
  have HW := hid (HW.out.trans (hb.mono hz))
  have hz := HW.out.size
  clear hx hb
  go_wp2_with fail
  refine Calls.mono (nsmall_r RX.out) ?_
  rintro e w4 ⟨rfl, rfl⟩
  have HRS := hid (fun (w : World) (h : Rd w a na X) => rsmall_r (w := w) h (by omega))
  generalize smallV X = sv at *
  generalize smallB X = sb at *
  go_wp2_with fail
  refine Calls.mono (HRS.out w3 RA.out) ?_
  rintro e w4 ⟨rfl, hb⟩
  have RX := hid (RX.out.below hb)
  have RY := hid (RY.out.below hb)
  have RA := hid (RA.out.below hb)
  have RB := hid (RB.out.below hb)
  have HT := hid (HT.out.below hb)
  have HW := hid (HW.out.trans (hb.mono hz))
  have hz := HW.out.size
  clear hb
  go_wp2_with fail
  refine Calls.mono (rtrim_r (B := w2.heap.size) hz RA.out (by omega)) ?_
  rintro e w5 ⟨t2, rfl, hx, hb⟩
  have HT2 := hid hx
  have RX := hid (RX.out.below hb)
  have RY := hid (RY.out.below hb)
  have RA := hid (RA.out.below hb)
  have RB := hid (RB.out.below hb)
  have HT := hid (HT.out.below hb)
  have HW := hid (HW.out.trans (hb.mono hz))
  have hz := HW.out.size
  clear hx hb
  go_wp2_with fail
  refine Calls.mono (same_n HT.out HT2.out) ?_
  rintro e w6 ⟨rfl, hb⟩
  have RX := hid (RX.out.below hb)
  have RY := hid (RY.out.below hb)
  have RA := hid (RA.out.below hb)
  have RB := hid (RB.out.below hb)
  have HT := hid (HT.out.below hb)
  have HW := hid (HW.out.trans (hb.mono hz))
  have hz := HW.out.size
  clear hb
  go_wp2_with fail
  have HCM := hid (fun (w : World) (h1 : Rd w x na X) (h2 : Rd w y nb Y) => cmp_b (w := w) h1 h2)
  have HCM2 := hid (fun (w : World) (h1 : Rd w a na X) (h2 : Rd w b nb Y) => rcmp_r (w := w) h1 h2 (by omega) (by omega))
  have HBT := hid (fun (w : World) (h1 : Rd w x na X) => bits_r (w := w) h1 (by omega))
  have HBT2 := hid (fun (w : World) (h1 : Rd w a na X) => rbits_r (w := w) h1 (by omega))
  generalize cmp X Y = cm at *
  generalize bits X = kb at *
  refine Calls.mono (HCM.out _ RX.out RY.out) ?_
  rintro e w7 ⟨rfl, hb⟩
  have RX := hid (RX.out.below hb)
  have RA := hid (RA.out.below hb)
  have RB := hid (RB.out.below hb)
  have HT := hid (HT.out.below hb)
  have HW := hid (HW.out.trans (hb.mono hz))
  have hz := HW.out.size
  clear hb
  go_wp2_with fail
  refine Calls.mono (HCM2.out _ RA.out RB.out) ?_
  rintro e w8 ⟨rfl, hb⟩
  have RX := hid (RX.out.below hb)
  have RA := hid (RA.out.below hb)
  have HT := hid (HT.out.below hb)
  have HW := hid (HW.out.trans (hb.mono hz))
  have hz := HW.out.size
  clear hb
  go_wp2_with fail
  refine Calls.mono (HBT.out _ RX.out) ?_
  rintro e w9 ⟨rfl, rfl⟩
  go_wp2_with fail
  refine Calls.mono (HBT2.out _ RA.out) ?_
  rintro e w9 ⟨rfl, hb⟩
  have HT := hid (HT.out.below hb)
  have HW := hid (HW.out.trans (hb.mono hz))
  have hz := HW.out.size
  clear hb
  go_wp2_with fail
  refine Calls.mono (of_r (B := w2.heap.size) N _ hN hz) ?_
  rintro e w10 ⟨o1, rfl, hx, hb⟩
  have HO1 := hid hx
  have HT := hid (HT.out.below hb)
  have HW := hid (HW.out.trans (hb.mono hz))
  have hz := HW.out.size
  clear hx hb
  go_wp2_with fail
  refine Calls.mono (rof_r (B := w2.heap.size) N _ hN hz) ?_
  rintro e w11 ⟨o2, rfl, hx, hb⟩
  have HO2 := hid hx
  have HT := hid (HT.out.below hb)
  have HO1 := hid (HO1.out.below hb)
  have HW := hid (HW.out.trans (hb.mono hz))
  have hz := HW.out.size
  clear hx hb
  go_wp2_with fail
  refine Calls.mono (same_n HO1.out HO2.out) ?_
  rintro e w12 ⟨rfl, hb⟩
  have HT := hid (HT.out.below hb)
  have HW := hid (HW.out.trans (hb.mono hz))
  have hz := HW.out.size
  clear hb
  go_wp2_with fail
  obtain ⟨ot, ct, rfl, t1, t2⟩ := HT.out
  have HT1 := hid t1
  have HTN := hid t2
  clear t1 t2 HT
  go_loopw [14] (fun i wr => ∃ (j : Nat) (h : Nat → Nat), j ≤ nd X ∧ i = .int .i64 (j : Nat) ∧ Sl wr .u32 ot (nd X) ct h ∧ Nw w2.heap.size wr ot ∧ Below w2.heap.size w2 wr) (fun i _ => nd X - (intOf i).toNat)
  case atStart => exact ⟨0, _, Nat.zero_le _, rfl, HT1.out, HTN.out, HW.out⟩
  case round =>
    obtain ⟨j, h, hj, rfl, ht, htn, hbl⟩ := hrel
    have HT := hid ht
    have HTN := hid htn
    have HL := hid hbl
    have hz := hbl.size
    by_cases hlt : j < nd X
    · obtain ⟨bt, ft, rfl, hbt, hct⟩ := ht.at_ (by omega)
      have hcj := hct j hlt
      obtain ⟨q1, q2, q3⟩ := htn _ rfl
      have hfj := q3 (ft + j)
      have q1' : w2.heap.size ≤ bt := q1
      clear ht htn hbl hct q1 q2 q3
      go_wp2_with fail
      go_roundw
      case rel => exact ⟨j + 1, _, by omega, by go_num, HT.out.stored hlt 9, HTN.out.stored _ _, HL.out.setCell q1' _⟩
      case measure => simp [intOf]; omega
    · obtain rfl : j = nd X := by omega
      have HX := hid (HX2.out.below hbl)
      have HY := hid (HY2.out.below hbl)
      have HA := hid (HA2.out.below hbl)
      have HB := hid (HB2.out.below hbl)
      have HW := hid hbl
      clear ht htn hbl
      go_wp2_with fail
      refine Calls.mono (same_b HX.out HA.out) ?_
      rintro e w13 ⟨rfl, hb⟩
      have HY := hid (HY.out.below hb)
      have HB := hid (HB.out.below hb)
      have HW := hid (HW.out.trans (hb.mono hz))
      have hz := HW.out.size
      clear hb
      go_wp2_with fail
      refine Calls.mono (same_b HY.out HB.out) ?_
      rintro e w14 ⟨rfl, hb⟩
      have HW := hid (HW.out.trans (hb.mono hz))
      have hz := HW.out.size
      clear hb
      go_wp2_with fail
      refine Calls.mono (known_true _) ?_
      rintro e w15 ⟨rfl, hb⟩
      have HW := hid (HW.out.trans (hb.mono hz))
      have hz := HW.out.size
      clear hb
      go_wp2_with fail
      go_ret
      exact ⟨rfl, HW0.out.trans (HW.out.mono hz0)⟩

theorem forms_int {w : World} {a b : Value} {na nb : Nat} {f g : Nat → Nat} {n : Int} (ha : Rf w a na f) (hb : Rf w b nb g) (hn : 0 ≤ n ∧ n ≤ 18446744073709551615) :
    Calls Try.prog 14 #[a, b, .int .u64 n] w fun e w' => e = .returned (.bool true) ∧ Below w.heap.size w w' := by
  obtain ⟨N, rfl⟩ : ∃ N : Nat, n = (N : Int) := ⟨n.toNat, by omega⟩
  exact forms_any ha hb (by omega)

end Go.Proofs.Ytfknjfmgpfhjiaa
