/-
  The walks of nat.Write and nat.Read.
-/
import Derived.Test.YtfknjfmgpfhjiaaWs
import Derived.BigRegion
namespace Go.Proofs.Ytfknjfmgpfhjiaa
open Go.RowKit

/-- A byte of a number, from its end on. -/
def byt (N i : Nat) : Nat := N / 2 ^ (8 * i) % 256

theorem byt_lt (N i : Nat) : byt N i < 256 := Nat.mod_lt _ (by decide)

theorem byt_dg (N i : Nat) : dg N (i / 4) / 2 ^ (8 * (i % 4)) % 256 = byt N i := by
  have h1 : 4294967296 = 2 ^ (8 * (i % 4)) * (256 * 2 ^ (24 - 8 * (i % 4))) := by
    rw [show (256 : Nat) = 2 ^ 8 from rfl, ← Nat.pow_add, ← Nat.pow_add]
    rw [show 8 * (i % 4) + (8 + (24 - 8 * (i % 4))) = 32 from by omega]
  have h2 : N / 2 ^ (8 * i) = N / W (i / 4) / 2 ^ (8 * (i % 4)) := by
    rw [Nat.div_div_eq_div_mul, W, ← Nat.pow_add]
    congr 2
    omega
  rw [byt, h2, dg]
  conv => lhs; rw [h1]
  rw [Nat.mod_mul_right_div_self, Nat.mod_mul_right_mod]

theorem byt_out {N i n : Nat} (h : N < W n) (hi : n ≤ i / 4) : byt N i = 0 := by
  have h2 : N < 2 ^ (8 * i) := Nat.lt_of_lt_of_le h (Nat.pow_le_pow_right (by decide) (by omega))
  rw [byt, Nat.div_eq_of_lt h2]

set_option maxHeartbeats 1600000 in
theorem nwrite_no {w : World} {a : Value} {n : Int} (h : n < 0 ∨ 65536 < n) (h2 : -9223372036854775808 ≤ n ∧ n ≤ 9223372036854775807) :
    Calls Try.prog 44 #[a, .int .i64 n] w fun x w' => x = .returned (.tuple #[.slice none 0 0, .int .i64 1]) ∧ Below w.heap.size w w' := by
  go_enter Try.func44, Try.ntmps44
  by_cases h1 : n < 0
  · go_wp2_with fail
    go_ret2
    exact ⟨rfl, Below.refl _ _⟩
  · have h3 : 65536 < n := by omega
    go_wp2_with fail
    go_ret2
    exact ⟨rfl, Below.refl _ _⟩

set_option maxHeartbeats 1600000 in
theorem nwrite_wide {w : World} {a : Value} {na A n : Nat} (ha : Rd w a na A) (hna : na ≤ 10000) (hn : n ≤ 65536) (h : n < (bits A + 7) / 8) :
    Calls Try.prog 44 #[a, .int .i64 (n : Nat)] w fun x w' => x = .returned (.tuple #[.slice none 0 0, .int .i64 12]) ∧ Below w.heap.size w w' := by
  have HA := hid ha
  have hbe : bits A ≤ 32 * na := bits_le.2 ha.lt
  clear ha
  go_enter Try.func44, Try.ntmps44
  go_wp2_with fail
  refine (bits_r HA.out (by omega)).mono ?_
  rintro x w1 ⟨rfl, rfl⟩
  generalize bits A = k at *
  go_wp2_with fail
  go_ret2
  exact ⟨rfl, Below.refl _ _⟩

set_option maxHeartbeats 1600000 in
theorem nwrite_any {w : World} {a : Value} {na A n : Nat} (ha : Rd w a na A) (hna : na ≤ 10000) (hn : n ≤ 65536) (h : (bits A + 7) / 8 ≤ n) :
    Calls Try.prog 44 #[a, .int .i64 (n : Nat)] w fun x w' => x = .returned (.tuple #[.slice (some ⟨w.heap.size, 0, none⟩) n n, .int .i64 0]) ∧ Own w.heap.size w' .u8 5 (some ⟨w.heap.size, 0, none⟩) n n (fun t => byt A (n - 1 - t)) ∧ Below w.heap.size w w' := by
  have HA := hid ha
  have hbe : bits A ≤ 32 * na := bits_le.2 ha.lt
  have HLT := hid ha.lt
  clear ha
  go_enter Try.func44, Try.ntmps44
  go_wp2_with fail
  refine (bits_r HA.out (by omega)).mono ?_
  rintro x w1 ⟨rfl, rfl⟩
  generalize bits A = k at *
  go_wp2_with (at_make; refine wpList_mk rfl _ _ k8 rfl .i64 .i64 _ _ n rfl rfl (by omega) (by omega) (by omega) ?_)
  intro w1 hown hbl hz
  have HO := hid hown
  have HB1 := hid hbl
  obtain ⟨oa, ca, f, rfl, ha2, hf, hval⟩ := HA.out
  have HA2 := hid ha2
  have HF := hid hf
  have hby : ∀ i, i / 4 < na → f (i / 4) / 2 ^ (8 * (i % 4)) % 256 = byt A i := fun i hi => by
    rw [← byt_dg A i, ← hval, dg_val hf (i / 4) (by omega)]
  have HBY := hid hby
  clear hown hbl ha2 hf hval hby HA
  go_wp2_with fail
  go_loopw [23] (fun i wr => ∃ (j : Nat), j ≤ n ∧ i = .int .i64 j ∧ Own w.heap.size wr .u8 5 (some ⟨w.heap.size, 0, none⟩) n n (fun t => if n ≤ t + j then byt A (n - 1 - t) else 0) ∧ Below w.heap.size w wr) (fun i _ => n - (intOf i).toNat)
  case atStart => exact ⟨0, Nat.zero_le _, rfl, HO.out.congr (fun t ht => by rw [if_neg (by omega)]), HB1.out⟩
  case round =>
    obtain ⟨j, hj, rfl, hown, hbl⟩ := hrel
    have HO2 := hid hown
    have HL := hid hbl
    have hz2 := hbl.size
    by_cases hlt : j < n
    · obtain ⟨g0, hg0, _, hz3, hcell, hfr⟩ := hown.at_ (by omega)
      cases hg0
      have hcj := hcell (n - 1 - j) (by omega)
      have hfrj := hfr (n - 1 - j)
      clear hown hbl hcell hfr
      by_cases hin : j / 4 < na
      · obtain ⟨b, off, rfl, hb, hc⟩ := HA2.out.at_ (by omega)
        have hx : wr.cell? ⟨b, off + j / 4, none⟩ = some (.int .u32 (f (j / 4) : Nat)) := by
          rw [HL.out.cell (p := ⟨b, off + j / 4, none⟩) hb, hc _ hin]
        have hl := HF.out (j / 4) hin
        have HBJ := hid (HBY.out j hin)
        clear hc
        go_wp2_with fail
        have e7 : ((f (j / 4) : Nat) : Int) / 2 ^ (8 * (j % 4)) % 256 = ((byt A j : Nat) : Int) := by
          rw [← HBJ.out, Int.natCast_emod, Int.natCast_ediv]
          simp
        rw [e7]
        go_roundw
        case rel =>
          refine ⟨j + 1, by omega, by go_num, (HO2.out.stored (n - 1 - j) (byt A j)).congr fun t ht => ?_, HL.out.setCell (Nat.le_refl _) _⟩
          by_cases c1 : t = n - 1 - j
          · subst c1
            rw [upd_same, if_pos (by omega), show n - 1 - (n - 1 - j) = j from by omega]
          · rw [upd_other _ _ c1]
            by_cases c2 : n ≤ t + j
            · rw [if_pos c2, if_pos (by omega)]
            · rw [if_neg c2, if_neg (by omega)]
        case measure => simp [intOf]; omega
      · go_wp2_with fail
        go_roundw
        case rel =>
          refine ⟨j + 1, by omega, by go_num, HO2.out.congr fun t ht => ?_, HL.out⟩
          by_cases c1 : n ≤ t + j
          · rw [if_pos c1, if_pos (by omega)]
          · by_cases c2 : n ≤ t + (j + 1)
            · rw [if_neg c1, if_pos c2]
              rw [byt_out HLT.out (by omega)]
            · rw [if_neg c1, if_neg c2]
        case measure => simp [intOf]; omega
    · obtain rfl : j = n := by omega
      clear hown hbl
      go_wp2_with fail
      go_ret2
      exact ⟨rfl, HO2.out.congr fun t ht => if_pos (by omega), HL.out⟩


/-- The value is a slice of n bytes g. -/
def Rb (w : World) (v : Value) (n : Nat) (g : Nat → Nat) : Prop := ∃ oa c, v = .slice oa n c ∧ Sl w .u8 oa n c g ∧ ∀ j, j < n → g j < 256

theorem Rb.below {w w' : World} {v : Value} {n : Nat} {g : Nat → Nat} (h : Rb w v n g) (hb : Below w.heap.size w w') : Rb w' v n g := by
  obtain ⟨oa, c, h1, h2, h3⟩ := h
  exact ⟨oa, c, h1, h2.below hb, h3⟩

/-- The number that bytes make, the last byte first. -/
def bval (g : Nat → Nat) (n : Nat) : Nat → Nat
  | 0 => 0
  | j + 1 => bval g n j + g (n - 1 - j) * 2 ^ (8 * j)

theorem bval_lt {g : Nat → Nat} {n : Nat} (h : ∀ j, j < n → g j < 256) : ∀ j, j ≤ n → bval g n j < 2 ^ (8 * j)
  | 0, _ => Nat.one_pos
  | j + 1, hj => by
    have h1 := bval_lt h j (by omega)
    have h2 := h (n - 1 - j) (by omega)
    have h3 : 2 ^ (8 * (j + 1)) = 256 * 2 ^ (8 * j) := by rw [show 8 * (j + 1) = 8 + 8 * j from by omega, Nat.pow_add]
    rw [h3]
    show bval g n j + g (n - 1 - j) * 2 ^ (8 * j) < _
    generalize 2 ^ (8 * j) = P at *
    have h4 : g (n - 1 - j) * P ≤ 255 * P := Nat.mul_le_mul_right _ (by omega)
    omega

/-- A byte more: the limbs. -/
theorem bval_step {g : Nat → Nat} {n j : Nat} (h : ∀ j, j < n → g j < 256) (hj : j < n) :
    (∀ t, t ≠ j / 4 → dg (bval g n (j + 1)) t = dg (bval g n j) t) ∧
    dg (bval g n (j + 1)) (j / 4) = dg (bval g n j) (j / 4) + g (n - 1 - j) * 2 ^ (8 * (j % 4)) ∧
    dg (bval g n j) (j / 4) < 2 ^ (8 * (j % 4)) ∧ g (n - 1 - j) * 2 ^ (8 * (j % 4)) < 4294967296 := by
  have hl := bval_lt h j (by omega)
  have hg := h (n - 1 - j) (by omega)
  have e : 2 ^ (8 * j) = 2 ^ (8 * (j % 4)) * W (j / 4) := by
    rw [W, ← Nat.pow_add]; congr 1; omega
  have hP : 2 ^ (8 * (j % 4)) ≤ 16777216 := Nat.pow_le_pow_right (by decide) (show 8 * (j % 4) ≤ 24 by omega)
  have hs : bval g n (j + 1) = bval g n j + g (n - 1 - j) * 2 ^ (8 * (j % 4)) * W (j / 4) := by
    show bval g n j + g (n - 1 - j) * 2 ^ (8 * j) = _
    rw [e, Nat.mul_assoc]
  rw [hs]
  rw [e] at hl
  clear hs e
  generalize bval g n j = S at *
  generalize g (n - 1 - j) = y at *
  obtain ⟨P, hPd⟩ : ∃ P, P = 2 ^ (8 * (j % 4)) := ⟨_, rfl⟩
  rw [← hPd] at hP hl ⊢
  have hyP : y * P ≤ 255 * 16777216 := Nat.mul_le_mul (by omega) hP
  have hlo : dg S (j / 4) = S / W (j / 4) := by
    rw [dg, Nat.mod_eq_of_lt]
    have : S / W (j / 4) < P := Nat.div_lt_of_lt_mul (by rw [Nat.mul_comm]; exact hl)
    omega
  have hSd : S / W (j / 4) < P := Nat.div_lt_of_lt_mul (by rw [Nat.mul_comm]; exact hl)
  have hyd : ∃ d, d = y * P := ⟨_, rfl⟩
  obtain ⟨d, hd⟩ := hyd
  have hpp : y * P + P ≤ 4294967296 := by
    have h5 : (y + 1) * P ≤ 256 * 16777216 := Nat.mul_le_mul (by omega) hP
    rw [Nat.add_mul, Nat.one_mul] at h5
    omega
  refine ⟨fun t ht => ?_, ?_, by omega, by omega⟩
  · have hSW : S + y * P * W (j / 4) < W (j / 4 + 1) := by
      rw [W_succ]
      have h6 : (y * P + P) * W (j / 4) ≤ 4294967296 * W (j / 4) := Nat.mul_le_mul_right _ hpp
      rw [Nat.add_mul] at h6
      omega
    have hSW2 : S < W (j / 4 + 1) := by omega
    by_cases c : t < j / 4
    · exact dg_add_high hSW2 c
    · rw [dg_out_lt (Nat.lt_of_lt_of_le hSW (W_le (by omega))), dg_out_lt (Nat.lt_of_lt_of_le hSW2 (W_le (by omega)))]
  · rw [hlo, dg, Nat.add_mul_div_right _ _ (W_pos _), Nat.mod_eq_of_lt (by omega)]


set_option maxHeartbeats 1600000 in
theorem nread_any {w : World} {b : Value} {n : Nat} {g : Nat → Nat} (hb : Rb w b n g) (hn : n ≤ 100000) :
    Calls Try.prog 46 #[b] w fun e w' => ∃ v, e = .returned v ∧ Num .u32 w.heap.size w' v (bval g n n) ∧ Below w.heap.size w w' := by
  obtain ⟨oa, c, rfl, hs, hg⟩ := hb
  have HS := hid hs
  have HG := hid hg
  clear hs hg
  go_enter Try.func46, Try.ntmps46
  go_wp2_with (at_make; refine wpList_mk rfl _ _ k32 rfl .i64 .i64 _ _ ((n + 3) / 4) rfl rfl (by omega) (by omega) (by omega) ?_)
  intro w1 hown hbl hz
  have HO := hid hown
  have HB1 := hid hbl
  clear hown hbl
  go_wp2_with fail
  go_loopw [13] (fun i wr => ∃ (j : Nat), j ≤ n ∧ i = .int .i64 j ∧ Own w.heap.size wr .u32 60 (some ⟨w.heap.size, 0, none⟩) ((n + 3) / 4) ((n + 3) / 4) (dg (bval g n j)) ∧ Below w.heap.size w wr) (fun i _ => n - (intOf i).toNat)
  case atStart => exact ⟨0, Nat.zero_le _, rfl, HO.out.congr (fun t _ => by show 0 = dg 0 t; simp [dg]), HB1.out⟩
  case round =>
    obtain ⟨j, hj, rfl, hown, hbl⟩ := hrel
    have HO2 := hid hown
    have HL := hid hbl
    have hz2 := hbl.size
    by_cases hlt : j < n
    · obtain ⟨g0, hg0, _, hz3, hcell, hfr⟩ := hown.at_ (by omega)
      cases hg0
      have hcj := hcell (j / 4) (by omega)
      have hfrj := hfr (j / 4)
      obtain ⟨bb, off, rfl, hbb, hc⟩ := HS.out.at_ (by omega)
      have hx : wr.cell? ⟨bb, off + (n - 1 - j), none⟩ = some (.int .u8 (g (n - 1 - j) : Nat)) := by
        rw [HL.out.cell (p := ⟨bb, off + (n - 1 - j), none⟩) hbb, hc _ (by omega)]
      have hl := HG.out (n - 1 - j) (by omega)
      have HST := hid (bval_step (fun t ht => HG.out t ht) hlt)
      clear hown hbl hcell hfr hc
      go_upto_region 6 with fail
      go_region
      all_goals go_wp2_with fail
      obtain ⟨s1, s2, s3, s4⟩ := HST.out
      have e7 : Go.bits .or .u32 ((dg (bval g n j) (j / 4) : Nat) : Int) (((g (n - 1 - j) : Nat) : Int) * 2 ^ (8 * (j % 4)) % 4294967296) = ((dg (bval g n (j + 1)) (j / 4) : Nat) : Int) := by
        have e8 : (((g (n - 1 - j) : Nat) : Int) * 2 ^ (8 * (j % 4)) % 4294967296) = ((g (n - 1 - j) * 2 ^ (8 * (j % 4)) : Nat) : Int) := by
          have e9 : (((g (n - 1 - j) : Nat) : Int) * 2 ^ (8 * (j % 4))) = ((g (n - 1 - j) * 2 ^ (8 * (j % 4)) : Nat) : Int) := by rw [Int.natCast_mul]; simp
          rw [e9]
          omega
        rw [e8, or_low32 _ _ (2 ^ (8 * (j % 4))) (8 * (j % 4)) rfl s3 (Nat.mul_mod_left _ _) s4 (Nat.pow_le_pow_right (n := 2) (by decide) (show 8 * (j % 4) ≤ 32 by omega)), s2]
      rw [e7]
      refine ⟨⟨j + 1, by omega, rfl, ?_, (HL.out.setCell (Nat.le_refl _) _).trans ⟨rfl, rfl, rfl, Nat.le_refl _, fun _ _ => rfl⟩⟩, by simp [intOf]; omega⟩
      refine Own.congr (HO2.out.stored (j / 4) _) fun t ht => ?_
      by_cases c1 : t = j / 4
      · subst c1; exact upd_same _ _ _
      · rw [upd_other _ _ c1, s1 t c1]
    · obtain rfl : j = n := by omega
      clear hown hbl
      go_wp2_with fail
      have hlv := bval_lt HG.out j (Nat.le_refl _)
      have hlw : bval g j j < W ((j + 3) / 4) := Nat.lt_of_lt_of_le hlv (Nat.pow_le_pow_right (by decide) (by omega))
      have HLW := hid hlw
      clear hlw hlv
      refine (trim_any (some ⟨w.heap.size, 0, none⟩) ((j + 3) / 4) ((j + 3) / 4) (dg (bval g j j)) wr HO2.out.sl (fun _ _ => dg_lt _ _) (by omega)).mono ?_
      rw [val_dg_of_lt HLW.out]
      rintro e w3 ⟨v3, rfl, hv3, hb3⟩
      have HV := hid (hv3.mono hz2)
      have HB := hid (HL.out.trans (hb3.mono hz2))
      clear hv3 hb3
      go_wp2_with fail
      go_ret
      exact ⟨_, rfl, HV.out, HB.out⟩

end Go.Proofs.Ytfknjfmgpfhjiaa
