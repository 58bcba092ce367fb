/-
  The walks of the reference's SameBytes, Bits, Read and Write.
-/
import Derived.Test.YtfknjfmgpfhjiaaWzg
import Derived.Laws.BytesArg
namespace Go.Proofs.Ytfknjfmgpfhjiaa
open Go.RowKit

/-- The text that n bytes make. -/
def txt (g : Nat → Nat) (n : Nat) : ByteArray := strOfNums ((List.range n).map fun j => ((g j : Nat) : Int))

/-- 'string(b)' of a slice that reads as bytes. -/
theorem txt_convert {w : World} {v : Value} {n : Nat} {g : Nat → Nat} (h : Rb w v n g) : (convert 52 9 v).run Try.prog w = .ok (.string (txt g n)) w := by
  obtain ⟨oa, c, rfl, hs, hg⟩ := h
  rcases Nat.eq_zero_or_pos n with hn | hn
  · subst hn
    rw [run_convert_bytes_string (P := Try.prog) w 52 9 5 oa 0 c Try.underlying52 Try.underlying5 Try.underlying9]
    cases oa <;> simp [Conv.bytesToString, loadCells]
    all_goals rfl
  · obtain ⟨b, off, rfl, hlt, hc⟩ := hs.at_ hn
    exact run_convert_bytes_arg (P := Try.prog) w 52 5 Try.underlying52 Try.underlying5 b off n c _ (by simp) (fun i hi => by rw [hc i hi]; simp [hi]) 9 Try.underlying9

theorem txt_congr {f g : Nat → Nat} {n : Nat} (h : ∀ j, j < n → f j = g j) : txt f n = txt g n := by
  unfold txt
  congr 1
  exact List.map_congr_left fun j hj => by rw [h j (List.mem_range.1 hj)]

/-- Two rows of bytes that are the same. -/
theorem sameb_any {w : World} {a b : Value} {n : Nat} {f g : Nat → Nat} (ha : Rb w a n f) (hb : Rb w b n g) (hfg : ∀ j, j < n → f j = g j) :
    Calls Try.prog 48 #[a, b] w fun e w' => e = .returned (.bool true) ∧ Below w.heap.size w w' := by
  have h1 := txt_convert ha
  have h2 := txt_convert hb
  rw [txt_congr hfg] at h1
  clear ha hb hfg
  generalize txt g n = t at *
  go_enter Try.func48, Try.ntmps48
  go_wp2_with fail
  go_ret
  exact ⟨rfl, Below.refl _ _⟩

theorem bits_half {x : Nat} (h : 0 < x) : bits x = bits (x / 2) + 1 := by
  have e : ∀ k, bits x ≤ k + 1 ↔ bits (x / 2) ≤ k := fun k => by
    rw [bits_le, bits_le, Nat.pow_succ, Nat.div_lt_iff_lt_mul (by decide)]
  have h1 := (e (bits (x / 2))).2 (Nat.le_refl _)
  have h0 : 0 < bits x := by
    have := @bits_le x 0
    omega
  have h2 := (e (bits x - 1)).1 (by omega)
  omega

set_option maxHeartbeats 1600000 in
theorem rbits_r {w : World} {a : Value} {n N : Nat} (ha : Rd w a n N) (hn : n ≤ 100000) : Calls Try.prog 53 #[a] w fun e w' => e = .returned (.int .i64 (bits N : Nat)) ∧ Below w.heap.size w w' := by
  have HA := hid ha
  have hN := ha.nd_le
  have hz : w.heap.size ≤ w.heap.size := Nat.le_refl _
  clear ha
  go_enter Try.func53, Try.ntmps53
  go_wp2_with fail
  refine Calls.mono (digits_r (B := w.heap.size) hz HA.out hn) ?_
  rintro e w1 ⟨v1, rfl, hx, hb⟩
  have HW := hid hb
  obtain ⟨o1, c1, rfl, h2, h3⟩ := hx
  rcases Nat.eq_zero_or_pos N with h0 | h0
  · subst h0
    rw [nd_zero]
    clear hb h2 h3
    go_wp2_with fail
    go_ret
    exact ⟨rfl, HW.out⟩
  · have hp := nd_pos h0
    have hbt := bits_top' h0
    have htl := dg_lt N (nd N - 1)
    obtain ⟨b, off, rfl, hlt, hc⟩ := h2.at_ hp
    have hct := hc (nd N - 1) (by omega)
    have hl := h2.len_le
    have hq : (((nd N : Nat) : Int) == 0) = false := by simp; omega
    obtain ⟨T, hT⟩ : ∃ T, T = bits N := ⟨_, rfl⟩
    obtain ⟨t, ht⟩ : ∃ t, t = dg N (nd N - 1) := ⟨_, rfl⟩
    rw [← hT, ← ht] at hbt
    rw [← ht] at htl hct
    have HTE := hid hT
    have hb32 : bits t ≤ 32 := bits_le.2 (by omega)
    have HBT := hid hbt
    clear hb h2 h3 hc hT ht hbt
    generalize nd N = m at *
    go_wp2_with fail
    go_loopw [4, 5] (fun nv xv wr => ∃ (r x : Nat), wr = w1 ∧ xv = .int .u64 (x : Nat) ∧ nv = .int .i64 (r : Nat) ∧ r + bits x = T ∧ x < 4294967296 ∧ r ≤ 32 * m) (fun _ xv _ => (intOf xv).toNat)
    case atStart =>
      refine ⟨32 * (m - 1), t, rfl, rfl, congrArg (Value.int .i64) (by omega), HBT.out.symm, htl, by omega⟩
    case round =>
      obtain ⟨r, x, rfl, rfl, rfl, hrx, hxl, hrm⟩ := hrel
      rcases Nat.eq_zero_or_pos x with hx0 | hx0
      · subst hx0
        rw [bits_zero, Nat.add_zero] at hrx
        have HRX := hid hrx
        clear hrx
        go_wp2_with fail
        go_ret
        exact ⟨by rw [← HTE.out, ← HRX.out]; rfl, HW.out⟩
      · have hbh := bits_half hx0
        have HR : Hid (r + 1 + bits (x / 2) = T ∧ r + 1 ≤ 32 * m) := ⟨by omega, by have := HBT.out; omega⟩
        clear hbh hrx
        go_wp2_with fail
        go_roundw
        case rel => exact ⟨r + 1, x / 2, by trivial, by go_num, by go_num, HR.out.1, by omega, HR.out.2⟩
        case measure => simp [intOf]; omega

set_option maxHeartbeats 1600000 in
theorem rread_r {w : World} {b : Value} {n B : Nat} {g : Nat → Nat} (hB : B ≤ w.heap.size) (hb : Rb w b n g) (hn : n ≤ 100000) :
    Calls Try.prog 47 #[b] w fun e w' => ∃ v, e = .returned v ∧ Num .u32 B w' v (bval g n n) ∧ Below w.heap.size w w' := by
  obtain ⟨oa, c, rfl, hs, hg⟩ := hb
  have HS := hid hs
  have HG := hid hg
  have HBB := hid hB
  clear hs hg hB
  go_enter Try.func47, Try.ntmps47
  go_wp2_with (at_make; refine wpList_mk rfl _ _ k64 rfl .i64 .i64 _ _ (n / 4 + 1) rfl rfl (by omega) (by omega) (by omega) ?_)
  intro w1 hown hbl hz
  have HO := hid hown
  have HB1 := hid hbl
  clear hown hbl
  go_wp2_with fail
  go_loopw [4, 5] (fun pv i wr => ∃ (j p : Nat), j ≤ n ∧ i = .int .i64 j ∧ pv = .int .u64 (p : Nat) ∧ p ≤ 4294967296 ∧ (j % 4 ≠ 0 → p = 2 ^ (8 * (j % 4))) ∧ Own w.heap.size wr .u64 36 (some ⟨w.heap.size, 0, none⟩) (n / 4 + 1) (n / 4 + 1) (dg (bval g n j)) ∧ Below w.heap.size w wr) (fun _ i _ => n - (intOf i).toNat)
  case atStart => exact ⟨0, 1, Nat.zero_le _, rfl, rfl, by decide, fun h => absurd rfl h, HO.out.congr (fun t _ => by show 0 = dg 0 t; simp [dg]), HB1.out⟩
  case round =>
    obtain ⟨j, p, hj, rfl, rfl, hpl, hp, hown, hbl⟩ := hrel
    have HO2 := hid hown
    have HL := hid hbl
    have hz2 := hbl.size
    by_cases hlt : j < n
    · obtain ⟨g0, hg0, _, hz3, hcell, hfr⟩ := hown.at_ (by omega)
      cases hg0
      have hcj := hcell (j / 4) (by omega)
      have hfrj := hfr (j / 4)
      obtain ⟨bb, off, rfl, hbb, hc⟩ := HS.out.at_ (by omega)
      have hx : wr.cell? ⟨bb, off + (n - 1 - j), none⟩ = some (.int .u8 (g (n - 1 - j) : Nat)) := by
        rw [HL.out.cell (p := ⟨bb, off + (n - 1 - j), none⟩) hbb, hc _ (by omega)]
      have hl := HG.out (n - 1 - j) (by omega)
      have hst := bval_step (fun t ht => HG.out t ht) hlt
      have hdl := dg_lt (bval g n j) (j / 4)
      obtain ⟨d0, hd0⟩ : ∃ d0, d0 = dg (bval g n j) (j / 4) := ⟨_, rfl⟩
      obtain ⟨x, hxd⟩ : ∃ x, x = g (n - 1 - j) := ⟨_, rfl⟩
      rw [← hd0, ← hxd] at hst
      rw [← hd0] at hcj hdl
      rw [← hxd] at hx hl
      by_cases hm : j % 4 = 0
      · have hmi : ((((j : Nat) : Int) % 4) == 0) = true := by simp; omega
        have HP := hid (show 1 = 2 ^ (8 * (j % 4)) by rw [hm])
        clear hm
        obtain ⟨y, hy⟩ : ∃ y, y = x * 1 := ⟨_, rfl⟩
        have hyl : y < 4294967296 := by rw [hy]; exact HP.out ▸ hst.2.2.2
        have hye : (1:Int) * ((x : Nat) : Int) = (y : Int) := by rw [hy, Int.mul_comm]; exact (Int.natCast_mul _ _).symm
        have HY := hid (show d0 + y = dg (bval g n (j + 1)) (j / 4) from Eq.trans (by rw [hy]; exact congrArg (fun z => d0 + x * z) HP.out) hst.2.1.symm)
        have HST := hid hst.1
        clear hown hbl hcell hfr hc hst hd0 hxd hp hy
        go_wp2_with fail
        go_region
        all_goals go_wp2_with fail
        go_roundw
        case rel =>
          refine ⟨j + 1, 1 * 256, by omega, by go_num, by go_num, ?_, fun h => ?_, ?_, (HL.out.setCell (Nat.le_refl _) _).trans ⟨rfl, rfl, rfl, Nat.le_refl _, fun _ _ => rfl⟩⟩
          · have h1 := HP.out
            have h2 : 2 ^ (8 * (j % 4)) ≤ 16777216 := Nat.pow_le_pow_right (n := 2) (by decide) (show 8 * (j % 4) ≤ 24 by omega)
            omega
          · rw [show 8 * ((j + 1) % 4) = 8 * (j % 4) + 8 from by omega, Nat.pow_add]
            exact congrArg (fun z => z * 2 ^ 8) HP.out
          · refine Own.congr (HO2.out.stored (j / 4) (d0 + y)) fun t ht => ?_
            by_cases c1 : t = j / 4
            · subst c1; rw [upd_same]; exact HY.out
            · rw [upd_other _ _ c1, HST.out t c1]
        case measure => simp [intOf]; omega
      · have hmi : ((((j : Nat) : Int) % 4) == 0) = false := by simp; omega
        have HP : Hid (p = 2 ^ (8 * (j % 4))) := hp hm
        clear hm
        obtain ⟨y, hy⟩ : ∃ y, y = x * p := ⟨_, rfl⟩
        have hyl : y < 4294967296 := by rw [hy]; exact HP.out ▸ hst.2.2.2
        have hye : ((p:Nat):Int) * ((x : Nat) : Int) = (y : Int) := by rw [hy, Int.mul_comm]; exact (Int.natCast_mul _ _).symm
        have HY := hid (show d0 + y = dg (bval g n (j + 1)) (j / 4) from Eq.trans (by rw [hy]; exact congrArg (fun z => d0 + x * z) HP.out) hst.2.1.symm)
        have HST := hid hst.1
        clear hown hbl hcell hfr hc hst hd0 hxd hp hy
        go_wp2_with fail
        go_region
        all_goals go_wp2_with fail
        go_roundw
        case rel =>
          refine ⟨j + 1, p * 256, by omega, by go_num, by go_num, ?_, fun h => ?_, ?_, (HL.out.setCell (Nat.le_refl _) _).trans ⟨rfl, rfl, rfl, Nat.le_refl _, fun _ _ => rfl⟩⟩
          · have h1 := HP.out
            have h2 : 2 ^ (8 * (j % 4)) ≤ 16777216 := Nat.pow_le_pow_right (n := 2) (by decide) (show 8 * (j % 4) ≤ 24 by omega)
            omega
          · rw [show 8 * ((j + 1) % 4) = 8 * (j % 4) + 8 from by omega, Nat.pow_add]
            exact congrArg (fun z => z * 2 ^ 8) HP.out
          · refine Own.congr (HO2.out.stored (j / 4) (d0 + y)) fun t ht => ?_
            by_cases c1 : t = j / 4
            · subst c1; rw [upd_same]; exact HY.out
            · rw [upd_other _ _ c1, HST.out t c1]
        case measure => simp [intOf]; omega
    · obtain rfl : j = n := by omega
      have hlv := bval_lt HG.out j (Nat.le_refl _)
      have hlw : bval g j j < W (j / 4 + 1) := Nat.lt_of_lt_of_le hlv (Nat.pow_le_pow_right (by decide) (by omega))
      have HLW := hid hlw
      clear hown hbl hlw hlv
      go_wp2_with fail
      refine (number_any (some ⟨w.heap.size, 0, none⟩) (j / 4 + 1) (j / 4 + 1) (dg (bval g j j)) wr HO2.out.sl (fun _ _ => dg_lt _ _) (by omega)).mono ?_
      rw [val_dg_of_lt HLW.out]
      rintro e w3 ⟨v3, rfl, hv3, hb3⟩
      have HV := hid (hv3.mono (Nat.le_trans HBB.out hz2))
      have HB := hid (HL.out.trans (hb3.mono hz2))
      clear hv3 hb3
      go_wp2_with fail
      go_ret
      exact ⟨_, rfl, HV.out, HB.out⟩

set_option maxHeartbeats 1600000 in
theorem rwrite_no {w : World} {a : Value} {n : Int} (h : n < 0 ∨ 65536 < n) (h2 : -9223372036854775808 ≤ n ∧ n ≤ 9223372036854775807) :
    Calls Try.prog 45 #[a, .int .i64 n] w fun x w' => x = .returned (.tuple #[.slice none 0 0, .int .i64 1]) ∧ Below w.heap.size w w' := by
  go_enter Try.func45, Try.ntmps45
  by_cases h1 : n < 0
  · go_wp2_with fail
    go_ret2
    exact ⟨rfl, Below.refl _ _⟩
  · have h3 : 65536 < n := by omega
    go_wp2_with fail
    go_ret2
    exact ⟨rfl, Below.refl _ _⟩

set_option maxHeartbeats 1600000 in
theorem rwrite_wide {w : World} {a : Value} {na A n : Nat} (ha : Rd w a na A) (hna : na ≤ 10000) (hn : n ≤ 65536) (h : n < (bits A + 7) / 8) :
    Calls Try.prog 45 #[a, .int .i64 (n : Nat)] w fun x w' => x = .returned (.tuple #[.slice none 0 0, .int .i64 12]) ∧ Below w.heap.size w w' := by
  have HA := hid ha
  have hbe : bits A ≤ 32 * na := bits_le.2 ha.lt
  have HW := hid (Below.refl w.heap.size w)
  have hz : w.heap.size ≤ w.heap.size := Nat.le_refl _
  clear ha
  go_enter Try.func45, Try.ntmps45
  go_wp2_with fail
  refine Calls.mono (digits_r (B := w.heap.size) hz HA.out (by omega)) ?_
  rintro e w1 ⟨v1, rfl, hx, hb⟩
  have H1 := hid hx
  have HA := hid (HA.out.below hb)
  have HW := hid (HW.out.trans (hb.mono hz))
  have hz := HW.out.size
  clear hx hb
  go_wp2_with fail
  refine Calls.mono (rbits_r HA.out (by omega)) ?_
  rintro x w2 ⟨rfl, hb⟩
  have HW := hid (HW.out.trans (hb.mono hz))
  clear hb
  generalize bits A = k at *
  go_wp2_with fail
  go_ret2
  exact ⟨rfl, HW.out⟩

set_option maxHeartbeats 1600000 in
theorem rwrite_any {w : World} {a : Value} {na A n : Nat} (ha : Rd w a na A) (hna : na ≤ 10000) (hn : n ≤ 65536) (h : (bits A + 7) / 8 ≤ n) :
    Calls Try.prog 45 #[a, .int .i64 (n : Nat)] w fun x w' => ∃ v, x = .returned (.tuple #[v, .int .i64 0]) ∧ Rb w' v n (fun t => byt A (n - 1 - t)) ∧ Below w.heap.size w w' := by
  have HA := hid ha
  have hbe : bits A ≤ 32 * na := bits_le.2 ha.lt
  have HW := hid (Below.refl w.heap.size w)
  have hz : w.heap.size ≤ w.heap.size := Nat.le_refl _
  clear ha
  go_enter Try.func45, Try.ntmps45
  go_wp2_with fail
  refine Calls.mono (digits_r (B := w.heap.size) hz HA.out (by omega)) ?_
  rintro e w1 ⟨v1, rfl, hx, hb⟩
  have H1 := hid hx
  have HA := hid (HA.out.below hb)
  have HW := hid (HW.out.trans (hb.mono hz))
  have hz := HW.out.size
  clear hx hb
  go_wp2_with fail
  refine Calls.mono (rbits_r HA.out (by omega)) ?_
  rintro x w2 ⟨rfl, hb⟩
  have H1 := hid (H1.out.below hb)
  have HW := hid (HW.out.trans (hb.mono hz))
  have hz := HW.out.size
  clear hb
  generalize bits A = k at *
  obtain ⟨o1, c1, rfl, k2, k3⟩ := H1.out
  have hlt1 : ∀ a, o1 = some a → a.block < w2.heap.size := fun a ha => (k3 a ha).2.1
  have HS1 := hid k2
  have HLT1 := hid hlt1
  clear k2 k3 hlt1 H1
  go_wp2_with (at_make; refine wpList_mk rfl _ _ k8 rfl .i64 .i64 _ _ n rfl rfl (by omega) (by omega) (by omega) ?_)
  intro w3 hown hbl hz3
  have HO := hid (hown.mono hz)
  have HS1 := hid (HS1.out.below hbl)
  have HW := hid (HW.out.trans (hbl.mono hz))
  have HNE : Hid (∀ a, o1 = some a → a.block ≠ w2.heap.size) := fun a ha => by have := HLT1.out a ha; omega
  have hgo : w.heap.size ≤ w2.heap.size := hz
  clear hown hbl HLT1
  generalize w2.heap.size = go at *
  go_wp2_with fail
  go_loopw [8] (fun i wr => ∃ (j : Nat), j ≤ n ∧ i = .int .i64 j ∧ Own w.heap.size wr .u8 5 (some ⟨go, 0, none⟩) n n (fun t => if n ≤ t + j then byt A (n - 1 - t) else 0) ∧ Sl wr .u64 o1 (nd A) c1 (dg A) ∧ Below w.heap.size w wr) (fun i _ => n - (intOf i).toNat)
  case atStart => exact ⟨0, Nat.zero_le _, rfl, HO.out.congr (fun t ht => by rw [if_neg (by omega)]), HS1.out, HW.out⟩
  case round =>
    obtain ⟨j, hj, rfl, hown, hs1, hbl⟩ := hrel
    have HO2 := hid hown
    have HS1 := hid hs1
    have HL := hid hbl
    have hz2 := hbl.size
    by_cases hlt : j < n
    · obtain ⟨g0, hg0, _, hz3, hcell, hfr⟩ := hown.at_ (by omega)
      cases hg0
      have hfrj := hfr (n - 1 - j)
      have hcj := hcell (n - 1 - j) (by omega)
      have HD := hid (digit_num o1 c1 (j / 4) A wr hs1)
      have HBY := hid (byt_dg A j)
      have hdl := dg_lt A (j / 4)
      obtain ⟨d, hd⟩ : ∃ d, d = dg A (j / 4) := ⟨_, rfl⟩
      rw [← hd] at HD HBY hdl
      clear hown hs1 hbl hcell hfr hd
      go_wp2_with fail
      refine HD.out.mono ?_
      rintro x w4 ⟨rfl, rfl⟩
      go_wp2_with fail
      go_loopw [9, 10] (fun dv kv wx => ∃ k, wr = wx ∧ k ≤ j % 4 ∧ kv = .int .i64 (k : Nat) ∧ dv = .int .u64 ((d / 2 ^ (8 * k) : Nat) : Int)) (fun _ kv _ => j % 4 - (intOf kv).toNat)
      case atStart => exact ⟨0, by trivial, Nat.zero_le _, rfl, by rw [Nat.mul_zero, Nat.pow_zero, Nat.div_one]⟩
      case round =>
        obtain ⟨k, rfl, hk, rfl, rfl⟩ := hrel
        have hdk : d / 2 ^ (8 * k) < 4294967296 := Nat.lt_of_le_of_lt (Nat.div_le_self _ _) hdl
        by_cases hk2 : k < j % 4
        · have e1 : d / 2 ^ (8 * (k + 1)) = d / 2 ^ (8 * k) / 256 := by
            rw [Nat.div_div_eq_div_mul, show 8 * (k + 1) = 8 * k + 8 from by omega, Nat.pow_add]
          have HE := hid e1
          obtain ⟨y, hy⟩ : ∃ y, y = d / 2 ^ (8 * k) := ⟨_, rfl⟩
          rw [← hy] at hdk HE ⊢
          clear e1 hy
          go_wp2_with fail
          go_roundw
          case rel => exact ⟨k + 1, by trivial, by omega, by go_num, by rw [HE.out]; go_num⟩
          case measure => simp [intOf]; omega
        · obtain rfl : k = j % 4 := by omega
          obtain ⟨y, hy⟩ : ∃ y, y = d / 2 ^ (8 * (j % 4)) := ⟨_, rfl⟩
          rw [← hy] at hdk HBY ⊢
          clear hy
          go_wp2_with fail
          have e7 : ((y : Nat) : Int) % 256 = ((byt A j : Nat) : Int) := by rw [← HBY.out]; exact (Int.natCast_emod _ _).symm
          rw [e7]
          go_roundw
          case rel =>
            refine ⟨j + 1, by omega, by go_num, (HO2.out.stored (n - 1 - j) (byt A j)).congr fun t ht => ?_, HS1.out.setCell_other HNE.out _ _, HL.out.setCell (by assumption) _⟩
            by_cases c1 : t = n - 1 - j
            · subst c1
              rw [upd_same, if_pos (by omega), show n - 1 - (n - 1 - j) = j from by omega]
            · rw [upd_other _ _ c1]
              by_cases c2 : n ≤ t + j
              · rw [if_pos c2, if_pos (by omega)]
              · rw [if_neg c2, if_neg (by omega)]
          case measure => simp [intOf]; omega
    · obtain rfl : j = n := by omega
      clear hown hs1 hbl
      go_wp2_with fail
      go_ret2
      exact ⟨.slice (some ⟨go, 0, none⟩) j j, rfl, ⟨some ⟨go, 0, none⟩, j, rfl, (HO2.out.congr fun t ht => if_pos (by omega)).sl, fun _ _ => byt_lt _ _⟩, HL.out⟩

end Go.Proofs.Ytfknjfmgpfhjiaa
