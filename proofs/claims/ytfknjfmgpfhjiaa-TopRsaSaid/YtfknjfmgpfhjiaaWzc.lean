/-
  The walk of the reference's long division by more than one digit.
-/
import Derived.Test.YtfknjfmgpfhjiaaWzb
namespace Go.Proofs.Ytfknjfmgpfhjiaa
open Go.RowKit

/-- A number of a division's row is as short as the row. -/
theorem fac_row {X Y p : Nat} (hX : X < W p) (hY : 0 < Y) : X * fac Y < W (p + 1) := by
  have h := Nat.mul_lt_mul_of_lt_of_le hX (Nat.le_of_lt (fac_lt hY)) (by decide : 0 < 4294967296)
  rw [W_succ, Nat.mul_comm 4294967296]
  exact h

/-- A row cut to the number that it holds. -/
theorem cut_own {B : Nat} {w : World} {oa : Option Addr} {L c N : Nat} (h : Own B w .u64 36 oa L c (dg N)) (hN : N < W L) :
    Calls Try.prog 71 #[.slice oa L c] w fun e w' => ∃ v, e = .returned v ∧ Num .u64 B w' v N ∧ w = w' := by
  refine (cut_any oa L c (dg N) w h.sl (fun _ _ => dg_lt _ _)).mono ?_
  rw [val_dg_of_lt hN]
  rintro e w' ⟨rfl, rfl⟩
  exact ⟨_, rfl, ⟨_, _, rfl, h.sl.take (nd_le.2 hN), h.nw⟩, rfl⟩

set_option maxRecDepth 100000 in
set_option maxHeartbeats 4000000 in
theorem parted_long {w : World} {x y : Value} {X Y C D : Nat} (hx : Num .u64 C w x X) (hy : Num .u64 D w y Y) (hX : nd X ≤ 50000) (hn : nd Y ≤ 50000) (h1 : 2 ≤ nd Y) :
    Calls Try.prog 67 #[x, y] w fun e w' => ∃ q r, e = .returned (.tuple #[q, r]) ∧ Num .u64 w.heap.size w' q (X / Y) ∧ Num .u64 w.heap.size w' r (X % Y) ∧ Below w.heap.size w w' := by
  have hYp : 0 < Y := by
    rcases Nat.eq_zero_or_pos Y with h | h
    · subst h; rw [nd_zero] at h1; omega
    · exact h
  have HNX := hid hx
  have HNY := hid hy
  obtain ⟨ox, cx, rfl, hx2, hx3⟩ := hx
  obtain ⟨oy, cy, rfl, hy2, hy3⟩ := hy
  obtain ⟨b, off, rfl, hlt, hc⟩ := hy2.at_ (by omega)
  have hct := hc (nd Y - 1) (by omega)
  have hxl := hx2.len_le
  have hxm := hx2.cap_le
  have hf1 := fac_pos Y
  have hf2 := fac_lt hYp
  have hms := mod_shift X Y (fac Y) hf1
  have hVl := fac_bound hYp
  have hVn := fac_len hYp
  have hUl := fac_row (lt_W_nd X) hYp
  have hst := fun h => div_start (U := X * fac Y) (V := Y * fac Y) (n := nd Y) (L := nd X + 2) (by rw [show nd X + 2 - 1 = nd X + 1 from by omega]; exact hUl) (Nat.le_trans (W_le_of_nd (N := Y) (k := nd Y - 1) (by omega)) (Nat.le_mul_of_pos_right _ hf1)) (by omega) h
  have hsm : nd X + 2 < nd Y → X * fac Y < Y * fac Y := fun h => (Nat.mul_lt_mul_right hf1).2 (lt_of_nd_lt (show nd X < nd Y by omega))
  have hvt : W (nd Y - 1) ≤ Y * fac Y := Nat.le_trans (W_le_of_nd (N := Y) (k := nd Y - 1) (by omega)) (Nat.le_mul_of_pos_right _ hf1)
  have hVp : 0 < Y * fac Y := Nat.mul_pos hYp hf1
  have hfe : (4294967296 : Int) / (((dg Y (nd Y - 1) : Nat) : Int) + 1) = ((fac Y : Nat) : Int) := by simp [fac]
  have hqW : X / Y < W (nd X + 2) := Nat.lt_of_le_of_lt (Nat.div_le_self _ _) (Nat.lt_of_lt_of_le (lt_W_nd X) (W_le (by omega)))
  have htl := dg_lt Y (nd Y - 1)
  obtain ⟨f, hfd⟩ : ∃ f, f = fac Y := ⟨_, rfl⟩
  obtain ⟨U, hUd⟩ : ∃ U, U = X * fac Y := ⟨_, rfl⟩
  obtain ⟨V, hVd⟩ : ∃ V, V = Y * fac Y := ⟨_, rfl⟩
  rw [← hUd] at hUl hst hsm hms
  rw [← hVd] at hVl hVn hst hsm hms hvt hVp
  rw [← hfd] at hf1 hf2 hms hfe hUd hVd
  obtain ⟨t0, ht0⟩ : ∃ t0, t0 = dg Y (nd Y - 1) := ⟨_, rfl⟩
  rw [← ht0] at hct hfe htl
  have HTM := hid (times_one (w := w) (f := f) (B := w.heap.size) (Nat.le_refl _) HNY.out hf2 (by omega))
  rw [← hVd] at HTM
  have HTX := hid (fun (w2 : World) (h : Num .u64 C w2 (.slice ox (nd X) cx) X) => times_one (w := w2) (f := f) (B := w2.heap.size) (Nat.le_refl _) h hf2 (by omega))
  rw [← hUd] at HTX
  generalize hp : nd X = p at *
  generalize hq : nd Y = n at *
  have HXA := hid hx2
  have HP := hid hp
  have HMS := hid hms
  have HVL := hid hVl
  have HVN := hid hVn
  have HUL := hid hUl
  have HST := hid hst
  have HSM := hid hsm
  have HVT := hid hvt
  have HQW := hid hqW
  have HFE := hid hfe
  have hq1 : ((n : Int) == 1) = false := by simp; omega
  clear hx2 hx3 hy2 hy3 hc hms hVl hVn hUl hst hsm hvt hqW hfe hfd hUd hVd ht0 hp hq
  go_enter Try.func67, Try.ntmps67
  go_wp2_with fail
  rw [HFE.out]
  refine HTM.out.mono ?_
  rintro e w1 ⟨v, rfl, hv, hb⟩
  have HNV := hid hv
  have HNV0 := hid hv
  have HNX := hid (HNX.out.below hb)
  have HXA := hid (HXA.out.below hb)
  have HW := hid hb
  have hz := hb.size
  clear hv hb
  have hz1 := hz
  go_wp2_with (at_make; refine wpList_mk rfl _ _ k64 rfl .i64 .i64 _ _ (p + 2) rfl rfl (by omega) (by omega) (by omega) ?_)
  intro w2 hown hbl hz2
  have HO := hid (hown.mono hz)
  have HNX := hid (HNX.out.below hbl)
  have HXA := hid (HXA.out.below hbl)
  have HNV := hid (HNV.out.below hbl)
  have HW := hid (HW.out.trans (hbl.mono hz))
  have hz := HW.out.size
  have hguz := (hown.nw _ rfl).2.1
  obtain ⟨gu, hgu⟩ : ∃ gu, gu = w1.heap.size := ⟨_, rfl⟩
  have hgulo : w.heap.size ≤ gu := by rw [hgu]; exact hz1
  rw [← hgu] at HO hguz ⊢
  have HGU := hid hgu
  clear hown hbl hgu
  go_wp2_with fail
  have HNEV : Hid (∀ a, (∃ n' c', v = .slice (some a) n' c') → a.block ≠ gu) := by
    intro a ⟨n', c', he⟩
    obtain ⟨ov, cv, hv1, hv2, hv3⟩ := HNV0.out
    rw [he] at hv1
    cases hv1
    have := (hv3 _ rfl).2.1
    rw [HGU.out]
    omega
  refine (HTX.out w2 HNX.out).mono ?_
  rintro e w3 ⟨z, rfl, hzz, hb⟩
  have hw2 := hz2
  have HNV := hid (HNV.out.below hb)
  have HO := hid (HO.out.below hb)
  have HW := hid (HW.out.trans (hb.mono hz))
  have hz := HW.out.size
  have hguz : gu < w3.heap.size := Nat.lt_of_lt_of_le hguz hb.size
  obtain ⟨oz, cz, rfl, hz3, hz4⟩ := hzz
  have HZN : Hid (∀ a, oz = some a → a.block ≠ gu) := by
    intro a ha
    have h5 := (hz4 a ha).1
    have h6 := HGU.out
    omega
  have HZ := hid hz3
  have hzn : nd U ≤ p + 1 := nd_le.2 HUL.out
  obtain ⟨ov, cv, rfl, hv2, hv3⟩ := HNV.out
  rw [HVN.out] at hv2 ⊢
  have HV := hid hv2
  have HNE : Hid (∀ a, ov = some a → a.block ≠ gu) := fun a ha => HNEV.out a ⟨_, _, by rw [ha]⟩
  have hvlt : ∀ a, ov = some a → a.block < w3.heap.size := fun a ha => (hv3 a ha).2.1
  have HVLT := hid hvlt
  clear hb hz3 hz4 hv2 hv3 hvlt HNV HNV0 HNEV HTM HTX HGU
  go_wp2_with fail
  go_loopw [13] (fun i wr => ∃ (j : Nat), j ≤ nd U ∧ i = .int .i64 (j : Int) ∧ Own w.heap.size wr .u64 36 (some ⟨gu, 0, none⟩) (p + 2) (p + 2) (fun t => if t < j then dg U t else 0) ∧ Sl wr .u64 oz (nd U) cz (dg U) ∧ Sl wr .u64 ov n cv (dg V) ∧ Below w.heap.size w wr ∧ w3.heap.size ≤ wr.heap.size) (fun i _ => nd U - (intOf i).toNat)
  case atStart => exact ⟨0, Nat.zero_le _, rfl, HO.out.congr (fun t _ => by rw [if_neg (by omega)]), HZ.out, HV.out, HW.out, Nat.le_refl _⟩
  case round =>
    obtain ⟨j, hj, rfl, hu, hzz, hv, hbl, hsz⟩ := hrel
    have HU := hid hu
    have HZ := hid hzz
    have HV := hid hv
    have HL := hid hbl
    have hz2 := hbl.size
    by_cases hlt : j < nd U
    · obtain ⟨bz, fz, rfl, hlz, hcz⟩ := hzz.at_ (by omega)
      have hzj := hcz j hlt
      obtain ⟨g0, hg0, _, hz5, hcell, hfr⟩ := hu.at_ (by omega)
      cases hg0
      have hcj := hcell j (by omega)
      have hfrj := hfr j
      clear hu hzz hv hbl hcz hcell hfr
      go_wp2_with fail
      go_roundw
      case rel =>
        refine ⟨j + 1, by omega, by go_num, ?_, HZ.out.setCell_other HZN.out _ _, HV.out.setCell_other HNE.out _ _, HL.out.setCell (by assumption) _, by simpa using hsz⟩
        refine (HU.out.stored j (dg U j)).congr fun t ht => ?_
        by_cases c1 : t = j
        · subst c1; rw [upd_same, if_pos (by omega)]
        · rw [upd_other _ _ c1]
          by_cases c2 : t < j
          · rw [if_pos c2, if_pos (by omega)]
          · rw [if_neg c2, if_neg (by omega)]
      case measure => simp [intOf]; omega
    · obtain rfl : j = nd U := by omega
      have HU0 := hid (hu.congr (g := dg U) fun t _ => by
        by_cases c2 : t < nd U
        · rw [if_pos c2]
        · rw [if_neg c2, dg_out (by omega)])
      have hguz2 := (hu.nw _ rfl).2.1
      clear hu hzz hv hbl HU HZ
      go_wp2_with (at_make; refine wpList_mk rfl _ _ k64 rfl .i64 .i64 _ _ (p + 2) rfl rfl (by omega) (by omega) (by omega) ?_)
      intro w4 hown hbl hz4
      have HQ0 := hid (hown.mono hz2)
      have HU0 := hid (HU0.out.below hbl)
      have HV := hid (HV.out.below hbl)
      have HL := hid (HL.out.trans (hbl.mono hz2))
      have hgqu : gu ≠ wr.heap.size := by omega
      have HNQ : Hid (∀ a, ov = some a → a.block ≠ wr.heap.size) := fun a ha => by have := HVLT.out a ha; omega
      clear hown hbl
      generalize wr.heap.size = gq at *
      have hUV : U < V * W (p + 2 - n) := by
        rcases Nat.lt_or_ge (p + 2) n with c1 | c1
        · rw [show p + 2 - n = 0 from by omega, W_zero, Nat.mul_one]; exact HSM.out c1
        · exact HST.out c1
      have HBEG : Hid (U % (V * W (p + 2 - n)) = U) := Nat.mod_eq_of_lt hUV
      have HQZ : Hid (∀ t, p + 2 - n ≤ t → dg (U / V) t = 0) := fun t ht => dg_out_lt (by
        rw [Nat.div_lt_iff_lt_mul hVp, Nat.mul_comm]
        exact Nat.lt_of_lt_of_le hUV (Nat.mul_le_mul_left _ (W_le ht)))
      clear hUV
      go_wp2_with fail
      go_loopw [15] (fun i wr => ∃ (i0 : Int) (j : Nat), j ≤ p + 2 - n ∧ i = .int .i64 i0 ∧ (i0 = (j : Int) - 1 ∨ (j = 0 ∧ i0 < 0)) ∧ -1000000 ≤ i0 ∧ Own w.heap.size wr .u64 36 (some ⟨gu, 0, none⟩) (p + 2) (p + 2) (dg (U % (V * W j))) ∧ Own w.heap.size wr .u64 36 (some ⟨gq, 0, none⟩) (p + 2) (p + 2) (fun t => if j ≤ t then dg (U / V) t else 0) ∧ Sl wr .u64 ov n cv (dg V) ∧ Below w.heap.size w wr) (fun i _ => (intOf i + 1).toNat)
      case atStart =>
        refine ⟨_, p + 2 - n, Nat.le_refl _, rfl, by omega, by omega, ?_, ?_, HV.out, HL.out⟩
        · rw [HBEG.out]; exact HU0.out
        · refine HQ0.out.congr fun t ht => ?_
          by_cases c2 : p + 2 - n ≤ t
          · rw [if_pos c2, HQZ.out t c2]
          · rw [if_neg c2]
      case round =>
        obtain ⟨i0, j, hj, rfl, hij, hib, hu, hq, hv, hbl⟩ := hrel
        have HU := hid hu
        have HQ := hid hq
        have HV := hid hv
        have HL := hid hbl
        have hz2 := hbl.size
        clear hu hq hv hbl HU0 HQ0
        by_cases hlt : 0 ≤ i0
        · obtain ⟨k, rfl⟩ : ∃ k, j = k + 1 := ⟨j - 1, by omega⟩
          obtain rfl : i0 = (k : Int) := by omega
          have hkb : k + n + 1 ≤ p + 2 := by omega
          obtain ⟨d1, d2, d3⟩ := div_row (U := U) (k := k) hVp HVL.out
          obtain ⟨R, hR⟩ : ∃ R, R = U % (V * W (k + 1)) := ⟨_, rfl⟩
          rw [← hR] at HU d1 d2 d3
          have D1 := hid d1
          have D2 := hid d2
          have D3 := hid d3
          clear d1 d2 d3 hR hij hib hj
          go_wp2_with fail
          go_loopg [] (val (fun t => dg R (k + t)) (n + 1)) (fun gk wx => ∃ (h : Nat → Nat) (x : Nat), gk = val (fun t => h (k + t)) (n + 1) ∧ x * V + val (fun t => h (k + t)) (n + 1) = val (fun t => dg R (k + t)) (n + 1) ∧ (∀ t, t < k ∨ k + n < t → h t = dg R t) ∧ (∀ t, h t < 4294967296) ∧ Own w.heap.size wx .u64 36 (some ⟨gu, 0, none⟩) (p + 2) (p + 2) h ∧ Own w.heap.size wx .u64 36 (some ⟨gq, 0, none⟩) (p + 2) (p + 2) (upd (fun t => if k + 1 ≤ t then dg (U / V) t else 0) k x) ∧ Sl wx .u64 ov n cv (dg V) ∧ Below w.heap.size w wx)
          case atStart =>
            refine ⟨dg R, 0, rfl, by omega, fun _ _ => rfl, fun _ => dg_lt _ _, HU.out, ?_, HV.out, HL.out⟩
            refine HQ.out.congr fun t ht => ?_
            by_cases c1 : t = k
            · subst c1; rw [upd_same, if_neg (by omega)]
            · rw [upd_other _ _ c1]
          case round =>
            obtain ⟨h, x, hgk, hsum, hout, hh, hu, hq, hv, hbl⟩ := hrel
            have HU := hid hu
            have HQ := hid hq
            have HV := hid hv
            have HL := hid hbl
            have HOUT := hid hout
            have HH := hid hh
            have hz2 := hbl.size
            have hd1 := D1.out
            rw [← hsum] at hd1
            obtain ⟨M, hM⟩ : ∃ M, M = val (fun t => h (k + t)) (n + 1) := ⟨_, rfl⟩
            have HAB := hid (above_any (some ⟨gu, 0, none⟩) ov k n (p + 2) (p + 2) cv h (dg V) wr hu.sl hv hkb (by omega) hh (fun _ _ => dg_lt _ _))
            rw [val_dg_of_lt HVL.out, ← hM] at HAB
            rw [← hM] at hsum hd1 hgk
            have HGK := hid hgk
            clear hgk
            have hxV : x * V < V * 4294967296 := by omega
            have hxl : x < 4294967296 := by rw [Nat.mul_comm] at hxV; exact Nat.lt_of_mul_lt_mul_left hxV
            have HSUM := hid hsum
            have HHD1 := hid hd1
            have HM := hid hM
            by_cases hVM : V ≤ M
            · have HAB2 := HAB.out
              rw [decide_eq_true hVM] at HAB2
              have HAB := hid HAB2
              obtain ⟨g0, hg0, _, hz5, hcell, hfr⟩ := hq.at_ (by omega)
              cases hg0
              have hqk := hcell k (by omega)
              rw [upd_same] at hqk
              have hqf := hfr k
              obtain ⟨g1, hg1, _, hz6, hcell2, hfr2⟩ := hu.at_ (by omega)
              cases hg1
              have hu1 := hcell2 (k + n) (by omega)
              have hu2 := hcell2 (k + n - 1) (by omega)
              obtain ⟨bv, fv, rfl, hlv, hcv⟩ := hv.at_ (by omega)
              have hvn := hcv (n - 1) (by omega)
              have l1 := hh (k + n)
              have l2 := hh (k + n - 1)
              have l3 := dg_lt V (n - 1)
              have HVM := hid hVM
              clear hsum hout hh hu hq hv hbl hd1 hM hcell hfr hcell2 hfr2 hcv HAB2 hVM
              go_wp2_with fail
              refine HAB.out.mono ?_
              rintro e w5 ⟨rfl, d, rfl⟩
              go_wp2_with fail
              have k1 : (0 : Int) ≤ (k : Int) + (n : Int) := by omega
              have k2 : ((k : Int) + (n : Int)).toNat = k + n := by omega
              have k3 : (0 : Int) ≤ (k : Int) + (n : Int) - 1 := by omega
              have k4 : ((k : Int) + (n : Int) - 1).toNat = k + n - 1 := by omega
              go_region
              obtain ⟨G, hG⟩ : ∃ G, G = (h (k + n) * 4294967296 + h (k + n - 1)) / (dg V (n - 1) + 1) := ⟨_, rfl⟩
              have hGe : (((h (k + n) : Nat) : Int) * 4294967296 + ((h (k + n - 1) : Nat) : Int)) / (((dg V (n - 1) : Nat) : Int) + 1) = ((G : Nat) : Int) := by rw [hG]; simp
              have hGV : G * V ≤ M := by
                have h5 := guess_mul (u := fun t => h (k + t)) (v := dg V) (n := n) (g := G) (by omega) (fun _ _ => dg_lt _ _) (by
                  rw [show k + (n - 1) = k + n - 1 from by omega, hG]
                  exact Nat.div_mul_le_self _ _)
                rw [val_dg_of_lt HVL.out, ← HM.out] at h5
                exact h5
              rw [hGe]
              clear hG hGe hu1 hu2 hvn l1 l2 l3
              by_cases hG0 : G = 0
              · subst hG0
                have hgV : 1 * V ≤ M := by rw [Nat.one_mul]; exact HVM.out
                have hg0 : 0 < 1 := Nat.zero_lt_one
                clear hGV
                have hgl : 1 < 4294967296 := lt_of_mul (V := V) (P := M) hgV (by have := HHD1.out; omega)
                have hxg : x + 1 < 4294967296 := by
                  refine lt_of_mul (V := V) (P := x * V + M) ?_ HHD1.out
                  rw [Nat.add_mul]
                  omega
                have HGV := hid hgV
                have HXG := hid hxg
                clear hgV
                go_wp2_with fail
                rw [show ((x : Nat) : Int) + (1:Int) = ((x + 1 : Nat) : Int) from (Int.natCast_add _ _).symm]
                obtain ⟨w7, hw7⟩ : ∃ w7, w7 = (wr.drewN (d + 1)).setCell ⟨gq, k, none⟩ (.int .u64 ((x + 1 : Nat) : Int)) := ⟨_, rfl⟩
                rw [← hw7]
                have HU7 : Hid (Own w.heap.size w7 .u64 36 (some ⟨gu, 0, none⟩) (p + 2) (p + 2) h) := by
                  rw [hw7]; exact (HU.out.drewN _).setCell_other (fun a ha => by cases ha; exact hgqu) _ _
                have HV7 : Hid (Sl w7 .u64 (some ⟨bv, fv, none⟩) n cv (dg V)) := by
                  rw [hw7]; exact Sl.setCell_other (w := wr.drewN (d + 1)) HV.out HNQ.out _ _
                have HQ7 : Hid (Own w.heap.size w7 .u64 36 (some ⟨gq, 0, none⟩) (p + 2) (p + 2) (upd (fun t => if k + 1 ≤ t then dg (U / V) t else 0) k (x + 1))) := by
                  rw [hw7]
                  refine ((HQ.out.drewN _).stored k (x + 1)).congr fun t _ => ?_
                  by_cases c1 : t = k
                  · subst c1; rw [upd_same, upd_same]
                  · rw [upd_other _ _ c1, upd_other _ _ c1, upd_other _ _ c1]
                have HL7 : Hid (Below w.heap.size w w7) := by
                  rw [hw7]; exact (HL.out.trans (below_drewN' _ _ _)).setCell (show w.heap.size ≤ gq by omega) _
                have HSZ7 := hid (show w7.heap.size = wr.heap.size by rw [hw7]; simp)
                clear hw7
                have HTK := hid (take_any w.heap.size gu k n (p + 2) (p + 2) cv 1 (some ⟨bv, fv, none⟩) h (dg V) w7 hkb (by omega) HU7.out HV7.out HNE.out HH.out (fun _ _ => dg_lt _ _) hgl (by rw [val_dg_of_lt HVL.out, ← HM.out]; exact HGV.out))
                rw [val_dg_of_lt HVL.out, ← HM.out] at HTK
                refine HTK.out.mono ?_
                rintro e w8 ⟨rfl, h', ho, hout, hval, hlt', hgrow⟩
                have HO8 := hid ho
                have HOUT8 := hid hout
                have HVAL8 := hid hval
                have HLT8 := hid hlt'
                have HQ8 := hid (HQ7.out.grown hgrow (.inr (by simp [Value.ownBlock]; exact fun e => hgqu e.symm)))
                have HV8 := hid (HV7.out.grown_other hgrow (HNE.out _ rfl))
                have HL8 := hid (HL7.out.grown hgrow (by have := HSZ7.out; omega) (fun t ht => by cases ht; exact hgulo))
                clear ho hout hval hlt' hgrow HTK HU7 HV7 HQ7 HL7 hgl hxg
                go_wp2_with fail
                go_roundg (val (fun t => h' (k + t)) (n + 1))
                case measure =>
                  have h1 := HGK.out
                  have h2 := HVAL8.out
                  have h3 : 0 < 1 * V := Nat.mul_pos hg0 hVp
                  have h4 := HGV.out
                  omega
                case rel =>
                  refine ⟨h', x + 1, rfl, ?_, fun t ht => by rw [HOUT8.out t ht, HOUT.out t ht], HLT8.out, HO8.out, HQ8.out, HV8.out, HL8.out⟩
                  have h1 := HSUM.out
                  have h2 := HVAL8.out
                  have h4 := HGV.out
                  rw [h2, Nat.add_mul]
                  omega
              · have hg0 : 0 < G := Nat.pos_of_ne_zero hG0
                have hgb : (((G : Nat) : Int) == 0) = false := by simpa using hG0
                have hgV := hGV
                clear hGV hG0
                have hgl : G < 4294967296 := lt_of_mul (V := V) (P := M) hgV (by have := HHD1.out; omega)
                have hxg : x + G < 4294967296 := by
                  refine lt_of_mul (V := V) (P := x * V + M) ?_ HHD1.out
                  rw [Nat.add_mul]
                  omega
                have HGV := hid hgV
                have HXG := hid hxg
                clear hgV
                go_wp2_with fail
                rw [show ((x : Nat) : Int) + ((G:Nat):Int) = ((x + G : Nat) : Int) from (Int.natCast_add _ _).symm]
                obtain ⟨w7, hw7⟩ : ∃ w7, w7 = (wr.drewN (d + 1)).setCell ⟨gq, k, none⟩ (.int .u64 ((x + G : Nat) : Int)) := ⟨_, rfl⟩
                rw [← hw7]
                have HU7 : Hid (Own w.heap.size w7 .u64 36 (some ⟨gu, 0, none⟩) (p + 2) (p + 2) h) := by
                  rw [hw7]; exact (HU.out.drewN _).setCell_other (fun a ha => by cases ha; exact hgqu) _ _
                have HV7 : Hid (Sl w7 .u64 (some ⟨bv, fv, none⟩) n cv (dg V)) := by
                  rw [hw7]; exact Sl.setCell_other (w := wr.drewN (d + 1)) HV.out HNQ.out _ _
                have HQ7 : Hid (Own w.heap.size w7 .u64 36 (some ⟨gq, 0, none⟩) (p + 2) (p + 2) (upd (fun t => if k + 1 ≤ t then dg (U / V) t else 0) k (x + G))) := by
                  rw [hw7]
                  refine ((HQ.out.drewN _).stored k (x + G)).congr fun t _ => ?_
                  by_cases c1 : t = k
                  · subst c1; rw [upd_same, upd_same]
                  · rw [upd_other _ _ c1, upd_other _ _ c1, upd_other _ _ c1]
                have HL7 : Hid (Below w.heap.size w w7) := by
                  rw [hw7]; exact (HL.out.trans (below_drewN' _ _ _)).setCell (show w.heap.size ≤ gq by omega) _
                have HSZ7 := hid (show w7.heap.size = wr.heap.size by rw [hw7]; simp)
                clear hw7
                have HTK := hid (take_any w.heap.size gu k n (p + 2) (p + 2) cv G (some ⟨bv, fv, none⟩) h (dg V) w7 hkb (by omega) HU7.out HV7.out HNE.out HH.out (fun _ _ => dg_lt _ _) hgl (by rw [val_dg_of_lt HVL.out, ← HM.out]; exact HGV.out))
                rw [val_dg_of_lt HVL.out, ← HM.out] at HTK
                refine HTK.out.mono ?_
                rintro e w8 ⟨rfl, h', ho, hout, hval, hlt', hgrow⟩
                have HO8 := hid ho
                have HOUT8 := hid hout
                have HVAL8 := hid hval
                have HLT8 := hid hlt'
                have HQ8 := hid (HQ7.out.grown hgrow (.inr (by simp [Value.ownBlock]; exact fun e => hgqu e.symm)))
                have HV8 := hid (HV7.out.grown_other hgrow (HNE.out _ rfl))
                have HL8 := hid (HL7.out.grown hgrow (by have := HSZ7.out; omega) (fun t ht => by cases ht; exact hgulo))
                clear ho hout hval hlt' hgrow HTK HU7 HV7 HQ7 HL7 hgl hxg
                go_wp2_with fail
                go_roundg (val (fun t => h' (k + t)) (n + 1))
                case measure =>
                  have h1 := HGK.out
                  have h2 := HVAL8.out
                  have h3 : 0 < G * V := Nat.mul_pos hg0 hVp
                  have h4 := HGV.out
                  omega
                case rel =>
                  refine ⟨h', x + G, rfl, ?_, fun t ht => by rw [HOUT8.out t ht, HOUT.out t ht], HLT8.out, HO8.out, HQ8.out, HV8.out, HL8.out⟩
                  have h1 := HSUM.out
                  have h2 := HVAL8.out
                  have h4 := HGV.out
                  rw [h2, Nat.add_mul]
                  omega
            · have HAB2 := HAB.out
              rw [decide_eq_false hVM] at HAB2
              have HAB := hid HAB2
              have hMV : M < V := by omega
              have hq1 : (x * V + M) / V = x := by rw [Nat.add_comm, Nat.add_mul_div_right _ _ hVp, Nat.div_eq_of_lt hMV, Nat.zero_add]
              have hq2 : (x * V + M) % V = M := by rw [Nat.add_comm, Nat.add_mul_mod_self_right, Nat.mod_eq_of_lt hMV]
              rw [hsum] at hq1 hq2
              have hD3 := D3.out h hout (by rw [← HM.out, hq2]) hh
              have HD3 := hid hD3
              have HX : Hid (x = dg (U / V) k) := by rw [← hq1]; exact D2.out
              clear hsum hout hh hu hq hv hbl hd1 hM HAB2 hVM hMV hq1 hq2 hD3
              go_wp2_with fail
              refine HAB.out.mono ?_
              rintro e w5 ⟨rfl, d, rfl⟩
              go_wp2_with fail
              go_roundw
              case rel =>
                refine ⟨_, k, by omega, rfl, .inl rfl, by omega, (HU.out.drewN d).congr fun t _ => HD3.out t, (HQ.out.drewN d).congr fun t _ => ?_, HV.out, HL.out.trans (below_drewN' _ _ _)⟩
                by_cases c1 : t = k
                · subst c1; rw [upd_same, if_pos (Nat.le_refl _)]; exact HX.out
                · rw [upd_other _ _ c1]
                  by_cases c2 : k ≤ t
                  · rw [if_pos (by omega), if_pos c2]
                  · rw [if_neg (by omega), if_neg c2]
              case measure => simp [intOf]
        · obtain rfl : j = 0 := by omega
          have HU0 := HU.out
          rw [W_zero, Nat.mul_one] at HU0
          have hRV : U % V < V := Nat.mod_lt _ hVp
          have hUW : U < W (p + 2) := Nat.lt_of_lt_of_le HUL.out (W_le (by omega))
          have hRW : U % V < W (p + 2) := Nat.lt_of_le_of_lt (Nat.mod_le _ _) hUW
          have hRn : nd (U % V) ≤ 100000 := Nat.le_trans (nd_mono (Nat.mod_le U V)) (Nat.le_trans (nd_le.2 hUW) (by omega))
          have HQ1 := hid (HQ.out.congr (g := dg (X / Y)) (fun t _ => by rw [if_pos (Nat.zero_le _), HMS.out.2]))
          have hms := HMS.out.1
          obtain ⟨R, hR⟩ : ∃ R, R = U % V := ⟨_, rfl⟩
          rw [← hR] at HU0 hRW hRn hms
          have HC := hid (cut_own HU0 hRW)
          have HMS1 := hid hms
          have HRN := hid hRn
          clear HU0 hRV hUW hRW hR hij hib hRn hms
          go_wp2_with fail
          refine HC.out.mono ?_
          rintro e w5 ⟨v5, rfl, h5, rfl⟩
          have H5 := hid h5
          clear h5
          go_wp2_with fail
          refine Calls.mono (shortly_r (B := w.heap.size) hz2 H5.out HRN.out hf1 hf2) ?_
          rintro e w6 ⟨v6, rfl, h6, hb⟩
          rw [HMS1.out] at h6
          have H6 := hid h6
          have HQ1 := hid (HQ1.out.below hb)
          have HL := hid (HL.out.trans (hb.mono hz2))
          clear h6 hb
          obtain ⟨R2, hR2⟩ : ∃ R2, R2 = R % f := ⟨_, rfl⟩
          rw [← hR2]
          clear hR2
          go_wp2_with fail
          refine Calls.mono (cut_own HQ1.out HQW.out) ?_
          rintro e w7 ⟨v7, rfl, h7, rfl⟩
          have H7 := hid h7
          clear h7
          go_wp2_with fail
          go_ret2
          exact ⟨_, _, rfl, H7.out, H6.out, HL.out⟩

end Go.Proofs.Ytfknjfmgpfhjiaa
