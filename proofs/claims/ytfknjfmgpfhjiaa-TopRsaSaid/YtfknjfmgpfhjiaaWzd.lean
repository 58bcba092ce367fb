/-
  The walk of the reference's 'rest': what is left of a product by a number.
-/
import Derived.Test.YtfknjfmgpfhjiaaWzc
namespace Go.Proofs.Ytfknjfmgpfhjiaa
open Go.RowKit

theorem times_r {w : World} {a b : Value} {X Y C D B : Nat} (hB : B ≤ w.heap.size) (ha : Num .u64 C w a X) (hb : Num .u64 D w b Y) (hX : nd X ≤ 100000) (hY : nd Y ≤ 100000) :
    Calls Try.prog 68 #[a, b] w fun e w' => ∃ v, e = .returned v ∧ Num .u64 B w' v (X * Y) ∧ Below w.heap.size w w' := by
  obtain ⟨oa, c, rfl, h2, h3⟩ := ha
  obtain ⟨ob, d, rfl, k2, k3⟩ := hb
  refine (times_any oa ob (nd X) (nd Y) c d (dg X) (dg Y) w h2 k2 (fun _ _ => dg_lt _ _) (fun _ _ => dg_lt _ _) hX hY).mono ?_
  rintro e w' ⟨v, rfl, h5, h6⟩
  rw [val_dg_nd, val_dg_nd] at h5
  exact ⟨v, rfl, h5.mono hB, h6⟩

set_option maxRecDepth 100000 in
set_option maxHeartbeats 4000000 in
theorem rest_any {w : World} {x y : Value} {ov : Option Addr} {cv X Y M C D : Nat} (hx : Num .u64 C w x X) (hy : Num .u64 D w y Y) (hv : Sl w .u64 ov (nd M) cv (dg (M * fac M))) (hM : 0 < M) (hX : nd X ≤ 20000) (hY : nd Y ≤ 20000) (hn : nd M ≤ 20000) :
    Calls Try.prog 69 #[x, y, .slice ov (nd M) cv, .int .u64 (fac M : Nat)] w fun e w' => ∃ r, e = .returned r ∧ Num .u64 w.heap.size w' r (X * Y % M) ∧ Below w.heap.size w w' := by
  have HNX := hid hx
  have HNY := hid hy
  have h1 := nd_pos hM
  have hf1 := fac_pos M
  have hf2 := fac_lt hM
  have hVl := fac_bound hM
  have hVn := fac_len hM
  have hms := (mod_shift (X * Y) M (fac M) hf1).1
  have hvt : W (nd M - 1) ≤ M * fac M := Nat.le_trans (W_le_of_nd (N := M) (k := nd M - 1) (by omega)) (Nat.le_mul_of_pos_right _ hf1)
  have hVp : 0 < M * fac M := Nat.mul_pos hM hf1
  have hst := fun h => div_start (U := X * fac M * Y) (V := M * fac M) (n := nd M) (L := nd (X * fac M * Y) + 1) (by rw [show nd (X * fac M * Y) + 1 - 1 = nd (X * fac M * Y) from by omega]; exact lt_W_nd _) hvt (by omega) h
  have hsm : nd (X * fac M * Y) + 1 < nd M → X * fac M * Y < M * fac M := fun h => lt_of_nd_lt (by rw [hVn]; omega)
  have hf3 : nd (fac M) ≤ 1 := nd_le.2 hf2
  have hXf : nd (X * fac M) ≤ 20001 := nd_mul hX hf3
  have hpn : nd (X * fac M * Y) ≤ 40001 := nd_mul hXf hY
  have hUl := lt_W_nd (X * fac M * Y)
  have hUe : X * fac M * Y = X * Y * fac M := by rw [Nat.mul_right_comm]
  rw [← hUe] at hms
  obtain ⟨ox, cx, rfl, hx2, hx3⟩ := hx
  have hvlt : ∀ a, ov = some a → a.block < w.heap.size := fun a ha => by
    obtain ⟨b, off, e, hb, _⟩ := hv.at_ h1
    rw [e] at ha; cases ha; exact hb
  obtain ⟨f, hfd⟩ : ∃ f, f = fac M := ⟨_, rfl⟩
  obtain ⟨U, hUd⟩ : ∃ U, U = X * fac M * Y := ⟨_, rfl⟩
  obtain ⟨V, hVd⟩ : ∃ V, V = M * fac M := ⟨_, rfl⟩
  rw [← hUd] at hst hsm hms hpn hUl
  rw [← hVd] at hVl hVn hst hsm hms hvt hVp hv
  rw [← hfd] at hf1 hf2 hms hXf hUd hVd ⊢
  have HTX := hid (times_one (w := w) (f := f) (B := w.heap.size) (Nat.le_refl _) HNX.out hf2 (by omega))
  have HUD := hid hUd
  generalize hp : nd U = p at *
  generalize hq : nd M = n at *
  have HP := hid hp
  have HXF := hid hXf
  have HYN := hid hY
  have HXN := hid hX
  have HMS := hid hms
  have HVL := hid hVl
  have HVN := hid hVn
  have HUL := hid hUl
  have HST := hid hst
  have HSM := hid hsm
  have HVT := hid hvt
  have HV := hid hv
  have HVLT := hid hvlt
  clear hx2 hx3 hms hVl hVn hUl hst hsm hvt hUd hfd hVd hp hq hv hvlt hXf hY hX HNX hUe hf3
  go_enter Try.func69, Try.ntmps69
  go_wp2_with fail
  refine HTX.out.mono ?_
  rintro e w1 ⟨x1, rfl, hx1, hb⟩
  have HX1 := hid hx1
  have HNY := hid (HNY.out.below hb)
  have HV := hid (HV.out.below hb)
  have HW := hid hb
  have hz := hb.size
  clear hx1 hb HTX
  go_wp2_with fail
  refine Calls.mono (times_r (B := w.heap.size) hz HX1.out HNY.out (Nat.le_trans HXF.out (by decide)) (Nat.le_trans HYN.out (by decide))) ?_
  rintro e w2 ⟨z, rfl, hzz, hb⟩
  rw [← HUD.out] at hzz
  have HV := hid (HV.out.below hb)
  have HW := hid (HW.out.trans (hb.mono hz))
  have hz := HW.out.size
  obtain ⟨oz, cz, rfl, hz3, hz4⟩ := hzz
  have hzlt : ∀ a, oz = some a → a.block < w2.heap.size := fun a ha => (hz4 a ha).2.1
  have HZLT := hid hzlt
  rw [HP.out] at hz3 ⊢
  have HZ := hid hz3
  clear hb hz3 hz4 hzlt HX1 HNY
  go_wp2_with (at_make; refine wpList_mk rfl _ _ k64 rfl .i64 .i64 _ _ (p + 1) rfl rfl (by omega) (by omega) (by omega) ?_)
  intro w3 hown hbl hz2
  have HO := hid (hown.mono hz)
  have HV := hid (HV.out.below hbl)
  have HZ := hid (HZ.out.below hbl)
  have HW := hid (HW.out.trans (hbl.mono hz))
  have hz1 := hz
  have hz := HW.out.size
  have hguz := (hown.nw _ rfl).2.1
  obtain ⟨gu, hgu⟩ : ∃ gu, gu = w2.heap.size := ⟨_, rfl⟩
  have hgulo : w.heap.size ≤ gu := by rw [hgu]; exact hz1
  have HNE : Hid (∀ a, ov = some a → a.block ≠ gu) := fun a ha => by have := HVLT.out a ha; omega
  have HZN : Hid (∀ a, oz = some a → a.block ≠ gu) := fun a ha => by have := HZLT.out a ha; omega
  rw [← hgu] at HO hguz ⊢
  clear hown hbl hgu HVLT HZLT
  go_wp2_with fail
  go_loopw [11] (fun i wr => ∃ (j : Nat), j ≤ p ∧ i = .int .i64 (j : Int) ∧ Own w.heap.size wr .u64 36 (some ⟨gu, 0, none⟩) (p + 1) (p + 1) (fun t => if t < j then dg U t else 0) ∧ Sl wr .u64 oz p cz (dg U) ∧ Sl wr .u64 ov n cv (dg V) ∧ Below w.heap.size w wr) (fun i _ => p - (intOf i).toNat)
  case atStart => exact ⟨0, Nat.zero_le _, rfl, HO.out.congr (fun t _ => by rw [if_neg (by omega)]), HZ.out, HV.out, HW.out⟩
  case round =>
    obtain ⟨j, hj, rfl, hu, hzz, hv, hbl⟩ := hrel
    have HU := hid hu
    have HZ := hid hzz
    have HV := hid hv
    have HL := hid hbl
    have hz2 := hbl.size
    by_cases hlt : j < p
    · obtain ⟨bz, fz, rfl, hlz, hcz⟩ := hzz.at_ (by omega)
      have hzj := hcz j hlt
      obtain ⟨g0, hg0, _, hz5, hcell, hfr⟩ := hu.at_ (by omega)
      cases hg0
      have hcj := hcell j (by omega)
      have hfrj := hfr j
      clear hu hzz hv hbl hcz hcell hfr
      go_wp2_with fail
      go_roundw
      case rel =>
        refine ⟨j + 1, by omega, by go_num, ?_, HZ.out.setCell_other HZN.out _ _, HV.out.setCell_other HNE.out _ _, HL.out.setCell (by assumption) _⟩
        refine (HU.out.stored j (dg U j)).congr fun t ht => ?_
        by_cases c1 : t = j
        · subst c1; rw [upd_same, if_pos (by omega)]
        · rw [upd_other _ _ c1]
          by_cases c2 : t < j
          · rw [if_pos c2, if_pos (by omega)]
          · rw [if_neg c2, if_neg (by omega)]
      case measure => simp [intOf]; omega
    · obtain rfl : j = p := by omega
      have HU0 := hid (hu.congr (g := dg U) fun t _ => by
        by_cases c2 : t < j
        · rw [if_pos c2]
        · rw [if_neg c2, dg_out (by rw [HP.out]; omega)])
      clear hu hzz hv hbl HU HZ
      have hUV : U < V * W (j + 1 - n) := by
        rcases Nat.lt_or_ge (j + 1) n with c1 | c1
        · rw [show j + 1 - n = 0 from by omega, W_zero, Nat.mul_one]; exact HSM.out c1
        · exact HST.out c1
      have HBEG : Hid (U % (V * W (j + 1 - n)) = U) := Nat.mod_eq_of_lt hUV
      clear hUV
      obtain ⟨p, hpe⟩ : ∃ p, p = j := ⟨_, rfl⟩
      rw [← hpe] at HU0 HP HST HSM HUL HBEG hj hlt hpn ⊢
      clear hpe
      go_wp2_with fail
      go_loopw [13] (fun i wr => ∃ (i0 : Int) (j : Nat), j ≤ p + 1 - n ∧ i = .int .i64 i0 ∧ (i0 = (j : Int) - 1 ∨ (j = 0 ∧ i0 < 0)) ∧ -1000000 ≤ i0 ∧ Own w.heap.size wr .u64 36 (some ⟨gu, 0, none⟩) (p + 1) (p + 1) (dg (U % (V * W j))) ∧ Sl wr .u64 ov n cv (dg V) ∧ Below w.heap.size w wr) (fun i _ => (intOf i + 1).toNat)
      case atStart =>
        refine ⟨_, p + 1 - n, Nat.le_refl _, rfl, by omega, by omega, ?_, HV.out, HL.out⟩
        rw [HBEG.out]; exact HU0.out
      case round =>
        obtain ⟨i0, j, hj, rfl, hij, hib, hu, hv, hbl⟩ := hrel
        have HU := hid hu
        have HV := hid hv
        have HL := hid hbl
        have hz2 := hbl.size
        clear hu hv hbl HU0
        by_cases hlt : 0 ≤ i0
        · obtain ⟨k, rfl⟩ : ∃ k, j = k + 1 := ⟨j - 1, by omega⟩
          obtain rfl : i0 = (k : Int) := by omega
          have hkb : k + n + 1 ≤ p + 1 := by omega
          obtain ⟨d1, d2, d3⟩ := div_row (U := U) (k := k) hVp HVL.out
          obtain ⟨R, hR⟩ : ∃ R, R = U % (V * W (k + 1)) := ⟨_, rfl⟩
          rw [← hR] at HU d1 d2 d3
          have D1 := hid d1
          have D3 := hid d3
          clear d1 d2 d3 hR hij hib hj
          go_wp2_with fail
          go_loopg [] (val (fun t => dg R (k + t)) (n + 1)) (fun gk wx => ∃ (h : Nat → Nat) (x : Nat), gk = val (fun t => h (k + t)) (n + 1) ∧ x * V + val (fun t => h (k + t)) (n + 1) = val (fun t => dg R (k + t)) (n + 1) ∧ (∀ t, t < k ∨ k + n < t → h t = dg R t) ∧ (∀ t, h t < 4294967296) ∧ Own w.heap.size wx .u64 36 (some ⟨gu, 0, none⟩) (p + 1) (p + 1) h ∧ Sl wx .u64 ov n cv (dg V) ∧ Below w.heap.size w wx)
          case atStart => exact ⟨dg R, 0, rfl, by omega, fun _ _ => rfl, fun _ => dg_lt _ _, HU.out, HV.out, HL.out⟩
          case round =>
            obtain ⟨h, x, hgk, hsum, hout, hh, hu, hv, hbl⟩ := hrel
            have HU := hid hu
            have HV := hid hv
            have HL := hid hbl
            have HOUT := hid hout
            have HH := hid hh
            have hz2 := hbl.size
            have hd1 := D1.out
            rw [← hsum] at hd1
            obtain ⟨M1, hM1⟩ : ∃ M1, M1 = val (fun t => h (k + t)) (n + 1) := ⟨_, rfl⟩
            have HAB := hid (above_any (some ⟨gu, 0, none⟩) ov k n (p + 1) (p + 1) cv h (dg V) wr hu.sl hv hkb (by omega) hh (fun _ _ => dg_lt _ _))
            rw [val_dg_of_lt HVL.out, ← hM1] at HAB
            rw [← hM1] at hsum hd1 hgk
            have HGK := hid hgk
            clear hgk
            have HSUM := hid hsum
            have HHD1 := hid hd1
            have HM := hid hM1
            by_cases hVM : V ≤ M1
            · have HAB2 := HAB.out
              rw [decide_eq_true hVM] at HAB2
              have HAB := hid HAB2
              obtain ⟨g1, hg1, _, hz6, hcell2, hfr2⟩ := hu.at_ (by omega)
              cases hg1
              have hu1 := hcell2 (k + n) (by omega)
              have hu2 := hcell2 (k + n - 1) (by omega)
              obtain ⟨bv, fv, rfl, hlv, hcv⟩ := hv.at_ (by omega)
              have hvn := hcv (n - 1) (by omega)
              have l1 := hh (k + n)
              have l2 := hh (k + n - 1)
              have l3 := dg_lt V (n - 1)
              have HVM := hid hVM
              clear hsum hout hh hu hv hbl hd1 hM1 hcell2 hfr2 hcv HAB2 hVM
              go_wp2_with fail
              refine HAB.out.mono ?_
              rintro e w5 ⟨rfl, d, rfl⟩
              go_wp2_with fail
              have k1 : (0 : Int) ≤ (k : Int) + (n : Int) := by omega
              have k2 : ((k : Int) + (n : Int)).toNat = k + n := by omega
              have k3 : (0 : Int) ≤ (k : Int) + (n : Int) - 1 := by omega
              have k4 : ((k : Int) + (n : Int) - 1).toNat = k + n - 1 := by omega
              go_region
              obtain ⟨G, hG⟩ : ∃ G, G = (h (k + n) * 4294967296 + h (k + n - 1)) / (dg V (n - 1) + 1) := ⟨_, rfl⟩
              have hGe : (((h (k + n) : Nat) : Int) * 4294967296 + ((h (k + n - 1) : Nat) : Int)) / (((dg V (n - 1) : Nat) : Int) + 1) = ((G : Nat) : Int) := by rw [hG]; simp
              have hGV : G * V ≤ M1 := by
                have h5 := guess_mul (u := fun t => h (k + t)) (v := dg V) (n := n) (g := G) (by omega) (fun _ _ => dg_lt _ _) (by
                  rw [show k + (n - 1) = k + n - 1 from by omega, hG]
                  exact Nat.div_mul_le_self _ _)
                rw [val_dg_of_lt HVL.out, ← HM.out] at h5
                exact h5
              rw [hGe]
              clear hG hGe hu1 hu2 hvn l1 l2 l3
              by_cases hG0 : G = 0
              · subst hG0
                have hgV : 1 * V ≤ M1 := by rw [Nat.one_mul]; exact HVM.out
                have hg0 : 0 < 1 := Nat.zero_lt_one
                clear hGV
                have hgl : 1 < 4294967296 := lt_of_mul (V := V) (P := M1) hgV (by have := HHD1.out; omega)
                have HGV := hid hgV
                clear hgV
                go_wp2_with fail
                have HTK := hid (take_any w.heap.size gu k n (p + 1) (p + 1) cv 1 (some ⟨bv, fv, none⟩) h (dg V) (wr.drewN (d + 1)) hkb (by omega) (HU.out.drewN _) HV.out HNE.out HH.out (fun _ _ => dg_lt _ _) hgl (by rw [val_dg_of_lt HVL.out, ← HM.out]; exact HGV.out))
                rw [val_dg_of_lt HVL.out, ← HM.out] at HTK
                refine HTK.out.mono ?_
                rintro e w8 ⟨rfl, h', ho, hout, hval, hlt', hgrow⟩
                have HO8 := hid ho
                have HOUT8 := hid hout
                have HVAL8 := hid hval
                have HLT8 := hid hlt'
                have HV8 := hid (Sl.grown_other (w := wr.drewN (d + 1)) HV.out hgrow (HNE.out _ rfl))
                have HL8 := hid ((HL.out.trans (below_drewN' _ _ (d + 1))).grown hgrow hz2 (fun t ht => by cases ht; exact hgulo))
                clear ho hout hval hlt' hgrow HTK hgl
                go_wp2_with fail
                go_roundg (val (fun t => h' (k + t)) (n + 1))
                case measure =>
                  have h1 := HGK.out
                  have h2 := HVAL8.out
                  have h3 : 0 < 1 * V := Nat.mul_pos hg0 hVp
                  have h4 := HGV.out
                  omega
                case rel =>
                  refine ⟨h', x + 1, rfl, ?_, fun t ht => by rw [HOUT8.out t ht, HOUT.out t ht], HLT8.out, HO8.out, HV8.out, HL8.out⟩
                  have h1 := HSUM.out
                  have h2 := HVAL8.out
                  have h4 := HGV.out
                  rw [h2, Nat.add_mul]
                  omega
              · have hg0 : 0 < G := Nat.pos_of_ne_zero hG0
                have hgb : (((G : Nat) : Int) == 0) = false := by simpa using hG0
                have hgV := hGV
                clear hGV hG0
                have hgl : G < 4294967296 := lt_of_mul (V := V) (P := M1) hgV (by have := HHD1.out; omega)
                have HGV := hid hgV
                clear hgV
                go_wp2_with fail
                have HTK := hid (take_any w.heap.size gu k n (p + 1) (p + 1) cv G (some ⟨bv, fv, none⟩) h (dg V) (wr.drewN (d + 1)) hkb (by omega) (HU.out.drewN _) HV.out HNE.out HH.out (fun _ _ => dg_lt _ _) hgl (by rw [val_dg_of_lt HVL.out, ← HM.out]; exact HGV.out))
                rw [val_dg_of_lt HVL.out, ← HM.out] at HTK
                refine HTK.out.mono ?_
                rintro e w8 ⟨rfl, h', ho, hout, hval, hlt', hgrow⟩
                have HO8 := hid ho
                have HOUT8 := hid hout
                have HVAL8 := hid hval
                have HLT8 := hid hlt'
                have HV8 := hid (Sl.grown_other (w := wr.drewN (d + 1)) HV.out hgrow (HNE.out _ rfl))
                have HL8 := hid ((HL.out.trans (below_drewN' _ _ (d + 1))).grown hgrow hz2 (fun t ht => by cases ht; exact hgulo))
                clear ho hout hval hlt' hgrow HTK hgl
                go_wp2_with fail
                go_roundg (val (fun t => h' (k + t)) (n + 1))
                case measure =>
                  have h1 := HGK.out
                  have h2 := HVAL8.out
                  have h3 : 0 < G * V := Nat.mul_pos hg0 hVp
                  have h4 := HGV.out
                  omega
                case rel =>
                  refine ⟨h', x + G, rfl, ?_, fun t ht => by rw [HOUT8.out t ht, HOUT.out t ht], HLT8.out, HO8.out, HV8.out, HL8.out⟩
                  have h1 := HSUM.out
                  have h2 := HVAL8.out
                  have h4 := HGV.out
                  rw [h2, Nat.add_mul]
                  omega
            · have HAB2 := HAB.out
              rw [decide_eq_false hVM] at HAB2
              have HAB := hid HAB2
              have hMV : M1 < V := by omega
              have hq2 : (x * V + M1) % V = M1 := by rw [Nat.add_comm, Nat.add_mul_mod_self_right, Nat.mod_eq_of_lt hMV]
              rw [hsum] at hq2
              have hD3 := D3.out h hout (by rw [← HM.out, hq2]) hh
              have HD3 := hid hD3
              clear hsum hout hh hu hv hbl hd1 hM1 HAB2 hVM hMV hq2 hD3
              go_wp2_with fail
              refine HAB.out.mono ?_
              rintro e w5 ⟨rfl, d, rfl⟩
              go_wp2_with fail
              go_roundw
              case rel => exact ⟨_, k, by omega, rfl, .inl rfl, by omega, (HU.out.drewN d).congr fun t _ => HD3.out t, HV.out, HL.out.trans (below_drewN' _ _ _)⟩
              case measure => simp [intOf]
        · obtain rfl : j = 0 := by omega
          have HU0 := HU.out
          rw [W_zero, Nat.mul_one] at HU0
          have hUW : U < W (p + 1) := Nat.lt_of_lt_of_le HUL.out (W_le (by omega))
          have hRW : U % V < W (p + 1) := Nat.lt_of_le_of_lt (Nat.mod_le _ _) hUW
          have hRn : nd (U % V) ≤ 100000 := Nat.le_trans (nd_mono (Nat.mod_le U V)) (Nat.le_trans (nd_le.2 hUW) (by omega))
          have hms := HMS.out
          obtain ⟨R, hR⟩ : ∃ R, R = U % V := ⟨_, rfl⟩
          rw [← hR] at HU0 hRW hRn hms
          have HC := hid (cut_own HU0 hRW)
          have HMS1 := hid hms
          have HRN := hid hRn
          clear HU0 hUW hRW hR hij hib hRn hms
          go_wp2_with fail
          refine HC.out.mono ?_
          rintro e w5 ⟨v5, rfl, h5, rfl⟩
          have H5 := hid h5
          clear h5
          go_wp2_with fail
          refine Calls.mono (shortly_r (B := w.heap.size) hz2 H5.out HRN.out hf1 hf2) ?_
          rintro e w6 ⟨v6, rfl, h6, hb⟩
          rw [HMS1.out] at h6
          have H6 := hid h6
          have HL := hid (HL.out.trans (hb.mono hz2))
          clear h6 hb
          obtain ⟨R2, hR2⟩ : ∃ R2, R2 = R % f := ⟨_, rfl⟩
          rw [← hR2]
          clear hR2
          go_wp2_with fail
          go_ret
          exact ⟨_, rfl, H6.out, HL.out⟩

end Go.Proofs.Ytfknjfmgpfhjiaa
