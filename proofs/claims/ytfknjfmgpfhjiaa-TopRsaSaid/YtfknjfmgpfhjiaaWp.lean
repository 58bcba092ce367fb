import Derived.Test.YtfknjfmgpfhjiaaWo
import Derived.Test.YtfknjfmgpfhjiaaMathg
import Derived.Deep.RegionWith
import Derived.BigRegion
namespace Go.Proofs.Ytfknjfmgpfhjiaa
open Go.RowKit

theorem run_mid {P : Program} (t e : TypeId) (i : TypeInfo) (ht : P.underlying t = some (.slice e)) (hi : P.info? e = some i) (hs : i.size = 1) (g n c l h : Nat) (hl : l ≤ h) (hh : h ≤ c) (hlc : l < c) (w : World) :
    (Instr.slice t (.slice (some ⟨g, 0, none⟩) n c) (some (.int .i64 (l : Int))) (some (.int .i64 (h : Int))) none).run P w = .ok (.slice (some ⟨g, l, none⟩) (h - l) (c - l)) w := by
  simp [Instr.slice, run_underlying ht, Instr.sliceBounds, Instr.sliceBound, asIntOf, sizeOf, typeInfo, hi, Addr.add, hs]
  rw [if_pos hh, if_pos hl, if_neg (show ¬ c = l by omega)]
  split
  · rename_i h6; subst h6; rfl
  · rfl

theorem Sl.grown_other {w w' : World} {k : IntKind} {gb n c off row : Nat} {f : Nat → Nat} (h : Sl w k (some ⟨gb, off, none⟩) n c f) (hg : w.grownBy w' (some row)) (hne : gb ≠ row) : Sl w' k (some ⟨gb, off, none⟩) n c f := by
  refine ⟨h.1, h.2.1, h.2.2.1, fun hn => ?_⟩
  obtain ⟨b, o, e, hlt, hc⟩ := h.at_ hn
  cases e
  exact ⟨gb, off, rfl, Nat.lt_of_lt_of_le hlt hg.size, fun j hj => hg.cell (hc j hj) (by simp; exact hne)⟩

theorem nat_shr32 (a P : Nat) : ((a : Int) / (P : Int)) % 4294967296 = ((a / P % 4294967296 : Nat) : Int) := by
  rw [← Int.natCast_ediv]; omega

set_option maxRecDepth 100000 in
set_option maxHeartbeats 4000000 in
theorem ndiv_long (oa ob : Option Addr) (n m ca cb : Nat) (f g : Nat → Nat) (w : World) (ha : Sl w .u32 oa n ca f) (hb : Sl w .u32 ob m cb g) (hf : ∀ j, j < n → f j < 4294967296) (hg : ∀ j, j < m → g j < 4294967296) (hn : n ≤ 100000) (hle : val g m ≤ val f n) (h1 : 2 ≤ nd (val g m)) :
    Calls Try.prog 16 #[.slice oa n ca, .slice ob m cb] w fun e w' => ∃ v u, e = .returned (.tuple #[v, u, .int .i64 0]) ∧ Num .u32 w.heap.size w' v (val f n / val g m) ∧ Num .u32 w.heap.size w' u (val f n % val g m) ∧ Below w.heap.size w w' := by
  have hX := nd_val_le hf
  have hY := nd_val_le hg
  have HSA := hid fun d => size_q oa n ca f w d ha hf
  have HSB := hid fun d => size_q ob m cb g w d hb hg
  obtain ⟨i0, hi, hz0, hz1, hz2⟩ := k32.hi
  have hsl := run_upto (P := Try.prog) 23 60 i0 Try.underlying23 hi oa n ca (nd (val f n)) (Nat.le_trans hX ha.len_le)
  have hsl2 := run_upto (P := Try.prog) 23 60 i0 Try.underlying23 hi ob m cb (nd (val g m)) (Nat.le_trans hY hb.len_le)
  have hA := (ha.take hX).congr fun j hj => (dg_val hf j (by omega)).symm
  have hB := ((hb.take hY).congr fun j hj => (dg_val hg j (by omega)).symm)
  have hcge : 0 ≤ cmp (val f n) (val g m) := by unfold cmp; split; omega; split <;> omega
  have hlx := val_dg_nd (val f n)
  have hly := val_dg_nd (val g m)
  clear ha hb hf hg
  generalize val f n = X at *
  generalize val g m = Y at *
  have hpq : nd Y ≤ nd X := nd_mono hle
  have hXW := lt_W_nd X
  have hn3 := norm_top (n := nd Y) (s := 32 - bits (dg Y (nd Y - 1))) (by omega) rfl rfl
  have hbeg := div_begin (P := 2 ^ (32 - bits (dg Y (nd Y - 1)))) hXW rfl (by omega) hpq (Nat.pow_pos (by decide))
  have hqW := div_lt_W hXW (W_le_of_nd (N := Y) (k := nd Y - 1) (by omega)) (by omega) hpq
  have hrW : X % Y < W (nd Y) := Nat.lt_of_lt_of_le (Nat.mod_lt X (by rcases Nat.eq_zero_or_pos Y with h | h; rw [h, nd_zero] at h1; omega; exact h)) (Nat.le_of_lt (lt_W_nd Y))
  have hms := fun P (hP : 0 < P) => (mod_shift X Y P hP).2
  have hlast := fun P (hP : 0 < P) (hPd : 4294967296 % P = 0) => div_last (X := X) (Y := Y) hP hPd
  have hYp : 0 < Y := by rcases Nat.eq_zero_or_pos Y with h | h; rw [h, nd_zero] at h1; omega; exact h
  have htl := dg_lt Y (nd Y - 1)
  generalize hcm : cmp X Y = cm at *
  generalize hp : nd X = p at *
  generalize hq : nd Y = q at *
  generalize hs : 32 - bits (dg Y (q - 1)) = s at *
  obtain ⟨hs32, hVl, hVt⟩ := hn3
  obtain ⟨b, off, rfl, hbs, hc⟩ := hB.at_ (by omega)
  have hct := hc (q - 1) (by omega)
  have HA := hid hA
  have HB := hid hB
  have HLX := hid hlx
  have HLY := hid hly
  have HCM := hid hcm
  have HS := hid hs
  have HBEG := hid hbeg
  have HQW := hid hqW
  have HRW := hid hrW
  have HMS := hid hms
  have HLAST := hid hlast
  have HVL := hid hVl
  have HVT := hid hVt
  have hq0 : ((q : Int) == 0) = false := by simp; omega
  have hc0 : decide (cm < 0) = false := by simp; omega
  have hq1 : ((q : Int) == 1) = false := by simp; omega
  clear hlx hly hp hq hA hB hcm hs hbeg hqW hrW hms hlast hVl hVt hXW hc hle
  go_enter Try.func16, Try.ntmps16
  go_wp2_with fail
  go_quiet ((go_at_call 55; first | (with_reducible exact Calls.quiet_of_same (HSA.out _)) | (with_reducible exact Calls.quiet_of_same (HSB.out _))))
  go_wp2_with fail
  have h3 := (ncmp_any oa (some ⟨b, off, none⟩) p q ca cb (dg X) (dg Y) (w.drewN nq) (show Sl w .u32 oa p ca (dg X) from HA.out) (show Sl w .u32 (some ⟨b, off, none⟩) q cb (dg Y) from HB.out) (fun _ _ => dg_lt _ _) (fun _ _ => dg_lt _ _))
  rw [HLX.out, HLY.out, HCM.out] at h3
  refine h3.mono ?_
  rintro e w1 ⟨rfl, d, rfl⟩
  clear h3
  go_upto_region 6 with fail
  clear hc0
  go_wp2_with fail
  refine (lead_any (dg Y (q - 1)) (w.drewN (nq + d)) htl).mono ?_
  rw [HS.out]
  rintro e w1 ⟨rfl, rfl⟩
  go_upto_region 9 with fail
  go_cut [8, 9] (fun s8 s9 wx => ∃ (gu gv : Nat), s8 = .slice (some ⟨gu, 0, none⟩) (p + 1) (p + 1) ∧ s9 = .slice (some ⟨gv, 0, none⟩) q (q + 1) ∧ gu ≠ gv ∧ Own w.heap.size wx .u32 60 (some ⟨gu, 0, none⟩) (p + 1) (p + 1) (dg (X * 2 ^ s)) ∧ Sl wx .u32 (some ⟨gv, 0, none⟩) q (q + 1) (dg (Y * 2 ^ s)) ∧ Below w.heap.size w wx)
  case first =>
    have hsq : ∀ (g : Nat) (w : World), (Instr.slice 23 (.slice (some ⟨g, 0, none⟩) (q + 1) (q + 1)) none (some (.int .i64 (q : Int))) none).run Try.prog w = .ok (.slice (some ⟨g, 0, none⟩) q (q + 1)) w :=
      fun g w => run_upto (P := Try.prog) 23 60 i0 Try.underlying23 hi (some ⟨g, 0, none⟩) (q + 1) (q + 1) q (by omega) w
    have S1 : Hid (∀ wy, Below w.heap.size w wy → Calls Try.prog 58 #[.slice oa p ca, .int .u64 s] wy fun e w' => ∃ g, e = .returned (.slice (some ⟨g, 0, none⟩) (p + 1) (p + 1)) ∧ wy.heap.size ≤ g ∧ g < w'.heap.size ∧ Own w.heap.size w' .u32 60 (some ⟨g, 0, none⟩) (p + 1) (p + 1) (dg (X * 2 ^ s)) ∧ Below w.heap.size w w' ∧ Below wy.heap.size wy w') := by
      intro wy hy
      refine (shifted_any oa p ca s (dg X) wy (HA.out.below hy) (fun _ _ => dg_lt _ _) (by omega) hs32).mono ?_
      rw [HLX.out]
      rintro e w' ⟨rfl, ho, hb⟩
      exact ⟨_, rfl, Nat.le_refl _, (ho.nw _ rfl).2.1, ho.mono hy.size, hy.trans (hb.mono hy.size), hb⟩
    have S2 : Hid (∀ wy, Below w.heap.size w wy → Calls Try.prog 58 #[.slice (some ⟨b, off, none⟩) q cb, .int .u64 s] wy fun e w' => ∃ g, e = .returned (.slice (some ⟨g, 0, none⟩) (q + 1) (q + 1)) ∧ wy.heap.size ≤ g ∧ g < w'.heap.size ∧ Sl w' .u32 (some ⟨g, 0, none⟩) q (q + 1) (dg (Y * 2 ^ s)) ∧ Below w.heap.size w w' ∧ Below wy.heap.size wy w') := by
      intro wy hy
      refine (shifted_any (some ⟨b, off, none⟩) q cb s (dg Y) wy (HB.out.below hy) (fun _ _ => dg_lt _ _) (by omega) hs32).mono ?_
      rw [HLY.out]
      rintro e w' ⟨rfl, ho, hb⟩
      exact ⟨_, rfl, Nat.le_refl _, (ho.nw _ rfl).2.1, ho.sl.take (by omega), hy.trans (hb.mono hy.size), hb⟩
    clear hct htl hcge hi hsl hsl2 hq0 hq1
    go_region_with (first
      | (go_at_call_of 58 (Value.slice oa p ca); refine (S1.out _ ?_).mono ?_; (first | exact below_drewN _ _ _ | assumption); rintro e wu ⟨gu, rfl, u1, u2, u3, u4, u5⟩; have U3 := hid u3; clear u3)
      | (go_at_call_of 58 (Value.slice (some ⟨b, off, none⟩) q cb); refine (S2.out _ ?_).mono ?_; (first | exact below_drewN _ _ _ | assumption); rintro e wv ⟨gv, rfl, v1, v2, v3, v4, v5⟩; have V3 := hid v3; clear v3))
    all_goals (go_wp2_with fail; go_meet)
    case rel => exact ⟨gu, gv, rfl, rfl, by omega, U3.out.below v5, V3.out, v4⟩
  case rest =>
    obtain ⟨gu, gv, rfl, rfl, hne, hu, hv, hbw⟩ := hcut
    have hguz := (hu.nw _ rfl).2.1
    have hgvz : gv < wc.heap.size := by
      obtain ⟨b2, o2, e2, h2, _⟩ := hv.at_ (by omega)
      cases e2
      exact h2
    have hbz := hbw.size
    have HU := hid hu
    have HV := hid hv
    have HBW := hid hbw
    clear hu hv hbw hct htl hcge hsl hsl2 hq0 hq1
    obtain ⟨P, hP⟩ : ∃ P, P = 2 ^ s := ⟨_, rfl⟩
    have hPp : 0 < P := by rw [hP]; exact Nat.pow_pos (by decide)
    have hPd : 4294967296 % P = 0 := by rw [hP]; exact pow_div_base hs32
    rw [← hP] at HU HV HBEG HVL HVT
    obtain ⟨U, hU⟩ : ∃ U, U = X * P := ⟨_, rfl⟩
    obtain ⟨V, hV⟩ : ∃ V, V = Y * P := ⟨_, rfl⟩
    have HMS2 := hid (HMS.out P hPp)
    have HLAST2 := hid (HLAST.out P hPp hPd)
    rw [← hU, ← hV] at HMS2 HLAST2 HBEG
    rw [← hU] at HU
    rw [← hV] at HV HVL HVT
    have hVp : 0 < V := by rw [hV]; exact Nat.mul_pos hYp hPp
    have HP := hid hP
    have HPD := hid hPd
    clear hU hV HMS HLAST hP hPd
    go_wp2_with (at_make; refine wpList_mk rfl _ _ k32 rfl .i64 .i64 _ _ (p - q + 1) rfl rfl (by omega) (by omega) (by omega) ?_)
    intro w1 hown hbl hz
    have HO := hid (hown.mono hbz)
    have HU1 := hid (HU.out.below hbl)
    have HV1 := hid (HV.out.below hbl)
    have HB1 := hid (HBW.out.trans (hbl.mono hbz))
    have hgune : gu ≠ wc.heap.size := by omega
    have hgvne : gv ≠ wc.heap.size := by omega
    clear hown hbl HU HV HBW
    generalize wc.heap.size = gq at *
    go_wp2_with fail
    go_loopw [11] (fun i wr => ∃ (j : Nat), j ≤ p - q + 1 ∧ i = .int .i64 ((j : Int) - 1) ∧ Own w.heap.size wr .u32 60 (some ⟨gu, 0, none⟩) (p + 1) (p + 1) (dg (U % (V * W j))) ∧ Own w.heap.size wr .u32 60 (some ⟨gq, 0, none⟩) (p - q + 1) (p - q + 1) (fun t => if j ≤ t then dg (U / V) t else 0) ∧ Sl wr .u32 (some ⟨gv, 0, none⟩) q (q + 1) (dg V) ∧ Below w.heap.size w wr) (fun i _ => (intOf i + 1).toNat)
    case atStart =>
      refine ⟨p - q + 1, Nat.le_refl _, ?_, ?_, ?_, HV1.out, HB1.out⟩
      · exact congrArg (Value.int .i64) (by omega)
      · rw [HBEG.out]; exact HU1.out
      · exact HO.out.congr fun t ht => (if_neg (by omega)).symm
    case round =>
      obtain ⟨j, hj, rfl, hu, hq, hv, hbl⟩ := hrel
      have HU := hid hu
      have HQ := hid hq
      have HV := hid hv
      have HL := hid hbl
      have hz2 := hbl.size
      clear hu hv hbl
      by_cases hlt : 0 < j
      · obtain ⟨k, rfl⟩ : ∃ k, j = k + 1 := ⟨j - 1, by omega⟩
        have hsm : ∀ w : World, (Instr.slice 23 (.slice (some ⟨gu, 0, none⟩) (p + 1) (p + 1)) (some (.int .i64 (k : Int))) (some (.int .i64 ((k : Int) + (q : Int) + 1))) none).run Try.prog w = .ok (.slice (some ⟨gu, k, none⟩) (q + 1) (p + 1 - k)) w := by
          intro w
          have := run_mid (P := Try.prog) 23 60 i0 Try.underlying23 hi hz1 gu (p + 1) (p + 1) k (k + q + 1) (by omega) (by omega) (by omega) w
          rw [show k + q + 1 - k = q + 1 from by omega] at this
          exact this
        have ek : (((k + 1 : Nat) : Int) - 1) = (k : Int) := by omega
        rw [ek]
        obtain ⟨d1, d2, d3⟩ := div_row (U := U) (k := k) hVp HVL.out
        have hst := step_any w.heap.size gu k q (p + 1) (p + 1) (p + 1 - k) gv 0 (q + 1) (dg (U % (V * W (k + 1)))) (dg V) wr h1 (by omega) (by omega) (by omega) HU.out HV.out (fun e => hne e.symm) (fun _ => dg_lt _ _) (fun _ _ => dg_lt _ _) HVT.out (by rw [val_dg_of_lt HVL.out]; exact d1)
        rw [val_dg_of_lt HVL.out, d2] at hst
        have HST := hid hst
        have D3 := hid d3
        clear hst d1 d2 d3 hq ek
        go_wp2_with fail
        refine HST.out.mono ?_
        rintro e w2 ⟨rfl, h', ho, hout, hval, hlt', hgrow⟩
        have hd3 := D3.out h' hout hval hlt'
        have HH := hid hd3
        have HO2 := hid ho
        have HG := hid hgrow
        have HQ2 := hid (HQ.out.grown hgrow (.inr (by simp [Value.ownBlock]; exact fun e => hgune e.symm)))
        obtain ⟨g0, hg0, _, hz3, hcell, hfr⟩ := HQ2.out.at_ (by omega)
        cases hg0
        have hcj := hcell k (by omega)
        have hfrj := hfr k
        have hl2 := hlt'
        clear hd3 ho hout hval hlt' hgrow hcell hfr hl2
        have hgs := HG.out.size
        go_wp2_with fail
        go_roundw
        case rel =>
          refine ⟨k, by omega, rfl, ?_, ?_, ?_, ?_⟩
          · exact (HO2.out.setCell_other (fun a ha => by cases ha; exact hgune) _ _).congr fun t _ => HH.out t
          · refine (HQ2.out.stored k _).congr fun t ht => ?_
            by_cases c1 : t = k
            · subst c1; rw [upd_same, if_pos (Nat.le_refl _)]
            · rw [upd_other _ _ c1]
              by_cases c2 : k ≤ t
              · rw [if_pos (by omega), if_pos c2]
              · rw [if_neg (by omega), if_neg c2]
          · refine Sl.setCell_other ?_ (fun a ha => by cases ha; exact hgvne) _ _
            exact HV.out.grown_other HG.out (fun e => hne e.symm)
          · refine Below.setCell ?_ ?_ _
            · exact HL.out.grown HG.out (by omega) (fun t ht => by cases ht; exact (HU.out.nw _ rfl).1)
            · exact hbz
        case measure => simp [intOf]
      · obtain rfl : j = 0 := by omega
        have HQ0 := hid (HQ.out.congr (g := dg (X / Y)) (fun t _ => by rw [if_pos (Nat.zero_le _), HMS2.out]))
        obtain ⟨R, hR⟩ : ∃ R, R = U % (V * W 0) := ⟨_, rfl⟩
        have HU0 := HU.out
        rw [← hR] at HU0
        have HLAST3 := HLAST2.out
        rw [← hR] at HLAST3
        have HU := hid HU0
        have HLA := hid HLAST3
        clear HU0 HLAST3 HLAST2 hR HQ HBEG HVT HVL HMS2
        go_wp2_with (at_make; refine wpList_mk rfl _ _ k32 rfl .i64 .i64 _ _ q rfl rfl (by omega) (by omega) (by omega) ?_)
        intro w2 hown hbl hz
        have hbz2 : w.heap.size ≤ wr.heap.size := hz2
        have hquz := (HU.out.nw _ rfl).2.1
        have hqqz := (HQ0.out.nw _ rfl).2.1
        have HO := hid (hown.mono hbz2)
        have HU1 := hid (HU.out.below hbl)
        have HQ1 := hid (HQ0.out.below hbl)
        have HB1 := hid (HL.out.trans (hbl.mono hbz2))
        clear hown hbl HU HQ0 HL HV
        generalize wr.heap.size = gr at *
        go_wp2_with fail
        have hgr1 : gu ≠ gr := by omega
        have hgr2 : gq ≠ gr := by omega
        go_loopw [94] (fun i wt => ∃ (j : Nat), j ≤ q ∧ i = .int .i64 (j : Int) ∧ Own w.heap.size wt .u32 60 (some ⟨gr, 0, none⟩) q q (fun t => if t < j then dg (X % Y) t else 0) ∧ Own w.heap.size wt .u32 60 (some ⟨gu, 0, none⟩) (p + 1) (p + 1) (dg R) ∧ Own w.heap.size wt .u32 60 (some ⟨gq, 0, none⟩) (p - q + 1) (p - q + 1) (dg (X / Y)) ∧ Below w.heap.size w wt) (fun i _ => q - (intOf i).toNat)
        case atStart => exact ⟨0, Nat.zero_le _, rfl, HO.out.congr (fun t _ => by rw [if_neg (by omega)]), HU1.out, HQ1.out, HB1.out⟩
        case round =>
          obtain ⟨j, hj, rfl, hr, hu, hq, hbl⟩ := hrel
          have HR := hid hr
          have HU := hid hu
          have HQ := hid hq
          have HL := hid hbl
          clear hr hu hq hbl
          by_cases hlt : j < q
          · obtain ⟨g0, hg0, _, hz4, hcell, hfr⟩ := HR.out.at_ (by omega)
            cases hg0
            have hcj := hcell j (by omega)
            have hfrj := hfr j
            obtain ⟨g1, hg1, _, hz5, hcell2, hfr2⟩ := HU.out.at_ (by omega)
            cases hg1
            have hu0 := hcell2 j (by omega)
            have hu1 := hcell2 (j + 1) (by omega)
            have l0 := dg_lt R j
            have l1 := dg_lt R (j + 1)
            have hor := or_shift64 (dg R (j + 1)) (dg R j) l1 l0
            have HLJ := hid (HLA.out j)
            clear hcell hfr hcell2 hfr2
            go_upto_region 19 with fail
            have wj1 : IntKind.i64.wrap ((j : Int) + 1) = (j : Int) + 1 := by rw [IntKind.wrap_i64]; omega
            have wj2 : (0 : Int) ≤ (j : Int) + 1 := by omega
            have wj3 : ((j : Int) + 1).toNat = j + 1 := by omega
            go_region
            all_goals go_wp2_with fail
            have e7 : (((dg R (j + 1) : Nat) : Int) * 4294967296 + ((dg R j : Nat) : Int)) / 2 ^ s % 4294967296 = ((dg (X % Y) j : Nat) : Int) := by
              have e8 : ((2 : Int) ^ s) = ((P : Nat) : Int) := by rw [HP.out]; simp
              have e9 : (((dg R (j + 1) : Nat) : Int) * 4294967296 + ((dg R j : Nat) : Int)) = ((dg R (j + 1) * 4294967296 + dg R j : Nat) : Int) := by omega
              rw [e8, e9, nat_shr32 _ _, HLJ.out]
            rw [e7]
            refine ⟨⟨j + 1, by omega, rfl, ?_, ?_, ?_, ?_⟩, ?_⟩
            · refine Own.congr (HR.out.stored j (dg (X % Y) j)) fun t ht => ?_
              by_cases c1 : t = j
              · subst c1; rw [upd_same, if_pos (by omega)]
              · rw [upd_other _ _ c1]
                by_cases c2 : t < j
                · rw [if_pos c2, if_pos (by omega)]
                · rw [if_neg c2, if_neg (by omega)]
            · exact HU.out.setCell_other (fun a ha => by cases ha; exact hgr1) _ _
            · exact HQ.out.setCell_other (fun a ha => by cases ha; exact hgr2) _ _
            · exact (HL.out.setCell (show w.heap.size ≤ (⟨gr, j, none⟩ : Addr).block from hbz2) _).trans ⟨rfl, rfl, rfl, Nat.le_refl _, fun _ _ => rfl⟩
            · simp [intOf]; omega
          · obtain rfl : j = q := by omega
            go_wp2_with fail
            refine (trim_any (some ⟨gq, 0, none⟩) (p - j + 1) (p - j + 1) (dg (X / Y)) wr HQ.out.sl (fun _ _ => dg_lt _ _) (by omega)).mono ?_
            rw [val_dg_of_lt HQW.out]
            rintro e w3 ⟨v3, rfl, hv3, hb3⟩
            have hz7 := HL.out.size
            have HV3 := hid (hv3.mono hz7)
            have HB3 := hid (hb3.mono hz7)
            have HR3 := hid (HR.out.below hb3)
            clear hv3 hb3 HU HQ
            go_wp2_with fail
            refine (trim_any (some ⟨gr, 0, none⟩) j j _ w3 HR3.out.sl (fun t ht => by rw [if_pos ht]; exact dg_lt _ _) (by omega)).mono ?_
            rw [val_congr (f := fun t => if t < j then dg (X % Y) t else 0) (g := dg (X % Y)) (fun t ht => if_pos ht), val_dg_of_lt HRW.out]
            rintro e w4 ⟨v4, rfl, hv4, hb4⟩
            have hz8 := HB3.out.size
            have HV4 := hid (hv4.mono (Nat.le_trans hz7 hz8))
            have HV3 := hid (HV3.out.below hb4)
            have HB4 := hid ((HL.out.trans HB3.out).trans (hb4.mono (Nat.le_trans hz7 hz8)))
            clear hv4 hb4
            go_wp2_with fail
            go_ret3
            exact ⟨_, _, rfl, HV3.out, HV4.out, HB4.out⟩

/-- nat.Div. -/
theorem ndiv_any (oa ob : Option Addr) (n m ca cb : Nat) (f g : Nat → Nat) (w : World) (ha : Sl w .u32 oa n ca f) (hb : Sl w .u32 ob m cb g) (hf : ∀ j, j < n → f j < 4294967296) (hg : ∀ j, j < m → g j < 4294967296) (hn : n ≤ 100000) (h0 : val g m ≠ 0) :
    Calls Try.prog 16 #[.slice oa n ca, .slice ob m cb] w fun e w' => ∃ v u, e = .returned (.tuple #[v, u, .int .i64 0]) ∧ Num .u32 w.heap.size w' v (val f n / val g m) ∧ Num .u32 w.heap.size w' u (val f n % val g m) ∧ Below w.heap.size w w' := by
  by_cases hlt : val f n < val g m
  · refine (ndiv_less oa ob n m ca cb f g w ha hb hf hg hn hlt).mono ?_
    rintro e w' ⟨u, rfl, hu, hb⟩
    exact ⟨_, u, rfl, by rw [Nat.div_eq_of_lt hlt]; exact Num.zero _ _ _, by rw [Nat.mod_eq_of_lt hlt]; exact hu, hb⟩
  · have hp := nd_pos (Nat.pos_of_ne_zero h0)
    by_cases h1 : nd (val g m) = 1
    · exact ndiv_short oa ob n m ca cb f g w ha hb hf hg hn (by omega) h1
    · exact ndiv_long oa ob n m ca cb f g w ha hb hf hg hn (by omega) (by omega)

end Go.Proofs.Ytfknjfmgpfhjiaa
