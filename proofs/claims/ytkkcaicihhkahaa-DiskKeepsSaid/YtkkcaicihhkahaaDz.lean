/-
  The walk of DiskKeeps.
-/
import Derived.Test.YtkkcaicihhkahaaDx
namespace Go.Proofs.Ytkkcaicihhkahaa
open Go.RowKit

/-- A slice of tries that came in: three numbers each. -/
def Trs (w : World) (oa : Option Addr) (n c : Nat) : Prop := n ≤ c ∧ (0 < n → ∃ b off, oa = some ⟨b, off, none⟩ ∧ b < w.heap.size ∧ ∀ i, i < n → ∃ x k t : Int,
  w.cell? ⟨b, off + i * 3, none⟩ = some (.int .i64 x) ∧ w.cell? ⟨b, off + i * 3 + 1, none⟩ = some (.int .i64 k) ∧ w.cell? ⟨b, off + i * 3 + 2, none⟩ = some (.int .i64 t))

theorem gap_le (n : Nat) : gapN n + 24 ≤ 47 := by have := gapN_lt n; omega

set_option maxRecDepth 100000 in
set_option maxHeartbeats 12800000 in
theorem diskKeeps_any {w : World} {T : Nat → Nat} (hT : Tab w T) {ob ol : Option Addr} {m cb nl cl : Nat} {f : Nat → Nat} (hb : Sl w .u8 ob m cb f) (hf : ∀ i, f i < 256) (htr : Trs w ol nl cl) :
    Calls Try.prog 4 #[.slice ob m cb, .slice ol nl cl] w fun e w' => e = .returned (.bool true) ∧ Below w.heap.size w w' := by
  have HK := hid (known_any hT)
  have hpos := hT.pos
  by_cases h1 : 3000 < m
  · have hmi : (3000 : Int) < (m : Int) := by omega
    clear hT hb hf htr
    go_enter Try.func4, Try.ntmps4
    go_wp2_with (go_at_call 15; refine Calls.mono HK.out ?_; rintro e w' ⟨rfl, hb⟩)
    go_ret
    exact ⟨rfl, hb⟩
  have h1i : (m : Int) ≤ 3000 := by omega
  by_cases h2 : 100 < nl
  · have hni : (100 : Int) < (nl : Int) := by omega
    clear hT hb hf htr
    go_enter Try.func4, Try.ntmps4
    go_wp2_with (go_at_call 15; refine Calls.mono HK.out ?_; rintro e w' ⟨rfl, hb⟩)
    go_ret
    exact ⟨rfl, hb⟩
  have h2i : (nl : Int) ≤ 100 := by omega
  have HN := hid (newD_any hb hf (by omega))
  have HT := hid hT
  have HTR := hid htr
  have HAM4 := hid fun k => among_any k 4 (by decide) (by decide)
  have HAM50 := hid fun k => among_any k 50 (by decide) (by decide)
  clear hT hb hf htr HK
  go_enter Try.func4, Try.ntmps4
  go_wp2_with fail
  refine Calls.mono HN.out ?_
  rintro e w1 ⟨d, o0, c0, rfl, hd1, hb1⟩
  have HO := hid (open_st (T := T) hb1 hd1 rfl hb1.size hpos (HT.out.below hpos hb1))
  clear hd1 hb1 HN
  go_wp2_with fail
  refine Calls.mono HO.out ?_
  rintro e w2 ⟨p, rfl, hst⟩
  obtain ⟨J, hJ⟩ : ∃ J, J = jr (hd T) f (m / 24) := ⟨_, rfl⟩
  have hst : St w w2 T w.heap.size d p o0 c0 ⟨m, f, false, 0, 0⟩ J := by rw [hJ]; exact hst
  have HJ := hid hJ
  have HA := hid hst.last
  clear HO hJ
  rename_i hst0
  clear hst0 hst
  go_wp2_with fail
  refine Calls.mono HA.out ?_
  rintro e w3 ⟨rfl, hst⟩
  have HST := hid hst
  clear hst HA
  go_wp2_with fail
  go_loopw [7, 9, 10, 11, 12] (fun jj kp at_ ls i wr => ∃ (j p : Nat) (oa : Option Addr) (c : Nat) (S : DSt) (s : Nat) (u : Int) (K : Nat) (A : Int) (L : Nat), j ≤ nl ∧ i = .int .i64 (j : Int) ∧ jj = .pointer (some ⟨p, 0, none⟩) ∧ kp = .int .u64 (K : Nat) ∧ at_ = .int .i64 A ∧ ls = .int .u64 (L : Nat) ∧
      St w wr T w.heap.size d p oa c S (s, u) ∧ S.dn = false ∧ S.arm = 0 ∧ S.m ≤ 3000 + 47 * j ∧ (s, u) = jr (hd T) S.f (S.m / 24) ∧ K ≤ s ∧ s - K ≤ L ∧ A ≤ u ∧ L ≤ j) (fun _ _ _ _ i _ => nl - (intOf i).toNat)
  case atStart =>
    exact ⟨0, p, o0, c0, ⟨m, f, false, 0, 0⟩, J.1, J.2, J.1, J.2, 0, Nat.zero_le _, rfl, rfl, rfl, rfl, rfl, HST.out, rfl, rfl, (by show m ≤ 3000 + 47 * 0; omega), HJ.out, Nat.le_refl _, (by omega), Int.le_refl _, Nat.le_refl _⟩
  case round =>
    clear HST HJ
    obtain ⟨j, p, oa, c, S, s, u, K, A, L, hj, rfl, rfl, rfl, rfl, rfl, hst, hdn, harm, hSm, hsy, hK, hL, hA, hLj⟩ := hrel
    by_cases hlt : j < nl
    · obtain ⟨hnc, hcl⟩ := HTR.out
      obtain ⟨b, off, rfl, hbl, hcc⟩ := hcl (by omega)
      obtain ⟨x, k, t, cx, ck, ct⟩ := hcc j hlt
      have rx := (hst.bel.cell (p := ⟨b, off + j * 3, none⟩) hbl).trans cx
      have rk := (hst.bel.cell (p := ⟨b, off + j * 3 + 1, none⟩) hbl).trans ck
      have j0 : (0 : Int) ≤ (j : Int) := by omega
      have j1 : (j : Int) < (nl : Int) := by omega
      have HCT : Hid (∀ v : World, Below w.heap.size w v → v.cell? ⟨b, off + j * 3 + 2, none⟩ = some (.int .i64 t)) := hid fun v hv => (hv.cell (p := ⟨b, off + j * 3 + 2, none⟩) hbl).trans ct
      have HST := hid hst
      have HB1 := hid hdn
      have HB2 := hid harm
      have HB3 := hid hSm
      have HB4 := hid hsy
      have HB5 := hid (And.intro hK (And.intro hL (And.intro hA hLj)))
      clear hst hdn harm hSm hsy hK hL hA hLj hnc hcl hcc cx ck ct hbl
      go_wp2_with fail
      refine Calls.mono (HAM4.out _ _) ?_
      rintro e w' ⟨⟨r, rfl, hr⟩, rfl⟩

      have HLT := hid HST.out.dk.lt
      have e4 : r = 0 ∨ r = 1 ∨ r = 2 ∨ r = 3 := by omega
      clear hr
      rcases e4 with rfl | rfl | rfl | rfl
      · clear rx rk HAM50 HAM4
        have HA := hid HST.out.last
        go_wp2_with fail
        refine Calls.mono HA.out ?_
        rintro e wl ⟨rfl, hst⟩
        have HST := hid hst
        have ct := HCT.out _ hst.bel
        clear hst HA
        by_cases htw : t < u
        · have HTT : Hid (u ≤ u) := hid (Int.le_refl _)
          by_cases hs : s = 18446744073709551615
          · subst hs
            have HK := hid (known_any HST.out.tab)
            go_wp2_with fail
            refine Calls.mono HK.out ?_
            rintro e wk ⟨rfl, hb⟩
            have HBE := hid (HST.out.bel.trans (hb.mono HST.out.hB))
            clear hb
            go_wp2_with fail
            go_ret
            exact ⟨rfl, HBE.out⟩
          · by_cases ht : 253402300799 < u
            · skip
              have HK := hid (known_any HST.out.tab)
              go_wp2_with fail
              refine Calls.mono HK.out ?_
              rintro e wk ⟨rfl, hb⟩
              have HBE := hid (HST.out.bel.trans (hb.mono HST.out.hB))
              clear hb
              go_wp2_with fail
              go_ret
              exact ⟨rfl, HBE.out⟩
            · skip
              have hm : mayB (s, u) (s + 1) u = true := by
                have q1 := (jr_time (H := hd T) (f := S.f) (S.m / 24)).1
                rw [← HB4.out] at q1
                have q2 : -62167219200 ≤ u := q1
                exact mayB_of (by omega) HTT.out (by have := HTT.out; omega) (by omega)
              have hsl : s + 1 < 18446744073709551616 := by
                have q1 := jr_lt (H := hd T) (f := S.f) (S.m / 24) (fun i _ => HLT.out i)
                rw [← HB4.out] at q1
                have q2 : s < 18446744073709551616 := q1
                omega
              have hfit : S.m + gapN S.m + 24 ≤ 1048576 := by
                have q1 := HB3.out
                have q2 := gapN_lt S.m
                omega
              have E1 : Hid ((s : Int) + 1 = ((s + 1 : Nat) : Int)) := hid (by omega)
              have HMB := hid hm
              have HSL := hid hsl
              have HFIT := hid hfit
              have hsb : ((s : Int) == 18446744073709551615) = false := by rw [beq_eq_false_iff_ne]; omega
              have hsw : IntKind.u64.wrap ((s : Int) + 1) = (s : Int) + 1 := by rw [IntKind.wrap_u64]; omega
              have HA := hid (HST.out.add (s + 1) u)
              clear hm hsl hfit hs
              go_wp2_with fail
              rw [E1.out]
              refine Calls.mono HA.out ?_
              rintro e wa ⟨oa2, c2, gv, rfl, hgv, hst⟩
              have hgv1 := (hgv HMB.out).2
              have HSLN := hid HSL.out
              rw [ad_fit HMB.out HB1.out HB2.out HFIT.out] at hst ⊢
              have hsy2 : (s + 1, u) = jr (hd T) (lay T S (s + 1) u gv) ((S.m + (gapN S.m + 24)) / 24) := (jr_lay hgv1 (by rw [← HB4.out]; exact HMB.out) HSL.out).symm
              obtain ⟨S2, hS2⟩ : ∃ S2 : DSt, S2 = { S with m := S.m + (gapN S.m + 24), f := lay T S (s + 1) u gv, arm := 0 } := ⟨_, rfl⟩
              have hst2 : St w wa T w.heap.size d p oa2 c2 S2 (s + 1, u) := by rw [hS2]; exact hst
              have F1 : Hid (S2.dn = false ∧ S2.arm = 0 ∧ S2.m ≤ 3000 + 47 * (j + 1) ∧ (s + 1, u) = jr (hd T) S2.f (S2.m / 24)) := hid (by
                rw [hS2]
                refine ⟨HB1.out, rfl, ?_, hsy2⟩
                have q1 := HB3.out
                have q2 := gap_le S.m
                show S.m + (gapN S.m + 24) ≤ 3000 + 47 * (j + 1)
                omega)
              have HA2 := hid hst2.last
              clear hst hst2 hsy2 hS2 hgv hgv1 HA HST HCT ct
              go_wp2_with fail
              refine Calls.mono HA2.out ?_
              rintro e wb ⟨rfl, hst⟩
              have HST := hid hst
              clear hst HA2
              go_wp2_with fail
              go_roundw
              case rel => exact ⟨j + 1, p, oa2, c2, S2, s + 1, u, s + 1, u, 0, by omega, by go_num, rfl, rfl, rfl, rfl, HST.out, F1.out.1, F1.out.2.1, F1.out.2.2.1, F1.out.2.2.2, Nat.le_refl _, by omega, Int.le_refl _, Nat.zero_le _⟩
              case measure => simp [intOf]; omega
        · have HTT : Hid (u ≤ t) := hid (by omega)
          by_cases hs : s = 18446744073709551615
          · subst hs
            have HK := hid (known_any HST.out.tab)
            go_wp2_with fail
            refine Calls.mono HK.out ?_
            rintro e wk ⟨rfl, hb⟩
            have HBE := hid (HST.out.bel.trans (hb.mono HST.out.hB))
            clear hb
            go_wp2_with fail
            go_ret
            exact ⟨rfl, HBE.out⟩
          · by_cases ht : 253402300799 < t
            · skip
              have HK := hid (known_any HST.out.tab)
              go_wp2_with fail
              refine Calls.mono HK.out ?_
              rintro e wk ⟨rfl, hb⟩
              have HBE := hid (HST.out.bel.trans (hb.mono HST.out.hB))
              clear hb
              go_wp2_with fail
              go_ret
              exact ⟨rfl, HBE.out⟩
            · skip
              have hm : mayB (s, u) (s + 1) t = true := by
                have q1 := (jr_time (H := hd T) (f := S.f) (S.m / 24)).1
                rw [← HB4.out] at q1
                have q2 : -62167219200 ≤ u := q1
                exact mayB_of (by omega) HTT.out (by have := HTT.out; omega) (by omega)
              have hsl : s + 1 < 18446744073709551616 := by
                have q1 := jr_lt (H := hd T) (f := S.f) (S.m / 24) (fun i _ => HLT.out i)
                rw [← HB4.out] at q1
                have q2 : s < 18446744073709551616 := q1
                omega
              have hfit : S.m + gapN S.m + 24 ≤ 1048576 := by
                have q1 := HB3.out
                have q2 := gapN_lt S.m
                omega
              have E1 : Hid ((s : Int) + 1 = ((s + 1 : Nat) : Int)) := hid (by omega)
              have HMB := hid hm
              have HSL := hid hsl
              have HFIT := hid hfit
              have hsb : ((s : Int) == 18446744073709551615) = false := by rw [beq_eq_false_iff_ne]; omega
              have hsw : IntKind.u64.wrap ((s : Int) + 1) = (s : Int) + 1 := by rw [IntKind.wrap_u64]; omega
              have HA := hid (HST.out.add (s + 1) t)
              clear hm hsl hfit hs
              go_wp2_with fail
              rw [E1.out]
              refine Calls.mono HA.out ?_
              rintro e wa ⟨oa2, c2, gv, rfl, hgv, hst⟩
              have hgv1 := (hgv HMB.out).2
              have HSLN := hid HSL.out
              rw [ad_fit HMB.out HB1.out HB2.out HFIT.out] at hst ⊢
              have hsy2 : (s + 1, t) = jr (hd T) (lay T S (s + 1) t gv) ((S.m + (gapN S.m + 24)) / 24) := (jr_lay hgv1 (by rw [← HB4.out]; exact HMB.out) HSL.out).symm
              obtain ⟨S2, hS2⟩ : ∃ S2 : DSt, S2 = { S with m := S.m + (gapN S.m + 24), f := lay T S (s + 1) t gv, arm := 0 } := ⟨_, rfl⟩
              have hst2 : St w wa T w.heap.size d p oa2 c2 S2 (s + 1, t) := by rw [hS2]; exact hst
              have F1 : Hid (S2.dn = false ∧ S2.arm = 0 ∧ S2.m ≤ 3000 + 47 * (j + 1) ∧ (s + 1, t) = jr (hd T) S2.f (S2.m / 24)) := hid (by
                rw [hS2]
                refine ⟨HB1.out, rfl, ?_, hsy2⟩
                have q1 := HB3.out
                have q2 := gap_le S.m
                show S.m + (gapN S.m + 24) ≤ 3000 + 47 * (j + 1)
                omega)
              have HA2 := hid hst2.last
              clear hst hst2 hsy2 hS2 hgv hgv1 HA HST HCT ct
              go_wp2_with fail
              refine Calls.mono HA2.out ?_
              rintro e wb ⟨rfl, hst⟩
              have HST := hid hst
              clear hst HA2
              go_wp2_with fail
              go_roundw
              case rel => exact ⟨j + 1, p, oa2, c2, S2, s + 1, t, s + 1, t, 0, by omega, by go_num, rfl, rfl, rfl, rfl, HST.out, F1.out.1, F1.out.2.1, F1.out.2.2.1, F1.out.2.2.2, Nat.le_refl _, by omega, Int.le_refl _, Nat.zero_le _⟩
              case measure => simp [intOf]; omega
      · clear rx rk HAM50 HAM4
        have HA := hid HST.out.fail
        go_wp2_with fail
        refine Calls.mono HA.out ?_
        rintro e wf ⟨rfl, hst⟩
        have HST := hid hst
        clear hst HA
        have HA := hid HST.out.last
        go_wp2_with fail
        refine Calls.mono HA.out ?_
        rintro e wl ⟨rfl, hst⟩
        have HST := hid hst
        have ct := HCT.out _ hst.bel
        clear hst HA
        by_cases htw : t < u
        · have HTT : Hid (u ≤ u) := hid (Int.le_refl _)
          by_cases hs : s = 18446744073709551615
          · subst hs
            have HK := hid (known_any HST.out.tab)
            go_wp2_with fail
            refine Calls.mono HK.out ?_
            rintro e wk ⟨rfl, hb⟩
            have HBE := hid (HST.out.bel.trans (hb.mono HST.out.hB))
            clear hb
            go_wp2_with fail
            go_ret
            exact ⟨rfl, HBE.out⟩
          · by_cases ht : 253402300799 < u
            · skip
              have HK := hid (known_any HST.out.tab)
              go_wp2_with fail
              refine Calls.mono HK.out ?_
              rintro e wk ⟨rfl, hb⟩
              have HBE := hid (HST.out.bel.trans (hb.mono HST.out.hB))
              clear hb
              go_wp2_with fail
              go_ret
              exact ⟨rfl, HBE.out⟩
            · skip
              have hm : mayB (s, u) (s + 1) u = true := by
                have q1 := (jr_time (H := hd T) (f := S.f) (S.m / 24)).1
                rw [← HB4.out] at q1
                have q2 : -62167219200 ≤ u := q1
                exact mayB_of (by omega) HTT.out (by have := HTT.out; omega) (by omega)
              have hsl : s + 1 < 18446744073709551616 := by
                have q1 := jr_lt (H := hd T) (f := S.f) (S.m / 24) (fun i _ => HLT.out i)
                rw [← HB4.out] at q1
                have q2 : s < 18446744073709551616 := q1
                omega
              have hfit : S.m + gapN S.m + 24 ≤ 1048576 := by
                have q1 := HB3.out
                have q2 := gapN_lt S.m
                omega
              have E1 : Hid ((s : Int) + 1 = ((s + 1 : Nat) : Int)) := hid (by omega)
              have HMB := hid hm
              have HSL := hid hsl
              have HFIT := hid hfit
              have hsb : ((s : Int) == 18446744073709551615) = false := by rw [beq_eq_false_iff_ne]; omega
              have hsw : IntKind.u64.wrap ((s : Int) + 1) = (s : Int) + 1 := by rw [IntKind.wrap_u64]; omega
              have HA := hid (HST.out.add (s + 1) u)
              clear hm hsl hfit hs
              go_wp2_with fail
              rw [E1.out]
              refine Calls.mono HA.out ?_
              rintro e wa ⟨oa2, c2, gv, rfl, hgv, hst⟩
              have hgv1 := (hgv HMB.out).2
              have HSLN := hid HSL.out
              rw [ad_fail (S := { S with arm := 1 }) HMB.out HB1.out rfl HFIT.out] at hst ⊢
              obtain ⟨S2, hS2⟩ : ∃ S2 : DSt, S2 = { S with arm := 0 } := ⟨_, rfl⟩
              have hst2 : St w wa T w.heap.size d p oa2 c2 S2 (s, u) := by rw [hS2]; exact hst
              have F1 : Hid (S2.dn = false ∧ S2.arm = 0 ∧ S2.m ≤ 3000 + 47 * (j + 1) ∧ (s, u) = jr (hd T) S2.f (S2.m / 24)) := hid (by
                rw [hS2]
                refine ⟨HB1.out, rfl, ?_, HB4.out⟩
                have q1 := HB3.out
                show S.m ≤ 3000 + 47 * (j + 1)
                omega)
              have HA2 := hid hst2.last
              have i1 : (K : Int) ≤ (s : Int) := by have := HB5.out.1; omega
              have i2 : (s : Int) - (K : Int) ≤ (L : Int) := by have := HB5.out.1; have := HB5.out.2.1; omega
              have i3 := HB5.out.2.2.1
              have i4 : (L : Int) ≤ 100 := by have := HB5.out.2.2.2; omega
              clear hst hst2 hS2 hgv hgv1 HA HST HCT ct
              go_wp2_with fail
              refine Calls.mono HA2.out ?_
              rintro e wb ⟨rfl, hst⟩
              have HST := hid hst
              clear hst HA2
              go_wp2_with fail
              go_roundw
              case rel => exact ⟨j + 1, p, oa2, c2, S2, s, u, K, A, L, by omega, by go_num, rfl, rfl, rfl, rfl, HST.out, F1.out.1, F1.out.2.1, F1.out.2.2.1, F1.out.2.2.2, HB5.out.1, HB5.out.2.1, HB5.out.2.2.1, Nat.le_succ_of_le HB5.out.2.2.2⟩
              case measure => simp [intOf]; omega
        · have HTT : Hid (u ≤ t) := hid (by omega)
          by_cases hs : s = 18446744073709551615
          · subst hs
            have HK := hid (known_any HST.out.tab)
            go_wp2_with fail
            refine Calls.mono HK.out ?_
            rintro e wk ⟨rfl, hb⟩
            have HBE := hid (HST.out.bel.trans (hb.mono HST.out.hB))
            clear hb
            go_wp2_with fail
            go_ret
            exact ⟨rfl, HBE.out⟩
          · by_cases ht : 253402300799 < t
            · skip
              have HK := hid (known_any HST.out.tab)
              go_wp2_with fail
              refine Calls.mono HK.out ?_
              rintro e wk ⟨rfl, hb⟩
              have HBE := hid (HST.out.bel.trans (hb.mono HST.out.hB))
              clear hb
              go_wp2_with fail
              go_ret
              exact ⟨rfl, HBE.out⟩
            · skip
              have hm : mayB (s, u) (s + 1) t = true := by
                have q1 := (jr_time (H := hd T) (f := S.f) (S.m / 24)).1
                rw [← HB4.out] at q1
                have q2 : -62167219200 ≤ u := q1
                exact mayB_of (by omega) HTT.out (by have := HTT.out; omega) (by omega)
              have hsl : s + 1 < 18446744073709551616 := by
                have q1 := jr_lt (H := hd T) (f := S.f) (S.m / 24) (fun i _ => HLT.out i)
                rw [← HB4.out] at q1
                have q2 : s < 18446744073709551616 := q1
                omega
              have hfit : S.m + gapN S.m + 24 ≤ 1048576 := by
                have q1 := HB3.out
                have q2 := gapN_lt S.m
                omega
              have E1 : Hid ((s : Int) + 1 = ((s + 1 : Nat) : Int)) := hid (by omega)
              have HMB := hid hm
              have HSL := hid hsl
              have HFIT := hid hfit
              have hsb : ((s : Int) == 18446744073709551615) = false := by rw [beq_eq_false_iff_ne]; omega
              have hsw : IntKind.u64.wrap ((s : Int) + 1) = (s : Int) + 1 := by rw [IntKind.wrap_u64]; omega
              have HA := hid (HST.out.add (s + 1) t)
              clear hm hsl hfit hs
              go_wp2_with fail
              rw [E1.out]
              refine Calls.mono HA.out ?_
              rintro e wa ⟨oa2, c2, gv, rfl, hgv, hst⟩
              have hgv1 := (hgv HMB.out).2
              have HSLN := hid HSL.out
              rw [ad_fail (S := { S with arm := 1 }) HMB.out HB1.out rfl HFIT.out] at hst ⊢
              obtain ⟨S2, hS2⟩ : ∃ S2 : DSt, S2 = { S with arm := 0 } := ⟨_, rfl⟩
              have hst2 : St w wa T w.heap.size d p oa2 c2 S2 (s, u) := by rw [hS2]; exact hst
              have F1 : Hid (S2.dn = false ∧ S2.arm = 0 ∧ S2.m ≤ 3000 + 47 * (j + 1) ∧ (s, u) = jr (hd T) S2.f (S2.m / 24)) := hid (by
                rw [hS2]
                refine ⟨HB1.out, rfl, ?_, HB4.out⟩
                have q1 := HB3.out
                show S.m ≤ 3000 + 47 * (j + 1)
                omega)
              have HA2 := hid hst2.last
              have i1 : (K : Int) ≤ (s : Int) := by have := HB5.out.1; omega
              have i2 : (s : Int) - (K : Int) ≤ (L : Int) := by have := HB5.out.1; have := HB5.out.2.1; omega
              have i3 := HB5.out.2.2.1
              have i4 : (L : Int) ≤ 100 := by have := HB5.out.2.2.2; omega
              clear hst hst2 hS2 hgv hgv1 HA HST HCT ct
              go_wp2_with fail
              refine Calls.mono HA2.out ?_
              rintro e wb ⟨rfl, hst⟩
              have HST := hid hst
              clear hst HA2
              go_wp2_with fail
              go_roundw
              case rel => exact ⟨j + 1, p, oa2, c2, S2, s, u, K, A, L, by omega, by go_num, rfl, rfl, rfl, rfl, HST.out, F1.out.1, F1.out.2.1, F1.out.2.2.1, F1.out.2.2.2, HB5.out.1, HB5.out.2.1, HB5.out.2.2.1, Nat.le_succ_of_le HB5.out.2.2.2⟩
              case measure => simp [intOf]; omega
      · go_wp2_with fail
        refine Calls.mono (HAM50.out _ _) ?_
        rintro e w' ⟨⟨kk2, rfl, hk2⟩, rfl⟩
        have HA := hid (HST.out.cut kk2)
        clear rx rk HAM50 HAM4
        go_wp2_with fail
        refine Calls.mono HA.out ?_
        rintro e wf ⟨rfl, hst⟩
        have HST := hid hst
        clear hst HA
        have HA := hid HST.out.last
        go_wp2_with fail
        refine Calls.mono HA.out ?_
        rintro e wl ⟨rfl, hst⟩
        have HST := hid hst
        have ct := HCT.out _ hst.bel
        clear hst HA
        by_cases htw : t < u
        · have HTT : Hid (u ≤ u) := hid (Int.le_refl _)
          by_cases hs : s = 18446744073709551615
          · subst hs
            have HK := hid (known_any HST.out.tab)
            go_wp2_with fail
            refine Calls.mono HK.out ?_
            rintro e wk ⟨rfl, hb⟩
            have HBE := hid (HST.out.bel.trans (hb.mono HST.out.hB))
            clear hb
            go_wp2_with fail
            go_ret
            exact ⟨rfl, HBE.out⟩
          · by_cases ht : 253402300799 < u
            · skip
              have HK := hid (known_any HST.out.tab)
              go_wp2_with fail
              refine Calls.mono HK.out ?_
              rintro e wk ⟨rfl, hb⟩
              have HBE := hid (HST.out.bel.trans (hb.mono HST.out.hB))
              clear hb
              go_wp2_with fail
              go_ret
              exact ⟨rfl, HBE.out⟩
            · skip
              have hm : mayB (s, u) (s + 1) u = true := by
                have q1 := (jr_time (H := hd T) (f := S.f) (S.m / 24)).1
                rw [← HB4.out] at q1
                have q2 : -62167219200 ≤ u := q1
                exact mayB_of (by omega) HTT.out (by have := HTT.out; omega) (by omega)
              have hsl : s + 1 < 18446744073709551616 := by
                have q1 := jr_lt (H := hd T) (f := S.f) (S.m / 24) (fun i _ => HLT.out i)
                rw [← HB4.out] at q1
                have q2 : s < 18446744073709551616 := q1
                omega
              have hfit : S.m + gapN S.m + 24 ≤ 1048576 := by
                have q1 := HB3.out
                have q2 := gapN_lt S.m
                omega
              have E1 : Hid ((s : Int) + 1 = ((s + 1 : Nat) : Int)) := hid (by omega)
              have HMB := hid hm
              have HSL := hid hsl
              have HFIT := hid hfit
              have hsb : ((s : Int) == 18446744073709551615) = false := by rw [beq_eq_false_iff_ne]; omega
              have hsw : IntKind.u64.wrap ((s : Int) + 1) = (s : Int) + 1 := by rw [IntKind.wrap_u64]; omega
              have HA := hid (HST.out.add (s + 1) u)
              clear hm hsl hfit hs
              go_wp2_with fail
              rw [E1.out]
              refine Calls.mono HA.out ?_
              rintro e wa ⟨oa2, c2, gv, rfl, hgv, hst⟩
              have hgv1 := (hgv HMB.out).2
              have HSLN := hid HSL.out
              rw [ad_cut (S := { S with arm := 2, kk := kk2 }) HMB.out HB1.out rfl HFIT.out] at hst ⊢
              obtain ⟨q, hq⟩ : ∃ q, q = min kk2 (gapN S.m + 24) := ⟨_, rfl⟩
              have hql : q ≤ gapN S.m + 24 := by omega
              obtain ⟨S2, hS2⟩ : ∃ S2 : DSt, S2 = { S with m := S.m + q, f := lay T S (s + 1) u gv, dn := true, arm := 0, kk := kk2 } := ⟨_, rfl⟩
              have hst2 : St w wa T w.heap.size d p oa2 c2 S2 (s, u) := by rw [hS2, hq]; exact hst
              obtain ⟨J3, hJ3⟩ : ∃ J3, J3 = jr (hd T) S2.f (S2.m / 24) := ⟨_, rfl⟩
              have hJ4 : J3 = (s, u) ∨ J3 = (s + 1, u) := by
                rw [hJ3, hS2]
                by_cases hqq : q < gapN S.m + 24
                · left
                  show jr (hd T) (lay T S (s + 1) u gv) ((S.m + q) / 24) = (s, u)
                  rw [jr_part hgv1 hqq]
                  exact HB4.out.symm
                · right
                  show jr (hd T) (lay T S (s + 1) u gv) ((S.m + q) / 24) = (s + 1, u)
                  rw [show q = gapN S.m + 24 from by omega]
                  exact jr_lay hgv1 (by rw [← HB4.out]; exact HMB.out) HSL.out
              have F1 : Hid (S2.m ≤ 3000 + 47 * (j + 1)) := hid (by
                rw [hS2]
                have q1 := HB3.out
                have q2 := gap_le S.m
                show S.m + q ≤ 3000 + 47 * (j + 1)
                omega)
              have HJ3 := hid hJ3
              have HJ4 := hid hJ4
              have HA2 := hid hst2.start
              have i1 : (K : Int) ≤ (s : Int) := by have := HB5.out.1; omega
              have i2 : (s : Int) - (K : Int) ≤ (L : Int) := by have := HB5.out.1; have := HB5.out.2.1; omega
              have i3 := HB5.out.2.2.1
              have i4 : (L : Int) ≤ 100 := by have := HB5.out.2.2.2; omega
              clear hst hst2 hS2 hgv hgv1 HA HST HCT ct hJ3 hJ4 hq hql
              go_wp2_with fail
              refine Calls.mono HA2.out ?_
              rintro e wb ⟨rfl, hst⟩
              have HO := hid (open_st hst.bel hst.dk rfl hst.hB hst.pos hst.tab)
              clear hst HA2
              go_wp2_with fail
              refine Calls.mono HO.out ?_
              rintro e wc ⟨p3, rfl, hst⟩
              obtain ⟨S3, hS3⟩ : ∃ S3 : DSt, S3 = { S2 with dn := false, arm := 0 } := ⟨_, rfl⟩
              have hst3 : St w wc T w.heap.size d p3 oa2 c2 S3 J3 := by rw [hS3, HJ3.out]; exact hst
              have F2 : Hid (S3.dn = false ∧ S3.arm = 0 ∧ S3.m ≤ 3000 + 47 * (j + 1) ∧ J3 = jr (hd T) S3.f (S3.m / 24)) := hid (by
                rw [hS3]
                exact ⟨rfl, rfl, F1.out, HJ3.out⟩)
              have HA2 := hid hst3.last
              clear hst hst3 hS3 HO HJ3
              rcases HJ4.out with rfl | rfl
              · go_wp2_with fail
                refine Calls.mono HA2.out ?_
                rintro e wd ⟨rfl, hst⟩
                have HST := hid hst
                clear hst HA2
                go_wp2_with fail
                go_roundw
                case rel => exact ⟨j + 1, p3, oa2, c2, S3, s, u, K, A, L + 1, by omega, by go_num, rfl, rfl, rfl, by go_num, HST.out, F2.out.1, F2.out.2.1, F2.out.2.2.1, F2.out.2.2.2, HB5.out.1, Nat.le_succ_of_le HB5.out.2.1, HB5.out.2.2.1, Nat.succ_le_succ HB5.out.2.2.2⟩
                case measure => simp [intOf]; omega
              · have i5 := HTT.out
                go_wp2_with fail
                refine Calls.mono HA2.out ?_
                rintro e wd ⟨rfl, hst⟩
                have HST := hid hst
                clear hst HA2
                go_wp2_with fail
                go_roundw
                case rel => exact ⟨j + 1, p3, oa2, c2, S3, s + 1, u, K, A, L + 1, by omega, by go_num, rfl, rfl, rfl, by go_num, HST.out, F2.out.1, F2.out.2.1, F2.out.2.2.1, F2.out.2.2.2, Nat.le_succ_of_le HB5.out.1, by have := HB5.out.2.1; omega, by have := HB5.out.2.2.1; omega, Nat.succ_le_succ HB5.out.2.2.2⟩
                case measure => simp [intOf]; omega
        · have HTT : Hid (u ≤ t) := hid (by omega)
          by_cases hs : s = 18446744073709551615
          · subst hs
            have HK := hid (known_any HST.out.tab)
            go_wp2_with fail
            refine Calls.mono HK.out ?_
            rintro e wk ⟨rfl, hb⟩
            have HBE := hid (HST.out.bel.trans (hb.mono HST.out.hB))
            clear hb
            go_wp2_with fail
            go_ret
            exact ⟨rfl, HBE.out⟩
          · by_cases ht : 253402300799 < t
            · skip
              have HK := hid (known_any HST.out.tab)
              go_wp2_with fail
              refine Calls.mono HK.out ?_
              rintro e wk ⟨rfl, hb⟩
              have HBE := hid (HST.out.bel.trans (hb.mono HST.out.hB))
              clear hb
              go_wp2_with fail
              go_ret
              exact ⟨rfl, HBE.out⟩
            · skip
              have hm : mayB (s, u) (s + 1) t = true := by
                have q1 := (jr_time (H := hd T) (f := S.f) (S.m / 24)).1
                rw [← HB4.out] at q1
                have q2 : -62167219200 ≤ u := q1
                exact mayB_of (by omega) HTT.out (by have := HTT.out; omega) (by omega)
              have hsl : s + 1 < 18446744073709551616 := by
                have q1 := jr_lt (H := hd T) (f := S.f) (S.m / 24) (fun i _ => HLT.out i)
                rw [← HB4.out] at q1
                have q2 : s < 18446744073709551616 := q1
                omega
              have hfit : S.m + gapN S.m + 24 ≤ 1048576 := by
                have q1 := HB3.out
                have q2 := gapN_lt S.m
                omega
              have E1 : Hid ((s : Int) + 1 = ((s + 1 : Nat) : Int)) := hid (by omega)
              have HMB := hid hm
              have HSL := hid hsl
              have HFIT := hid hfit
              have hsb : ((s : Int) == 18446744073709551615) = false := by rw [beq_eq_false_iff_ne]; omega
              have hsw : IntKind.u64.wrap ((s : Int) + 1) = (s : Int) + 1 := by rw [IntKind.wrap_u64]; omega
              have HA := hid (HST.out.add (s + 1) t)
              clear hm hsl hfit hs
              go_wp2_with fail
              rw [E1.out]
              refine Calls.mono HA.out ?_
              rintro e wa ⟨oa2, c2, gv, rfl, hgv, hst⟩
              have hgv1 := (hgv HMB.out).2
              have HSLN := hid HSL.out
              rw [ad_cut (S := { S with arm := 2, kk := kk2 }) HMB.out HB1.out rfl HFIT.out] at hst ⊢
              obtain ⟨q, hq⟩ : ∃ q, q = min kk2 (gapN S.m + 24) := ⟨_, rfl⟩
              have hql : q ≤ gapN S.m + 24 := by omega
              obtain ⟨S2, hS2⟩ : ∃ S2 : DSt, S2 = { S with m := S.m + q, f := lay T S (s + 1) t gv, dn := true, arm := 0, kk := kk2 } := ⟨_, rfl⟩
              have hst2 : St w wa T w.heap.size d p oa2 c2 S2 (s, u) := by rw [hS2, hq]; exact hst
              obtain ⟨J3, hJ3⟩ : ∃ J3, J3 = jr (hd T) S2.f (S2.m / 24) := ⟨_, rfl⟩
              have hJ4 : J3 = (s, u) ∨ J3 = (s + 1, t) := by
                rw [hJ3, hS2]
                by_cases hqq : q < gapN S.m + 24
                · left
                  show jr (hd T) (lay T S (s + 1) t gv) ((S.m + q) / 24) = (s, u)
                  rw [jr_part hgv1 hqq]
                  exact HB4.out.symm
                · right
                  show jr (hd T) (lay T S (s + 1) t gv) ((S.m + q) / 24) = (s + 1, t)
                  rw [show q = gapN S.m + 24 from by omega]
                  exact jr_lay hgv1 (by rw [← HB4.out]; exact HMB.out) HSL.out
              have F1 : Hid (S2.m ≤ 3000 + 47 * (j + 1)) := hid (by
                rw [hS2]
                have q1 := HB3.out
                have q2 := gap_le S.m
                show S.m + q ≤ 3000 + 47 * (j + 1)
                omega)
              have HJ3 := hid hJ3
              have HJ4 := hid hJ4
              have HA2 := hid hst2.start
              have i1 : (K : Int) ≤ (s : Int) := by have := HB5.out.1; omega
              have i2 : (s : Int) - (K : Int) ≤ (L : Int) := by have := HB5.out.1; have := HB5.out.2.1; omega
              have i3 := HB5.out.2.2.1
              have i4 : (L : Int) ≤ 100 := by have := HB5.out.2.2.2; omega
              clear hst hst2 hS2 hgv hgv1 HA HST HCT ct hJ3 hJ4 hq hql
              go_wp2_with fail
              refine Calls.mono HA2.out ?_
              rintro e wb ⟨rfl, hst⟩
              have HO := hid (open_st hst.bel hst.dk rfl hst.hB hst.pos hst.tab)
              clear hst HA2
              go_wp2_with fail
              refine Calls.mono HO.out ?_
              rintro e wc ⟨p3, rfl, hst⟩
              obtain ⟨S3, hS3⟩ : ∃ S3 : DSt, S3 = { S2 with dn := false, arm := 0 } := ⟨_, rfl⟩
              have hst3 : St w wc T w.heap.size d p3 oa2 c2 S3 J3 := by rw [hS3, HJ3.out]; exact hst
              have F2 : Hid (S3.dn = false ∧ S3.arm = 0 ∧ S3.m ≤ 3000 + 47 * (j + 1) ∧ J3 = jr (hd T) S3.f (S3.m / 24)) := hid (by
                rw [hS3]
                exact ⟨rfl, rfl, F1.out, HJ3.out⟩)
              have HA2 := hid hst3.last
              clear hst hst3 hS3 HO HJ3
              rcases HJ4.out with rfl | rfl
              · go_wp2_with fail
                refine Calls.mono HA2.out ?_
                rintro e wd ⟨rfl, hst⟩
                have HST := hid hst
                clear hst HA2
                go_wp2_with fail
                go_roundw
                case rel => exact ⟨j + 1, p3, oa2, c2, S3, s, u, K, A, L + 1, by omega, by go_num, rfl, rfl, rfl, by go_num, HST.out, F2.out.1, F2.out.2.1, F2.out.2.2.1, F2.out.2.2.2, HB5.out.1, Nat.le_succ_of_le HB5.out.2.1, HB5.out.2.2.1, Nat.succ_le_succ HB5.out.2.2.2⟩
                case measure => simp [intOf]; omega
              · have i5 := HTT.out
                go_wp2_with fail
                refine Calls.mono HA2.out ?_
                rintro e wd ⟨rfl, hst⟩
                have HST := hid hst
                clear hst HA2
                go_wp2_with fail
                go_roundw
                case rel => exact ⟨j + 1, p3, oa2, c2, S3, s + 1, t, K, A, L + 1, by omega, by go_num, rfl, rfl, rfl, by go_num, HST.out, F2.out.1, F2.out.2.1, F2.out.2.2.1, F2.out.2.2.2, Nat.le_succ_of_le HB5.out.1, by have := HB5.out.2.1; omega, by have := HB5.out.2.2.1; omega, Nat.succ_le_succ HB5.out.2.2.2⟩
                case measure => simp [intOf]; omega
      · clear rx rk HAM50 HAM4
        have HA := hid (open_st HST.out.bel HST.out.dk HB1.out HST.out.hB HST.out.pos HST.out.tab)
        go_wp2_with fail
        refine Calls.mono HA.out ?_
        rintro e wf ⟨p2, rfl, hst⟩
        rw [← HB4.out] at hst
        have HST := hid hst
        clear hst HA
        have HA := hid HST.out.last
        go_wp2_with fail
        refine Calls.mono HA.out ?_
        rintro e wl ⟨rfl, hst⟩
        have HST := hid hst
        have ct := HCT.out _ hst.bel
        clear hst HA
        by_cases htw : t < u
        · have HTT : Hid (u ≤ u) := hid (Int.le_refl _)
          by_cases hs : s = 18446744073709551615
          · subst hs
            have HK := hid (known_any HST.out.tab)
            go_wp2_with fail
            refine Calls.mono HK.out ?_
            rintro e wk ⟨rfl, hb⟩
            have HBE := hid (HST.out.bel.trans (hb.mono HST.out.hB))
            clear hb
            go_wp2_with fail
            go_ret
            exact ⟨rfl, HBE.out⟩
          · by_cases ht : 253402300799 < u
            · skip
              have HK := hid (known_any HST.out.tab)
              go_wp2_with fail
              refine Calls.mono HK.out ?_
              rintro e wk ⟨rfl, hb⟩
              have HBE := hid (HST.out.bel.trans (hb.mono HST.out.hB))
              clear hb
              go_wp2_with fail
              go_ret
              exact ⟨rfl, HBE.out⟩
            · skip
              have hm : mayB (s, u) (s + 1) u = true := by
                have q1 := (jr_time (H := hd T) (f := S.f) (S.m / 24)).1
                rw [← HB4.out] at q1
                have q2 : -62167219200 ≤ u := q1
                exact mayB_of (by omega) HTT.out (by have := HTT.out; omega) (by omega)
              have hsl : s + 1 < 18446744073709551616 := by
                have q1 := jr_lt (H := hd T) (f := S.f) (S.m / 24) (fun i _ => HLT.out i)
                rw [← HB4.out] at q1
                have q2 : s < 18446744073709551616 := q1
                omega
              have hfit : S.m + gapN S.m + 24 ≤ 1048576 := by
                have q1 := HB3.out
                have q2 := gapN_lt S.m
                omega
              have E1 : Hid ((s : Int) + 1 = ((s + 1 : Nat) : Int)) := hid (by omega)
              have HMB := hid hm
              have HSL := hid hsl
              have HFIT := hid hfit
              have hsb : ((s : Int) == 18446744073709551615) = false := by rw [beq_eq_false_iff_ne]; omega
              have hsw : IntKind.u64.wrap ((s : Int) + 1) = (s : Int) + 1 := by rw [IntKind.wrap_u64]; omega
              have HA := hid (HST.out.add (s + 1) u)
              clear hm hsl hfit hs
              go_wp2_with fail
              rw [E1.out]
              refine Calls.mono HA.out ?_
              rintro e wa ⟨oa2, c2, gv, rfl, hgv, hst⟩
              have hgv1 := (hgv HMB.out).2
              have HSLN := hid HSL.out
              rw [ad_fit HMB.out HB1.out HB2.out HFIT.out] at hst ⊢
              have hsy2 : (s + 1, u) = jr (hd T) (lay T S (s + 1) u gv) ((S.m + (gapN S.m + 24)) / 24) := (jr_lay hgv1 (by rw [← HB4.out]; exact HMB.out) HSL.out).symm
              obtain ⟨S2, hS2⟩ : ∃ S2 : DSt, S2 = { S with m := S.m + (gapN S.m + 24), f := lay T S (s + 1) u gv, arm := 0 } := ⟨_, rfl⟩
              have hst2 : St w wa T w.heap.size d p2 oa2 c2 S2 (s + 1, u) := by rw [hS2]; exact hst
              have F1 : Hid (S2.dn = false ∧ S2.arm = 0 ∧ S2.m ≤ 3000 + 47 * (j + 1) ∧ (s + 1, u) = jr (hd T) S2.f (S2.m / 24)) := hid (by
                rw [hS2]
                refine ⟨HB1.out, rfl, ?_, hsy2⟩
                have q1 := HB3.out
                have q2 := gap_le S.m
                show S.m + (gapN S.m + 24) ≤ 3000 + 47 * (j + 1)
                omega)
              have HA2 := hid hst2.last
              clear hst hst2 hsy2 hS2 hgv hgv1 HA HST HCT ct
              go_wp2_with fail
              refine Calls.mono HA2.out ?_
              rintro e wb ⟨rfl, hst⟩
              have HST := hid hst
              clear hst HA2
              go_wp2_with fail
              go_roundw
              case rel => exact ⟨j + 1, p2, oa2, c2, S2, s + 1, u, s + 1, u, 0, by omega, by go_num, rfl, rfl, rfl, rfl, HST.out, F1.out.1, F1.out.2.1, F1.out.2.2.1, F1.out.2.2.2, Nat.le_refl _, by omega, Int.le_refl _, Nat.zero_le _⟩
              case measure => simp [intOf]; omega
        · have HTT : Hid (u ≤ t) := hid (by omega)
          by_cases hs : s = 18446744073709551615
          · subst hs
            have HK := hid (known_any HST.out.tab)
            go_wp2_with fail
            refine Calls.mono HK.out ?_
            rintro e wk ⟨rfl, hb⟩
            have HBE := hid (HST.out.bel.trans (hb.mono HST.out.hB))
            clear hb
            go_wp2_with fail
            go_ret
            exact ⟨rfl, HBE.out⟩
          · by_cases ht : 253402300799 < t
            · skip
              have HK := hid (known_any HST.out.tab)
              go_wp2_with fail
              refine Calls.mono HK.out ?_
              rintro e wk ⟨rfl, hb⟩
              have HBE := hid (HST.out.bel.trans (hb.mono HST.out.hB))
              clear hb
              go_wp2_with fail
              go_ret
              exact ⟨rfl, HBE.out⟩
            · skip
              have hm : mayB (s, u) (s + 1) t = true := by
                have q1 := (jr_time (H := hd T) (f := S.f) (S.m / 24)).1
                rw [← HB4.out] at q1
                have q2 : -62167219200 ≤ u := q1
                exact mayB_of (by omega) HTT.out (by have := HTT.out; omega) (by omega)
              have hsl : s + 1 < 18446744073709551616 := by
                have q1 := jr_lt (H := hd T) (f := S.f) (S.m / 24) (fun i _ => HLT.out i)
                rw [← HB4.out] at q1
                have q2 : s < 18446744073709551616 := q1
                omega
              have hfit : S.m + gapN S.m + 24 ≤ 1048576 := by
                have q1 := HB3.out
                have q2 := gapN_lt S.m
                omega
              have E1 : Hid ((s : Int) + 1 = ((s + 1 : Nat) : Int)) := hid (by omega)
              have HMB := hid hm
              have HSL := hid hsl
              have HFIT := hid hfit
              have hsb : ((s : Int) == 18446744073709551615) = false := by rw [beq_eq_false_iff_ne]; omega
              have hsw : IntKind.u64.wrap ((s : Int) + 1) = (s : Int) + 1 := by rw [IntKind.wrap_u64]; omega
              have HA := hid (HST.out.add (s + 1) t)
              clear hm hsl hfit hs
              go_wp2_with fail
              rw [E1.out]
              refine Calls.mono HA.out ?_
              rintro e wa ⟨oa2, c2, gv, rfl, hgv, hst⟩
              have hgv1 := (hgv HMB.out).2
              have HSLN := hid HSL.out
              rw [ad_fit HMB.out HB1.out HB2.out HFIT.out] at hst ⊢
              have hsy2 : (s + 1, t) = jr (hd T) (lay T S (s + 1) t gv) ((S.m + (gapN S.m + 24)) / 24) := (jr_lay hgv1 (by rw [← HB4.out]; exact HMB.out) HSL.out).symm
              obtain ⟨S2, hS2⟩ : ∃ S2 : DSt, S2 = { S with m := S.m + (gapN S.m + 24), f := lay T S (s + 1) t gv, arm := 0 } := ⟨_, rfl⟩
              have hst2 : St w wa T w.heap.size d p2 oa2 c2 S2 (s + 1, t) := by rw [hS2]; exact hst
              have F1 : Hid (S2.dn = false ∧ S2.arm = 0 ∧ S2.m ≤ 3000 + 47 * (j + 1) ∧ (s + 1, t) = jr (hd T) S2.f (S2.m / 24)) := hid (by
                rw [hS2]
                refine ⟨HB1.out, rfl, ?_, hsy2⟩
                have q1 := HB3.out
                have q2 := gap_le S.m
                show S.m + (gapN S.m + 24) ≤ 3000 + 47 * (j + 1)
                omega)
              have HA2 := hid hst2.last
              clear hst hst2 hsy2 hS2 hgv hgv1 HA HST HCT ct
              go_wp2_with fail
              refine Calls.mono HA2.out ?_
              rintro e wb ⟨rfl, hst⟩
              have HST := hid hst
              clear hst HA2
              go_wp2_with fail
              go_roundw
              case rel => exact ⟨j + 1, p2, oa2, c2, S2, s + 1, t, s + 1, t, 0, by omega, by go_num, rfl, rfl, rfl, rfl, HST.out, F1.out.1, F1.out.2.1, F1.out.2.2.1, F1.out.2.2.2, Nat.le_refl _, by omega, Int.le_refl _, Nat.zero_le _⟩
              case measure => simp [intOf]; omega
    · obtain rfl : j = nl := by omega
      have HK := hid (known_any hst.tab)
      have HBE0 := hid hst.bel
      have HZ := hid hst.hB
      clear hst hdn harm hSm hsy hK hL hA hLj
      go_wp2_with fail
      refine Calls.mono HK.out ?_
      rintro e wk ⟨rfl, hb⟩
      have HBE := hid (HBE0.out.trans (hb.mono HZ.out))
      clear hb
      go_wp2_with fail
      go_ret
      exact ⟨rfl, HBE.out⟩

end Go.Proofs.Ytkkcaicihhkahaa
