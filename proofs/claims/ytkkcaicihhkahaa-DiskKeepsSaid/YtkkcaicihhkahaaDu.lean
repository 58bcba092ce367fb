/-
  The walk of the law's known: what must come of fixed calls.
-/
import Derived.Test.YtkkcaicihhkahaaDt
namespace Go.Proofs.Ytkkcaicihhkahaa
open Go.RowKit

theorem mayB_of {s0 s : Nat} {t0 t : Int} (h1 : s0 < s) (h2 : t0 ≤ t) (h3 : -62167219200 ≤ t) (h4 : t ≤ 253402300799) : mayB (s0, t0) s t = true := mayB_iff.2 ⟨h1, h2, h3, h4⟩

theorem jr_layK {T : Nat → Nat} {S : DSt} {s K : Nat} {t : Int} {gv : Nat → Nat} (hK : (S.m + (gapN S.m + 24)) / 24 = K) (hgv : S.m % 24 ≠ 0 → ¬ isRc (hd T) (cat S.f S.m gv) (24 * (S.m / 24))) (hm : mayB (jr (hd T) S.f (S.m / 24)) s t = true) (hs : s < 18446744073709551616) :
    jr (hd T) (lay T S s t gv) K = (s, t) := by
  rw [← hK]
  exact jr_lay hgv hm hs

theorem St.cast {w0 w : World} {T : Nat → Nat} {B d p c m m' : Nat} {oa : Option Addr} {f : Nat → Nat} {dn : Bool} {arm kk : Nat} {J : Nat × Int} (h : St w0 w T B d p oa c ⟨m, f, dn, arm, kk⟩ J) (e : m = m') : St w0 w T B d p oa c ⟨m', f, dn, arm, kk⟩ J := by
  rw [← e]
  exact h

set_option maxRecDepth 100000 in
set_option maxHeartbeats 6400000 in
theorem known_any {w : World} {T : Nat → Nat} (ht : Tab w T) : Calls Try.prog 15 #[] w fun e w' => e = .returned (.bool true) ∧ Below w.heap.size w w' := by
  have HN := hid (newD_any (w := w) (Sl.nil w .u8 (fun _ => 0)) (fun _ => Nat.zero_lt_succ _) (by decide))
  have HT := hid ht
  have hpos := ht.pos
  clear ht
  go_enter Try.func15, Try.ntmps15
  go_wp2_with fail
  refine Calls.mono HN.out ?_
  rintro e w1 ⟨d, o0, c0, rfl, hd1, hb1⟩
  have HO := hid (open_st (T := T) hb1 hd1 rfl hb1.size hpos (HT.out.below hpos hb1))
  clear hd1 hb1 HN
  go_wp2_with fail
  refine Calls.mono HO.out ?_
  rintro e w2 ⟨p, rfl, hst⟩
  have H2 := hid hst
  have HA := hid (hst.add 1 5)
  clear hst HO
  go_wp2_with fail
  refine Calls.mono HA.out ?_
  rintro e w3 ⟨o3, c3, gv, rfl, hgv, hst⟩
  have hm : mayB (jr (hd T) (fun _ => 0) (0 / 24)) 1 5 = true := mayB_of (by decide) (by decide) (by decide) (by decide)
  have hgv1 := (hgv hm).2
  rw [ad_fit hm rfl rfl (show 0 + gapN 0 + 24 ≤ 1048576 by decide)] at hst ⊢
  have hj1 : jr (hd T) (lay T ⟨0, fun _ => 0, false, 0, 0⟩ 1 5 gv) (24 / 24) = (1, 5) := jr_layK (T := T) (S := ⟨0, fun _ => 0, false, 0, 0⟩) (by show (0 + (gapN 0 + 24)) / 24 = 24 / 24; decide) hgv1 hm (by decide)
  obtain ⟨f1, hf1⟩ : ∃ f1, f1 = lay T ⟨0, fun _ => 0, false, 0, 0⟩ 1 5 gv := ⟨_, rfl⟩
  rw [← hf1] at hj1
  have hst1 : St w w3 T w.heap.size d p o3 c3 ⟨24, f1, false, 0, 0⟩ (1, 5) := by rw [hf1]; exact St.cast (m := 0 + (gapN 0 + 24)) hst (by decide)
  have HJ1 := hid hj1
  have HA := hid (hst1.add 2 5)
  clear hst hst1 hgv hgv1 hm hj1 hf1
  go_wp2_with fail
  refine Calls.mono HA.out ?_
  rintro e w4 ⟨o4, c4, gv, rfl, hgv, hst⟩
  have hm : mayB (1, 5) 2 5 = true := mayB_of (by decide) (by decide) (by decide) (by decide)
  have hgv1 := (hgv hm).2
  rw [ad_fit hm rfl rfl (show 24 + gapN 24 + 24 ≤ 1048576 by decide)] at hst ⊢
  have hj2 : jr (hd T) (lay T ⟨24, f1, false, 0, 0⟩ 2 5 gv) (48 / 24) = (2, 5) := jr_layK (T := T) (S := ⟨24, f1, false, 0, 0⟩) (by show (24 + (gapN 24 + 24)) / 24 = 48 / 24; decide) hgv1 (by show mayB (jr (hd T) f1 (24 / 24)) 2 5 = true; rw [HJ1.out]; exact hm) (by decide)
  obtain ⟨f2, hf2⟩ : ∃ f2, f2 = lay T ⟨24, f1, false, 0, 0⟩ 2 5 gv := ⟨_, rfl⟩
  rw [← hf2] at hj2
  have hst2 : St w w4 T w.heap.size d p o4 c4 ⟨48, f2, false, 0, 0⟩ (2, 5) := by rw [hf2]; exact St.cast (m := 24 + (gapN 24 + 24)) hst (by decide)
  have HJ2 := hid hj2
  have HA := hid hst2.bytes
  clear hst hst2 hgv hgv1 hm hj2 hf2 HJ1
  go_wp2_with fail
  refine Calls.mono HA.out ?_
  rintro e w5 ⟨o5, c5, rfl, _, _, hst⟩
  have HA := hid (hst.cut 10)
  clear hst
  go_wp2_with fail
  refine Calls.mono HA.out ?_
  rintro e w6 ⟨rfl, hst⟩
  have HA := hid (hst.add 3 6)
  clear hst
  go_wp2_with fail
  refine Calls.mono HA.out ?_
  rintro e w7 ⟨o7, c7, gv, rfl, hgv, hst⟩
  have hm : mayB (2, 5) 3 6 = true := mayB_of (by decide) (by decide) (by decide) (by decide)
  have hgv1 := (hgv hm).2
  rw [ad_cut hm rfl rfl (show 48 + gapN 48 + 24 ≤ 1048576 by decide)] at hst ⊢
  have hj3 : jr (hd T) (lay T ⟨48, f2, false, 2, 10⟩ 3 6 gv) (58 / 24) = jr (hd T) f2 (48 / 24) := jr_part (T := T) (S := ⟨48, f2, false, 2, 10⟩) (q := 10) hgv1 (by show 10 < gapN 48 + 24; decide)
  rw [HJ2.out] at hj3
  obtain ⟨f3, hf3⟩ : ∃ f3, f3 = lay T ⟨48, f2, false, 2, 10⟩ 3 6 gv := ⟨_, rfl⟩
  rw [← hf3] at hj3
  have hst3 : St w w7 T w.heap.size d p o7 c7 ⟨58, f3, true, 0, 10⟩ (2, 5) := by rw [hf3]; exact St.cast (m := 48 + min 10 (gapN 48 + 24)) hst (by decide)
  have HJ3 := hid hj3
  have HA := hid hst3.bytes
  clear hst hst3 hgv hgv1 hm hj3 hf3 HJ2
  go_wp2_with fail
  refine Calls.mono HA.out ?_
  rintro e w8 ⟨o8, c8, rfl, _, _, hst⟩
  have HS := hid hst
  have HA := hid hst.up
  clear hst
  go_wp2_with fail
  refine Calls.mono HA.out ?_
  rintro e w9 ⟨rfl, rfl⟩
  have HA := hid HS.out.start
  clear HS
  go_wp2_with fail
  refine Calls.mono HA.out ?_
  rintro e w9 ⟨rfl, hst⟩
  have HA := hid (open_st hst.bel hst.dk rfl hst.hB hst.pos hst.tab)
  clear hst
  go_wp2_with fail
  refine Calls.mono HA.out ?_
  rintro e w10 ⟨p2, rfl, hst⟩
  have hst4 : St w w10 T w.heap.size d p2 o7 c7 ⟨58, f3, false, 0, 10⟩ (2, 5) := by
    have h9 : St w w10 T w.heap.size d p2 o7 c7 ⟨58, f3, false, 0, 10⟩ (jr (hd T) f3 (58 / 24)) := hst
    rw [HJ3.out] at h9
    exact h9
  have HA := hid hst4.last
  clear hst hst4
  go_wp2_with fail
  refine Calls.mono HA.out ?_
  rintro e w11 ⟨rfl, hst⟩
  have HA := hid (hst.add 3 7)
  clear hst
  go_wp2_with fail
  refine Calls.mono HA.out ?_
  rintro e w12 ⟨o12, c12, gv, rfl, hgv, hst⟩
  have hm : mayB (2, 5) 3 7 = true := mayB_of (by decide) (by decide) (by decide) (by decide)
  rw [ad_fit hm rfl rfl (show 58 + gapN 58 + 24 ≤ 1048576 by decide)] at hst ⊢
  have HA := hid hst.bytes
  clear hst hgv hm
  go_wp2_with fail
  refine Calls.mono HA.out ?_
  rintro e w13 ⟨o13, c13, rfl, _, _, hst⟩
  have HB := hid hst.bel
  clear hst
  go_wp2_with fail
  go_ret
  exact ⟨rfl, HB.out⟩

end Go.Proofs.Ytkkcaicihhkahaa
