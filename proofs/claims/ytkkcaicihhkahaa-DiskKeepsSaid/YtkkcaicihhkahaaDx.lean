/-
  The walk of DiskFull.
-/
import Derived.Test.YtkkcaicihhkahaaDw
namespace Go.Proofs.Ytkkcaicihhkahaa
open Go.RowKit

theorem rgap_any (oa : Option Addr) (m c : Nat) (hm : m ≤ 1000) (w : World) : Calls Try.prog 12 #[.slice oa m c] w fun e w' => e = .returned (.int .i64 (gapN m : Nat)) ∧ w = w' := by
  have m0 : (m : Int) ≤ 1000 := by omega
  have hgl := gapN_lt m
  have hge : (m + gapN m) % 24 = 0 := by unfold gapN; omega
  have hgm : ∀ j, j < gapN m → (m + j) % 24 ≠ 0 := by unfold gapN; intro j hj; omega
  obtain ⟨q, hq⟩ : ∃ q, q = gapN m := ⟨_, rfl⟩
  rw [← hq] at hgl hge hgm ⊢
  have HGE := hid hge
  have HGM := hid hgm
  clear hge hgm hq
  go_enter Try.func12, Try.ntmps12
  go_wp2_with fail
  go_loopw [3] (fun x wr => ∃ (j : Nat), j ≤ q ∧ x = .int .i64 (j : Int) ∧ wr = w) (fun x _ => 24 - (intOf x).toNat)
  case atStart => exact ⟨0, Nat.zero_le _, rfl, rfl⟩
  case round =>
    obtain ⟨j, hj, rfl, rfl⟩ := hrel
    have j0 : (j : Int) < 24 := by omega
    by_cases hlt : j < q
    · have h1 := HGM.out j hlt
      have hc : (((m : Int) + (j : Int)) % 24 != 0) = true := by
        rw [bne_iff_ne]
        omega
      clear h1
      go_wp2_with fail
      refine ⟨⟨j + 1, by omega, by go_num, trivial⟩, ?_⟩
      simp [intOf]
      omega
    · obtain rfl : j = q := by omega
      have h1 := HGE.out
      have hc : (((m : Int) + (j : Int)) % 24 != 0) = false := by
        have : ((m : Int) + (j : Int)) % 24 = 0 := by omega
        rw [this]
        rfl
      clear h1
      go_wp2_with fail
      go_ret
      exact ⟨rfl, rfl⟩

theorem jr_zero {H : Nat → Int → Nat → Nat} : ∀ k, jr H (fun _ => 0) k = (0, tFirst)
  | 0 => rfl
  | k + 1 => by
    have h0 : num8 (fun _ => 0) (24 * k) = 0 := by simp [num8, nums]
    rw [jr_not, jr_zero k]
    rw [jr_zero k, h0]
    exact fun h => Nat.not_lt_zero _ h.1

theorem wr_fill {S : DSt} {mx : Nat} {g : Nat → Nat} (h1 : S.dn = false) (h2 : S.arm = 0) (h3 : S.m + mx ≤ 1048576) (h4 : S.m ≤ 1048576) : wr S mx g = ({ S with m := S.m + mx, f := cat S.f S.m g, arm := 0 }, 0) := by
  unfold wr
  rw [h1, if_neg (by simp), if_neg (by omega), if_neg (by omega), if_neg (by omega)]

theorem wr_over {S : DSt} {mx : Nat} {g : Nat → Nat} (h1 : S.dn = false) (h3 : 1048576 < S.m + mx) (h4 : S.m ≤ 1048576) : wr S mx g = (S, 2) := by
  unfold wr
  rw [h1, if_neg (by simp), if_pos (by omega)]

/-- What is left of DiskFull when the disk is full. -/
theorem full_end {w0 w : World} {T : Nat → Nat} {B d p c : Nat} {oa : Option Addr} {f : Nat → Nat} {J : Nat × Int} {kk : Nat} (h : St w0 w T B d p oa c ⟨1048576, f, false, 0, kk⟩ J) :
    ∀ w1 : World, Below w.heap.size w w1 → Calls Try.prog 13 #[.pointer (some ⟨d, 0, none⟩), .slice none 0 0] w1 fun e w' => e = .returned (.int .i64 0) ∧ Tab w' T ∧ Below B w0 w' ∧ B ≤ w'.heap.size := by
  intro w1 hb
  refine ((h.keep hb).write (Sl.nil w1 .u8 (fun _ => 0)) (fun _ => Nat.zero_lt_succ _) (by decide) (fun h0 => absurd h0 (by decide))).mono ?_
  rintro e w' ⟨o, c', rfl, hst⟩
  exact ⟨by rw [wr_fill rfl rfl (Nat.le_refl _) (Nat.le_refl _)], hst.tab, hst.bel, hst.hB⟩

set_option maxRecDepth 100000 in
set_option maxHeartbeats 6400000 in
theorem diskFull_any {w : World} {T : Nat → Nat} (hT : Tab w T) (n : Int) (more : Bool) : Calls Try.prog 3 #[.int .i64 n, .bool more] w fun e w' => e = .returned (.bool true) ∧ Below w.heap.size w w' := by
  have hpos := hT.pos
  have HT := hid hT
  have HAM := hid (among_any n 60 (by decide) (by decide))
  clear hT
  go_enter Try.func3, Try.ntmps3
  go_wp2_with fail
  refine Calls.mono (HAM.out _) ?_
  rintro e w' ⟨⟨r, rfl, hr⟩, rfl⟩
  obtain ⟨N, hN⟩ : ∃ N, N + r = 1048576 := ⟨1048576 - r, by omega⟩
  have eN : (1048576 : Int) - (r : Int) = (N : Int) := by omega
  have hNl : N ≤ 1048576 := by omega
  have hNg : 1048516 < N := by omega
  clear HAM
  go_wp2_with (at_make; refine wpList_mk rfl _ _ k8 rfl .i64 .i64 _ _ N rfl rfl (by omega) (by omega) (by omega) ?_)
  intro w1 h1 h2 h3
  have HB1 := hid h2
  have hz1 := h2.size
  have HN := hid (newD_any h1.sl (fun _ => Nat.zero_lt_succ _) hNl)
  have ht1 := HT.out.below hpos h2
  have HT1 := hid ht1
  clear h1 h2 h3 ht1
  go_wp2_with fail
  refine Calls.mono HN.out ?_
  rintro e w2 ⟨d, o0, c0, rfl, hd1, hb1⟩
  have HO := hid (open_st (T := T) hb1 hd1 rfl hb1.size (Nat.lt_of_lt_of_le hpos hz1) (HT1.out.below (Nat.lt_of_lt_of_le hpos hz1) hb1))
  clear hd1 hb1 HN
  go_wp2_with fail
  refine Calls.mono HO.out ?_
  rintro e w3 ⟨p, rfl, hst⟩
  have hst : St w1 w3 T w1.heap.size d p o0 c0 ⟨N, fun _ => 0, false, 0, 0⟩ (0, tFirst) := by
    have h9 : St w1 w3 T w1.heap.size d p o0 c0 ⟨N, fun _ => 0, false, 0, 0⟩ (jr (hd T) (fun _ => 0) (N / 24)) := hst
    rw [jr_zero] at h9
    exact h9
  have HA := hid (hst.add 1 0)
  clear HO
  rename_i hst0
  clear hst0 hst
  go_wp2_with fail
  refine Calls.mono HA.out ?_
  rintro e w4 ⟨o4, c4, gv, rfl, _, hst⟩
  have hm : mayB (0, tFirst) 1 0 = true := mayB_of (by decide) (by decide) (by decide) (by decide)
  have hgl := gapN_lt N
  obtain ⟨k, hk⟩ : ∃ k, k = N % 24 := ⟨_, rfl⟩
  have hk24 : k < 24 := by omega
  have hki : ((N : Nat) : Int) % 24 = (k : Int) := by omega
  have hgk : gapN k = gapN N := by unfold gapN; omega
  have HG := hid fun oa c w => rgap_any oa k c (by omega) w
  rw [hgk] at HG
  obtain ⟨L, hL⟩ : ∃ L, L = gapN N := ⟨_, rfl⟩
  rw [← hL] at HG hgl
  have HL := hid hL
  have HMB := hid hm
  have k0 : (k : Int) < 24 := by omega
  have n0 : (N : Int) ≤ 1048576 := by omega
  have n1 : (1048516 : Int) < (N : Int) := by omega
  have l0 : (L : Int) < 24 := by omega
  clear hk hgk hL hm eN hN
  have HST := hid hst
  clear hst
  by_cases hfit : N + L + 24 ≤ 1048576
  · have hfi : (L : Int) + 24 ≤ 1048576 - (N : Int) := by omega
    have had : ad T ⟨N, fun _ => 0, false, 0, 0⟩ (0, tFirst) 1 0 gv = (⟨N + (gapN N + 24), lay T ⟨N, fun _ => 0, false, 0, 0⟩ 1 0 gv, false, 0, 0⟩, (1, 0), 0) := ad_fit HMB.out rfl rfl (by have h9 := hfit; rw [HL.out] at h9; exact h9)
    rw [had] at HST ⊢
    obtain ⟨M, hM⟩ : ∃ M, M = N + (gapN N + 24) := ⟨_, rfl⟩
    rw [← hM] at HST
    rw [← HL.out] at hM
    obtain ⟨ff, hff⟩ : ∃ ff, ff = lay T ⟨N, fun _ => 0, false, 0, 0⟩ 1 0 gv := ⟨_, rfl⟩
    rw [← hff] at HST
    have hst4 : St w1 w4 T w1.heap.size d p o4 c4 ⟨M, ff, false, 0, 0⟩ (1, 0) := HST.out
    obtain ⟨lf, hlf⟩ : ∃ lf, M + lf = 1048576 := ⟨1048576 - M, by omega⟩
    have elf : (1048576 : Int) - (N : Int) - ((L : Int) + 24) = (lf : Int) := by omega
    have HLF := hid hlf
    clear had hff HST hlf hM hfit
    have HS4 := hid hst4
    clear hst4
    go_wp2_with (at_make; refine wpList_mk rfl _ _ k8 rfl .i64 .i64 _ _ k rfl rfl (by first | rfl | omega) (by first | rfl | omega) (by omega) ?_)
    intro w5 _ g2 _
    have HS5 := hid (HS4.out.keep g2)
    clear g2
    go_wp2_with fail
    refine Calls.mono (HG.out _ _ _) ?_
    rintro e w' ⟨rfl, rfl⟩
    go_wp2_with (at_make; refine wpList_mk rfl _ _ k8 rfl .i64 .i64 _ _ lf rfl rfl (by first | rfl | omega) (by first | rfl | omega) (by have := HLF.out; omega) ?_)
    intro w6 g1 g2 _
    have HS6 := hid (HS5.out.keep g2)
    have hdl := HS5.out.dk.at_.1
    have HW := hid (HS6.out.write g1.sl (fun _ => Nat.zero_lt_succ _) (by have := HLF.out; omega) (fun _ a ha e => by cases ha; have e2 : w5.heap.size = d := e; omega))
    clear g1 g2 hdl
    go_wp2_with fail
    refine Calls.mono HW.out ?_
    rintro e w7 ⟨o7, c7, rfl, hst⟩
    rw [wr_fill rfl rfl (by show M + lf ≤ 1048576; have := HLF.out; omega) (by show M ≤ 1048576; have := HLF.out; omega)] at hst ⊢
    have hst7 := St.cast (m := M + lf) (m' := 1048576) hst HLF.out
    have HB := hid hst7.bytes
    clear hst hst7 HW HS4 HS5 HS6
    go_wp2_with fail
    refine Calls.mono HB.out ?_
    rintro e w8 ⟨o8, c8, rfl, _, _, hst⟩
    have HS8 := hid hst
    have HE := hid (full_end hst)
    clear hst HB
    rcases more with _ | _
    · go_wp2_with fail
      refine Calls.mono (HE.out _ (Below.refl _ _)) ?_
      rintro e w9 ⟨rfl, ht, hb, hz⟩
      have HK := hid (known_any ht)
      have HBB := hid (HB1.out.trans (hb.mono hz1))
      have HZ := hid (Nat.le_trans hz1 hz)
      clear ht hb hz
      go_wp2_with fail
      refine Calls.mono HK.out ?_
      rintro e w10 ⟨rfl, hb⟩
      have HBE := hid (HBB.out.trans (hb.mono HZ.out))
      clear hb
      go_wp2_with fail
      go_ret
      exact ⟨rfl, HBE.out⟩
    · have hal : Below w8.heap.size w8 (w8.alloc (.cells #[.int .u8 ((1 : Nat) : Int)] 5)) := (Below.refl _ _).alloc (Nat.le_refl _) _
      have hdl := HS8.out.dk.at_.1
      have HW := hid ((HS8.out.keep hal).write (sl_one w8 .u8 5 1) (fun _ => by decide) (by decide) (fun _ a ha e => by cases ha; have e2 : w8.heap.size = d := e; omega))
      clear hal hdl
      go_wp2_with fail
      refine Calls.mono HW.out ?_
      rintro e w9 ⟨o9, c9, rfl, hst⟩
      rw [wr_over rfl (by show 1048576 < 1048576 + 1; decide) (by show 1048576 ≤ 1048576; decide)] at hst ⊢
      have HE := hid (full_end hst)
      clear hst HW
      go_wp2_with fail
      refine Calls.mono (HE.out _ (Below.refl _ _)) ?_
      rintro e w10 ⟨rfl, ht, hb, hz⟩
      have HK := hid (known_any ht)
      have HBB := hid (HB1.out.trans (hb.mono hz1))
      have HZ := hid (Nat.le_trans hz1 hz)
      clear ht hb hz
      go_wp2_with fail
      refine Calls.mono HK.out ?_
      rintro e w11 ⟨rfl, hb⟩
      have HBE := hid (HBB.out.trans (hb.mono HZ.out))
      clear hb
      go_wp2_with fail
      go_ret
      exact ⟨rfl, HBE.out⟩
  · have hfi : (1048576 : Int) - (N : Int) < (L : Int) + 24 := by omega
    have had : ad T ⟨N, fun _ => 0, false, 0, 0⟩ (0, tFirst) 1 0 gv = (⟨N, fun _ => 0, false, 0, 0⟩, (0, tFirst), 2) := ad_long HMB.out rfl (by have h9 := hfit; rw [HL.out] at h9; exact h9) hNl
    rw [had] at HST ⊢
    obtain ⟨M, hM⟩ : ∃ M, M = N := ⟨_, rfl⟩
    have hst4 : St w1 w4 T w1.heap.size d p o4 c4 ⟨M, fun _ => 0, false, 0, 0⟩ (0, tFirst) := by rw [hM]; exact HST.out
    obtain ⟨lf, hlf⟩ : ∃ lf, M + lf = 1048576 := ⟨1048576 - M, by omega⟩
    have elf : (1048576 : Int) - (N : Int) = (lf : Int) := by omega
    have HLF := hid hlf
    clear had HST hlf hM hfit
    have HS4 := hid hst4
    clear hst4
    go_wp2_with (at_make; refine wpList_mk rfl _ _ k8 rfl .i64 .i64 _ _ k rfl rfl (by first | rfl | omega) (by first | rfl | omega) (by omega) ?_)
    intro w5 _ g2 _
    have HS5 := hid (HS4.out.keep g2)
    clear g2
    go_wp2_with fail
    refine Calls.mono (HG.out _ _ _) ?_
    rintro e w' ⟨rfl, rfl⟩
    go_wp2_with (at_make; refine wpList_mk rfl _ _ k8 rfl .i64 .i64 _ _ lf rfl rfl (by first | rfl | omega) (by first | rfl | omega) (by have := HLF.out; omega) ?_)
    intro w6 g1 g2 _
    have HS6 := hid (HS5.out.keep g2)
    have hdl := HS5.out.dk.at_.1
    have HW := hid (HS6.out.write g1.sl (fun _ => Nat.zero_lt_succ _) (by have := HLF.out; omega) (fun _ a ha e => by cases ha; have e2 : w5.heap.size = d := e; omega))
    clear g1 g2 hdl
    go_wp2_with fail
    refine Calls.mono HW.out ?_
    rintro e w7 ⟨o7, c7, rfl, hst⟩
    rw [wr_fill rfl rfl (by show M + lf ≤ 1048576; have := HLF.out; omega) (by show M ≤ 1048576; have := HLF.out; omega)] at hst ⊢
    have hst7 := St.cast (m := M + lf) (m' := 1048576) hst HLF.out
    have HB := hid hst7.bytes
    clear hst hst7 HW HS4 HS5 HS6
    go_wp2_with fail
    refine Calls.mono HB.out ?_
    rintro e w8 ⟨o8, c8, rfl, _, _, hst⟩
    have HS8 := hid hst
    have HE := hid (full_end hst)
    clear hst HB
    rcases more with _ | _
    · go_wp2_with fail
      refine Calls.mono (HE.out _ (Below.refl _ _)) ?_
      rintro e w9 ⟨rfl, ht, hb, hz⟩
      have HK := hid (known_any ht)
      have HBB := hid (HB1.out.trans (hb.mono hz1))
      have HZ := hid (Nat.le_trans hz1 hz)
      clear ht hb hz
      go_wp2_with fail
      refine Calls.mono HK.out ?_
      rintro e w10 ⟨rfl, hb⟩
      have HBE := hid (HBB.out.trans (hb.mono HZ.out))
      clear hb
      go_wp2_with fail
      go_ret
      exact ⟨rfl, HBE.out⟩
    · have hal : Below w8.heap.size w8 (w8.alloc (.cells #[.int .u8 ((1 : Nat) : Int)] 5)) := (Below.refl _ _).alloc (Nat.le_refl _) _
      have hdl := HS8.out.dk.at_.1
      have HW := hid ((HS8.out.keep hal).write (sl_one w8 .u8 5 1) (fun _ => by decide) (by decide) (fun _ a ha e => by cases ha; have e2 : w8.heap.size = d := e; omega))
      clear hal hdl
      go_wp2_with fail
      refine Calls.mono HW.out ?_
      rintro e w9 ⟨o9, c9, rfl, hst⟩
      rw [wr_over rfl (by show 1048576 < 1048576 + 1; decide) (by show 1048576 ≤ 1048576; decide)] at hst ⊢
      have HE := hid (full_end hst)
      clear hst HW
      go_wp2_with fail
      refine Calls.mono (HE.out _ (Below.refl _ _)) ?_
      rintro e w10 ⟨rfl, ht, hb, hz⟩
      have HK := hid (known_any ht)
      have HBB := hid (HB1.out.trans (hb.mono hz1))
      have HZ := hid (Nat.le_trans hz1 hz)
      clear ht hb hz
      go_wp2_with fail
      refine Calls.mono HK.out ?_
      rintro e w11 ⟨rfl, hb⟩
      have HBE := hid (HBB.out.trans (hb.mono HZ.out))
      clear hb
      go_wp2_with fail
      go_ret
      exact ⟨rfl, HBE.out⟩

end Go.Proofs.Ytkkcaicihhkahaa
