/-
  The walks of the reference's May and Among, and of DiskFails.
-/
import Derived.Test.YtkkcaicihhkahaaDu
import Derived.Test.YtkkcaicihhkahaaIn
namespace Go.Proofs.Ytkkcaicihhkahaa
open Go.RowKit

theorem rmay_any (J : Nat × Int) (s : Nat) (t : Int) (w : World) : Calls Try.prog 20 #[.agg #[.int .u64 (J.1 : Nat), .int .i64 J.2], .int .u64 (s : Nat), .int .i64 t] w fun e w' => e = .returned (.bool (mayB J s t)) ∧ Below w.heap.size w w' := by
  obtain ⟨s0, t0⟩ := J
  show Calls Try.prog 20 #[.agg #[.int .u64 (s0 : Nat), .int .i64 t0], .int .u64 (s : Nat), .int .i64 t] w fun e w' => e = .returned (.bool (mayB (s0, t0) s t)) ∧ Below w.heap.size w w'
  have HE : Hid ((decide (s0 < s) && decide (t0 ≤ t) && decide (-62167219200 ≤ t) && decide (t ≤ 253402300799)) = mayB (s0, t0) s t) := hid rfl
  by_cases h1 : s0 < s
  · by_cases h2 : t0 ≤ t
    · by_cases h3 : -62167219200 ≤ t
      · go_enter Try.func20, Try.ntmps20
        go_wp2_with fail
        go_ret
        rw [← HE.out, decide_eq_true h1, decide_eq_true h2, decide_eq_true h3]
        exact ⟨rfl, (Below.refl _ _).alloc (Nat.le_refl _) _⟩
      · go_enter Try.func20, Try.ntmps20
        go_wp2_with fail
        go_ret
        rw [← HE.out, decide_eq_false (p := -62167219200 ≤ t) (by omega), Bool.and_false, Bool.false_and]
        exact ⟨rfl, (Below.refl _ _).alloc (Nat.le_refl _) _⟩
    · go_enter Try.func20, Try.ntmps20
      go_wp2_with fail
      go_ret
      rw [← HE.out, decide_eq_false (p := t0 ≤ t) (by omega), Bool.and_false, Bool.false_and, Bool.false_and]
      exact ⟨rfl, (Below.refl _ _).alloc (Nat.le_refl _) _⟩
  · go_enter Try.func20, Try.ntmps20
    go_wp2_with fail
    go_ret
    rw [← HE.out, decide_eq_false h1, Bool.false_and, Bool.false_and, Bool.false_and]
    exact ⟨rfl, (Below.refl _ _).alloc (Nat.le_refl _) _⟩

theorem among_any (k : Int) (n : Nat) (hn : 1 ≤ n) (hn' : n ≤ 1000) (w : World) : Calls Try.prog 8 #[.int .i64 k, .int .i64 (n : Nat)] w fun e w' => (∃ r : Nat, e = .returned (.int .i64 (r : Nat)) ∧ r < n) ∧ w = w' := by
  have n0 : (1 : Int) ≤ (n : Int) := by omega
  have n1 : (n : Int) ≤ 1000 := by omega
  have h1 := Int.tmod_lt_of_pos k (show (0 : Int) < (n : Int) by omega)
  have h2 := Int.lt_tmod_of_pos k (show (0 : Int) < (n : Int) by omega)
  obtain ⟨q, hq⟩ : ∃ q, q = k.tmod (n : Int) := ⟨_, rfl⟩
  rw [← hq] at h1 h2
  have HQ := hid hq
  clear hq
  have hq := HQ.out.symm
  by_cases h0 : q < 0
  · go_enter Try.func8, Try.ntmps8
    go_wp2_with fail
    go_ret
    refine ⟨⟨(q + (n : Int)).toNat, ?_, by omega⟩, rfl⟩
    rw [Int.toNat_of_nonneg (by omega)]
    rfl
  · go_enter Try.func8, Try.ntmps8
    go_wp2_with fail
    go_ret
    refine ⟨⟨q.toNat, ?_, by omega⟩, rfl⟩
    rw [Int.toNat_of_nonneg (by omega)]
    rfl

set_option maxRecDepth 100000 in
set_option maxHeartbeats 6400000 in
theorem diskFails_any {w : World} {T : Nat → Nat} (hT : Tab w T) {ob oc : Option Addr} {m cb mc cc : Nat} {f g : Nat → Nat} (hb : Sl w .u8 ob m cb f) (hc : Sl w .u8 oc mc cc g) (hf : ∀ i, f i < 256) (hg : ∀ i, g i < 256) (hcz : 0 < mc → ∀ a, oc = some a → a.block < w.heap.size) (s : Nat) (t : Int) :
    Calls Try.prog 5 #[.slice ob m cb, .int .u64 (s : Nat), .int .i64 t, .slice oc mc cc] w fun e w' => e = .returned (.bool true) ∧ Below w.heap.size w w' := by
  have HK := hid (known_any hT)
  have hpos := hT.pos
  by_cases hm : 3000 < m
  · have hmi : (3000 : Int) < (m : Int) := by omega
    clear hT hb hc hf hg hcz
    go_enter Try.func5, Try.ntmps5
    go_wp2_with (go_at_call 15; refine Calls.mono HK.out ?_; rintro e w' ⟨rfl, hb⟩)
    go_ret
    exact ⟨rfl, hb⟩
  · have hmi : (m : Int) ≤ 3000 := by omega
    by_cases hn : 3000 < mc
    · have hni : (3000 : Int) < (mc : Int) := by omega
      clear hT hb hc hf hg hcz
      go_enter Try.func5, Try.ntmps5
      go_wp2_with (go_at_call 15; refine Calls.mono HK.out ?_; rintro e w' ⟨rfl, hb⟩)
      go_ret
      exact ⟨rfl, hb⟩
    · have hni : (mc : Int) ≤ 3000 := by omega
      have HN := hid (newD_any hb hf (by omega))
      have HT := hid hT
      have HBB := hid hb
      have HCC := hid hc
      have HG := hid hg
      have HCZ := hid hcz
      clear hT hb hc hf hg hcz HK
      go_enter Try.func5, Try.ntmps5
      go_wp2_with fail
      refine Calls.mono HN.out ?_
      rintro e w1 ⟨d, o0, c0, rfl, hd1, hb1⟩
      have HO := hid (open_st (T := T) hb1 hd1 rfl hb1.size hpos (HT.out.below hpos hb1))
      clear hd1 hb1 HN
      go_wp2_with fail
      refine Calls.mono HO.out ?_
      rintro e w2 ⟨p, rfl, hst⟩
      obtain ⟨J, hJ⟩ : ∃ J, J = jr (hd T) f (m / 24) := ⟨_, rfl⟩
      have hst : St w w2 T w.heap.size d p o0 c0 ⟨m, f, false, 0, 0⟩ J := by rw [hJ]; exact hst
      have HA := hid hst.last
      clear hst HO hJ
      go_wp2_with fail
      refine Calls.mono HA.out ?_
      rintro e w3 ⟨rfl, hst⟩
      have HA := hid hst.fail
      clear hst
      go_wp2_with fail
      refine Calls.mono HA.out ?_
      rintro e w4 ⟨rfl, hst⟩
      have HA := hid (hst.add s t)
      clear hst
      go_wp2_with fail
      refine Calls.mono HA.out ?_
      rintro e w5 ⟨o5, c5, gv, rfl, hgv, hst⟩
      have hgl := gapN_lt m
      have key : ∃ E A, ad T ⟨m, f, false, 1, 0⟩ J s t gv = (⟨m, f, false, A, 0⟩, J, E) ∧ ((E = 101 ∧ mayB J s t = true) ∨ (E = 1 ∧ mayB J s t = false)) := by
        rcases hmb : mayB J s t with _ | _
        · exact ⟨1, 1, by unfold ad; rw [hmb]; rfl, .inr ⟨rfl, rfl⟩⟩
        · exact ⟨101, 0, ad_fail hmb rfl rfl (by show m + gapN m + 24 ≤ 1048576; omega), .inl ⟨rfl, rfl⟩⟩
      obtain ⟨E, A, hE, hEq⟩ := key
      have hst : St w w5 T w.heap.size d p o5 c5 ⟨m, f, false, A, 0⟩ J := by rw [hE] at hst; exact hst
      rw [hE]
      have HEQ := hid hEq
      have HA := hid hst.fail
      clear hst hgv hE hEq
      go_wp2_with fail
      refine Calls.mono HA.out ?_
      rintro e w6 ⟨rfl, hst⟩
      have hcw : Sl w6 .u8 oc mc cc g := HCC.out.below hst.bel
      have HA := hid (hst.write hcw HG.out (by omega) (fun h a ha e => by have := HCZ.out h a ha; have := hst.dk.hB; omega))
      have hwr : wr (⟨m, f, false, 1, 0⟩ : DSt) mc g = (⟨m, f, false, 0, 0⟩, 101) := by
        unfold wr
        rw [if_neg (by simp), if_neg (by show ¬ 1048576 - m < mc; omega), if_pos rfl]
      have HWR := hid hwr
      clear hst hcw hwr
      go_wp2_with fail
      refine Calls.mono HA.out ?_
      rintro e w7 ⟨o7, c7, rfl, hst⟩
      have hst : St w w7 T w.heap.size d p o7 c7 ⟨m, f, false, 0, 0⟩ J := by
        have h9 : St w w7 T w.heap.size d p o7 c7 (wr (⟨m, f, false, 1, 0⟩ : DSt) mc g).1 J := hst
        rw [HWR.out] at h9
        exact h9
      rw [show (wr (⟨m, f, false, 1, 0⟩ : DSt) mc g).2 = 101 from by rw [HWR.out]]
      rename_i hst0
      clear hst0
      have HA := hid hst.last
      clear hst HWR
      go_wp2_with fail
      refine Calls.mono HA.out ?_
      rintro e w8 ⟨rfl, hst⟩
      have HST := hid hst
      have HM := hid (rmay_any J s t)
      have HB2 := hid hst.bytes
      clear hst HA
      obtain ⟨J1, J2⟩ := J
      have fin : Hid (∀ v1 : World, Below w8.heap.size w8 v1 → Calls Try.prog 14 #[.pointer (some ⟨d, 0, none⟩)] v1 fun e w' => ∃ o c', e = .returned (.slice o m c') ∧ Own v1.heap.size w' .u8 5 o m c' f ∧ Below v1.heap.size v1 w' ∧ St w w' T w.heap.size d p o7 c7 ⟨m, f, false, 0, 0⟩ (J1, J2)) := hid fun v1 hb => (HST.out.keep hb).bytes
      rcases HEQ.out with ⟨rfl, hmb⟩ | ⟨rfl, hmb⟩
      · go_wp2_with fail
        refine Calls.mono (fin.out _ (Below.refl _ _)) ?_
        rintro e w9 ⟨o9, c9, rfl, ho9, hb9, hst⟩
        have HS9 := hid hst
        have HQ := hid (sameb_any (ho9.sl) (HBB.out.below hst.bel) (fun j _ => rfl))
        clear ho9 hb9 hst fin HM HB2
        go_wp2_with fail
        refine Calls.mono HQ.out ?_
        rintro e w' ⟨rfl, rfl⟩
        have HU := hid HS9.out.up
        go_wp2_with fail
        refine Calls.mono HU.out ?_
        rintro e w' ⟨rfl, rfl⟩
        have HK := hid (known_any HS9.out.tab)
        go_wp2_with fail
        refine Calls.mono HK.out ?_
        rintro e w' ⟨rfl, hb⟩
        have HBE := hid (HS9.out.bel.trans (hb.mono HS9.out.hB))
        clear hb
        go_wp2_with fail
        go_ret
        exact ⟨rfl, HBE.out⟩
      · rw [hmb] at HM
        go_wp2_with fail
        refine Calls.mono (HM.out _) ?_
        rintro e w9 ⟨rfl, hb⟩
        have HF := hid (fin.out _ hb)
        clear hb HM
        go_wp2_with fail
        refine Calls.mono HF.out ?_
        rintro e w9 ⟨o9, c9, rfl, ho9, hb9, hst⟩
        have HS9 := hid hst
        have HQ := hid (sameb_any (ho9.sl) (HBB.out.below hst.bel) (fun j _ => rfl))
        clear ho9 hb9 hst fin HB2
        go_wp2_with fail
        refine Calls.mono HQ.out ?_
        rintro e w' ⟨rfl, rfl⟩
        have HU := hid HS9.out.up
        go_wp2_with fail
        refine Calls.mono HU.out ?_
        rintro e w' ⟨rfl, rfl⟩
        have HK := hid (known_any HS9.out.tab)
        go_wp2_with fail
        refine Calls.mono HK.out ?_
        rintro e w' ⟨rfl, hb⟩
        have HBE := hid (HS9.out.bel.trans (hb.mono HS9.out.hB))
        clear hb
        go_wp2_with fail
        go_ret
        exact ⟨rfl, HBE.out⟩

end Go.Proofs.Ytkkcaicihhkahaa
