/-
  The walk of disk's gap.
-/
import Derived.Test.YtkkcaicihhkahaaDk
namespace Go.Proofs.Ytkkcaicihhkahaa
open Go.RowKit

theorem isRc_shift {H : Nat → Int → Nat → Nat} {f g : Nat → Nat} {o : Nat} (h : ∀ i, i < 24 → g i = f (o + i)) : isRc H g 0 ↔ isRc H f o := by
  have e1 : num8 g 0 = num8 f o := num8_congr fun j hj => by rw [Nat.zero_add]; exact h j (by omega)
  have e2 : num8 g (0 + 8) = num8 f (o + 8) := num8_congr fun j hj => by rw [Nat.zero_add, h (8 + j) (by omega), Nat.add_assoc]
  unfold isRc
  rw [e1, e2]
  constructor <;> intro k i hi
  · rw [← h i hi]
    have := k i hi
    rwa [Nat.zero_add] at this
  · rw [Nat.zero_add, h i hi]
    exact k i hi

set_option maxRecDepth 100000 in
set_option maxHeartbeats 1600000 in
theorem gap_any {w : World} {B : Nat} {oa : Option Addr} {n c : Nat} {f T : Nat → Nat} (ho : Own B w .u8 5 oa n c f) (hn : n ≤ 2000000) (hf : ∀ i, f i < 256) (ht : Ar w .u64 0 80 T) (htl : ∀ j, j < 80 → T j < 18446744073709551616) :
    Calls Try.prog 28 #[.slice oa n c] w fun e w' => ∃ o c' gv, e = .returned (.slice o (gapN n) c') ∧ Own w.heap.size w' .u8 5 o (gapN n) c' gv ∧ (∀ i, gv i < 256) ∧ (n % 24 ≠ 0 → ¬ isRc (hd T) (cat f n gv) (24 * (n / 24))) ∧ Below w.heap.size w w' := by
  have HO := hid ho
  have HF := hid hf
  have HT := hid ht
  have HTL := hid htl
  have n0 : (0 : Int) ≤ (n : Int) := by omega
  have n1 : (n : Int) ≤ 2000000 := by omega
  clear ho hf ht htl
  obtain ⟨k, hk⟩ : ∃ k, k = n % 24 := ⟨_, rfl⟩
  have hkl : k < 24 := by omega
  have hkn : k ≤ n := by have := Nat.mod_le n 24; omega
  have HK := hid hk
  have hki : (n : Int) % 24 = (k : Int) := by omega
  by_cases h0 : k = 0
  · subst h0
    have hg : gapN n = 0 := by unfold gapN; rw [← hk]
    rw [hg]
    clear hg hk
    go_enter Try.func28, Try.ntmps28
    go_wp2_with fail
    go_ret
    exact ⟨none, 0, fun _ => 0, rfl, Own.nil _ _ _ _ _, fun _ => Nat.zero_lt_succ _, fun h => absurd HK.out.symm h, Below.refl _ _⟩
  · obtain ⟨L, hL⟩ : ∃ L, L + k = 24 := ⟨24 - k, by omega⟩
    have hg : gapN n = L := by unfold gapN; rw [← hk]; omega
    obtain ⟨gb, rfl, _⟩ := HO.out.at_ (by omega)
    rw [hg]
    have HL := hid hL
    have eL : (24 : Int) - (k : Int) = (L : Int) := by omega
    have hcn := HO.out.sl.len_le
    clear hg hk hL
    go_enter Try.func28, Try.ntmps28
    obtain ⟨m, hm⟩ : ∃ m, m + k = n := ⟨n - k, by omega⟩
    have em : (n : Int) - (k : Int) = (m : Int) := by omega
    have HM := hid hm
    have hsm : ∀ w : World, (Instr.slice 27 (.slice (some ⟨gb, 0, none⟩) n c) (some (.int .i64 (m : Int))) none none).run Try.prog w = .ok (.slice (fromA gb m c) k (c - m)) w := by
      obtain ⟨i8, hi, _, hz1, _⟩ := k8.hi
      intro w
      have := run_from (P := Try.prog) 27 5 i8 Try.underlying27 hi hz1 gb n c m (by omega) hcn w
      rw [show n - m = k from by omega] at this
      exact this
    have hsx := HO.out.sl.from (d := m) (by omega)
    rw [show n - m = k from by omega] at hsx
    have HX := hid hsx
    clear hm hsx
    go_wp2_with (at_make; refine wpList_mk rfl _ _ k8 rfl .i64 .i64 _ _ L rfl rfl rfl rfl (by omega) ?_)
    intro w1 h1 h2 h3
    have H1 := hid h1
    have HB1 := hid h2
    have hz1 := h2.size
    have HX1 := hid (HX.out.below h2)
    clear h1 h2 h3
    go_wp2_with (at_builtin; refine wpList_app rfl _ _ k8 rfl w1.heap.size 0 k none (fromA gb m c) 0 (c - m) (fun _ => 0) (fun i => f (m + i)) rfl rfl (Own.nil _ _ _ _ _) HX1.out (by omega) (Nat.le_refl _) ?_)
    intro o2 c2 w2 h1 h2 h3
    have H2 := hid (h1.congr (g := fun i => f (m + i)) fun j _ => by rw [cat_right (Nat.zero_le _), Nat.sub_zero])
    have hz2 := h3.size
    have H12 := hid (H1.out.below h3)
    have HB2 := hid h3
    clear h1 h2 h3
    obtain ⟨g2, rfl, hg2, hg2z, _⟩ := H2.out.at_ (by omega)
    go_wp2_with (at_builtin; refine wpList_app rfl _ _ k8 rfl w1.heap.size k L (some ⟨g2, 0, none⟩) (some ⟨w.heap.size, 0, none⟩) c2 L (fun i => f (m + i)) (fun _ => 0) rfl rfl H2.out H12.out.sl (by omega) hz2 ?_)
    intro o3 c3 w3 h1 h2 h3
    have hkL : k + L = 24 := by have := HL.out; omega
    have hw1 : w.heap.size < w1.heap.size := (H1.out.nw ⟨w.heap.size, 0, none⟩ rfl).2.1
    have H13 := hid (H12.out.grown h2 (.inr (fun h => by have : w.heap.size = g2 := Option.some.inj h; omega)))
    rw [hkL] at h1 ⊢
    have H3 := hid h1
    have hz3 := h3.size
    have HB3 : Hid (Below w.heap.size w w3) := hid ((HB1.out.trans (HB2.out.mono hz1)).trans (h3.mono hz1))
    obtain ⟨F, hF⟩ : ∃ F, F = cat (fun i => f (m + i)) k (fun _ => 0) := ⟨_, rfl⟩
    rw [← hF] at H3
    have hFl : ∀ i, F i < 256 := fun i => by
      rw [hF]
      unfold cat
      split
      · exact HF.out _
      · exact Nat.zero_lt_succ _
    have HFF := hid hF
    have HR := hid (recordB_any (w := w3) H3.out.sl hFl (HT.out.below HB3.out) HTL.out)
    have hrc : isRc (hd T) F 0 ↔ isRc (hd T) (cat f n (fun _ => 0)) (24 * (n / 24)) := by
      have hm24 : 24 * (n / 24) = m := by have := HK.out; have := HM.out; omega
      rw [hm24]
      refine isRc_shift fun i hi => ?_
      rw [hF]
      by_cases hik : i < k
      · rw [cat_left hik, cat_left (by have := HM.out; omega)]
      · rw [cat_right (by omega), cat_right (by have := HM.out; omega)]
    have HRC := hid hrc
    clear h1 h2 h3 hF hFl hrc hsm
    go_wp2_with fail
    refine Calls.mono HR.out ?_
    rintro e w4 ⟨rfl, hb4⟩
    have HB4 : Hid (Below w.heap.size w w4) := hid (HB3.out.trans (hb4.mono (by omega)))
    have H14 := hid (H13.out.below hb4)
    clear hb4 HR
    obtain ⟨l, hl⟩ : ∃ l, l + 1 = L := ⟨L - 1, by omega⟩
    have el : (L : Int) - 1 = (l : Int) := by omega
    have l0 : (l : Int) < (L : Int) := by omega
    have HLl := hid hl
    by_cases hb : isRcB (hd T) F 0 = true
    · rw [hb]
      have hc := H14.out.sl
      obtain ⟨_, _, e, _, hcc⟩ := hc.at_ (by omega)
      cases e
      have hcl := hcc l (by omega)
      rw [Nat.zero_add] at hcl
      have hfr := (H14.out.nw ⟨w.heap.size, 0, none⟩ rfl).2.2 l
      have HQ := hid (isRcB_iff.1 hb)
      clear hc hcc hb hl
      go_wp2_with fail
      go_ret
      refine ⟨_, L, upd (fun _ => 0) l 1, rfl, H14.out.stored l 1, fun i => ?_, fun _ => ?_, HB4.out.setCell (p := ⟨w.heap.size, l, none⟩) (Nat.le_refl _) _⟩
      · unfold upd
        split
        · decide
        · exact Nat.zero_lt_succ _
      · have hm24 : 24 * (n / 24) = m := by have := HK.out; have := HM.out; omega
        have hlk : l + k = 23 := by have := HL.out; have := HLl.out; omega
        refine not_rc_of_one (HRC.out.1 HQ.out) ?_ ?_ ?_
        · rw [cat_right (by have := HM.out; omega)]
        · rw [cat_right (by have := HM.out; omega), show 24 * (n / 24) + 23 - n = l from by have := HM.out; omega, upd_same]
        · intro j hj
          by_cases hjn : 24 * (n / 24) + j < n
          · rw [cat_left hjn, cat_left hjn]
          · rw [cat_right (by omega), cat_right (by omega), upd_other _ _ (by have := HM.out; omega)]
    · have hb : isRcB (hd T) F 0 = false := by simpa using hb
      rw [hb]
      have HQ : Hid (¬ isRc (hd T) F 0) := hid fun h => by
        have := isRcB_iff.2 h
        rw [hb] at this
        cases this
      clear hb hl
      go_wp2_with fail
      go_ret
      exact ⟨_, L, fun _ => 0, rfl, H14.out, fun _ => Nat.zero_lt_succ _, fun _ h => HQ.out (HRC.out.2 h), HB4.out⟩

end Go.Proofs.Ytkkcaicihhkahaa
