/-
  The walk of rsa's Make at the two first primes.
-/
import Derived.Test.YtfknjfmgpfhjiaaWkd
import Derived.Test.YtfknjfmgpfhjiaaPrmb
namespace Go.Proofs.Ytfknjfmgpfhjiaa
open Go.RowKit Keys

/-- A number stays while a block below it is written. -/
theorem Num.set_low {k : IntKind} {B g : Nat} {w : World} {v : Value} {N : Nat} (h : Num k B w v N) (hg : g < B) (o : Nat) (u : Value) : Num k B (w.setCell ⟨g, o, none⟩ u) v N := by
  obtain ⟨oa, c, rfl, h1, h2⟩ := h
  refine ⟨oa, c, rfl, h1.setCell_other (fun a ha => by have := (h2 a ha).1; omega) _ _, fun a ha => ?_⟩
  obtain ⟨q1, q2, q3⟩ := h2 a ha
  exact ⟨q1, by simpa using q2, fun x => by simpa using q3 x⟩

theorem pt_facts : 3 < pt 0 ∧ 3 < pt 2 ∧ bits (pt 0) ≤ 4096 ∧ bits (pt 2) ≤ 4096 ∧ nd (pt 0) ≤ 8 ∧ nd (pt 2) ≤ 8 := by decide +kernel

theorem first_fit : KeyFit (pt 0 * pt 2) 65537 (dv 0) := by
  have h : (pt 0 * pt 2) % 2 = 1 ∧ 2 ^ 511 ≤ pt 0 * pt 2 ∧ pt 0 * pt 2 < W 31 ∧ dv 0 < pt 0 * pt 2 := by decide +kernel
  exact ⟨h.1, h.2.1, h.2.2.1, by decide, by decide, by decide, h.2.2.2⟩

theorem first_inv {V : Nat} {c : Int} (h : IsInv 65537 ((pt 0 - 1) * (pt 2 - 1)) V c) : V = dv 0 ∧ c = 0 := by
  obtain ⟨h1, h2, h3⟩ := first_made
  refine h.uniq ⟨h1, ?_⟩
  rw [if_pos h3]
  have h4 : 1 % ((pt 0 - 1) * (pt 2 - 1)) = 1 := by decide +kernel
  exact ⟨rfl, by rw [h2, h4]⟩

theorem first_small : nd ((pt 0 - 1) * (pt 2 - 1)) ≤ 20 ∧ nd (dv 0) ≤ 20 := by decide +kernel

set_option maxRecDepth 100000 in
set_option maxHeartbeats 3200000 in
theorem make_first {w : World} {p q e : Value} {A L1 L2 : Nat} (hp : Rd w p L1 (pt 0)) (hq : Rd w q L2 (pt 2)) (he : Num .u32 A w e 65537) (hL1 : L1 ≤ 40) (hL2 : L2 ≤ 40) :
    Calls Try.prog 18 #[p, q, e] w fun x w' => ∃ n e' d, x = .returned (.tuple #[.agg #[n, e', d], .int .i64 0]) ∧ (∃ a l c, n = .slice a l c) ∧ (∃ a l c, e' = .slice a l c) ∧ Num .u32 w.heap.size w' d (dv 0) ∧ Below w.heap.size w w' := by
  obtain ⟨f1, f2, f3, f4, f5, f6⟩ := pt_facts
  obtain ⟨s1, s2⟩ := first_small
  have HP := hid hp
  have HQ := hid hq
  have HE := hid he
  have HFIT := hid first_fit
  have HINV := hid (fun V c => first_inv (V := V) (c := c))
  obtain ⟨P, hP⟩ : ∃ P, P = pt 0 := ⟨_, rfl⟩
  obtain ⟨Q, hQ⟩ : ∃ Q, Q = pt 2 := ⟨_, rfl⟩
  obtain ⟨D, hD⟩ : ∃ D, D = dv 0 := ⟨_, rfl⟩
  rw [← hP] at HP f1 f3 f5 s1 HFIT HINV
  rw [← hQ] at HQ f2 f4 f6 s1 HFIT HINV
  rw [← hD] at s2 HFIT HINV ⊢
  have hc1 : cmp P 3 = 1 := cmp_gt f1
  have hc2 : cmp Q 3 = 1 := cmp_gt f2
  have hN : nd (P * Q) ≤ 16 := nd_mul f5 f6
  have hE : nd 65537 = 1 := by decide
  clear hp hq he hP hQ hD
  go_enter Try.func18, Try.ntmps18
  go_wp2_with fail
  have hbe : Below w.heap.size w (w.alloc (Obj.cells #[Value.slice none 0 0, Value.slice none 0 0, Value.slice none 0 0] 25)) := (Below.refl _ _).alloc (Nat.le_refl _) _
  have hsz : w.heap.size < (w.alloc (Obj.cells #[Value.slice none 0 0, Value.slice none 0 0, Value.slice none 0 0] 25)).heap.size := by simp
  have hcl : ∀ o, o < 3 → (w.alloc (Obj.cells #[Value.slice none 0 0, Value.slice none 0 0, Value.slice none 0 0] 25)).cell? ⟨w.heap.size, o, none⟩ = some (.slice none 0 0) := by
    intro o ho
    rw [World.cell?_alloc_at _ _ _ _ rfl]
    match o, ho with
    | 0, _ => rfl
    | 1, _ => rfl
    | 2, _ => rfl
  have hfr : ∀ o, (w.alloc (Obj.cells #[Value.slice none 0 0, Value.slice none 0 0, Value.slice none 0 0] 25)).frozen? ⟨w.heap.size, o, none⟩ = false := fun o => World.frozen?_alloc_at _ _ _ _ rfl
  generalize (w.alloc (Obj.cells #[Value.slice none 0 0, Value.slice none 0 0, Value.slice none 0 0] 25)) = W0 at *
  have HCL := hid hcl
  have HFR := hid hfr
  have HP := hid (HP.out.below hbe)
  have HQ := hid (HQ.out.below hbe)
  have HE := hid (HE.out.below hbe)
  have HW := hid (Below.refl W0.heap.size W0)
  have hz : W0.heap.size ≤ W0.heap.size := Nat.le_refl _
  clear hcl hfr
  refine Calls.mono (of_r (B := W0.heap.size) 3 _ (by decide) hz) ?_
  rintro e w1 ⟨v1, rfl, hx, hb⟩
  have H1 := hid hx
  have HP := hid (HP.out.below hb)
  have HQ := hid (HQ.out.below hb)
  have HE := hid (HE.out.below hb)
  have HW := hid (HW.out.trans (hb.mono hz))
  have hz := HW.out.size
  clear hx hb
  go_wp2_with fail
  have C1 := hid (fun (w : World) (h1 : Rd w p L1 P) (h2 : Num .u32 W0.heap.size w v1 3) => cmp_b (w := w) h1 (Rd.of_num h2))
  have C2 := hid (fun (w : World) (h1 : Rd w q L2 Q) (h2 : Num .u32 W0.heap.size w v1 3) => cmp_b (w := w) h1 (Rd.of_num h2))
  rw [hc1] at C1
  rw [hc2] at C2
  refine Calls.mono (C1.out _ HP.out H1.out) ?_
  rintro e w2 ⟨rfl, hb⟩
  have HP := hid (HP.out.below hb)
  have HQ := hid (HQ.out.below hb)
  have HE := hid (HE.out.below hb)
  have H1 := hid (H1.out.below hb)
  have HW := hid (HW.out.trans (hb.mono hz))
  have hz := HW.out.size
  clear hb
  go_wp2_with fail
  refine Calls.mono (C2.out _ HQ.out H1.out) ?_
  rintro e w3 ⟨rfl, hb⟩
  have HP := hid (HP.out.below hb)
  have HQ := hid (HQ.out.below hb)
  have HE := hid (HE.out.below hb)
  have HW := hid (HW.out.trans (hb.mono hz))
  have hz := HW.out.size
  clear hb
  go_wp2_with fail
  refine Calls.mono (bits_r HP.out (by omega)) ?_
  rintro x w4 ⟨rfl, rfl⟩
  generalize bits P = kP at *
  have b1 : decide ((4096 : Int) < (kP : Int)) = false := decide_eq_false (by omega)
  go_wp2_with fail
  refine Calls.mono (bits_r HQ.out (by omega)) ?_
  rintro x w4 ⟨rfl, rfl⟩
  generalize bits Q = kQ at *
  have b2 : decide ((4096 : Int) < (kQ : Int)) = false := decide_eq_false (by omega)
  go_wp2_with fail
  refine Calls.mono (of_r (B := W0.heap.size) 1 _ (by decide) hz) ?_
  rintro e w4 ⟨v2, rfl, hx, hb⟩
  have H2 := hid hx
  have HP := hid (HP.out.below hb)
  have HQ := hid (HQ.out.below hb)
  have HE := hid (HE.out.below hb)
  have HW := hid (HW.out.trans (hb.mono hz))
  have hz := HW.out.size
  clear hx hb
  go_wp2_with fail
  refine Calls.mono (sub_r (B := W0.heap.size) hz HP.out (Rd.of_num H2.out) (by omega) (by omega)) ?_
  rintro e w5 ⟨a, rfl, hx, hb⟩
  have HA := hid hx
  have HP := hid (HP.out.below hb)
  have HQ := hid (HQ.out.below hb)
  have HE := hid (HE.out.below hb)
  have HW := hid (HW.out.trans (hb.mono hz))
  have hz := HW.out.size
  clear hx hb
  go_wp2_with fail
  refine Calls.mono (of_r (B := W0.heap.size) 1 _ (by decide) hz) ?_
  rintro e w6 ⟨v3, rfl, hx, hb⟩
  have H3 := hid hx
  have HP := hid (HP.out.below hb)
  have HQ := hid (HQ.out.below hb)
  have HE := hid (HE.out.below hb)
  have HA := hid (HA.out.below hb)
  have HW := hid (HW.out.trans (hb.mono hz))
  have hz := HW.out.size
  clear hx hb
  go_wp2_with fail
  refine Calls.mono (sub_r (B := W0.heap.size) hz HQ.out (Rd.of_num H3.out) (by omega) (by omega)) ?_
  rintro e w7 ⟨b, rfl, hx, hb⟩
  have HB := hid hx
  have HP := hid (HP.out.below hb)
  have HQ := hid (HQ.out.below hb)
  have HE := hid (HE.out.below hb)
  have HA := hid (HA.out.below hb)
  have HW := hid (HW.out.trans (hb.mono hz))
  have hz := HW.out.size
  clear hx hb
  go_wp2_with fail
  have n1 : nd (P - 1) ≤ 8 := Nat.le_trans (nd_mono (Nat.sub_le _ _)) f5
  have n2 : nd (Q - 1) ≤ 8 := Nat.le_trans (nd_mono (Nat.sub_le _ _)) f6
  refine Calls.mono (mul_r (B := W0.heap.size) hz (Rd.of_num HA.out) (Rd.of_num HB.out) (by omega) (by omega)) ?_
  rintro e w8 ⟨m, rfl, hx, hb⟩
  have HM := hid hx
  have HP := hid (HP.out.below hb)
  have HQ := hid (HQ.out.below hb)
  have HE := hid (HE.out.below hb)
  have HW := hid (HW.out.trans (hb.mono hz))
  have hz := HW.out.size
  clear hx hb
  go_wp2_with fail
  have hab : (P - 1) * (Q - 1) ≠ 0 := Nat.mul_ne_zero (by omega) (by omega)
  refine Calls.mono (ninv_any (Rd.of_num HE.out) (Rd.of_num HM.out) (by rw [hE]; decide) (by omega) hab) ?_
  rintro x w9 ⟨d, V, c, rfl, hv, hi, hb⟩
  obtain ⟨rfl, rfl⟩ := HINV.out _ _ hi
  have HD := hid (hv.mono hz)
  have HP := hid (HP.out.below hb)
  have HQ := hid (HQ.out.below hb)
  have HE := hid (HE.out.below hb)
  have HW := hid (HW.out.trans (hb.mono hz))
  have hz := HW.out.size
  clear hv hi hb
  go_wp2_with fail
  refine Calls.mono (mul_r (B := W0.heap.size) hz HP.out HQ.out (by omega) (by omega)) ?_
  rintro e w10 ⟨n, rfl, hx, hb⟩
  have HN := hid hx
  have HE := hid (HE.out.below hb)
  have HD := hid (HD.out.below hb)
  have HW := hid (HW.out.trans (hb.mono hz))
  have hz := HW.out.size
  clear hx hb
  go_wp2_with fail
  refine Calls.mono (trim_r (B := W0.heap.size) hz (Rd.of_num HE.out) (by rw [hE]; decide)) ?_
  rintro x w11 ⟨e2, rfl, hx, hb⟩
  have HE2 := hid hx
  have HN := hid (HN.out.below hb)
  have HD := hid (HD.out.below hb)
  have HW := hid (HW.out.trans (hb.mono hz))
  have hz := HW.out.size
  clear hx hb
  obtain ⟨on, cn, rfl, _, _⟩ := HN.out
  obtain ⟨oe, ce, rfl, _, _⟩ := HE2.out
  obtain ⟨od, cd, rfl, _, _⟩ := HD.out
  rename_i r1 r2 r3 r4 r5 r6
  clear r1 r2 r3 r4 r5 r6
  go_wp2_with fail
  have HE3 : Hid (Num .u32 W0.heap.size w11 (.slice oe 1 ce) 65537) := by
    have := HE2.out
    rwa [hE] at this
  have hb1 : Below w11.heap.size w11 (w11.alloc (Obj.cells #[Value.slice on (nd (P * Q)) cn, Value.slice oe 1 ce, Value.slice od (nd V) cd] 25)) := (Below.refl _ _).alloc (Nat.le_refl _) _
  have hc3 : ∀ o, o < 3 → (w11.alloc (Obj.cells #[Value.slice on (nd (P * Q)) cn, Value.slice oe 1 ce, Value.slice od (nd V) cd] 25)).cell? ⟨w11.heap.size, o, none⟩ = #[Value.slice on (nd (P * Q)) cn, Value.slice oe 1 ce, Value.slice od (nd V) cd][o]? := by
    intro o ho
    rw [World.cell?_alloc_at _ _ _ _ rfl]
  have hs1 : w11.heap.size < (w11.alloc (Obj.cells #[Value.slice on (nd (P * Q)) cn, Value.slice oe 1 ce, Value.slice od (nd V) cd] 25)).heap.size := by simp
  generalize (w11.alloc (Obj.cells #[Value.slice on (nd (P * Q)) cn, Value.slice oe 1 ce, Value.slice od (nd V) cd] 25)) = W1 at *
  obtain ⟨g1, hg1⟩ : ∃ g1, g1 = w11.heap.size := ⟨_, rfl⟩
  rw [← hg1] at hc3 hs1 ⊢
  have HN := hid (HN.out.below hb1)
  have HE3 := hid (HE3.out.below hb1)
  have HD := hid (HD.out.below hb1)
  have HW := hid (HW.out.trans (hb1.mono hz))
  have hz := HW.out.size
  clear hb1 hg1
  refine Calls.mono (right_any HN.out HE3.out (Rd.of_num HD.out) HFIT.out) ?_
  rintro x w12 ⟨rfl, hb⟩
  have k0 : w12.cell? ⟨g1, 0, none⟩ = some (.slice on (nd (P * Q)) cn) := Eq.trans (hb.cell (p := ⟨g1, 0, none⟩) hs1) (hc3 0 (by decide))
  have k1 : w12.cell? ⟨g1, 1, none⟩ = some (.slice oe 1 ce) := Eq.trans (hb.cell (p := ⟨g1, 1, none⟩) hs1) (hc3 1 (by decide))
  have k2 : w12.cell? ⟨g1, 2, none⟩ = some (.slice od (nd V) cd) := Eq.trans (hb.cell (p := ⟨g1, 2, none⟩) hs1) (hc3 2 (by decide))
  have HD := hid (HD.out.below hb)
  have HW := hid (HW.out.trans (hb.mono hz))
  have hz := HW.out.size
  have l0 := Eq.trans (HW.out.cell (p := ⟨w.heap.size, 0, none⟩) hsz) (HCL.out 0 (by decide))
  have l1 := Eq.trans (HW.out.cell (p := ⟨w.heap.size, 1, none⟩) hsz) (HCL.out 1 (by decide))
  have l2 := Eq.trans (HW.out.cell (p := ⟨w.heap.size, 2, none⟩) hsz) (HCL.out 2 (by decide))
  have m0 := Eq.trans (HW.out.frozen (p := ⟨w.heap.size, 0, none⟩) hsz) (HFR.out 0)
  have m1 := Eq.trans (HW.out.frozen (p := ⟨w.heap.size, 1, none⟩) hsz) (HFR.out 1)
  have m2 := Eq.trans (HW.out.frozen (p := ⟨w.heap.size, 2, none⟩) hsz) (HFR.out 2)
  have HBE := hid (hbe.trans (HW.out.mono (Nat.le_of_lt hsz)))
  clear hb hc3 hbe
  go_wp2_with fail
  refine bodyPost_ret (v := .tuple #[.agg #[.slice on (nd (P * Q)) cn, .slice oe 1 ce, .slice od (nd V) cd], .int .i64 0]) (by simp [results, Try.results18, go_sem, l0, l1, l2]) rfl ?_
  refine ⟨_, _, _, rfl, ⟨_, _, _, rfl⟩, ⟨_, _, _, rfl⟩, ?_, ?_⟩
  · exact (((HD.out.set_low hsz _ _).set_low hsz _ _).set_low hsz _ _).mono (Nat.le_of_lt hsz)
  · exact ((HBE.out.setCell (Nat.le_refl _) _).setCell (Nat.le_refl _) _).setCell (Nat.le_refl _) _

end Go.Proofs.Ytfknjfmgpfhjiaa
