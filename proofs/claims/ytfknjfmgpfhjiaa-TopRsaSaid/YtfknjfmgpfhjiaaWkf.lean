/-
  The walk of the law TopRsa.
-/
import Derived.Test.YtfknjfmgpfhjiaaWkc
import Derived.Test.YtfknjfmgpfhjiaaWke
import Derived.Deep.RegionHeld3
namespace Go.Proofs.Ytfknjfmgpfhjiaa
open Go.RowKit Keys

theorem fit_lt : ∀ r, r < 12 → mo r < W 31
  | 0, _ => by decide +kernel
  | 1, _ => by decide +kernel
  | 2, _ => by decide +kernel
  | 3, _ => by decide +kernel
  | 4, _ => by decide +kernel
  | 5, _ => by decide +kernel
  | 6, _ => by decide +kernel
  | 7, _ => by decide +kernel
  | 8, _ => by decide +kernel
  | 9, _ => by decide +kernel
  | 10, _ => by decide +kernel
  | 11, _ => by decide +kernel
  | _ + 12, h => absurd h (by omega)

theorem key_fit {r : Nat} (hr : r < 12) : KeyFit (mo r) (ex r) (dv r) := by
  have h := fits r hr
  unfold fit at h
  simp only [Bool.and_eq_true, decide_eq_true_eq, List.all_eq_true] at h
  obtain ⟨⟨⟨⟨⟨⟨⟨⟨⟨⟨⟨⟨a1, a2⟩, a3⟩, a4⟩, a5⟩, a6⟩, a7⟩, a8⟩, a9⟩, a10⟩, a11⟩, a12⟩, a13⟩ := h
  refine ⟨a7, a8, fit_lt r hr, ?_, ?_, ?_, a6⟩
  · unfold ex; split <;> decide
  · unfold ex; split <;> decide
  · unfold ex; split <;> decide

theorem key_back {r x : Nat} (hr : r < 12) (hx : x < mo r) : (x ^ dv r % mo r) ^ ex r % mo r = x ∧ (x ^ ex r % mo r) ^ dv r % mo r = x := by
  have h := fits r hr
  unfold fit at h
  simp only [Bool.and_eq_true, decide_eq_true_eq, List.all_eq_true] at h
  obtain ⟨⟨⟨⟨⟨⟨⟨⟨⟨⟨⟨⟨a1, a2⟩, a3⟩, a4⟩, a5⟩, a6⟩, a7⟩, a8⟩, a9⟩, a10⟩, a11⟩, a12⟩, a13⟩ := h
  exact ⟨rsa_back (pt_prm _ a1) (pt_prm _ a2) a3 a4 a5 hx, rsa_back (pt_prm _ a1) (pt_prm _ a2) a3 (by rw [Nat.mul_comm]; exact a4) (by rw [Nat.mul_comm]; exact a5) hx⟩

theorem run_field25 (a1 a2 a3 : Option Addr) (l1 c1 l2 c2 l3 c3 : Nat) (w : World) : (Instr.field 25 (.agg #[.slice a1 l1 c1, .slice a2 l2 c2, .slice a3 l3 c3]) 2).run Try.prog w = .ok (.slice a3 l3 c3) w := by
  kernel_rfl

theorem first_len : nd (dv 0) = (dl 0).length := by decide +kernel

theorem same_d {w : World} {a b : Value} {A : Nat} (ha : Num .u32 A w a (dv 0)) (hb : Rf w b (dl 0).length (df 0)) : Calls Try.prog 22 #[a, b] w fun e w' => e = .returned (.bool true) ∧ Below w.heap.size w w' := by
  obtain ⟨oa, ca, rfl, h2, _⟩ := ha
  obtain ⟨⟨ob, cb, rfl, k2⟩, k3⟩ := hb
  rw [first_len] at h2 ⊢
  refine (same_true oa ob (dl 0).length ca cb (dg (dv 0)) (df 0) w h2 k2 (fun j hj => dg_val k3 j hj)).mono ?_
  rintro e w' ⟨rfl, d, rfl⟩
  exact ⟨rfl, below_drewN' _ _ _⟩

set_option maxRecDepth 100000 in
set_option maxHeartbeats 6400000 in
theorem toprsa_any {w : World} {i : Int} {m : Value} {nm : Nat} {f : Nat → Nat} (hi : -9223372036854775808 ≤ i ∧ i ≤ 9223372036854775807) (hm : Rf w m nm f) :
    Calls Try.prog 3 #[.int .i64 i, m] w fun x w' => x = .returned (.bool true) ∧ Below w.heap.size w w' := by
  obtain ⟨r, hr⟩ : ∃ r, (i % 12).toNat = r := ⟨_, rfl⟩
  have hr12 : r < 12 := by omega
  have HK := hid (kept_ref i hi r hr w)
  have HFIT := hid (key_fit hr12)
  have HBACK := hid (fun x => key_back (r := r) (x := x) hr12)
  have hlen := dl_len hr12
  have HM := hid hm.rd
  have hN31 : nd (mo r) ≤ 31 := nd_le.2 HFIT.out.hi
  have hE2 : nd (ex r) ≤ 2 := nd_le.2 HFIT.out.ehi
  have hN0 : mo r ≠ 0 := fun h => by have := HFIT.out.odd; rw [h] at this; omega
  obtain ⟨⟨om, cm, rfl, _⟩, _⟩ := hm
  rename_i q1 q2
  clear hr q1 q2
  obtain ⟨N, hN⟩ : ∃ N, N = mo r := ⟨_, rfl⟩
  obtain ⟨E, hE⟩ : ∃ E, E = ex r := ⟨_, rfl⟩
  obtain ⟨D, hD⟩ : ∃ D, D = dv r := ⟨_, rfl⟩
  rw [← hN] at HK HFIT HBACK hN31 hN0
  rw [← hE] at HK HFIT HBACK hE2
  rw [← hD] at HFIT HBACK
  have HD0 := hid hD
  obtain ⟨ld, hld⟩ : ∃ ld, ld = (dl r).length := ⟨_, rfl⟩
  rw [← hld] at HK hlen
  have HLD := hid hld
  clear hN hE hD hld
  go_enter Try.func3, Try.ntmps3
  go_wp2_with fail
  refine HK.out.mono ?_
  rintro x w1 ⟨n, e, d, rfl, hn, he, hd, hb⟩
  have HN := hid hn
  have HE := hid he
  have HD : Hid (Rd w1 d ld D) := by
    have := hd.rd
    rw [HD0.out]
    rw [HLD.out] at this ⊢
    exact this
  have HM := hid (HM.out.below hb)
  have HW0 := hid hb
  obtain ⟨on, cn, rfl, _, _⟩ := hn
  obtain ⟨oe, ce, rfl, _, _⟩ := he
  obtain ⟨⟨od, cd, rfl, _⟩, _⟩ := hd
  rename_i q1 q2 q3 q4 q5 q6
  clear hb q1 q2 q3 q4 q5 q6 HK
  by_cases h26 : 26 < nm
  · go_wp2_with fail
    go_ret
    exact ⟨rfl, HW0.out.trans (((Below.refl _ _).alloc (Nat.le_refl _) _).mono HW0.out.size)⟩
  go_wp2_with fail
  have hbe : Below w1.heap.size w1 (w1.alloc (Obj.cells #[Value.slice on (nd N) cn, Value.slice oe (nd E) ce, Value.slice od ld cd] 25)) := (Below.refl _ _).alloc (Nat.le_refl _) _
  have hsz : w1.heap.size < (w1.alloc (Obj.cells #[Value.slice on (nd N) cn, Value.slice oe (nd E) ce, Value.slice od ld cd] 25)).heap.size := by simp
  have hcl : ∀ o, o < 3 → (w1.alloc (Obj.cells #[Value.slice on (nd N) cn, Value.slice oe (nd E) ce, Value.slice od ld cd] 25)).cell? ⟨w1.heap.size, o, none⟩ = #[Value.slice on (nd N) cn, Value.slice oe (nd E) ce, Value.slice od ld cd][o]? := by
    intro o ho
    rw [World.cell?_alloc_at _ _ _ _ rfl]
  generalize (w1.alloc (Obj.cells #[Value.slice on (nd N) cn, Value.slice oe (nd E) ce, Value.slice od ld cd] 25)) = W1 at *
  have HN := hid (HN.out.below hbe)
  have HE := hid (HE.out.below hbe)
  have HD := hid (HD.out.below hbe)
  have HM := hid (HM.out.below hbe)
  have HW0 := hid (HW0.out.trans (hbe.mono HW0.out.size))
  obtain ⟨g, hg⟩ : ∃ g, g = w1.heap.size := ⟨_, rfl⟩
  rw [← hg] at hsz hcl ⊢
  clear hbe hg
  have HC : Hid (∀ wy, Below W1.heap.size W1 wy → wy.cell? ⟨g, 0, none⟩ = some (.slice on (nd N) cn) ∧ wy.cell? ⟨g, 1, none⟩ = some (.slice oe (nd E) ce) ∧ wy.cell? ⟨g, 2, none⟩ = some (.slice od ld cd)) := by
    intro wy hy
    exact ⟨Eq.trans (hy.cell (p := ⟨g, 0, none⟩) hsz) (hcl 0 (by decide)), Eq.trans (hy.cell (p := ⟨g, 1, none⟩) hsz) (hcl 1 (by decide)), Eq.trans (hy.cell (p := ⟨g, 2, none⟩) hsz) (hcl 2 (by decide))⟩
  have HW := hid (Below.refl W1.heap.size W1)
  have hz : W1.heap.size ≤ W1.heap.size := Nat.le_refl _
  obtain ⟨X0, hX0⟩ : ∃ X0, X0 = val f nm := ⟨_, rfl⟩
  rw [← hX0] at HM
  have hXl : X0 % N < N := Nat.mod_lt _ (Nat.pos_of_ne_zero hN0)
  have HB := hid (HBACK.out (X0 % N) hXl)
  obtain ⟨X, hX⟩ : ∃ X, X = X0 % N := ⟨_, rfl⟩
  rw [← hX] at HB hXl
  have HXE := hid hX
  have H0 := hid hN0
  have hXn : nd X ≤ 31 := Nat.le_trans (nd_mono (Nat.le_of_lt hXl)) hN31
  have HPN : Hid (∀ x, nd (x % N) ≤ 31) := fun x => Nat.le_trans (nd_mono (Nat.le_of_lt (Nat.mod_lt _ (Nat.pos_of_ne_zero H0.out)))) hN31
  clear hX hX0 hcl hN0 HBACK
  refine Calls.mono (div_r (B := W1.heap.size) hz HM.out (Rd.of_num HN.out) (by omega) H0.out) ?_
  rintro x w2 ⟨q, x, rfl, -, hx, hb⟩
  rw [← HXE.out] at hx
  have HX := hid hx
  have HN := hid (HN.out.below hb)
  have HE := hid (HE.out.below hb)
  have HD := hid (HD.out.below hb)
  have HW := hid (HW.out.trans (hb.mono hz))
  have hz := HW.out.size
  obtain ⟨k0, k1, k2⟩ := HC.out _ HW.out
  clear hx hb
  go_wp2_with fail
  refine Calls.mono (pow_r (B := W1.heap.size) hz (Rd.of_num HX.out) HD.out (Rd.of_num HN.out) (by omega) (by omega) (by omega) H0.out) ?_
  rintro e w3 ⟨a, rfl, hx, hb⟩
  have HA := hid hx
  have HN := hid (HN.out.below hb)
  have HE := hid (HE.out.below hb)
  have HD := hid (HD.out.below hb)
  have HX := hid (HX.out.below hb)
  have HW := hid (HW.out.trans (hb.mono hz))
  have hz := HW.out.size
  clear hx hb
  obtain ⟨k0, k1, k2⟩ := HC.out _ HW.out
  go_wp2_with fail
  refine Calls.mono (pow_r (B := W1.heap.size) hz (Rd.of_num HA.out) (Rd.of_num HE.out) (Rd.of_num HN.out) (Nat.le_trans (HPN.out _) (by decide)) (by omega) (by omega) H0.out) ?_
  rintro x w4 ⟨b, rfl, hx, hb⟩
  rw [HB.out.1] at hx
  have HB1 := hid hx
  have HN := hid (HN.out.below hb)
  have HE := hid (HE.out.below hb)
  have HD := hid (HD.out.below hb)
  have HX := hid (HX.out.below hb)
  have HW := hid (HW.out.trans (hb.mono hz))
  have hz := HW.out.size
  obtain ⟨k0, k1, k2⟩ := HC.out _ HW.out
  clear hx hb
  go_wp2_with fail
  refine Calls.mono (pow_r (B := W1.heap.size) hz (Rd.of_num HX.out) (Rd.of_num HE.out) (Rd.of_num HN.out) (by omega) (by omega) (by omega) H0.out) ?_
  rintro e w5 ⟨c, rfl, hx, hb⟩
  have HCC := hid hx
  have HN := hid (HN.out.below hb)
  have HE := hid (HE.out.below hb)
  have HD := hid (HD.out.below hb)
  have HX := hid (HX.out.below hb)
  have HB1 := hid (HB1.out.below hb)
  have HW := hid (HW.out.trans (hb.mono hz))
  have hz := HW.out.size
  clear hx hb
  obtain ⟨k0, k1, k2⟩ := HC.out _ HW.out
  go_wp2_with fail
  refine Calls.mono (pow_r (B := W1.heap.size) hz (Rd.of_num HCC.out) HD.out (Rd.of_num HN.out) (Nat.le_trans (HPN.out _) (by decide)) (by omega) (by omega) H0.out) ?_
  rintro x w6 ⟨d, rfl, hx, hb⟩
  rw [HB.out.2] at hx
  have HD1 := hid hx
  have HN := hid (HN.out.below hb)
  have HE := hid (HE.out.below hb)
  have HD := hid (HD.out.below hb)
  have HX := hid (HX.out.below hb)
  have HB1 := hid (HB1.out.below hb)
  have HW := hid (HW.out.trans (hb.mono hz))
  have hz := HW.out.size
  obtain ⟨k0, k1, k2⟩ := HC.out _ HW.out
  clear hx hb
  go_wp2_with fail
  refine Calls.mono (primes_ref 0 (by decide) w6) ?_
  rintro x w7 ⟨p1, L1, rfl, hL1, hx, hb⟩
  have HP1 := hid hx
  have HN := hid (HN.out.below hb)
  have HE := hid (HE.out.below hb)
  have HD := hid (HD.out.below hb)
  have HX := hid (HX.out.below hb)
  have HB1 := hid (HB1.out.below hb)
  have HD1 := hid (HD1.out.below hb)
  have HW := hid (HW.out.trans (hb.mono hz))
  have hz := HW.out.size
  obtain ⟨k0, k1, k2⟩ := HC.out _ HW.out
  clear hx hb
  go_wp2_with fail
  refine Calls.mono (primes_ref 2 (by decide) w7) ?_
  rintro x w8 ⟨p2, L2, rfl, hL2, hx, hb⟩
  have HP2 := hid hx
  have HN := hid (HN.out.below hb)
  have HE := hid (HE.out.below hb)
  have HD := hid (HD.out.below hb)
  have HX := hid (HX.out.below hb)
  have HB1 := hid (HB1.out.below hb)
  have HD1 := hid (HD1.out.below hb)
  have HP1 := hid (HP1.out.below hb)
  have HW := hid (HW.out.trans (hb.mono hz))
  have hz := HW.out.size
  obtain ⟨k0, k1, k2⟩ := HC.out _ HW.out
  clear hx hb
  go_wp2_with fail
  refine Calls.mono (of_r (B := W1.heap.size) 65537 _ (by decide) hz) ?_
  rintro e w9 ⟨ev, rfl, hx, hb⟩
  have HEV := hid hx
  have HN := hid (HN.out.below hb)
  have HE := hid (HE.out.below hb)
  have HD := hid (HD.out.below hb)
  have HX := hid (HX.out.below hb)
  have HB1 := hid (HB1.out.below hb)
  have HD1 := hid (HD1.out.below hb)
  have HP1 := hid (HP1.out.below hb)
  have HP2 := hid (HP2.out.below hb)
  have HW := hid (HW.out.trans (hb.mono hz))
  have hz := HW.out.size
  clear hx hb
  obtain ⟨k0, k1, k2⟩ := HC.out _ HW.out
  go_wp2_with fail
  refine Calls.mono (make_first HP1.out HP2.out HEV.out hL1 hL2) ?_
  rintro x w10 ⟨mn, me, md, rfl, ⟨a1, l1, c1, rfl⟩, ⟨a2, l2, c2, rfl⟩, hx, hb⟩
  have HMD := hid hx
  have HN := hid (HN.out.below hb)
  have HE := hid (HE.out.below hb)
  have HD := hid (HD.out.below hb)
  have HX := hid (HX.out.below hb)
  have HB1 := hid (HB1.out.below hb)
  have HD1 := hid (HD1.out.below hb)
  have HW := hid (HW.out.trans (hb.mono hz))
  have hz9 := hz
  have hz := HW.out.size
  obtain ⟨k0, k1, k2⟩ := HC.out _ HW.out
  clear hx hb
  obtain ⟨ox, cx, rfl, _, _⟩ := HMD.out
  rename_i q1 q2
  clear q1 q2
  go_wp2_with fail
  have hbe : Below w10.heap.size w10 (w10.alloc (Obj.cells #[Value.slice a1 l1 c1, Value.slice a2 l2 c2, Value.slice ox (nd (dv 0)) cx] 25)) := (Below.refl _ _).alloc (Nat.le_refl _) _
  have hsz2 : w10.heap.size < (w10.alloc (Obj.cells #[Value.slice a1 l1 c1, Value.slice a2 l2 c2, Value.slice ox (nd (dv 0)) cx] 25)).heap.size := by simp
  have hm2 : (w10.alloc (Obj.cells #[Value.slice a1 l1 c1, Value.slice a2 l2 c2, Value.slice ox (nd (dv 0)) cx] 25)).cell? ⟨w10.heap.size, 2, none⟩ = some (.slice ox (nd (dv 0)) cx) := by
    rw [World.cell?_alloc_at _ _ _ _ rfl]
    rfl
  generalize (w10.alloc (Obj.cells #[Value.slice a1 l1 c1, Value.slice a2 l2 c2, Value.slice ox (nd (dv 0)) cx] 25)) = W2 at *
  have HN := hid (HN.out.below hbe)
  have HE := hid (HE.out.below hbe)
  have HD := hid (HD.out.below hbe)
  have HX := hid (HX.out.below hbe)
  have HB1 := hid (HB1.out.below hbe)
  have HD1 := hid (HD1.out.below hbe)
  have HMD := hid (HMD.out.below hbe)
  have HW := hid (HW.out.trans (hbe.mono hz))
  have hz2 := HW.out.size
  obtain ⟨g2, hg2⟩ : ∃ g2, g2 = w10.heap.size := ⟨_, rfl⟩
  rw [← hg2] at hsz2 hm2 ⊢
  clear hbe hg2
  have HS : Hid (∀ wy, Below W2.heap.size W2 wy → wy.cell? ⟨g, 0, none⟩ = some (.slice on (nd N) cn) ∧ wy.cell? ⟨g, 1, none⟩ = some (.slice oe (nd E) ce) ∧ wy.cell? ⟨g, 2, none⟩ = some (.slice od ld cd) ∧ wy.cell? ⟨g2, 2, none⟩ = some (.slice ox (nd (dv 0)) cx)) := by
    intro wy hy
    obtain ⟨q1, q2, q3⟩ := HC.out wy (HW.out.trans (hy.mono hz2))
    exact ⟨q1, q2, q3, Eq.trans (hy.cell (p := ⟨g2, 2, none⟩) hsz2) hm2⟩
  obtain ⟨k0, k1, k2⟩ := HC.out _ HW.out
  have A1 : Hid (∀ wy, Below W2.heap.size W2 wy → Calls Try.prog 21 #[b, x] wy fun e w' => e = .returned (.int .i64 0) ∧ Below W2.heap.size W2 w') := by
    intro wy hy
    have := cmp_b (Rd.of_num (HB1.out.below hy)) (Rd.of_num (HX.out.below hy))
    rw [cmp_eq rfl] at this
    refine this.mono ?_
    rintro e w' ⟨rfl, h3⟩
    exact ⟨rfl, hy.trans (h3.mono hy.size)⟩
  have A2 : Hid (∀ wy, Below W2.heap.size W2 wy → Calls Try.prog 21 #[d, x] wy fun e w' => e = .returned (.int .i64 0) ∧ Below W2.heap.size W2 w') := by
    intro wy hy
    have := cmp_b (Rd.of_num (HD1.out.below hy)) (Rd.of_num (HX.out.below hy))
    rw [cmp_eq rfl] at this
    refine this.mono ?_
    rintro e w' ⟨rfl, h3⟩
    exact ⟨rfl, hy.trans (h3.mono hy.size)⟩
  have A3 : Hid (∀ wy, Below W2.heap.size W2 wy → Calls Try.prog 15 #[.int .i64 0] wy fun e w' => ∃ a1 l1 c1 a2 l2 c2 oa ca, e = .returned (.agg #[.slice a1 l1 c1, .slice a2 l2 c2, .slice oa (dl 0).length ca]) ∧ Rf w' (.slice oa (dl 0).length ca) (dl 0).length (df 0) ∧ Below W2.heap.size W2 w') := by
    intro wy hy
    refine (kept_ref 0 (by decide) 0 (by decide) wy).mono ?_
    rintro e w' ⟨n0, e0, d0, rfl, ⟨a1, c1, rfl, -, -⟩, ⟨a2, c2, rfl, -, -⟩, h2, h3⟩
    obtain ⟨⟨oa, ca, rfl, h4⟩, h5⟩ := h2
    exact ⟨a1, _, c1, a2, _, c2, oa, ca, rfl, ⟨⟨oa, ca, rfl, h4⟩, h5⟩, hy.trans (h3.mono hy.size)⟩
  have A4 : Hid (∀ wy v, Below W2.heap.size W2 wy → Rf wy v (dl 0).length (df 0) → Calls Try.prog 22 #[.slice ox (nd (dv 0)) cx, v] wy fun e w' => e = .returned (.bool true) ∧ Below W2.heap.size W2 w') := by
    intro wy v hy hv
    refine (same_d (HMD.out.below hy) hv).mono ?_
    rintro e w' ⟨rfl, h3⟩
    exact ⟨rfl, hy.trans (h3.mono hy.size)⟩
  have A5 : Hid (∀ wy, Below W2.heap.size W2 wy → Calls Try.prog 23 #[.agg #[.slice on (nd N) cn, .slice oe (nd E) ce, .slice od ld cd]] wy fun e w' => e = .returned (.bool true) ∧ Below W2.heap.size W2 w') := by
    intro wy hy
    refine (right_any (HN.out.below hy) (HE.out.below hy) (HD.out.below hy) HFIT.out).mono ?_
    rintro e w' ⟨rfl, h3⟩
    exact ⟨rfl, hy.trans (h3.mono hy.size)⟩
  have HW9 := hid (HW0.out.trans (HW.out.mono HW0.out.size))
  have HZ2 := hid hz2
  have fld := run_field25
  clear hz hz9
  go_region_held3 (fun w' => w'.cell? ⟨g, 0, none⟩ = some (.slice on (nd N) cn) ∧ w'.cell? ⟨g, 1, none⟩ = some (.slice oe (nd E) ce) ∧ w'.cell? ⟨g, 2, none⟩ = some (.slice od ld cd) ∧ w'.cell? ⟨g2, 2, none⟩ = some (.slice ox (nd (dv 0)) cx)) (first | assumption | exact ⟨k0, k1, k2, hm2⟩) (first
    | (go_at_call_of 21 b; refine (A1.out _ ?_).mono ?_; (first | exact below_drewN _ _ _ | exact (Below.refl _ _).drew | assumption); rintro e wa ⟨rfl, b1⟩; have s1 := HS.out _ b1)
    | (go_at_call_of 21 d; refine (A2.out _ ?_).mono ?_; (first | exact below_drewN _ _ _ | assumption); rintro e wb ⟨rfl, b2⟩; have s2 := HS.out _ b2)
    | (go_at_call 15; refine (A3.out _ ?_).mono ?_; (first | exact below_drewN _ _ _ | assumption); rintro e wd ⟨z1, z2, z3, z4, z5, z6, oa0, ca0, rfl, b3, b4⟩; have HV := hid b3; have s3 := HS.out _ b4; clear b3)
    | (go_at_call 22; refine (A4.out _ _ ?_ HV.out).mono ?_; (first | exact below_drewN _ _ _ | assumption); rintro e we ⟨rfl, b5⟩; have s4 := HS.out _ b5)
    | (go_at_call 23; refine (A5.out _ ?_).mono ?_; (first | exact below_drewN _ _ _ | assumption); rintro e wg ⟨rfl, b6⟩; have s6 := HS.out _ b6))
  all_goals (
    go_wp2_with fail
    go_ret
    exact ⟨rfl, HW9.out.trans (b6.mono (Nat.le_trans HW0.out.size HZ2.out))⟩)

end Go.Proofs.Ytfknjfmgpfhjiaa
