/-
  The walks of rsa's odd and Right.
-/
import Derived.Test.YtfknjfmgpfhjiaaWzg
import Derived.Deep.RegionHeld3
import Derived.Handy
namespace Go.Proofs.Ytfknjfmgpfhjiaa
open Go.RowKit

theorem odd_r {w : World} {a : Value} {B N : Nat} (ha : Num .u32 B w a N) (hN : N % 2 = 1) : Calls Try.prog 61 #[a] w fun e w' => e = .returned (.bool true) ∧ Below w.heap.size w w' := by
  obtain ⟨oa, c, rfl, h2, h3⟩ := ha
  have hp := nd_pos (show 0 < N by omega)
  obtain ⟨b, off, rfl, hlt, hc⟩ := h2.at_ hp
  have hc0 := hc 0 hp
  rw [Nat.add_zero] at hc0
  have hl := dg_lt N 0
  have hd0 := dg_zero N
  have hand := and1 (dg N 0) 0 hl
  rw [Nat.pow_zero, Nat.div_one, show dg N 0 % 2 = 1 by omega] at hand
  have hand2 : Go.bits .and .u32 (((dg N 0 : Nat) : Int)) 1 = 1 := by simpa using hand
  have hs := h2.len_le
  generalize dg N 0 = d at *
  generalize nd N = n at *
  clear h2 h3 hc hand hd0
  go_enter Try.func61, Try.ntmps61
  go_wp2_with fail
  go_ret
  exact ⟨rfl, Below.refl _ _⟩

theorem bits_le_W {N n : Nat} (h : N < W n) : bits N ≤ 32 * n := bits_le.2 h

/-- What is asked of a key. -/
structure KeyFit (N E D : Nat) : Prop where
  odd : N % 2 = 1
  lo : 2 ^ 511 ≤ N
  hi : N < W 31
  eodd : E % 2 = 1
  elo : 2 < E
  ehi : E < 2 ^ 64
  dlt : D < N

set_option maxRecDepth 100000 in
set_option maxHeartbeats 3200000 in
theorem right_any {w : World} {n e d : Value} {A B L N E D : Nat} (hn : Num .u32 A w n N) (he : Num .u32 B w e E) (hd : Rd w d L D) (hk : KeyFit N E D) :
    Calls Try.prog 23 #[.agg #[n, e, d]] w fun x w' => x = .returned (.bool true) ∧ Below w.heap.size w w' := by
  have HN := hid hn
  have HE := hid he
  have HD := hid hd
  have HK := hid hk
  have hb1 : bits N ≤ 32 * 31 := bits_le_W hk.hi
  have hb2 : 512 ≤ bits N := le_bits (k := 511) hk.lo
  have hb3 : bits E ≤ 64 := bits_le.2 hk.ehi
  have hnN : nd N ≤ 31 := nd_le.2 hk.hi
  have hnE : nd E ≤ 2 := nd_le.2 hk.ehi
  have hc1 : cmp E 2 = 1 := cmp_gt hk.elo
  have hc2 : cmp D N = -1 := cmp_lt hk.dlt
  obtain ⟨on, cn, rfl, _, _⟩ := hn
  obtain ⟨oe, ce, rfl, _, _⟩ := he
  obtain ⟨od, cd, fd, rfl, _, _, _⟩ := hd
  rename_i q1 q2 q3 q4 q5 q6 q7
  clear hk q1 q2 q3 q4 q5 q6 q7
  go_enter Try.func23, Try.ntmps23
  go_wp2_with fail
  have hbe : Below w.heap.size w (w.alloc (Obj.cells #[Value.slice on (nd N) cn, Value.slice oe (nd E) ce, Value.slice od L cd] 25)) := (Below.refl _ _).alloc (Nat.le_refl _) _
  have hgb : w.heap.size < (w.alloc (Obj.cells #[Value.slice on (nd N) cn, Value.slice oe (nd E) ce, Value.slice od L cd] 25)).heap.size := by simp
  have hc0' : ∀ o, o < 3 → (w.alloc (Obj.cells #[Value.slice on (nd N) cn, Value.slice oe (nd E) ce, Value.slice od L cd] 25)).cell? ⟨w.heap.size, o, none⟩ = #[Value.slice on (nd N) cn, Value.slice oe (nd E) ce, Value.slice od L cd][o]? := by
    intro o ho
    rw [World.cell?_alloc_at _ _ _ _ rfl]
  generalize (w.alloc (Obj.cells #[Value.slice on (nd N) cn, Value.slice oe (nd E) ce, Value.slice od L cd] 25)) = W0 at *
  have HN := hid (HN.out.below hbe)
  have HE := hid (HE.out.below hbe)
  have HD := hid (HD.out.below hbe)
  have c0 : W0.cell? ⟨w.heap.size, 0, none⟩ = some (.slice on (nd N) cn) := hc0' 0 (by decide)
  have c1 : W0.cell? ⟨w.heap.size, 1, none⟩ = some (.slice oe (nd E) ce) := hc0' 1 (by decide)
  have c2 : W0.cell? ⟨w.heap.size, 2, none⟩ = some (.slice od L cd) := hc0' 2 (by decide)
  refine Calls.mono (bits_r (Rd.of_num HN.out) (by omega)) ?_
  rintro x w1 ⟨rfl, rfl⟩
  have HS : Hid (∀ wy, Below W0.heap.size W0 wy → wy.cell? ⟨w.heap.size, 0, none⟩ = some (.slice on (nd N) cn) ∧ wy.cell? ⟨w.heap.size, 1, none⟩ = some (.slice oe (nd E) ce) ∧ wy.cell? ⟨w.heap.size, 2, none⟩ = some (.slice od L cd)) := by
    intro wy hy
    exact ⟨Eq.trans (hy.cell (p := ⟨w.heap.size, 0, none⟩) hgb) c0, Eq.trans (hy.cell (p := ⟨w.heap.size, 1, none⟩) hgb) c1, Eq.trans (hy.cell (p := ⟨w.heap.size, 2, none⟩) hgb) c2⟩
  have A1 : Hid (∀ wy, Below W0.heap.size W0 wy → Calls Try.prog 61 #[.slice on (nd N) cn] wy fun e w' => e = .returned (.bool true) ∧ Below W0.heap.size W0 w') := by
    intro wy hy
    refine (odd_r (HN.out.below hy) HK.out.odd).mono ?_
    rintro e w' ⟨rfl, h3⟩
    exact ⟨rfl, hy.trans (h3.mono hy.size)⟩
  have A2 : Hid (∀ wy, Below W0.heap.size W0 wy → Calls Try.prog 61 #[.slice oe (nd E) ce] wy fun e w' => e = .returned (.bool true) ∧ Below W0.heap.size W0 w') := by
    intro wy hy
    refine (odd_r (HE.out.below hy) HK.out.eodd).mono ?_
    rintro e w' ⟨rfl, h3⟩
    exact ⟨rfl, hy.trans (h3.mono hy.size)⟩
  have A3 : Hid (∀ wy, Below W0.heap.size W0 wy → Calls Try.prog 20 #[.int .u64 2] wy fun e w' => ∃ v, e = .returned v ∧ Num .u32 W0.heap.size w' v 2 ∧ Below W0.heap.size W0 w') := by
    intro wy hy
    refine (of_r (B := W0.heap.size) 2 wy (by decide) hy.size).mono ?_
    rintro e w' ⟨v, rfl, h2, h3⟩
    exact ⟨v, rfl, h2, hy.trans (h3.mono hy.size)⟩
  have A4 : Hid (∀ wy v, Below W0.heap.size W0 wy → Num .u32 W0.heap.size wy v 2 → Calls Try.prog 21 #[.slice oe (nd E) ce, v] wy fun e w' => e = .returned (.int .i64 1) ∧ Below W0.heap.size W0 w') := by
    intro wy v hy hv
    have := cmp_b (Rd.of_num (HE.out.below hy)) (Rd.of_num hv)
    rw [hc1] at this
    refine this.mono ?_
    rintro e w' ⟨rfl, h3⟩
    exact ⟨rfl, hy.trans (h3.mono hy.size)⟩
  have A5 : Hid (∀ wy, Below W0.heap.size W0 wy → Calls Try.prog 36 #[.slice oe (nd E) ce] wy fun e w' => e = .returned (.int .i64 (bits E : Nat)) ∧ wy = w') := by
    intro wy hy
    exact bits_r (Rd.of_num (HE.out.below hy)) (by omega)
  have A6 : Hid (∀ wy, Below W0.heap.size W0 wy → Calls Try.prog 21 #[.slice od L cd, .slice on (nd N) cn] wy fun e w' => e = .returned (.int .i64 (-1)) ∧ Below W0.heap.size W0 w') := by
    intro wy hy
    have := cmp_b (HD.out.below hy) (Rd.of_num (HN.out.below hy))
    rw [hc2] at this
    refine this.mono ?_
    rintro e w' ⟨rfl, h3⟩
    exact ⟨rfl, hy.trans (h3.mono hy.size)⟩
  generalize bits N = kN at *
  generalize bits E = kE at *
  have g1 : decide (((kN : Nat) : Int) ≥ 512) = true := decide_eq_true (by omega)
  have g2 : decide (((kN : Nat) : Int) ≤ 4096) = true := decide_eq_true (by omega)
  have g3 : decide (((kE : Nat) : Int) ≤ 64) = true := decide_eq_true (by omega)
  have g4 : decide ((512 : Int) ≤ ((kN : Nat) : Int)) = true := decide_eq_true (by omega)
  clear hc1 hc2
  go_wp2_with fail
  go_region_held3 (fun w' => w'.cell? ⟨w.heap.size, 0, none⟩ = some (.slice on (nd N) cn) ∧ w'.cell? ⟨w.heap.size, 1, none⟩ = some (.slice oe (nd E) ce) ∧ w'.cell? ⟨w.heap.size, 2, none⟩ = some (.slice od L cd)) (first | assumption | exact ⟨c0, c1, c2⟩) (first
    | (go_at_call_of 61 (Value.slice on (nd N) cn); refine (A1.out _ ?_).mono ?_; (first | exact below_drewN _ _ _ | exact (Below.refl _ _).drew | assumption); rintro e wa ⟨rfl, a1⟩; have s1 := HS.out _ a1)
    | (go_at_call_of 61 (Value.slice oe (nd E) ce); refine (A2.out _ ?_).mono ?_; (first | exact below_drewN _ _ _ | assumption); rintro e wb ⟨rfl, a2⟩; have s2 := HS.out _ a2)
    | (go_at_call 20; refine (A3.out _ ?_).mono ?_; (first | exact below_drewN _ _ _ | assumption); rintro e wd ⟨v3, rfl, a3, a4⟩; have HV := hid a3; have s3 := HS.out _ a4; clear a3)
    | (go_at_call_of 21 (Value.slice oe (nd E) ce); refine (A4.out _ _ ?_ HV.out).mono ?_; (first | exact below_drewN _ _ _ | assumption); rintro e we ⟨rfl, a5⟩; have s4 := HS.out _ a5)
    | (go_at_call 36; refine (A5.out _ ?_).mono ?_; (first | exact below_drewN _ _ _ | assumption); rintro e wf ⟨rfl, rfl⟩)
    | (go_at_call_of 21 (Value.slice od L cd); refine (A6.out _ ?_).mono ?_; (first | exact below_drewN _ _ _ | assumption); rintro e wg ⟨rfl, a6⟩; have s6 := HS.out _ a6))
  all_goals (
    go_wp2_with fail
    go_ret
    exact ⟨rfl, hbe.trans (a6.mono (Nat.le_of_lt hgb))⟩)

end Go.Proofs.Ytfknjfmgpfhjiaa
