/-
  The walk of the law NatSums; words for the walks of the laws.
-/
import Derived.Test.YtfknjfmgpfhjiaaWu
namespace Go.Proofs.Ytfknjfmgpfhjiaa
open Go.RowKit

/-- The value is a slice of n digits, f. -/
def Rf (w : World) (v : Value) (n : Nat) (f : Nat → Nat) : Prop := (∃ oa c, v = .slice oa n c ∧ Sl w .u32 oa n c f) ∧ ∀ j, j < n → f j < 4294967296

section
variable {w w' : World} {a b : Value} {n m N X Y B : Nat} {f : Nat → Nat}

theorem Rf.below (h : Rf w a n f) (hb : Below w.heap.size w w') : Rf w' a n f := by
  obtain ⟨⟨oa, c, h1, h2⟩, h3⟩ := h
  exact ⟨⟨oa, c, h1, h2.below hb⟩, h3⟩

theorem Rf.drewN (h : Rf w a n f) (d : Nat) : Rf (w.drewN d) a n f := h

theorem Rf.rd (h : Rf w a n f) : Rd w a n (val f n) := by
  obtain ⟨⟨oa, c, h1, h2⟩, h3⟩ := h
  exact ⟨oa, c, f, h1, h2, h3, rfl⟩

theorem heavy_r (h : Rf w a n f) : Calls Try.prog 24 #[a] w fun e w' => e = .returned (.bool (decide (24 < n))) ∧ w = w' := by
  obtain ⟨⟨oa, c, rfl, h2⟩, h3⟩ := h
  clear h2 h3
  go_enter Try.func24, Try.ntmps24
  go_wp2_with fail
  go_ret
  exact ⟨congrArg (fun b => Ending.returned (Value.bool b)) (decide_eq_decide.2 (by omega)), rfl⟩

theorem own_r (h : Rf w a n f) (hn : n ≤ 10000) : Calls Try.prog 26 #[a] w fun e w' => ∃ v, e = .returned v ∧ Rf w' v n f ∧ Below w.heap.size w w' := by
  obtain ⟨⟨oa, c, rfl, h2⟩, h3⟩ := h
  refine (own_any oa n c f w h2 (by omega)).mono ?_
  rintro e w' ⟨oa', c', rfl, h4, _, h6⟩
  exact ⟨_, rfl, ⟨⟨oa', c', rfl, h4⟩, h3⟩, h6⟩

/-- The word of a difference. -/
def low (X Y : Nat) : Int := if X < Y then 11 else 0

theorem sub_e (hB : B ≤ w.heap.size) (ha : Rd w a n X) (hb : Rd w b m Y) (hn : n ≤ 100000) : Calls Try.prog 27 #[a, b] w fun e w' => ∃ v, e = .returned (.tuple #[v, .int .i64 (low X Y)]) ∧ Num .u32 B w' v (X - Y) ∧ Below w.heap.size w w' := sub_both hB ha hb hn

theorem rsub_e (hB : B ≤ w.heap.size) (ha : Rd w a n X) (hb : Rd w b m Y) (hn : n ≤ 100000) (hm : m ≤ 100000) : Calls Try.prog 28 #[a, b] w fun e w' => ∃ v, e = .returned (.tuple #[v, .int .i64 (low X Y)]) ∧ Num .u32 B w' v (X - Y) ∧ Below w.heap.size w w' := rsub_both hB ha hb hn hm

theorem same_b (ha : Rf w a n f) (hb : Rf w b n f) : Calls Try.prog 22 #[a, b] w fun e w' => e = .returned (.bool true) ∧ Below w.heap.size w w' := by
  obtain ⟨⟨oa, c, rfl, h2⟩, h3⟩ := ha
  obtain ⟨⟨ob, cb, rfl, k2⟩, k3⟩ := hb
  refine (same_true oa ob n c cb f f w h2 k2 (fun _ _ => rfl)).mono ?_
  rintro e w' ⟨rfl, d, rfl⟩
  exact ⟨rfl, below_drewN' _ _ _⟩

theorem same_n {A C : Nat} (ha : Num .u32 A w a N) (hb : Num .u32 C w b N) : Calls Try.prog 22 #[a, b] w fun e w' => e = .returned (.bool true) ∧ Below w.heap.size w w' := by
  refine (same_r ha hb).mono ?_
  rintro e w' ⟨rfl, d, rfl⟩
  exact ⟨rfl, below_drewN' _ _ _⟩

theorem cmp_b (ha : Rd w a n X) (hb : Rd w b m Y) : Calls Try.prog 21 #[a, b] w fun e w' => e = .returned (.int .i64 (cmp X Y)) ∧ Below w.heap.size w w' := by
  refine (cmp_r ha hb).mono ?_
  rintro e w' ⟨rfl, d, rfl⟩
  exact ⟨rfl, below_drewN' _ _ _⟩

theorem same_f (ha : Rf w a n f) (hb : Rf w b n f) : Calls Try.prog 22 #[a, b] w fun e w' => e = .returned (.bool true) ∧ ∃ d, w' = w.drewN d := by
  obtain ⟨⟨oa, c, rfl, h2⟩, h3⟩ := ha
  obtain ⟨⟨ob, cb, rfl, k2⟩, k3⟩ := hb
  exact same_true oa ob n c cb f f w h2 k2 (fun _ _ => rfl)
end

set_option maxHeartbeats 1600000 in
theorem sums_any {w : World} {a b : Value} {na nb : Nat} {f g : Nat → Nat} (ha : Rf w a na f) (hb : Rf w b nb g) :
    Calls Try.prog 4 #[a, b] w fun e w' => e = .returned (.bool true) ∧ Below w.heap.size w w' := by
  have HA := hid ha
  have HB := hid hb
  have HW := hid (Below.refl w.heap.size w)
  have hz : w.heap.size ≤ w.heap.size := Nat.le_refl _
  clear ha hb
  go_enter Try.func4, Try.ntmps4
  go_wp2_with fail
  refine (heavy_r HA.out).mono ?_
  rintro e w1 ⟨rfl, rfl⟩
  by_cases h1 : 24 < na
  · rw [decide_eq_true h1]
    go_wp2_with fail
    refine Calls.mono (known_true w) ?_
    rintro e w2 ⟨rfl, hb⟩
    have HW := hid (HW.out.trans (hb.mono hz))
    have hz := HW.out.size
    clear hb
    go_wp2_with fail
    go_ret
    exact ⟨rfl, HW.out⟩
  · rw [decide_eq_false h1]
    go_wp2_with fail
    refine (heavy_r HB.out).mono ?_
    rintro e w1 ⟨rfl, rfl⟩
    by_cases h2 : 24 < nb
    · rw [decide_eq_true h2]
      go_wp2_with fail
      refine Calls.mono (known_true w) ?_
      rintro e w2 ⟨rfl, hb⟩
      have HW := hid (HW.out.trans (hb.mono hz))
      have hz := HW.out.size
      clear hb
      go_wp2_with fail
      go_ret
      exact ⟨rfl, HW.out⟩
    · rw [decide_eq_false h2]
      go_wp2_with fail
      refine Calls.mono (own_r HA.out (by omega)) ?_
      rintro e w1 ⟨x, rfl, hx, hb⟩
      have HX := hid hx
      have HA := hid (HA.out.below hb)
      have HB := hid (HB.out.below hb)
      have HW := hid (HW.out.trans (hb.mono hz))
      have hz := HW.out.size
      clear hx hb
      go_wp2_with fail
      refine Calls.mono (own_r HB.out (by omega)) ?_
      rintro e w2 ⟨y, rfl, hx, hb⟩
      have HY := hid hx
      have HA := hid (HA.out.below hb)
      have HB := hid (HB.out.below hb)
      have HX := hid (HX.out.below hb)
      have HW := hid (HW.out.trans (hb.mono hz))
      have hz := HW.out.size
      clear hx hb
      go_wp2_with fail
      refine Calls.mono (sub_e (B := w.heap.size) hz HX.out.rd HY.out.rd (by omega)) ?_
      rintro e w3 ⟨d, rfl, hx, hb⟩
      have HD := hid hx
      have HA := hid (HA.out.below hb)
      have HB := hid (HB.out.below hb)
      have HX := hid (HX.out.below hb)
      have HY := hid (HY.out.below hb)
      have HW := hid (HW.out.trans (hb.mono hz))
      have hz := HW.out.size
      clear hx hb
      go_wp2_with fail
      refine Calls.mono (rsub_e (B := w.heap.size) hz HA.out.rd HB.out.rd (by omega) (by omega)) ?_
      rintro e w4 ⟨c, rfl, hx, hb⟩
      have HC := hid hx
      have HA := hid (HA.out.below hb)
      have HB := hid (HB.out.below hb)
      have HX := hid (HX.out.below hb)
      have HY := hid (HY.out.below hb)
      have HD := hid (HD.out.below hb)
      have HW := hid (HW.out.trans (hb.mono hz))
      have hz := HW.out.size
      clear hx hb
      go_wp2_with fail
      refine Calls.mono (add_r (B := w.heap.size) hz HX.out.rd HY.out.rd (by omega) (by omega)) ?_
      rintro e w5 ⟨s1, rfl, hx, hb⟩
      have HS1 := hid hx
      have HA := hid (HA.out.below hb)
      have HB := hid (HB.out.below hb)
      have HX := hid (HX.out.below hb)
      have HY := hid (HY.out.below hb)
      have HD := hid (HD.out.below hb)
      have HC := hid (HC.out.below hb)
      have HW := hid (HW.out.trans (hb.mono hz))
      have hz := HW.out.size
      clear hx hb
      go_wp2_with fail
      refine Calls.mono (radd_r (B := w.heap.size) hz HA.out.rd HB.out.rd (by omega) (by omega)) ?_
      rintro e w6 ⟨s2, rfl, hx, hb⟩
      have HS2 := hid hx
      have HA := hid (HA.out.below hb)
      have HB := hid (HB.out.below hb)
      have HX := hid (HX.out.below hb)
      have HY := hid (HY.out.below hb)
      have HD := hid (HD.out.below hb)
      have HC := hid (HC.out.below hb)
      have HS1 := hid (HS1.out.below hb)
      have HW := hid (HW.out.trans (hb.mono hz))
      have hz := HW.out.size
      clear hx hb
      go_wp2_with fail
      refine Calls.mono (same_n HS1.out HS2.out) ?_
      rintro e w7 ⟨rfl, hb⟩
      have HA := hid (HA.out.below hb)
      have HB := hid (HB.out.below hb)
      have HX := hid (HX.out.below hb)
      have HY := hid (HY.out.below hb)
      have HD := hid (HD.out.below hb)
      have HC := hid (HC.out.below hb)
      have HW := hid (HW.out.trans (hb.mono hz))
      have hz := HW.out.size
      clear hb
      go_wp2_with fail
      refine Calls.mono (same_n HD.out HC.out) ?_
      rintro e w8 ⟨rfl, hb⟩
      have HA := hid (HA.out.below hb)
      have HB := hid (HB.out.below hb)
      have HX := hid (HX.out.below hb)
      have HY := hid (HY.out.below hb)
      have HW := hid (HW.out.trans (hb.mono hz))
      have hz := HW.out.size
      clear hb
      go_wp2_with fail
      refine Calls.mono (same_b HX.out HA.out) ?_
      rintro e w9 ⟨rfl, hb⟩
      have HB := hid (HB.out.below hb)
      have HY := hid (HY.out.below hb)
      have HW := hid (HW.out.trans (hb.mono hz))
      have hz := HW.out.size
      clear hb
      go_wp2_with fail
      refine Calls.mono (same_b HY.out HB.out) ?_
      rintro e w10 ⟨rfl, hb⟩
      have HW := hid (HW.out.trans (hb.mono hz))
      have hz := HW.out.size
      clear hb
      go_wp2_with fail
      refine Calls.mono (known_true _) ?_
      rintro e w11 ⟨rfl, hb⟩
      have HW := hid (HW.out.trans (hb.mono hz))
      have hz := HW.out.size
      clear hb
      go_wp2_with fail
      go_ret
      exact ⟨rfl, HW.out⟩

end Go.Proofs.Ytfknjfmgpfhjiaa
