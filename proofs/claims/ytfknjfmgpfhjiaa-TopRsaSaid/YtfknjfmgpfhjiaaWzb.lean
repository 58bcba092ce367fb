/-
  The walk of the reference's long division.
-/
import Derived.Test.YtfknjfmgpfhjiaaWza
import Derived.Test.YtfknjfmgpfhjiaaWw
import Derived.Deep.LoopGhost
namespace Go.Proofs.Ytfknjfmgpfhjiaa
open Go.RowKit

theorem val_one (f : Nat) : val (fun _ => f) 1 = f := by
  rw [val_succ, val_zero, W_zero, Nat.mul_one, Nat.zero_add]

/-- A number times one digit that has been laid in a new block. -/
theorem times_one {w : World} {a : Value} {X C f B : Nat} (hB : B ≤ w.heap.size) (h : Num .u64 C w a X) (hf : f < 4294967296) (hX : nd X ≤ 100000) :
    Calls Try.prog 68 #[a, .slice (some ⟨w.heap.size, 0, none⟩) 1 1] (w.alloc (.cells #[.int .u64 (f : Nat)] 36)) fun e w' => ∃ v, e = .returned v ∧ Num .u64 B w' v (X * f) ∧ Below w.heap.size w w' := by
  obtain ⟨oa, c, rfl, h2, h3⟩ := h
  have hb := (Below.refl w.heap.size w).alloc (Nat.le_refl _) (.cells #[.int .u64 (f : Nat)] 36)
  refine (times_any oa _ (nd X) 1 c 1 (dg X) (fun _ => f) _ (h2.below hb) (sl_one w .u64 36 f) (fun _ _ => dg_lt _ _) (fun _ _ => hf) hX (by omega)).mono ?_
  rintro e w' ⟨v, rfl, h5, h6⟩
  rw [val_dg_nd, val_one] at h5
  have hs := hb.size
  exact ⟨v, rfl, h5.mono (by omega), hb.trans (h6.mono hs)⟩

/-- One digit that has been laid in a new block, cut. -/
theorem cut_one {w : World} {f B : Nat} (hB : B ≤ w.heap.size) (hf : f < 4294967296) :
    Calls Try.prog 71 #[.slice (some ⟨w.heap.size, 0, none⟩) 1 1] (w.alloc (.cells #[.int .u64 (f : Nat)] 36)) fun e w' => ∃ v, e = .returned v ∧ Num .u64 B w' v f ∧ Below w.heap.size w w' := by
  have hb := (Below.refl w.heap.size w).alloc (Nat.le_refl _) (.cells #[.int .u64 (f : Nat)] 36)
  have hsl := sl_one w .u64 36 f
  have hv := val_one f
  have hn := nd_val_le (f := fun _ => f) (n := 1) (fun _ _ => hf)
  have hd := dg_val (f := fun _ => f) (n := 1) (fun _ _ => hf)
  refine (cut_any (some ⟨w.heap.size, 0, none⟩) 1 1 (fun _ => f) _ hsl (fun _ _ => hf)).mono ?_
  rintro e w' ⟨rfl, rfl⟩
  rw [hv] at hn hd ⊢
  refine ⟨_, rfl, ⟨_, _, rfl, (hsl.take hn).congr (fun j hj => (hd j (by omega)).symm), fun a ha => ?_⟩, hb⟩
  cases ha
  exact ⟨hB, by simp, fun o => World.frozen?_alloc_at _ _ _ _ rfl⟩

theorem shortly_r {w : World} {a : Value} {X C y B : Nat} (hB : B ≤ w.heap.size) (h : Num .u64 C w a X) (hX : nd X ≤ 100000) (hy : 0 < y) (hy' : y < 4294967296) :
    Calls Try.prog 72 #[a, .int .u64 y] w fun e w' => ∃ v, e = .returned (.tuple #[v, .int .u64 ((X % y : Nat) : Nat)]) ∧ Num .u64 B w' v (X / y) ∧ Below w.heap.size w w' := by
  obtain ⟨oa, c, rfl, h2, h3⟩ := h
  refine (shortly_any oa (nd X) c y (dg X) w h2 (fun _ _ => dg_lt _ _) (by omega) hy hy').mono ?_
  rintro e w' ⟨v, rfl, h5, h6⟩
  rw [val_dg_nd] at h5 ⊢
  exact ⟨v, rfl, h5.mono hB, h6⟩

theorem dg_zero (Y : Nat) : dg Y 0 = Y % 4294967296 := by rw [dg, W_zero, Nat.div_one]

theorem one_digit {Y : Nat} (h : nd Y = 1) : dg Y 0 = Y := by
  rw [dg_zero]
  exact Nat.mod_eq_of_lt (nd_le.1 (Nat.le_of_eq h))

/-- A division by one digit. -/
theorem parted_one {w : World} {x y : Value} {X Y C D B : Nat} (hB : B ≤ w.heap.size) (hx : Num .u64 C w x X) (hy : Num .u64 D w y Y) (hX : nd X ≤ 100000) (h1 : nd Y = 1) :
    Calls Try.prog 67 #[x, y] w fun e w' => ∃ q r, e = .returned (.tuple #[q, r]) ∧ Num .u64 B w' q (X / Y) ∧ Num .u64 B w' r (X % Y) ∧ Below w.heap.size w w' := by
  have hY := one_digit h1
  have hYp : 0 < Y := by
    rcases Nat.eq_zero_or_pos Y with h | h
    · subst h; rw [nd_zero] at h1; omega
    · exact h
  have hYl : Y < 4294967296 := nd_le.1 (Nat.le_of_eq h1)
  have hml : X % Y < 4294967296 := Nat.lt_trans (Nat.mod_lt _ hYp) hYl
  have HX := hid hx
  have HB := hid hB
  have HML := hid hml
  obtain ⟨oy, cy, rfl, h2, h3⟩ := hy
  rw [h1] at h2
  obtain ⟨b, off, rfl, hlt, hc⟩ := h2.at_ (by decide)
  have hc0 := hc 0 (by decide)
  rw [hY, Nat.add_zero] at hc0
  rw [h1]
  have HS := hid (shortly_r (B := B) HB.out HX.out hX hYp hYl)
  have hsz := h2.len_le
  clear hx h2 h3 hc h1 hY hB hml
  go_enter Try.func67, Try.ntmps67
  go_wp2_with fail
  refine HS.out.mono ?_
  rintro e w1 ⟨q, rfl, hq, hb⟩
  have HQ := hid hq
  have HW := hid hb
  have hz := hb.size
  clear hq hb
  obtain ⟨R, hR⟩ : ∃ R, R = X % Y := ⟨_, rfl⟩
  rw [← hR] at HML ⊢
  have HRE := hid hR
  clear hR
  go_wp2_with fail
  refine Calls.mono (cut_one (B := B) (w := w1) (Nat.le_trans HB.out hz) HML.out) ?_
  rintro e w2 ⟨r, rfl, hr, hb⟩
  have HR := hid hr
  have HQ := hid (HQ.out.below hb)
  have HW := hid (HW.out.trans (hb.mono hz))
  clear hr hb
  go_wp2_with fail
  go_ret2
  refine ⟨_, _, rfl, HQ.out, ?_, HW.out⟩
  rw [← HRE.out]
  exact HR.out

end Go.Proofs.Ytfknjfmgpfhjiaa
