import Derived.Test.YtfknjfmgpfhjiaaWn
import Derived.Test.YtfknjfmgpfhjiaaMathf
import Derived.Deep.RegionWith
namespace Go.Proofs.Ytfknjfmgpfhjiaa
open Go.RowKit

set_option maxRecDepth 100000 in
set_option maxHeartbeats 1600000 in
theorem ndiv_zero (oa ob : Option Addr) (n m ca cb : Nat) (f g : Nat → Nat) (w : World) (ha : Sl w .u32 oa n ca f) (hb : Sl w .u32 ob m cb g) (hf : ∀ j, j < n → f j < 4294967296) (hg : ∀ j, j < m → g j < 4294967296) (h0 : val g m = 0) :
    Calls Try.prog 16 #[.slice oa n ca, .slice ob m cb] w fun e w' => e = .returned (.tuple #[.slice none 0 0, .slice none 0 0, .int .i64 10]) ∧ Below w.heap.size w w' := by
  have hX := nd_val_le hf
  have HSA := hid fun d => size_q oa n ca f w d ha hf
  have hsb := fun d => size_q ob m cb g w d hb hg
  rw [h0, nd_zero] at hsb
  have HSB := hid hsb
  obtain ⟨i0, hi, hz0, hz1, hz2⟩ := k32.hi
  have hsl := run_upto (P := Try.prog) 23 60 i0 Try.underlying23 hi oa n ca (nd (val f n)) (Nat.le_trans hX ha.len_le)
  have hsl2 := run_upto (P := Try.prog) 23 60 i0 Try.underlying23 hi ob m cb 0 (Nat.zero_le _)
  have hsl3 : ∀ w : World, (Instr.slice 23 (.slice ob m cb) none (some (.int .i64 0)) none).run Try.prog w = .ok (.slice ob 0 cb) w := hsl2
  clear ha hb hf hg hsb hsl2
  generalize val f n = X at *
  generalize hp : nd X = p at *
  clear h0
  go_enter Try.func16, Try.ntmps16
  go_wp2_with fail
  go_quiet ((go_at_call 55; first | (with_reducible exact Calls.quiet_of_same (HSA.out _)) | (with_reducible exact Calls.quiet_of_same (HSB.out _))))
  go_wp2_with fail
  go_ret3
  exact ⟨rfl, below_drewN _ _ _⟩

set_option maxRecDepth 100000 in
set_option maxHeartbeats 1600000 in
theorem ndiv_less (oa ob : Option Addr) (n m ca cb : Nat) (f g : Nat → Nat) (w : World) (ha : Sl w .u32 oa n ca f) (hb : Sl w .u32 ob m cb g) (hf : ∀ j, j < n → f j < 4294967296) (hg : ∀ j, j < m → g j < 4294967296) (hn : n ≤ 100000) (hlt : val f n < val g m) :
    Calls Try.prog 16 #[.slice oa n ca, .slice ob m cb] w fun e w' => ∃ u, e = .returned (.tuple #[.slice none 0 0, u, .int .i64 0]) ∧ Num .u32 w.heap.size w' u (val f n) ∧ Below w.heap.size w w' := by
  have hX := nd_val_le hf
  have hY := nd_val_le hg
  have HSA := hid fun d => size_q oa n ca f w d ha hf
  have HSB := hid fun d => size_q ob m cb g w d hb hg
  obtain ⟨i0, hi, hz0, hz1, hz2⟩ := k32.hi
  have hsl := run_upto (P := Try.prog) 23 60 i0 Try.underlying23 hi oa n ca (nd (val f n)) (Nat.le_trans hX ha.len_le)
  have hsl2 := run_upto (P := Try.prog) 23 60 i0 Try.underlying23 hi ob m cb (nd (val g m)) (Nat.le_trans hY hb.len_le)
  have HA := hid ((ha.take hX).congr fun j hj => (dg_val hf j (by omega)).symm)
  have HB := hid ((hb.take hY).congr fun j hj => (dg_val hg j (by omega)).symm)
  clear ha hb hf hg
  generalize val f n = X at *
  generalize val g m = Y at *
  have hYp : nd Y ≠ 0 := fun h => by rw [nd_eq_zero] at h; omega
  have hlx := val_dg_nd X
  have hly := val_dg_nd Y
  have HLT := hid hlt
  generalize hp : nd X = p at *
  generalize hq : nd Y = q at *
  have HLX := hid hlx
  have HLY := hid hly
  have hq1 : ((q : Int) == 0) = false := by simp; omega
  clear hlx hly hp hq hlt
  go_enter Try.func16, Try.ntmps16
  go_wp2_with fail
  go_quiet ((go_at_call 55; first | (with_reducible exact Calls.quiet_of_same (HSA.out _)) | (with_reducible exact Calls.quiet_of_same (HSB.out _))))
  go_wp2_with fail
  refine (ncmp_any oa ob p q ca cb (dg X) (dg Y) (w.drewN nq) HA.out HB.out (fun _ _ => dg_lt _ _) (fun _ _ => dg_lt _ _)).mono ?_
  rw [HLX.out, HLY.out, cmp_lt HLT.out]
  rintro e w1 ⟨rfl, d, rfl⟩
  go_wp2_with fail
  refine (trim_any oa p ca (dg X) (w.drewN (nq + d)) HA.out (fun _ _ => dg_lt _ _) (by omega)).mono ?_
  rw [HLX.out]
  rintro e w2 ⟨v2, rfl, hv2, hb2⟩
  have HV2 := hid hv2
  have HB2 : Hid (Below w.heap.size w w2) := (below_drewN _ _ _).trans hb2
  clear hv2 hb2
  go_wp2_with fail
  go_ret3
  exact ⟨_, rfl, HV2.out, HB2.out⟩

set_option maxRecDepth 100000 in
set_option maxHeartbeats 1600000 in
theorem ndiv_short (oa ob : Option Addr) (n m ca cb : Nat) (f g : Nat → Nat) (w : World) (ha : Sl w .u32 oa n ca f) (hb : Sl w .u32 ob m cb g) (hf : ∀ j, j < n → f j < 4294967296) (hg : ∀ j, j < m → g j < 4294967296) (hn : n ≤ 100000) (hle : val g m ≤ val f n) (h1 : nd (val g m) = 1) :
    Calls Try.prog 16 #[.slice oa n ca, .slice ob m cb] w fun e w' => ∃ v u, e = .returned (.tuple #[v, u, .int .i64 0]) ∧ Num .u32 w.heap.size w' v (val f n / val g m) ∧ Num .u32 w.heap.size w' u (val f n % val g m) ∧ Below w.heap.size w w' := by
  have hX := nd_val_le hf
  have hY := nd_val_le hg
  have HSA := hid fun d => size_q oa n ca f w d ha hf
  have hsb := fun d => size_q ob m cb g w d hb hg
  obtain ⟨i0, hi, hz0, hz1, hz2⟩ := k32.hi
  have hsl := run_upto (P := Try.prog) 23 60 i0 Try.underlying23 hi oa n ca (nd (val f n)) (Nat.le_trans hX ha.len_le)
  have hsl2 := run_upto (P := Try.prog) 23 60 i0 Try.underlying23 hi ob m cb (nd (val g m)) (Nat.le_trans hY hb.len_le)
  have HA := hid ((ha.take hX).congr fun j hj => (dg_val hf j (by omega)).symm)
  have hB := ((hb.take hY).congr fun j hj => (dg_val hg j (by omega)).symm)
  have hcge : 0 ≤ cmp (val f n) (val g m) := by unfold cmp; split; omega; split <;> omega
  have hlx := val_dg_nd (val f n)
  have hly := val_dg_nd (val g m)
  clear ha hb hf hg
  generalize val f n = X at *
  generalize val g m = Y at *
  have hYp : 0 < Y := by
    rcases Nat.eq_zero_or_pos Y with h | h
    · rw [h, nd_zero] at h1; omega
    · exact h
  have hYl : Y < 4294967296 := by have := lt_W_nd Y; rw [h1, W_one] at this; exact this
  have hY0 : dg Y 0 = Y := by rw [dg, W_zero, Nat.div_one, Nat.mod_eq_of_lt hYl]
  rw [h1] at hsb hsl2 hB hly
  have hsl3 : ∀ w : World, (Instr.slice 23 (.slice ob m cb) none (some (.int .i64 1)) none).run Try.prog w = .ok (.slice ob 1 cb) w := hsl2
  have HSB : Hid (∀ d : Nat, Calls Try.prog 55 #[.slice ob m cb] (w.drewN d) fun e w' => e = .returned (.int .i64 1) ∧ w' = w.drewN d) := hsb
  generalize hp : nd X = p at *
  generalize hcm : cmp X Y = cm at *
  have HLX := hid hlx
  have HLY := hid hly
  have HCM := hid hcm
  obtain ⟨b, off, rfl, hbs, hc⟩ := hB.at_ (by omega)
  have hc0 := hc 0 (by omega)
  rw [hY0, Nat.add_zero] at hc0
  have HB := hid hB
  clear hlx hly hp h1 hsl2 hsb hB hc hY0 hcm hle
  go_enter Try.func16, Try.ntmps16
  go_wp2_with fail
  go_quiet ((go_at_call 55; first | (with_reducible exact Calls.quiet_of_same (HSA.out _)) | (with_reducible exact Calls.quiet_of_same (HSB.out _))))
  go_wp2_with fail
  refine (ncmp_any oa _ p 1 ca cb (dg X) (dg Y) (w.drewN nq) HA.out HB.out (fun _ _ => dg_lt _ _) (fun _ _ => dg_lt _ _)).mono ?_
  rw [HLX.out, HLY.out, HCM.out]
  rintro e w1 ⟨rfl, d, rfl⟩
  go_wp2_with fail
  refine (short_any oa p ca Y (dg X) (w.drewN (nq + d)) HA.out (fun _ _ => dg_lt _ _) (by omega) hYp hYl).mono ?_
  rw [HLX.out]
  rintro e w2 ⟨v2, u2, rfl, hv2, hu2, hb2⟩
  have HV2 := hid hv2
  have HU2 := hid hu2
  have HB2 : Hid (Below w.heap.size w w2) := (below_drewN _ _ _).trans hb2
  clear hv2 hu2 hb2
  go_wp2_with fail
  go_ret3
  exact ⟨_, _, rfl, HV2.out, HU2.out, HB2.out⟩
end Go.Proofs.Ytfknjfmgpfhjiaa
