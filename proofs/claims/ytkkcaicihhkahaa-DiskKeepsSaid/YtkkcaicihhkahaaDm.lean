/-
  The walk of disk's slots: an iterator that keeps what is left in a variable of its own.
-/
import Derived.Test.YtkkcaicihhkahaaDl
import Derived.RangeFuncNested
import Derived.RangeFuncBound
import Derived.RangeFuncCalls
import Derived.RangeFuncLeaves
import Derived.Shelf.Abstract
import Derived.Shelf.RegionOpen
import Derived.OwnWalkIn
import Derived.TacticsInMore
import Derived.LoopNIn
import Derived.LoopIn
namespace Go.Proofs.Ytkkcaicihhkahaa
open Go.RowKit Go.Shelf
attribute [local go_sem] Oper.semAt_some

/-- How long the slice in a box is. -/
def boxLen (B : Nat) (w : World) : Nat := match w.cell? ⟨B, 0, none⟩ with
  | some v => lenV v
  | none => 0

theorem boxLen_of {B : Nat} {w : World} {v : Value} (h : w.cell? ⟨B, 0, none⟩ = some v) : boxLen B w = lenV v := by unfold boxLen; rw [h]

/-- 's[24:]' of a slice that lies anywhere: where it ends up. -/
theorem run_from24 (g off n c : Nat) (hn : 24 ≤ n) :
    ∃ o', (∀ w : World, (Instr.slice 27 (.slice (some ⟨g, off, none⟩) n c) (some (.int .i64 24)) none none).run Try.prog w = .ok (.slice o' (n - 24) (c - 24)) w) ∧ (c ≠ 24 → o' = some ⟨g, off + 24, none⟩) := by
  obtain ⟨i8, hi, _, hs, _⟩ := k8.hi
  have hn' : (24 : Int) ≤ (n : Int) := by omega
  by_cases h : c = 24
  · refine ⟨some ⟨g, off, none⟩, fun w => ?_, fun h2 => absurd h h2⟩
    simp [Instr.slice, run_underlying Try.underlying27, Instr.sliceBounds, Instr.sliceBound, asIntOf, sizeOf, typeInfo, hi, Addr.add, hs]
    rw [if_pos hn', if_pos h]
  · refine ⟨some ⟨g, off + 24, none⟩, fun w => ?_, fun _ => rfl⟩
    simp [Instr.slice, run_underlying Try.underlying27, Instr.sliceBounds, Instr.sliceBound, asIntOf, sizeOf, typeInfo, hi, Addr.add, hs]
    rw [if_pos hn', if_neg h]

set_option maxHeartbeats 1600000 in
theorem slots_in (n : Nat) (hn : 1 ≤ n) (l Bn gb m c : Nat) (oa : Option Addr) (J : Nat → World → Prop) (hmc : m ≤ c) (hoa : 24 ≤ m → oa = some ⟨gb, 0, none⟩)
    (hY : ∀ k W, 24 * k + 24 ≤ m → J k W → YieldAt Fence.wide (n - 1) Try.prog l #[.slice (some ⟨gb, 24 * k, none⟩) 24 (c - 24 * k)] W fun e W' => e = .returned (.bool true) ∧ J (k + 1) W' ∧ W'.cell? ⟨Bn, 0, none⟩ = W.cell? ⟨Bn, 0, none⟩ ∧ W'.frozen? ⟨Bn, 0, none⟩ = W.frozen? ⟨Bn, 0, none⟩)
    (hJ : ∀ k W v, J k W → J k (W.setCell ⟨Bn, 0, none⟩ v)) (W : World) (hv : W.cell? ⟨Bn, 0, none⟩ = some (.slice oa m c)) (hf : W.frozen? ⟨Bn, 0, none⟩ = false) (h0 : J 0 W) :
    CallsIn Fence.wide n Try.prog 30 #[.func (.yield l) #[] #[], .pointer (some ⟨Bn, 0, none⟩)] W fun e W' => (∃ v, e = .returned v) ∧ J (m / 24) W' := by
  refine callsIn_of_wp Try.func30 rfl trivial ?_ rfl
  simp only [Try.ntmps30, List.size_toArray, List.length_cons, List.length_nil, Nat.reduceAdd, Nat.reduceSub, Array.replicate_succ, Array.replicate_zero, List.push_toArray, List.append_toArray, List.nil_append, List.cons_append]
  gi_wp2
  gi_loopw [3] (fun _ wr => ∃ (k : Nat) (o : Option Addr), 24 * k ≤ m ∧ wr.cell? ⟨Bn, 0, none⟩ = some (.slice o (m - 24 * k) (c - 24 * k)) ∧ wr.frozen? ⟨Bn, 0, none⟩ = false ∧ (24 * k + 24 ≤ m → o = some ⟨gb, 24 * k, none⟩) ∧ J k wr)
    (fun _ wr => boxLen Bn wr)
  case atStart => exact ⟨0, oa, by omega, hv, hf, hoa, h0⟩
  case round =>
    obtain ⟨k, o, hk, hc, hfr, ho, hj⟩ := hrel
    by_cases hlt : 24 * k + 24 ≤ m
    · obtain rfl := ho hlt
      obtain ⟨fn, tmps, assign, body, hy, hR⟩ := hY k wr hlt hj
      obtain ⟨o', hf24, ho'⟩ := run_from24 gb (24 * k) (m - 24 * k) (c - 24 * k) (by omega)
      have hup : ∀ w : World, (Instr.slice 27 (.slice (some ⟨gb, 24 * k, none⟩) (m - 24 * k) (c - 24 * k)) none (some (.int .i64 24)) none).run Try.prog w = .ok (.slice (some ⟨gb, 24 * k, none⟩) 24 (c - 24 * k)) w := by
        obtain ⟨i8, hi, _⟩ := k8.hi
        exact fun w => run_upto (P := Try.prog) 27 5 i8 Try.underlying27 hi _ (m - 24 * k) (c - 24 * k) 24 (by omega) w
      obtain ⟨N1, hN1⟩ : ∃ N1, N1 = m - 24 * k := ⟨_, rfl⟩
      obtain ⟨C1, hC1⟩ : ∃ C1, C1 = c - 24 * k := ⟨_, rfl⟩
      rw [← hN1] at hc hup hf24
      rw [← hC1] at hc hup hf24 hy ho'
      have hN2 : (24 : Int) ≤ (N1 : Int) := by omega
      have HN1 := hid hN1
      have HC1 := hid hC1
      have HO := hid ho'
      have HK := hid hk
      have HLT := hid hlt
      have HC := hid hc
      clear hY hN1 hC1 ho' ho hk hlt hj h0
      gi_wp2
      refine hR.mono ?_
      rintro e W3 ⟨rfl, hj3, hk3, hf3⟩
      rw [hc] at hk3
      rw [hfr] at hf3
      have HJ3 := hid hj3
      clear hj3
      gi_wp2
      have e1 := HN1.out
      have e2 := HC1.out
      have e3 := HLT.out
      have hcl := World.cell?_setCell_same W3 ⟨Bn, 0, none⟩ (.slice o' (N1 - 24) (C1 - 24)) hk3
      refine ⟨⟨k + 1, o', by omega, ?_, ?_, fun h => ?_, hJ _ _ _ HJ3.out⟩, ?_⟩
      · rw [hcl, show m - 24 * (k + 1) = N1 - 24 from by omega, show c - 24 * (k + 1) = C1 - 24 from by omega]
      · rw [World.frozen?_setCell]
        exact hf3
      · rw [HO.out (by omega)]
        rfl
      · rw [boxLen_of hcl, boxLen_of HC.out]
        simp only [lenV]
        omega
    · have hlt2 : ((m - 24 * k : Nat) : Int) < 24 := by omega
      obtain ⟨N1, hN1⟩ : ∃ N1, N1 = m - 24 * k := ⟨_, rfl⟩
      obtain ⟨C1, hC1⟩ : ∃ C1, C1 = c - 24 * k := ⟨_, rfl⟩
      rw [← hN1] at hc hlt2
      rw [← hC1] at hc
      have HKE : Hid (m / 24 = k) := hid (by omega)
      have HJ := hid hj
      clear hY hj hN1 hC1 ho hk hlt
      gi_wp2
      go_end0
      rw [HKE.out]
      exact ⟨⟨_, rfl⟩, HJ.out⟩

end Go.Proofs.Ytkkcaicihhkahaa
