/-
  The walks of the small functions of nat and of the reference: what counts of a row, rows copied, cut, turned into another kind.
-/
import Derived.Test.YtfknjfmgpfhjiaaBase
import Derived.BigQuiet
import Derived.Deep.QuietTactic
namespace Go.Proofs.Ytfknjfmgpfhjiaa
open Go.RowKit

set_option maxHeartbeats 400000 in
theorem size_any (oa : Option Addr) (n c : Nat) (f : Nat → Nat) (w : World) (h : Sl w .u32 oa n c f) (hf : ∀ j, j < n → f j < 4294967296) :
    Calls Try.prog 55 #[.slice oa n c] w fun e w' => e = .returned (.int .i64 (nd (val f n) : Nat)) ∧ w = w' := by
  obtain ⟨hnc, hm, _, hc⟩ := h
  unfold maxLen at hm
  go_enter Try.func55, Try.ntmps55
  go_wp2
  go_loop [3] (fun i => ∃ k : Nat, k ≤ n ∧ i = .int .i64 k ∧ val f n = val f k) (fun i => (intOf i).toNat)
  case atStart => exact ⟨n, Nat.le_refl _, rfl, rfl⟩
  case round =>
    obtain ⟨k, hk, rfl, he⟩ := hrel
    rcases k with _ | k
    · have HE : Hid (nd (val f n) = 0) := by show nd (val f n) = 0; rw [he, val_zero, nd_zero]
      clear he hc hf
      have hd : decide (0 < ((0:Nat):Int)) = false := by simp
      go_wp2
      go_ret
      exact ⟨by rw [HE.out]; rfl, rfl⟩
    · obtain ⟨b, off, rfl, hlt, hc⟩ := hc (by omega)
      have hx := hc k (by omega)
      by_cases h0 : f k = 0
      · have h1 : ((((f k : Nat)) : Int) == 0) = true := by simp [h0]
        have HE : Hid (val f n = val f k) := by show val f n = val f k; rw [he, val_succ, h0]; simp
        clear h0 he hf hc
        go_wp2
        go_round
        case rel => exact ⟨k, by omega, by go_num, HE⟩
        case measure => simp [intOf]
      · have h1 : ((((f k : Nat)) : Int) == 0) = false := by simp [h0]
        have HE : Hid (nd (val f n) = k + 1) := by show nd (val f n) = _; rw [he]; exact nd_val (fun j hj => hf j (by omega)) h0
        clear h0 he hf hc
        go_wp2
        go_ret
        exact ⟨by rw [HE.out]; rfl, rfl⟩

set_option maxHeartbeats 400000 in
theorem trim_any (oa : Option Addr) (n c : Nat) (f : Nat → Nat) (w : World) (h : Sl w .u32 oa n c f) (hf : ∀ j, j < n → f j < 4294967296) (hb : n ≤ 1000000) :
    Calls Try.prog 35 #[.slice oa n c] w fun e w' => ∃ v, e = .returned v ∧ Num .u32 w.heap.size w' v (val f n) ∧ Below w.heap.size w w' := by
  have hnd := nd_val_le hf
  have hsz := size_any _ n c f w h hf
  obtain ⟨i0, hi, hz0, hz1, hz2⟩ := k32.hi
  have hsl := run_upto (P := Try.prog) 23 60 i0 Try.underlying23 hi oa n c (nd (val f n)) (Nat.le_trans hnd h.len_le)
  have H := hid h
  have HV : Hid (∀ j, j < nd (val f n) → f j = dg (val f n) j) := fun j hj => (dg_val hf j (by omega)).symm
  clear h hf
  by_cases hp : val f n = 0
  · rw [hp, nd_zero] at hsz
    go_enter Try.func35, Try.ntmps35
    go_wp2_with fail
    refine hsz.mono ?_
    rintro e w' ⟨rfl, rfl⟩
    go_wp2_with fail
    go_ret
    exact ⟨_, rfl, by rw [hp]; exact Num.zero _ _ _, Below.refl _ _⟩
  · have hnp : 0 < nd (val f n) := nd_pos (by omega)
    have hz : (((nd (val f n) : Nat) : Int) == 0) = false := by simp; omega
    generalize hN : nd (val f n) = m at *
    have HN := hid hN
    clear hN
    go_enter Try.func35, Try.ntmps35
    go_wp2_with fail
    refine hsz.mono ?_
    rintro e w' ⟨rfl, rfl⟩
    go_wp2_with (at_builtin; refine wpList_app rfl _ _ k32 rfl w.heap.size 0 m none oa 0 c f f rfl rfl (Own.nil _ _ _ _ _) (H.out.take hnd) (by omega) (Nat.le_refl _) ?_)
    intro oa' c' w1 hown hgr hbl
    have HO := hid hown
    clear hown
    go_wp2_with fail
    go_ret
    exact ⟨_, rfl, HO.out.num HN.out.symm (fun j hj => by rw [cat_right (Nat.zero_le _)]; exact HV.out j hj), hbl⟩

/-- own(a): a copy. -/
theorem own_any (oa : Option Addr) (n c : Nat) (f : Nat → Nat) (w : World) (h : Sl w .u32 oa n c f) (hb : n ≤ 1000000) :
    Calls Try.prog 26 #[.slice oa n c] w fun e w' => ∃ oa' c', e = .returned (.slice oa' n c') ∧ Sl w' .u32 oa' n c' f ∧ Nw w.heap.size w' oa' ∧ Below w.heap.size w w' := by
  have H := hid h
  clear h
  go_enter Try.func26, Try.ntmps26
  go_wp2_with (at_builtin; refine wpList_app rfl _ _ k32 rfl w.heap.size 0 n none oa 0 c f f rfl rfl (Own.nil _ _ _ _ _) H.out (by omega) (Nat.le_refl _) ?_)
  intro oa' c' w1 hown hgr hbl
  have HO := hid hown
  clear hown
  go_wp2_with fail
  go_ret
  have h1 := HO.out
  have h2 : Own w.heap.size w1 .u32 60 oa' n c' f := h1.congr fun j hj => by rw [cat_right (Nat.zero_le _)]; rfl
  exact ⟨_, _, rfl, h2.sl, h2.nw, hbl⟩

set_option maxHeartbeats 400000 in
theorem cut_any (oa : Option Addr) (n c : Nat) (f : Nat → Nat) (w : World) (h : Sl w .u64 oa n c f) (hf : ∀ j, j < n → f j < 4294967296) :
    Calls Try.prog 71 #[.slice oa n c] w fun e w' => e = .returned (.slice oa (nd (val f n)) c) ∧ w = w' := by
  have hnd := nd_val_le hf
  obtain ⟨i0, hi, hz0, hz1, hz2⟩ := k64.hi
  have hsl := run_upto (P := Try.prog) 70 36 i0 Try.underlying70 hi oa n c (nd (val f n)) (Nat.le_trans hnd h.len_le)
  obtain ⟨hnc, hm, _, hc⟩ := h
  unfold maxLen at hm
  go_enter Try.func71, Try.ntmps71
  go_wp2
  go_loop [3] (fun i => ∃ k : Nat, k ≤ n ∧ i = .int .i64 k ∧ val f n = val f k) (fun i => (intOf i).toNat)
  case atStart => exact ⟨n, Nat.le_refl _, rfl, rfl⟩
  case round =>
    obtain ⟨k, hk, rfl, he⟩ := hrel
    rcases k with _ | k
    · have h0 : nd (val f n) = 0 := by rw [he, val_zero, nd_zero]
      rw [h0] at hsl
      have HE := hid h0
      clear he hc hf h0
      have hd : decide (0 < ((0:Nat):Int)) = false := by simp
      go_wp2
      go_ret
      exact ⟨by rw [HE.out]; rfl, rfl⟩
    · obtain ⟨b, off, rfl, hlt, hc⟩ := hc (by omega)
      have hx := hc k (by omega)
      by_cases h0 : f k = 0
      · have h1 : ((((f k : Nat)) : Int) == 0) = true := by simp [h0]
        have HE : Hid (val f n = val f k) := by show val f n = val f k; rw [he, val_succ, h0]; simp
        clear h0 he hf hc
        go_wp2
        go_round
        case rel => exact ⟨k, by omega, by go_num, HE⟩
        case measure => simp [intOf]
      · have h1 : ((((f k : Nat)) : Int) == 0) = false := by simp [h0]
        have h2 : nd (val f n) = k + 1 := by rw [he]; exact nd_val (fun j hj => hf j (by omega)) h0
        rw [h2] at hsl
        have HE := hid h2
        have hsl2 : ∀ w : World, (Instr.slice 70 (.slice (some ⟨b, off, none⟩) n c) none (some (.int .i64 ((k : Int) + 1))) none).run Try.prog w = .ok (.slice (some ⟨b, off, none⟩) (k + 1) c) w := fun w => hsl w
        clear h0 he hf hc h2 hsl
        go_wp2
        go_ret
        exact ⟨by rw [HE.out]; rfl, rfl⟩
end Go.Proofs.Ytfknjfmgpfhjiaa
