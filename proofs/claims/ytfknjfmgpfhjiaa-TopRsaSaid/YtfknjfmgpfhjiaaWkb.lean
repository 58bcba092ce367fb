/-
  The walk of the reference's exponent.
-/
import Derived.Test.YtfknjfmgpfhjiaaWka
import Derived.Deep.RegionWith
import Derived.Handy
namespace Go.Proofs.Ytfknjfmgpfhjiaa
open Go.RowKit Keys

theorem dl_lt {r : Nat} (hr : r < 12) : ∀ j, j < (dl r).length → df r j < 4294967296 := by
  have h := fits r hr
  unfold fit at h
  simp only [Bool.and_eq_true, decide_eq_true_eq, List.all_eq_true] at h
  intro j hj
  have h2 := h.1.2 ((dl r)[j]) (List.getElem_mem hj)
  unfold df
  rw [List.getD_eq_getElem?_getD, List.getElem?_eq_getElem hj]
  exact h2

theorem dl_len {r : Nat} (hr : r < 12) : (dl r).length ≤ 25 := by
  have h := fits r hr
  unfold fit at h
  simp only [Bool.and_eq_true, decide_eq_true_eq, List.all_eq_true] at h
  exact h.1.1.2

/-- A new block may be written. -/
theorem nw_new (w : World) (cs : Array Value) (t : TypeId) : Nw w.heap.size (w.alloc (.cells cs t)) (some ⟨w.heap.size, 0, none⟩) := by
  intro a ha
  cases ha
  exact ⟨Nat.le_refl _, by simp, fun o => World.frozen?_alloc_at _ _ _ _ rfl⟩

set_option maxRecDepth 100000 in
set_option maxHeartbeats 3200000 in
/-- The private exponents. -/
theorem exponent_ref (i : Nat) (hi : i < 12) (w : World) : Calls Try.prog 54 #[.int .i64 (i : Nat)] w fun e w' => ∃ oa c, e = .returned (.slice oa (dl i).length c) ∧ Sl w' .u32 oa (dl i).length c (df i) ∧ Nw w.heap.size w' oa ∧ Below w.heap.size w w' := by
  match i, hi with
  | 0, _ =>
    go_enter Try.func54, Try.ntmps54
    go_wp2_with fail
    go_ret
    exact ⟨_, _, rfl, sl_lits w (dl 0) (by decide), nw_new w _ _, (Below.refl _ _).alloc (Nat.le_refl _) _⟩
  | 1, _ =>
    go_enter Try.func54, Try.ntmps54
    go_wp2_with fail
    go_ret
    exact ⟨_, _, rfl, sl_lits w (dl 1) (by decide), nw_new w _ _, (Below.refl _ _).alloc (Nat.le_refl _) _⟩
  | 2, _ =>
    go_enter Try.func54, Try.ntmps54
    go_wp2_with fail
    go_ret
    exact ⟨_, _, rfl, sl_lits w (dl 2) (by decide), nw_new w _ _, (Below.refl _ _).alloc (Nat.le_refl _) _⟩
  | 3, _ =>
    go_enter Try.func54, Try.ntmps54
    go_wp2_with fail
    go_ret
    exact ⟨_, _, rfl, sl_lits w (dl 3) (by decide), nw_new w _ _, (Below.refl _ _).alloc (Nat.le_refl _) _⟩
  | 4, _ =>
    go_enter Try.func54, Try.ntmps54
    go_wp2_with fail
    go_ret
    exact ⟨_, _, rfl, sl_lits w (dl 4) (by decide), nw_new w _ _, (Below.refl _ _).alloc (Nat.le_refl _) _⟩
  | 5, _ =>
    go_enter Try.func54, Try.ntmps54
    go_wp2_with fail
    go_ret
    exact ⟨_, _, rfl, sl_lits w (dl 5) (by decide), nw_new w _ _, (Below.refl _ _).alloc (Nat.le_refl _) _⟩
  | 6, _ =>
    go_enter Try.func54, Try.ntmps54
    go_wp2_with fail
    go_ret
    exact ⟨_, _, rfl, sl_lits w (dl 6) (by decide), nw_new w _ _, (Below.refl _ _).alloc (Nat.le_refl _) _⟩
  | 7, _ =>
    go_enter Try.func54, Try.ntmps54
    go_wp2_with fail
    go_ret
    exact ⟨_, _, rfl, sl_lits w (dl 7) (by decide), nw_new w _ _, (Below.refl _ _).alloc (Nat.le_refl _) _⟩
  | 8, _ =>
    go_enter Try.func54, Try.ntmps54
    go_wp2_with fail
    go_ret
    exact ⟨_, _, rfl, sl_lits w (dl 8) (by decide), nw_new w _ _, (Below.refl _ _).alloc (Nat.le_refl _) _⟩
  | 9, _ =>
    go_enter Try.func54, Try.ntmps54
    go_wp2_with fail
    go_ret
    exact ⟨_, _, rfl, sl_lits w (dl 9) (by decide), nw_new w _ _, (Below.refl _ _).alloc (Nat.le_refl _) _⟩
  | 10, _ =>
    go_enter Try.func54, Try.ntmps54
    go_wp2_with fail
    go_ret
    exact ⟨_, _, rfl, sl_lits w (dl 10) (by decide), nw_new w _ _, (Below.refl _ _).alloc (Nat.le_refl _) _⟩
  | 11, _ =>
    go_enter Try.func54, Try.ntmps54
    go_wp2_with fail
    go_ret
    exact ⟨_, _, rfl, sl_lits w (dl 11) (by decide), nw_new w _ _, (Below.refl _ _).alloc (Nat.le_refl _) _⟩
  | _ + 12, h => exact absurd h (by omega)

end Go.Proofs.Ytfknjfmgpfhjiaa
