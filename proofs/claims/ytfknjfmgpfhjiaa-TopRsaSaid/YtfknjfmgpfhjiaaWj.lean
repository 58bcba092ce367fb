/-
  The walk of the reference's division by one digit.
-/
import Derived.Test.YtfknjfmgpfhjiaaWi
namespace Go.Proofs.Ytfknjfmgpfhjiaa
open Go.RowKit

/-- One digit more of a row that is filled from its high end. -/
theorem Own.filled_down {B : Nat} {w : World} {k : IntKind} {e : TypeId} {gb n c j : Nat} {D : Nat → Nat} (h : Own B w k e (some ⟨gb, 0, none⟩) n c (fun t => if j + 1 ≤ t then D t else 0)) :
    Own B (w.setCell ⟨gb, j, none⟩ (.int k (D j : Nat))) k e (some ⟨gb, 0, none⟩) n c (fun t => if j ≤ t then D t else 0) := by
  refine (h.stored j (D j)).congr fun t _ => ?_
  by_cases e : t = j
  · subst e; rw [upd_same, if_pos (Nat.le_refl _)]
  · rw [upd_other _ _ e]
    by_cases h2 : j ≤ t
    · rw [if_pos h2, if_pos (by omega)]
    · rw [if_neg h2, if_neg (by omega)]

set_option maxHeartbeats 1600000 in
theorem shortly_any (oa : Option Addr) (n ca y : Nat) (f : Nat → Nat) (w : World) (ha : Sl w .u64 oa n ca f) (hf : ∀ j, j < n → f j < 4294967296) (hn : n ≤ 1000000) (hy : 0 < y) (hy' : y < 4294967296) :
    Calls Try.prog 72 #[.slice oa n ca, .int .u64 y] w fun e w' => ∃ v, e = .returned (.tuple #[v, .int .u64 ((val f n % y : Nat) : Nat)]) ∧ Num .u64 w.heap.size w' v (val f n / y) ∧ Below w.heap.size w w' := by
  have hXl := val_lt hf
  have HX : Hid (∀ j, dg (val f n) j = if j < n then f j else 0) := dg_val_any hf
  have HA := hid ha
  clear ha hf
  generalize val f n = X at *
  have HXL := hid hXl
  clear hXl
  go_enter Try.func72, Try.ntmps72
  go_wp2_with (at_make; refine wpList_mk rfl _ _ k64 rfl .i64 .i64 _ _ n rfl rfl (by omega) (by omega) (by omega) ?_)
  intro w1 hown hbl hz
  have HO := hid hown
  have HB1 := hid hbl
  clear hown hbl
  go_wp2_with fail
  go_loopw [7, 8] (fun r i wr => ∃ (j : Nat), j ≤ n ∧ i = .int .i64 ((j : Int) - 1) ∧ r = .int .u64 ((X / W j % y : Nat) : Nat) ∧ Own w.heap.size wr .u64 36 (some ⟨w.heap.size, 0, none⟩) n n (fun t => if j ≤ t then dg (X / y) t else 0) ∧ Below w.heap.size w wr) (fun _ i _ => (intOf i + 1).toNat)
  case atStart => exact ⟨n, Nat.le_refl _, rfl, by rw [Nat.div_eq_of_lt HXL.out, Nat.zero_mod]; rfl, HO.out.congr (fun t ht => by rw [if_neg (by omega)]), HB1.out⟩
  case round =>
    obtain ⟨j, hj, rfl, rfl, hown, hbl⟩ := hrel
    have HO2 := hid hown
    have HL := hid hbl
    have hz2 := hbl.size
    rcases j with _ | j
    · clear hown hbl
      have hv : val (fun t => if 0 ≤ t then dg (X / y) t else 0) n = X / y := by
        refine Eq.trans (val_congr fun t _ => by simp) (val_dg_of_lt (Nat.lt_of_le_of_lt (Nat.div_le_self X y) HXL.out))
      have hnd : nd (X / y) ≤ n := nd_le.2 (Nat.lt_of_le_of_lt (Nat.div_le_self X y) HXL.out)
      have HV := hid hv
      clear hv
      go_wp2_with fail
      refine (cut_any _ n n _ wr HO2.out.sl (fun t _ => by show (if _ then _ else _) < _; split; exact dg_lt _ _; omega)).mono ?_
      rintro e w' ⟨rfl, rfl⟩
      rw [HV.out, W_zero, Nat.div_one]
      go_wp2_with fail
      go_ret2
      exact ⟨_, rfl, ⟨_, _, rfl, (HO2.out.sl.take hnd).congr (fun t ht => by simp), HO2.out.nw⟩, HL.out⟩
    · obtain ⟨g0, hg0, _, hz3, hcell, hfr⟩ := hown.at_ (by omega)
      cases hg0
      have hcj := hcell j (by omega)
      have hfrj := hfr j
      have hx : ∃ b off, oa = some ⟨b, off, none⟩ ∧ wr.cell? ⟨b, off + j, none⟩ = some (.int .u64 (dg X j : Nat)) := by
        obtain ⟨b, off, e, hb, hc⟩ := HA.out.at_ (by omega)
        refine ⟨b, off, e, ?_⟩
        rw [HL.out.cell (p := ⟨b, off + j, none⟩) hb, hc j (by omega), HX.out j, if_pos (by omega)]
      obtain ⟨b, off, rfl, hx⟩ := hx
      clear hown hbl hcell hfr
      obtain ⟨r, hr⟩ : ∃ r, r = X / W (j + 1) % y := ⟨_, rfl⟩
      have hrl : r < y := by rw [hr]; exact Nat.mod_lt _ hy
      have hd := div_digit (x := dg X j) hy hr rfl
      have HD1 := hid hd.1
      have HD2 := hid hd.2
      rw [← hr]
      have hl1 := dg_lt X j
      have HR := hid hr
      clear hd hr
      rw [show (((j + 1 : Nat) : Int) - 1) = (j : Int) from by omega]
      have hb1 : (r : Int) * 4294967296 + ((dg X j : Nat) : Int) < 18446744073709551616 := by omega
      have hq : ((r : Int) * 4294967296 + ((dg X j : Nat) : Int)) / (y : Int) = ((dg (X / y) j : Nat) : Int) := by
        rw [HD1.out]; simp
      have hm : ((r : Int) * 4294967296 + ((dg X j : Nat) : Int)) % (y : Int) = ((X / W j % y : Nat) : Int) := by
        rw [HD2.out]; simp
      have HQ := hid hq
      have HM := hid hm
      clear hq hm hb1
      go_wp2_with fail
      rw [HQ.out, HM.out]
      go_roundw
      case rel => exact ⟨j, by omega, by go_num, rfl, HO2.out.filled_down, HL.out.setCell (Nat.le_refl _) _⟩
      case measure => simp [intOf]

end Go.Proofs.Ytfknjfmgpfhjiaa
