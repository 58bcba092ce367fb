/-
  The walk of the reference's products.
-/
import Derived.Test.YtfknjfmgpfhjiaaWg
import Derived.Test.YtfknjfmgpfhjiaaMathc
namespace Go.Proofs.Ytfknjfmgpfhjiaa
open Go.RowKit

theorem Own.drewN {B : Nat} {w : World} {k : IntKind} {e : TypeId} {oa : Option Addr} {n c : Nat} {f : Nat → Nat} (h : Own B w k e oa n c f) (d : Nat) : Own B (w.drewN d) k e oa n c f := h

set_option maxHeartbeats 1600000 in
theorem times_any (oa ob : Option Addr) (n m ca cb : Nat) (f g : Nat → Nat) (w : World) (ha : Sl w .u64 oa n ca f) (hb : Sl w .u64 ob m cb g) (hf : ∀ j, j < n → f j < 4294967296) (hg : ∀ j, j < m → g j < 4294967296) (hn : n ≤ 100000) (hm : m ≤ 100000) :
    Calls Try.prog 68 #[.slice oa n ca, .slice ob m cb] w fun e w' => ∃ v, e = .returned v ∧ Num .u64 w.heap.size w' v (val f n * val g m) ∧ Below w.heap.size w w' := by
  have HA := hid ha
  have HB := hid hb
  have HF := hid hf
  have HG := hid hg
  clear ha hb hf hg
  go_enter Try.func68, Try.ntmps68
  go_wp2_with (at_make; refine wpList_mk rfl _ _ k64 rfl .i64 .i64 _ _ (n + m + 1) rfl rfl (by omega) (by omega) (by omega) ?_)
  intro w1 hown hbl hz
  have HO := hid hown
  have HB1 := hid hbl
  clear hown hbl
  go_wp2_with fail
  go_loopw [6] (fun i wr => ∃ (j : Nat) (h : Nat → Nat), j ≤ n ∧ i = .int .i64 j ∧ Own w.heap.size wr .u64 36 (some ⟨w.heap.size, 0, none⟩) (n + m + 1) (n + m + 1) h ∧ Outr f g h j m ∧ Below w.heap.size w wr) (fun i _ => n - (intOf i).toNat)
  case atStart => exact ⟨0, _, Nat.zero_le _, rfl, HO.out, Outr.start f g m, HB1.out⟩
  case round =>
    obtain ⟨j, h0, hj, rfl, hown, hout, hbl⟩ := hrel
    have HO2 := hid hown
    have HR := hid hout
    have HL := hid hbl
    clear hown hbl hout
    by_cases hlt : j < n
    · obtain ⟨b, off, hoa, hb, hcx⟩ := HA.out.at_ (by omega)
      subst hoa
      have hcj := hcx j hlt
      have HX : Hid (w.cell? ⟨b, off + j, none⟩ = some (.int .u64 (f j : Nat))) := hcj
      clear hcx hcj
      obtain ⟨wo, rfl⟩ : ∃ wo : World, wo = wr := ⟨_, rfl⟩
      go_wp2_with fail
      go_loopw [7, 8] (fun cr i wr => ∃ (k c : Nat) (h : Nat → Nat), k ≤ m ∧ i = .int .i64 k ∧ cr = .int .u64 (c : Nat) ∧ Own w.heap.size wr .u64 36 (some ⟨w.heap.size, 0, none⟩) (n + m + 1) (n + m + 1) h ∧ Inn f g h0 h j k c ∧ Below w.heap.size w wr) (fun _ i _ => m - (intOf i).toNat)
      case atStart => exact ⟨0, 0, h0, Nat.zero_le _, rfl, rfl, HO2.out, HR.out.inn, HL.out⟩
      case round =>
        obtain ⟨k, c, h, hk, rfl, rfl, hown, hinn, hbl⟩ := hrel
        have HO3 := hid hown
        have HI := hid hinn
        have HL2 := hid hbl
        have hz3 := hbl.size
        by_cases hlt2 : k < m
        · obtain ⟨g0, hg0, _, hz3, hcell, hfr⟩ := hown.at_ (by omega)
          cases hg0
          have hcj := hcell (j + k) (by omega)
          have hfrj := hfr (j + k)
          obtain ⟨b', off', hob, hb', hcy⟩ := HB.out.at_ (by omega)
          subst hob
          have hy : wr.cell? ⟨b', off' + k, none⟩ = some (.int .u64 (g k : Nat)) := by
            rw [hbl.cell (p := ⟨b', off' + k, none⟩) hb']; exact hcy k hlt2
          have hx : wr.cell? ⟨b, off + j, none⟩ = some (.int .u64 (f j : Nat)) := by
            rw [hbl.cell (p := ⟨b, off + j, none⟩) hb]; exact HX.out
          have hl1 := hinn.lt (j + k)
          have hl2 := hinn.clt
          have hmb := mul_bound (HF.out j hlt) (HG.out k hlt2)
          have hmb2 : ((f j : Nat) : Int) * ((g k : Nat) : Int) ≤ 18446744065119617025 := by rw [← Int.natCast_mul]; omega
          have hmb3 : 0 ≤ ((f j : Nat) : Int) * ((g k : Nat) : Int) := Int.mul_nonneg (Int.natCast_nonneg _) (Int.natCast_nonneg _)
          have HS := hid (hinn.step (HF.out j hlt) (HG.out k hlt2))
          clear hown hinn hbl hcell hfr hcy hmb
          go_wp2_with fail
          go_quiet (fail)
          go_wp2_with fail
          have hr : ((c : Int) + ((h (j + k) : Nat) : Int) + ((f j : Nat) : Int) * ((g k : Nat) : Int)) % 4294967296 = (((c + h (j + k) + f j * g k) % 4294967296 : Nat) : Int) := by omega
          have hq : ((c : Int) + ((h (j + k) : Nat) : Int) + ((f j : Nat) : Int) * ((g k : Nat) : Int)) / 4294967296 = (((c + h (j + k) + f j * g k) / 4294967296 : Nat) : Int) := by omega
          rw [hr, hq]
          go_roundw
          case rel => exact ⟨k + 1, _, _, by omega, by go_num, rfl, (HO3.out.drewN nq).stored _ _, HS.out, (HL2.out.trans (below_drewN _ _ _)).setCell (Nat.le_refl _) _⟩
          case measure => simp [intOf]; omega
        · obtain rfl : k = m := by omega
          obtain ⟨g0, hg0, _, hz3, hcell, hfr⟩ := hown.at_ (by omega)
          cases hg0
          have hcj := hcell (j + k) (by omega)
          have hfrj := hfr (j + k)
          clear hown hinn hbl hcell hfr
          go_wp2
          go_roundw
          case rel => exact ⟨j + 1, _, by omega, by go_num, HO3.out.stored _ _, HI.out.done HR.out, HL2.out.setCell (Nat.le_refl _) _⟩
          case measure => simp [intOf]; omega
    · obtain rfl : j = n := by omega
      go_wp2_with fail
      refine (cut_any _ _ _ h0 wr HO2.out.sl (fun t _ => HR.out.lt t)).mono ?_
      rintro e w' ⟨rfl, rfl⟩
      have hv := HR.out.end_ (L := j + m + 1) (by omega)
      have hnd : nd (val h0 (j + m + 1)) ≤ j + m + 1 := nd_val_le (fun t _ => HR.out.lt t)
      have hdg := fun t (ht : t < j + m + 1) => dg_val (f := h0) (n := j + m + 1) (fun t _ => HR.out.lt t) t ht
      rw [hv] at hnd hdg ⊢
      have HD := hid hdg
      clear hdg hv
      go_wp2_with fail
      go_ret
      exact ⟨_, rfl, ⟨_, _, rfl, (HO2.out.sl.take hnd).congr (fun t ht => (HD.out t (by omega)).symm), HO2.out.nw⟩, HL.out⟩

end Go.Proofs.Ytfknjfmgpfhjiaa
