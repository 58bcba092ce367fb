/-
  The walk of nat.Mul.
-/
import Derived.Test.YtfknjfmgpfhjiaaWh
namespace Go.Proofs.Ytfknjfmgpfhjiaa
open Go.RowKit

set_option maxHeartbeats 1600000 in
theorem nmul_any (oa ob : Option Addr) (n m ca cb : Nat) (f g : Nat → Nat) (w : World) (ha : Sl w .u32 oa n ca f) (hb : Sl w .u32 ob m cb g) (hf : ∀ j, j < n → f j < 4294967296) (hg : ∀ j, j < m → g j < 4294967296) (hn : n ≤ 100000) (hm : m ≤ 100000) :
    Calls Try.prog 32 #[.slice oa n ca, .slice ob m cb] w fun e w' => ∃ v, e = .returned v ∧ Num .u32 w.heap.size w' v (val f n * val g m) ∧ Below w.heap.size w w' := by
  have hX := nd_val_le hf
  have hY := nd_val_le hg
  have HSA := hid fun d => size_q oa n ca f w d ha hf
  have HSB := hid fun d => size_q ob m cb g w d hb hg
  obtain ⟨i0, hi, hz0, hz1, hz2⟩ := k32.hi
  have hsl := run_upto (P := Try.prog) 23 60 i0 Try.underlying23 hi oa n ca (nd (val f n)) (Nat.le_trans hX ha.len_le)
  have hsl2 := run_upto (P := Try.prog) 23 60 i0 Try.underlying23 hi ob m cb (nd (val g m)) (Nat.le_trans hY hb.len_le)
  have HA := hid ((ha.take hX).congr fun j hj => (dg_val hf j (by omega)).symm)
  have HB := hid ((hb.take hY).congr fun j hj => (dg_val hg j (by omega)).symm)
  have hlx := val_dg_nd (val f n)
  have hly := val_dg_nd (val g m)
  clear ha hb hf hg
  generalize val f n = X at *
  generalize val g m = Y at *
  have HLX := hid hlx
  have HLY := hid hly
  clear hlx hly
  generalize hp : nd X = p at *
  generalize hq : nd Y = q at *
  have HP := hid hp
  have HQ := hid hq
  clear hp hq
  go_enter Try.func32, Try.ntmps32
  go_wp2_with fail
  go_quiet ((go_at_call 55; first | (with_reducible exact Calls.quiet_of_same (HSA.out _)) | (with_reducible exact Calls.quiet_of_same (HSB.out _))))
  go_wp2_with (at_make; refine wpList_mk rfl _ _ k32 rfl .i64 .i64 _ _ (p + q) rfl rfl (by omega) (by omega) (by omega) ?_)
  intro w1 hown hbl hz
  have HO : Hid (Own w.heap.size w1 .u32 60 (some ⟨w.heap.size, 0, none⟩) (p + q) (p + q) (fun _ => 0)) := hown
  have HB1 : Hid (Below w.heap.size w w1) := (below_drewN _ _ _).trans hbl
  clear hown hbl
  go_wp2_with fail
  go_loopw [27] (fun i wr => ∃ (j : Nat) (h : Nat → Nat), j ≤ p ∧ i = .int .i64 j ∧ Own w.heap.size wr .u32 60 (some ⟨w.heap.size, 0, none⟩) (p + q) (p + q) h ∧ Outr (dg X) (dg Y) h j q ∧ Below w.heap.size w wr) (fun i _ => p - (intOf i).toNat)
  case atStart => exact ⟨0, _, Nat.zero_le _, rfl, HO.out, Outr.start _ _ q, HB1.out⟩
  case round =>
    obtain ⟨j, h0, hj, rfl, hown, hout, hbl⟩ := hrel
    have HO2 := hid hown
    have HR := hid hout
    have HL := hid hbl
    have hz2 := hbl.size
    by_cases hlt : j < p
    · obtain ⟨b, off, hoa, hb, hcx⟩ := HA.out.at_ (by omega)
      subst hoa
      have hx : wr.cell? ⟨b, off + j, none⟩ = some (.int .u32 (dg X j : Nat)) := by
        rw [hbl.cell (p := ⟨b, off + j, none⟩) hb]; exact hcx j hlt
      clear hown hbl hout hcx
      obtain ⟨wo, rfl⟩ : ∃ wo : World, wo = wr := ⟨_, rfl⟩
      go_wp2_with fail
      go_loopw [8, 34] (fun cr i wr => ∃ (k c : Nat) (h : Nat → Nat), k ≤ q ∧ i = .int .i64 k ∧ cr = .int .u64 (c : Nat) ∧ Own w.heap.size wr .u32 60 (some ⟨w.heap.size, 0, none⟩) (p + q) (p + q) h ∧ Inn (dg X) (dg Y) h0 h j k c ∧ Below w.heap.size w wr) (fun _ i _ => q - (intOf i).toNat)
      case atStart => exact ⟨0, 0, h0, Nat.zero_le _, rfl, rfl, HO2.out, HR.out.inn, HL.out⟩
      case round =>
        obtain ⟨k, c, h, hk, rfl, rfl, hown, hinn, hbl⟩ := hrel
        have HO3 := hid hown
        have HI := hid hinn
        have HL2 := hid hbl
        have hz3 := hbl.size
        obtain ⟨g0, hg0, _, hz3, hcell, hfr⟩ := hown.at_ (by omega)
        cases hg0
        have hcj := hcell (j + k)
        have hfrj := hfr (j + k)
        have hl1 := hinn.lt (j + k)
        have hl2 := hinn.clt
        by_cases hlt2 : k < q
        · have hcj := hcj (by omega)
          obtain ⟨b', off', hob, hb', hcy⟩ := HB.out.at_ (by omega)
          subst hob
          have hy : wr.cell? ⟨b', off' + k, none⟩ = some (.int .u32 (dg Y k : Nat)) := by
            rw [hbl.cell (p := ⟨b', off' + k, none⟩) hb']; exact hcy k hlt2
          have hmb := mul_bound (dg_lt X j) (dg_lt Y k)
          have hmb2 : ((dg X j : Nat) : Int) * ((dg Y k : Nat) : Int) ≤ 18446744065119617025 := by rw [← Int.natCast_mul]; omega
          have hmb3 : 0 ≤ ((dg X j : Nat) : Int) * ((dg Y k : Nat) : Int) := Int.mul_nonneg (Int.natCast_nonneg _) (Int.natCast_nonneg _)
          have HS := hid (hinn.step (dg_lt X j) (dg_lt Y k))
          have hld1 := dg_lt X j
          have hld2 := dg_lt Y k
          clear hown hinn hbl hcell hfr hcy hmb
          go_wp2_with fail
          have hr : ((c : Int) + (((dg X j : Nat) : Int) * ((dg Y k : Nat) : Int) + ((h (j + k) : Nat) : Int))) % 4294967296 = (((c + h (j + k) + dg X j * dg Y k) % 4294967296 : Nat) : Int) := by omega
          have hq : ((c : Int) + (((dg X j : Nat) : Int) * ((dg Y k : Nat) : Int) + ((h (j + k) : Nat) : Int))) / 4294967296 = (((c + h (j + k) + dg X j * dg Y k) / 4294967296 : Nat) : Int) := by omega
          rw [hr, hq]
          go_roundw
          case rel => exact ⟨k + 1, _, _, by omega, by go_num, rfl, HO3.out.stored _ _, HS.out, HL2.out.setCell (Nat.le_refl _) _⟩
          case measure => simp [intOf]; omega
        · obtain rfl : k = q := by omega
          have hcj := hcj (by omega)
          clear hown hinn hbl hcell hfr
          go_wp2
          go_roundw
          case rel => exact ⟨j + 1, _, by omega, by go_num, HO3.out.stored _ _, HI.out.done HR.out, HL2.out.setCell (Nat.le_refl _) _⟩
          case measure => simp [intOf]; omega
    · obtain rfl : j = p := by omega
      clear hown hbl hout
      have hv : val h0 (j + q) = X * Y := by
        rw [HR.out.end_ (Nat.le_refl _)]
        have h1 := HLX.out
        have h2 := HLY.out
        rw [h1, h2]
      have HV := hid hv
      clear hv
      go_wp2_with fail
      refine (trim_any _ _ _ h0 wr HO2.out.sl (fun t _ => HR.out.lt t) (by omega)).mono ?_
      rintro e w3 ⟨v3, rfl, hv3, hb3⟩
      rw [HV.out] at hv3
      have HV3 := hid hv3
      have HB3 := hid hb3
      clear hv3 hb3
      go_wp2_with fail
      go_ret
      exact ⟨_, rfl, HV3.out.mono hz2, HL.out.trans (HB3.out.mono hz2)⟩

end Go.Proofs.Ytfknjfmgpfhjiaa
