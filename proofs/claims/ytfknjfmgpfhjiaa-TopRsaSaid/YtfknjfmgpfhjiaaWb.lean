/-
  The walks of the reference's digits and numbers: a number's digits as a row of another kind, and back; two rows held against each other limb by limb.
-/
import Derived.Test.YtfknjfmgpfhjiaaWa
namespace Go.Proofs.Ytfknjfmgpfhjiaa
open Go.RowKit

set_option maxHeartbeats 400000 in
theorem digits_any (oa : Option Addr) (n c : Nat) (f : Nat → Nat) (w : World) (h : Sl w .u32 oa n c f) (hf : ∀ j, j < n → f j < 4294967296) (hb : n ≤ 1000000) :
    Calls Try.prog 62 #[.slice oa n c] w fun e w' => ∃ v, e = .returned v ∧ Num .u64 w.heap.size w' v (val f n) ∧ Below w.heap.size w w' := by
  have H := hid h
  have HF := hid hf
  clear h hf
  go_enter Try.func62, Try.ntmps62
  go_wp2
  go_loopw [3, 4] (fun v i wr => ∃ (j : Nat) (oa' : Option Addr) (cs : Nat), j ≤ n ∧ i = .int .i64 j ∧ v = .slice oa' j cs ∧ Own w.heap.size wr .u64 36 oa' j cs f ∧ Below w.heap.size w wr) (fun _ i _ => n - (intOf i).toNat)
  case atStart => exact ⟨0, none, 0, Nat.zero_le _, rfl, rfl, Own.nil _ _ _ _ _, Below.refl _ _⟩
  case round =>
    obtain ⟨j, oa', cs, hj, rfl, rfl, hown, hbl⟩ := hrel
    by_cases hlt : j < n
    · obtain ⟨b, off, rfl, hbs, hc⟩ := H.out.at_ (by omega)
      have hx : wr.cell? ⟨b, off + j, none⟩ = some (.int .u32 (f j : Nat)) := by rw [hbl.cell (p := ⟨b, off + j, none⟩) hbs]; exact hc j hlt
      have hfj := HF.out j hlt
      have HO := hid hown
      have HB := hid hbl
      clear hc hown hbl
      have hsz := HB.out.size
      go_wp2_with (at_builtin; refine wpList_app1 (w0 := wr) (v := f j) rfl _ _ k64 rfl w.heap.size j oa' cs f rfl rfl HO.out (by omega) hsz ?_)
      intro oa2 c2 w2 h1 h2 h3
      have H1 := hid h1
      clear h1
      go_wp2
      go_roundw
      case rel => exact ⟨j + 1, oa2, c2, by omega, by go_num, rfl, H1.out.congr fun i hi => by
                    by_cases e : i = j
                    · subst e; exact upd_same _ _ _
                    · exact upd_other _ _ e, HB.out.trans h3⟩
      case measure => simp [intOf]; omega
    · obtain rfl : j = n := by omega
      have HO := hid hown
      have HB := hid hbl
      clear hown hbl
      go_wp2_with fail
      refine (cut_any oa' j cs f wr HO.out.sl HF.out).mono ?_
      rintro e w' ⟨rfl, rfl⟩
      go_wp2_with fail
      go_ret
      refine ⟨_, rfl, ⟨oa', cs, rfl, (HO.out.sl.take (nd_val_le HF.out)).congr fun i hi => ?_, HO.out.nw⟩, HB.out⟩
      exact (dg_val HF.out i (Nat.lt_of_lt_of_le hi (nd_val_le HF.out))).symm
set_option maxHeartbeats 400000 in
theorem number_any (oa : Option Addr) (n c : Nat) (f : Nat → Nat) (w : World) (h : Sl w .u64 oa n c f) (hf : ∀ j, j < n → f j < 4294967296) (hb : n ≤ 1000000) :
    Calls Try.prog 64 #[.slice oa n c] w fun e w' => ∃ v, e = .returned v ∧ Num .u32 w.heap.size w' v (val f n) ∧ Below w.heap.size w w' := by
  have H := hid h
  have HF := hid hf
  have hnd := nd_val_le hf
  clear h hf
  generalize hN : val f n = N at *
  have HN := hid hN
  clear hN
  generalize hm : nd N = m at *
  have HM := hid hm
  clear hm
  go_enter Try.func64, Try.ntmps64
  go_wp2_with fail
  refine (cut_any oa n c f w H.out HF.out).mono ?_
  rintro e w' ⟨rfl, rfl⟩
  rw [HN.out, HM.out]
  go_wp2_with fail
  go_loopw [3, 4] (fun v i wr => ∃ (j : Nat) (oa' : Option Addr) (cs : Nat), j ≤ m ∧ i = .int .i64 j ∧ v = .slice oa' j cs ∧ Own w.heap.size wr .u32 60 oa' j cs f ∧ Below w.heap.size w wr) (fun _ i _ => m - (intOf i).toNat)
  case atStart => exact ⟨0, none, 0, Nat.zero_le _, rfl, rfl, Own.nil _ _ _ _ _, Below.refl _ _⟩
  case round =>
    obtain ⟨j, oa', cs, hj, rfl, rfl, hown, hbl⟩ := hrel
    by_cases hlt : j < m
    · obtain ⟨b, off, rfl, hbs, hc⟩ := H.out.at_ (by omega)
      have hx : wr.cell? ⟨b, off + j, none⟩ = some (.int .u64 (f j : Nat)) := by rw [hbl.cell (p := ⟨b, off + j, none⟩) hbs]; exact hc j (by omega)
      have hfj := HF.out j (by omega)
      have HO := hid hown
      have HB := hid hbl
      clear hc hown hbl
      have hsz := HB.out.size
      go_wp2_with (at_builtin; refine wpList_app1 (w0 := wr) (v := f j) rfl _ _ k32 rfl w.heap.size j oa' cs f rfl rfl HO.out (by omega) hsz ?_)
      intro oa2 c2 w2 h1 h2 h3
      have H1 := hid h1
      clear h1
      go_wp2
      go_roundw
      case rel => exact ⟨j + 1, oa2, c2, by omega, by go_num, rfl, H1.out.congr fun i hi => by
                    by_cases e : i = j
                    · subst e; exact upd_same _ _ _
                    · exact upd_other _ _ e, HB.out.trans h3⟩
      case measure => simp [intOf]; omega
    · obtain rfl : j = m := by omega
      have HO := hid hown
      have HB := hid hbl
      clear hown hbl
      go_wp2_with fail
      go_ret
      refine ⟨_, rfl, HO.out.num HM.out.symm (fun i hi => ?_), HB.out⟩
      rw [← HN.out]
      exact (dg_val HF.out i (by omega)).symm

set_option maxHeartbeats 400000 in
theorem same_true (oa ob : Option Addr) (n ca cb : Nat) (f g : Nat → Nat) (w : World) (ha : Sl w .u32 oa n ca f) (hb : Sl w .u32 ob n cb g) (hfg : ∀ j, j < n → f j = g j) :
    Calls Try.prog 22 #[.slice oa n ca, .slice ob n cb] w fun e w' => e = .returned (.bool true) ∧ ∃ d, w' = w.drewN d := by
  obtain ⟨hnc, hm, _, hc⟩ := ha
  obtain ⟨hnd, hm', _, hd⟩ := hb
  unfold maxLen at hm hm'
  have hn1 : ((n : Int) != (n : Int)) = false := by simp
  go_enter Try.func22, Try.ntmps22
  go_wp2
  go_loopw [5] (fun i wr => ∃ (j d : Nat), j ≤ n ∧ i = .int .i64 j ∧ wr = w.drewN d) (fun i _ => n - (intOf i).toNat)
  case atStart => exact ⟨0, 0, Nat.zero_le _, rfl, rfl⟩
  case round =>
    obtain ⟨j, d, hj, rfl, rfl⟩ := hrel
    by_cases hlt : j < n
    · obtain ⟨b, off, rfl, hbs, hc⟩ := hc (by omega)
      obtain ⟨b', off', rfl, hbs', hd⟩ := hd (by omega)
      have hx := hc j hlt
      have hy := hd j hlt
      have he : (((f j : Nat) : Int) != ((g j : Nat) : Int)) = false := by simp [hfg j hlt]
      clear hc hd hfg
      go_wp2
      go_quiet (fail)
      go_wp2
      go_roundw
      case rel => exact ⟨j + 1, _, by omega, by go_num, rfl⟩
      case measure => simp [intOf]; omega
    · obtain rfl : j = n := by omega
      go_wp2
      go_ret
      exact ⟨rfl, _, rfl⟩
end Go.Proofs.Ytfknjfmgpfhjiaa
