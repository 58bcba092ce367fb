/-
  The walks of a row's digit, of comparing.
-/
import Derived.Test.YtfknjfmgpfhjiaaWb
namespace Go.Proofs.Ytfknjfmgpfhjiaa
open Go.RowKit

theorem ret_i64 {a b : Int} (h : a = b) : Ending.returned (.int .i64 a) = .returned (.int .i64 b) := by rw [h]

theorem ex_drewN_1 {w : World} : ∃ d, w = w.drewN d := ⟨0, rfl⟩
theorem ex_drewN_2 {w : World} {a : Nat} : ∃ d, w.drewN a = w.drewN d := ⟨a, rfl⟩
theorem ex_drewN_3 {w : World} {a b : Nat} : ∃ d, (w.drewN a).drewN b = w.drewN d := ⟨_, World.drewN_drewN _ _ _⟩
theorem ex_drewN_4 {w : World} {a b c : Nat} : ∃ d, ((w.drewN a).drewN b).drewN c = w.drewN d := by
  rw [World.drewN_drewN, World.drewN_drewN]
  exact ⟨_, rfl⟩

theorem below_drewN (B : Nat) (w : World) (d : Nat) : Below B w (w.drewN d) := ⟨rfl, rfl, rfl, Nat.le_refl _, fun _ _ => rfl⟩

theorem digit_in (b off n c i : Nat) (v : Nat) (w : World) (hi : i < n) (hc : w.cell? ⟨b, off + i, none⟩ = some (.int .u64 (v : Nat))) :
    Calls Try.prog 66 #[.slice (some ⟨b, off, none⟩) n c, .int .i64 i] w fun e w' => e = .returned (.int .u64 (v : Nat)) ∧ w = w' := by
  go_enter Try.func66, Try.ntmps66
  go_wp2
  go_ret
  exact ⟨rfl, rfl⟩

theorem digit_out (oa : Option Addr) (n c i : Nat) (w : World) (hi : n ≤ i) :
    Calls Try.prog 66 #[.slice oa n c, .int .i64 i] w fun e w' => e = .returned (.int .u64 0) ∧ w = w' := by
  go_enter Try.func66, Try.ntmps66
  go_wp2
  go_ret
  exact ⟨rfl, rfl⟩

/-- A digit of a row, or 0. -/
theorem digit_any (oa : Option Addr) (n c i : Nat) (f : Nat → Nat) (w : World) (h : Sl w .u64 oa n c f) :
    Calls Try.prog 66 #[.slice oa n c, .int .i64 i] w fun e w' => e = .returned (.int .u64 ((if i < n then f i else 0 : Nat) : Nat)) ∧ w = w' := by
  by_cases hlt : i < n
  · obtain ⟨b, off, rfl, hbs, hc⟩ := h.at_ (by omega)
    rw [if_pos hlt]
    exact digit_in b off n c i _ w hlt (hc i hlt)
  · rw [if_neg hlt]
    exact digit_out oa n c i w (by omega)

set_option maxHeartbeats 400000 in
/-- compare on rows of one length. -/
theorem compare_same (oa ob : Option Addr) (n ca cb : Nat) (f g : Nat → Nat) (w : World) (ha : Sl w .u64 oa n ca f) (hb : Sl w .u64 ob n cb g) (hf : ∀ j, j < n → f j < 4294967296) (hg : ∀ j, j < n → g j < 4294967296) :
    Calls Try.prog 63 #[.slice oa n ca, .slice ob n cb] w fun e w' => e = .returned (.int .i64 (cmp (val f n) (val g n))) ∧ ∃ d, w' = w.drewN d := by
  obtain ⟨hnc, hm, _, hc⟩ := ha
  obtain ⟨hnd, hm', _, hd⟩ := hb
  unfold maxLen at hm hm'
  have hn1 : ((n : Int) != (n : Int)) = false := by simp
  have HF := hid hf
  have HG := hid hg
  clear hf hg
  go_enter Try.func63, Try.ntmps63
  go_wp2
  go_loopw [5] (fun i wr => ∃ (j d : Nat), j ≤ n ∧ i = .int .i64 ((j : Int) - 1) ∧ wr = w.drewN d ∧ ∀ t, j ≤ t → t < n → f t = g t) (fun i _ => (intOf i + 1).toNat)
  case atStart => exact ⟨n, 0, Nat.le_refl _, rfl, rfl, fun t h1 h2 => by omega⟩
  case round =>
    obtain ⟨j, d, hj, rfl, rfl, hs⟩ := hrel
    rcases j with _ | j
    · have HV : Hid (cmp (val f n) (val g n) = 0) := cmp_eq (val_congr fun j hj => hs j (by omega) hj)
      clear hs hc hd
      go_wp2
      go_ret
      exact ⟨ret_i64 HV.out.symm, ex_drewN_2⟩
    · obtain ⟨b, off, rfl, hbs, hc⟩ := hc (by omega)
      obtain ⟨b', off', rfl, hbs', hd⟩ := hd (by omega)
      have hx := hc j hj
      have hy := hd j hj
      clear hc hd
      rw [show (((j + 1 : Nat) : Int) - 1) = (j : Int) from by omega]
      rcases Nat.lt_trichotomy (f j) (g j) with h | h | h
      · have HV : Hid (cmp (val f n) (val g n) = -1) := cmp_lt (val_lt_of_first hj HF.out hs h)
        clear hs
        go_wp2
        go_quiet (fail)
        go_wp2
        go_ret
        exact ⟨ret_i64 HV.out.symm, ex_drewN_3⟩
      · have HS : Hid (∀ t, j ≤ t → t < n → f t = g t) := fun t h1 h2 => by
          by_cases e : t = j
          · subst e; exact h
          · exact hs t (by omega) h2
        have h1 : ¬ (f j < g j) := by omega
        have h2 : ¬ (g j < f j) := by omega
        clear hs h
        go_wp2
        go_quiet (fail)
        go_wp2
        go_quiet (fail)
        go_wp2
        go_roundw
        case rel => exact ⟨j, _, by omega, by go_num, rfl, HS.out⟩
        case measure => simp [intOf]
      · have HV : Hid (cmp (val f n) (val g n) = 1) := cmp_gt (val_lt_of_first hj HG.out (fun t h1 h2 => (hs t h1 h2).symm) h)
        have h1 : ¬ (f j < g j) := by omega
        clear hs
        go_wp2
        go_quiet (fail)
        go_wp2
        go_quiet (fail)
        go_wp2
        go_ret
        exact ⟨ret_i64 HV.out.symm, ex_drewN_4⟩

set_option maxHeartbeats 400000 in
/-- compare on numbers' digits. -/
theorem compare_any (oa ob : Option Addr) (ca cb X Y : Nat) (w : World) (ha : Sl w .u64 oa (nd X) ca (dg X)) (hb : Sl w .u64 ob (nd Y) cb (dg Y)) :
    Calls Try.prog 63 #[.slice oa (nd X) ca, .slice ob (nd Y) cb] w fun e w' => e = .returned (.int .i64 (cmp X Y)) ∧ ∃ d, w' = w.drewN d := by
  by_cases he : nd X = nd Y
  · rw [← he] at hb ⊢
    have h := compare_same oa ob (nd X) ca cb (dg X) (dg Y) w ha hb (fun j _ => dg_lt _ _) (fun j _ => dg_lt _ _)
    rw [val_dg_nd, he, val_dg_nd] at h
    rw [he]
    exact h
  · rcases Nat.lt_or_gt_of_ne he with h | h
    · have HV : Hid (cmp X Y = -1) := cmp_lt (lt_of_nd_lt h)
      have hn1 : (((nd X : Nat) : Int) != ((nd Y : Nat) : Int)) = true := by simp; omega
      clear ha hb he
      go_enter Try.func63, Try.ntmps63
      go_wp2
      go_ret
      exact ⟨ret_i64 HV.out.symm, ex_drewN_1⟩
    · have HV : Hid (cmp X Y = 1) := cmp_gt (lt_of_nd_lt h)
      have hn1 : (((nd X : Nat) : Int) != ((nd Y : Nat) : Int)) = true := by simp; omega
      have hn2 : ¬ (nd X < nd Y) := by omega
      clear ha hb he
      go_enter Try.func63, Try.ntmps63
      go_wp2
      go_ret
      exact ⟨ret_i64 HV.out.symm, ex_drewN_1⟩

theorem size_q (oa : Option Addr) (n c : Nat) (f : Nat → Nat) (w : World) (d : Nat) (h : Sl w .u32 oa n c f) (hf : ∀ j, j < n → f j < 4294967296) :
    Calls Try.prog 55 #[.slice oa n c] (w.drewN d) fun e w' => e = .returned (.int .i64 (nd (val f n) : Nat)) ∧ w' = w.drewN d :=
  (size_any oa n c f (w.drewN d) h hf).mono fun _ _ h => ⟨h.1, h.2.symm⟩

set_option maxHeartbeats 400000 in
/-- nat.Cmp. -/
theorem ncmp_any (oa ob : Option Addr) (n m ca cb : Nat) (f g : Nat → Nat) (w : World) (ha : Sl w .u32 oa n ca f) (hb : Sl w .u32 ob m cb g) (hf : ∀ j, j < n → f j < 4294967296) (hg : ∀ j, j < m → g j < 4294967296) :
    Calls Try.prog 21 #[.slice oa n ca, .slice ob m cb] w fun e w' => e = .returned (.int .i64 (cmp (val f n) (val g m))) ∧ ∃ d, w' = w.drewN d := by
  have hna := nd_val_le hf
  have hnb := nd_val_le hg
  have hfd : ∀ j, j < nd (val f n) → f j = dg (val f n) j := fun j hj => (dg_val hf j (by omega)).symm
  have hgd : ∀ j, j < nd (val g m) → g j = dg (val g m) j := fun j hj => (dg_val hg j (by omega)).symm
  have hsa := size_any oa n ca f w ha hf
  have hsb := size_any ob m cb g w hb hg
  have hda : val f (nd (val f n)) = val f n := by
    rw [val_congr hfd, val_dg_nd]
  have hdb : val g (nd (val g m)) = val g m := by
    rw [val_congr hgd, val_dg_nd]
  generalize hX : val f n = X at *
  generalize hY : val g m = Y at *
  clear hX hY hfd hgd
  have HSA := hid hsa
  have HSB := hid hsb
  clear hsa hsb
  have HF : Hid (∀ j, j < nd X → f j < 4294967296) := fun j hj => hf j (by omega)
  have HG : Hid (∀ j, j < nd Y → g j < 4294967296) := fun j hj => hg j (by omega)
  clear hf hg
  have ha' := ha.take hna
  have hb' := hb.take hnb
  have hla := ha.len_le
  have hlb := hb.len_le
  have hma := ha.cap_le
  have hmb := hb.cap_le
  unfold maxLen at hma hmb
  by_cases he : nd X = nd Y
  · have hn1 : (((nd X : Nat) : Int) != ((nd Y : Nat) : Int)) = false := by simp; omega
    rw [← he] at hb' hdb HG hnb
    generalize hn' : nd X = p at *
    have HDA := hid hda
    have HDB := hid hdb
    have HN := hid hn'
    have HE := hid he
    clear hda hdb hn' he
    obtain ⟨_, _, _, hc⟩ := ha'
    obtain ⟨_, _, _, hd⟩ := hb'
    clear ha hb
    go_enter Try.func21, Try.ntmps21
    go_wp2_with fail
    refine HSA.out.mono ?_
    rintro e w' ⟨rfl, rfl⟩
    go_wp2_with fail
    refine HSB.out.mono ?_
    rintro e w' ⟨rfl, rfl⟩
    rw [← HE.out]
    go_wp2_with fail
    go_loopw [7] (fun i wr => ∃ (j d : Nat), j ≤ p ∧ i = .int .i64 ((j : Int) - 1) ∧ wr = w.drewN d ∧ ∀ t, j ≤ t → t < p → f t = g t) (fun i _ => (intOf i + 1).toNat)
    case atStart => exact ⟨p, 0, Nat.le_refl _, rfl, rfl, fun t h1 h2 => by omega⟩
    case round =>
      obtain ⟨j, d, hj, rfl, rfl, hs⟩ := hrel
      rcases j with _ | j
      · have HV : Hid (cmp X Y = 0) := by
          show cmp X Y = 0
          rw [← HDA.out, ← HDB.out]
          exact cmp_eq (val_congr fun j hj => hs j (by omega) hj)
        clear hs hc hd
        go_wp2
        go_ret
        exact ⟨ret_i64 HV.out.symm, ex_drewN_2⟩
      · obtain ⟨b, off, rfl, hbs, hc⟩ := hc (by omega)
        obtain ⟨b', off', rfl, hbs', hd⟩ := hd (by omega)
        have hx := hc j hj
        have hy := hd j hj
        clear hc hd
        rw [show (((j + 1 : Nat) : Int) - 1) = (j : Int) from by omega]
        by_cases h : f j = g j
        · have HS : Hid (∀ t, j ≤ t → t < p → f t = g t) := fun t h1 h2 => by
            by_cases e : t = j
            · subst e; exact h
            · exact hs t (by omega) h2
          have h1 : (((f j : Nat) : Int) != ((g j : Nat) : Int)) = false := by simp [h]
          clear hs h
          go_wp2
          go_quiet (fail)
          go_wp2
          go_roundw
          case rel => exact ⟨j, _, by omega, by go_num, rfl, HS.out⟩
          case measure => simp [intOf]
        · have h1 : (((f j : Nat) : Int) != ((g j : Nat) : Int)) = true := by simp; omega
          by_cases h2 : f j < g j
          · have HV : Hid (cmp X Y = -1) := by
              show cmp X Y = -1
              rw [← HDA.out, ← HDB.out]
              exact cmp_lt (val_lt_of_first hj HF.out hs h2)
            clear hs h
            go_wp2
            go_quiet (fail)
            go_wp2
            go_quiet (fail)
            go_wp2
            go_ret
            exact ⟨ret_i64 HV.out.symm, ex_drewN_4⟩
          · have HV : Hid (cmp X Y = 1) := by
              show cmp X Y = 1
              rw [← HDA.out, ← HDB.out]
              exact cmp_gt (val_lt_of_first hj HG.out (fun t h1 h2 => (hs t h1 h2).symm) (by omega))
            clear hs h
            go_wp2
            go_quiet (fail)
            go_wp2
            go_quiet (fail)
            go_wp2
            go_ret
            exact ⟨ret_i64 HV.out.symm, ex_drewN_4⟩
  · have hn1 : (((nd X : Nat) : Int) != ((nd Y : Nat) : Int)) = true := by simp; omega
    rcases Nat.lt_or_gt_of_ne he with h | h
    · have HV : Hid (cmp X Y = -1) := cmp_lt (lt_of_nd_lt h)
      clear ha hb he ha' hb' hda hdb
      generalize nd X = p at *
      generalize nd Y = q at *
      go_enter Try.func21, Try.ntmps21
      go_wp2_with fail
      refine HSA.out.mono ?_
      rintro e w' ⟨rfl, rfl⟩
      go_wp2_with fail
      refine HSB.out.mono ?_
      rintro e w' ⟨rfl, rfl⟩
      go_wp2_with fail
      go_ret
      exact ⟨ret_i64 HV.out.symm, ex_drewN_1⟩
    · have HV : Hid (cmp X Y = 1) := cmp_gt (lt_of_nd_lt h)
      have hn2 : ¬ (nd X < nd Y) := by omega
      clear ha hb he ha' hb' hda hdb
      generalize nd X = p at *
      generalize nd Y = q at *
      go_enter Try.func21, Try.ntmps21
      go_wp2_with fail
      refine HSA.out.mono ?_
      rintro e w' ⟨rfl, rfl⟩
      go_wp2_with fail
      refine HSB.out.mono ?_
      rintro e w' ⟨rfl, rfl⟩
      go_wp2_with fail
      go_ret
      exact ⟨ret_i64 HV.out.symm, ex_drewN_1⟩

end Go.Proofs.Ytfknjfmgpfhjiaa
