/-
  The walks of the reference's 'above' (are the digits from a place on not below a number's) and 'take' (so many times a number taken from the digits from a place on).
-/
import Derived.Test.YtfknjfmgpfhjiaaWp
import Derived.Test.YtfknjfmgpfhjiaaMathh
namespace Go.Proofs.Ytfknjfmgpfhjiaa
open Go.RowKit

theorem ret_bool {a b : Bool} (h : a = b) : Ending.returned (.bool a) = .returned (.bool b) := by rw [h]

set_option maxHeartbeats 1600000 in
theorem above_any (ou ov : Option Addr) (k n L cL cv : Nat) (h v : Nat → Nat) (w : World) (hu : Sl w .u64 ou L cL h) (hv : Sl w .u64 ov n cv v) (hL : k + n + 1 ≤ L) (hL' : L ≤ 1000000) (hh : ∀ t, h t < 4294967296) (hvl : ∀ t, t < n → v t < 4294967296) :
    Calls Try.prog 73 #[.slice ou L cL, .int .i64 (k : Nat), .slice ov n cv] w fun e w' => e = .returned (.bool (decide (val v n ≤ val (fun t => h (k + t)) (n + 1)))) ∧ ∃ d, w' = w.drewN d := by
  obtain ⟨bu, fu, rfl, hlu, hcu⟩ := hu.at_ (by omega)
  have hcn := hcu (k + n) (by omega)
  have HH := hid hh
  have HV := hid hvl
  have HVS := hid hv
  have HCU := hid hcu
  have hln := hh (k + n)
  have hn1 : (0 : Int) ≤ (k : Int) + (n : Int) := by omega
  clear hu hcu hh hvl hv
  by_cases h0 : 0 < h (k + n)
  · have HP : Hid (true = decide (val v n ≤ val (fun t => h (k + t)) (n + 1))) := (decide_eq_true (part_above (u := fun t => h (k + t)) HV.out h0)).symm
    go_enter Try.func73, Try.ntmps73
    go_wp2_with fail
    go_ret
    exact ⟨ret_bool HP.out, ex_drewN_1⟩
  · have h00 : h (k + n) = 0 := by omega
    rw [h00] at hcn
    have HZ := hid h00
    clear h0 h00 hln
    have HE : Hid (val (fun t => h (k + t)) (n + 1) = val (fun t => h (k + t)) n) := by
      show val (fun t => h (k + t)) (n + 1) = val (fun t => h (k + t)) n
      rw [val_succ, HZ.out, Nat.zero_mul, Nat.add_zero]
    go_enter Try.func73, Try.ntmps73
    go_wp2_with fail
    go_loopw [7] (fun i wr => ∃ (j d : Nat), j ≤ n ∧ i = .int .i64 ((j : Int) - 1) ∧ wr = w.drewN d ∧ ∀ t, j ≤ t → t < n → v t = h (k + t)) (fun i _ => (intOf i + 1).toNat)
    case atStart => exact ⟨n, 0, Nat.le_refl _, rfl, rfl, fun t h1 h2 => by omega⟩
    case round =>
      obtain ⟨j, d, hj, rfl, rfl, hs⟩ := hrel
      rcases j with _ | j
      · have HP : Hid (true = decide (val v n ≤ val (fun t => h (k + t)) (n + 1))) := by
          refine (decide_eq_true ?_).symm
          rw [HE.out]
          exact Nat.le_of_eq (val_congr fun t ht => hs t (by omega) ht)
        clear hs
        go_wp2_with fail
        go_ret
        exact ⟨ret_bool HP.out, ex_drewN_2⟩
      · obtain ⟨bv, fv, rfl, hlv, hcv⟩ := HVS.out.at_ (by omega)
        have hx := HCU.out (k + j) (by omega)
        have hy := hcv j (by omega)
        have hx' : w.cell? ⟨bu, fu + (k + j), none⟩ = some (.int .u64 (h (k + j) : Nat)) := hx
        clear hcv
        rw [show (((j + 1 : Nat) : Int) - 1) = (j : Int) from by omega]
        have hlx := HH.out (k + j)
        have hly := HV.out j (by omega)
        rcases Nat.lt_trichotomy (v j) (h (k + j)) with c | c | c
        · have HP : Hid (true = decide (val v n ≤ val (fun t => h (k + t)) (n + 1))) := by
            refine (decide_eq_true ?_).symm
            rw [HE.out]
            exact Nat.le_of_lt (val_lt_of_first (f := v) (g := fun t => h (k + t)) (i := j) (by omega) HV.out hs c)
          have e1 : (((h (k + j) : Nat) : Int) != ((v j : Nat) : Int)) = true := by simp; omega
          have e2 : decide (((h (k + j) : Nat) : Int) > ((v j : Nat) : Int)) = true := by simp; omega
          clear hs
          go_wp2_with fail
          go_quiet (fail)
          go_wp2_with fail
          go_quiet (fail)
          go_wp2_with fail
          go_ret
          exact ⟨ret_bool HP.out, ex_drewN_4⟩
        · have HS : Hid (∀ t, j ≤ t → t < n → v t = h (k + t)) := fun t h1 h2 => by
            by_cases e : t = j
            · subst e; exact c
            · exact hs t (by omega) h2
          have e1 : (((h (k + j) : Nat) : Int) != ((v j : Nat) : Int)) = false := by simp; omega
          clear hs c
          go_wp2_with fail
          go_quiet (fail)
          go_wp2_with fail
          go_roundw
          case rel => exact ⟨j, _, by omega, by go_num, rfl, HS.out⟩
          case measure => simp [intOf]
        · have HP : Hid (decide (v j < h (k + j)) = decide (val v n ≤ val (fun t => h (k + t)) (n + 1))) := by
            rw [decide_eq_false (show ¬ v j < h (k + j) by omega)]
            refine (decide_eq_false ?_).symm
            rw [HE.out]
            have := val_lt_of_first (f := fun t => h (k + t)) (g := v) (i := j) (n := n) (by omega) (fun t _ => HH.out (k + t)) (fun t h1 h2 => (hs t h1 h2).symm) c
            omega
          have e1 : (((h (k + j) : Nat) : Int) != ((v j : Nat) : Int)) = true := by simp; omega
          have e2 : decide (((h (k + j) : Nat) : Int) > ((v j : Nat) : Int)) = false := by simp; omega
          clear hs
          go_wp2_with fail
          go_quiet (fail)
          go_wp2_with fail
          go_quiet (fail)
          go_wp2_with fail
          go_ret
          exact ⟨ret_bool HP.out, ex_drewN_4⟩

set_option maxHeartbeats 1600000 in
theorem take_any (B gb k n L cL cv g : Nat) (ov : Option Addr) (h v : Nat → Nat) (w : World) (hL : k + n + 1 ≤ L) (hL' : L ≤ 1000000) (hu : Own B w .u64 36 (some ⟨gb, 0, none⟩) L cL h) (hv : Sl w .u64 ov n cv v)
    (hne : ∀ a, ov = some a → a.block ≠ gb) (hh : ∀ t, h t < 4294967296) (hvl : ∀ t, t < n → v t < 4294967296) (hg : g < 4294967296) (hle : g * val v n ≤ val (fun t => h (k + t)) (n + 1)) :
    Calls Try.prog 74 #[.slice (some ⟨gb, 0, none⟩) L cL, .int .i64 (k : Nat), .slice ov n cv, .int .u64 (g : Nat)] w fun e w' => e = .returned (.tuple #[]) ∧ ∃ h', Own B w' .u64 36 (some ⟨gb, 0, none⟩) L cL h' ∧ (∀ t, t < k ∨ k + n < t → h' t = h t) ∧
      val (fun t => h' (k + t)) (n + 1) = val (fun t => h (k + t)) (n + 1) - g * val v n ∧ (∀ t, h' t < 4294967296) ∧ w.grownBy w' (some gb) := by
  have HU := hid hu
  have HV := hid hv
  have HH := hid hh
  have HVL := hid hvl
  have HLE := hid hle
  have HNE := hid hne
  obtain ⟨u, hud⟩ : ∃ u, u = fun t => h (k + t) := ⟨_, rfl⟩
  have HUD := hid hud
  have HUL : Hid (∀ t, u t < 4294967296) := by intro t; rw [hud]; exact hh _
  have HE : Hid (∀ t, ext0 v n t < 4294967296) := ext0_lt hvl
  clear hu hv hh hvl hle hne hud
  go_enter Try.func74, Try.ntmps74
  go_wp2_with fail
  go_loopw [8, 9, 10] (fun cr br i wr => ∃ (j b c : Nat) (u' : Nat → Nat), j ≤ n + 1 ∧ i = .int .i64 j ∧ br = .int .u64 (b : Nat) ∧ cr = .int .u64 (c : Nat) ∧ Own B wr .u64 36 (some ⟨gb, 0, none⟩) L cL (put h k n u') ∧ Mss u u' (ext0 v n) g j b c ∧ w.grownBy wr (some gb)) (fun _ _ i _ => n + 1 - (intOf i).toNat)
  case atStart => exact ⟨0, 0, 0, u, Nat.zero_le _, rfl, rfl, rfl, HU.out.congr (fun t _ => by rw [HUD.out]; exact put_self t), Mss.start HUL.out, ⟨rfl, rfl, rfl, Nat.le_refl _, fun _ _ _ => rfl⟩⟩
  case round =>
    obtain ⟨j, b, c, u', hj, rfl, rfl, rfl, hown, hmss, hgrow⟩ := hrel
    have HO := hid hown
    have HM := hid hmss
    have HW := hid hgrow
    by_cases hlt : j < n + 1
    · obtain ⟨g0, hg0, _, hz3, hcell, hfr⟩ := hown.at_ (by omega)
      cases hg0
      have hcj := hcell (k + j) (by omega)
      rw [put_at (by omega), hmss.same j (Nat.le_refl _)] at hcj
      have hfrj := hfr (k + j)
      have HVW : Hid (Sl wr .u64 ov n cv v) := by
        rcases ov with _ | ⟨vb, vo, _ | _⟩
        · exact ⟨HV.out.1, HV.out.2.1, HV.out.2.2.1, fun hn => by obtain ⟨_, _, e, _⟩ := HV.out.at_ hn; cases e⟩
        · exact HV.out.grown_other hgrow (HNE.out _ rfl)
        · exact ⟨HV.out.1, HV.out.2.1, HV.out.2.2.1, fun hn => by obtain ⟨_, _, e, _⟩ := HV.out.at_ hn; cases e⟩
      have hlv := HE.out j
      have hlu := HUL.out j
      have hbe := hmss.ble
      have hce := hmss.cle
      obtain ⟨y, hy⟩ : ∃ y, y = ext0 v n j := ⟨_, rfl⟩
      rw [← hy] at hlv
      obtain ⟨P, hP⟩ : ∃ P, P = g * y := ⟨_, rfl⟩
      have hcP : c + P < 18446744073709551616 := by rw [hP]; exact (hy ▸ hmss.bound (by omega) (hy ▸ hlv))
      have hgv : ((g : Nat) : Int) * ((y : Nat) : Int) = (P : Int) := by rw [hP, Int.natCast_mul]
      have HD : Hid (Calls Try.prog 66 #[.slice ov n cv, .int .i64 (j : Nat)] wr fun e w' => e = .returned (.int .u64 (y : Nat)) ∧ wr = w') := by
        rw [hy]
        exact digit_any ov n cv j v wr HVW.out
      obtain ⟨x, b', hxl, hb', hxe, hxm, hbm⟩ : ∃ x b' : Nat, x < 4294967296 ∧ b' ≤ 1 ∧ x + b + (c + P) % 4294967296 = u j + b' * 4294967296 ∧
          ((4294967296 : Int) + ((u j : Nat) : Int) - ((c : Int) + (P : Int)) % 4294967296 - (b : Int)) % 4294967296 = (x : Int) ∧
          (((4294967296 : Int) + ((u j : Nat) : Int) - ((c : Int) + (P : Int)) % 4294967296 - (b : Int)) < 4294967296 ↔ b' = 1) := by
        by_cases hs : b + (c + P) % 4294967296 ≤ u j
        · exact ⟨u j - (b + (c + P) % 4294967296), 0, by omega, by omega, by omega, by omega, by omega⟩
        · exact ⟨u j + 4294967296 - (b + (c + P) % 4294967296), 1, by omega, by omega, by omega, by omega, by omega⟩
      have HS := hmss.step (hy ▸ hlv) hxl hb' (by rw [← hy, ← hP]; exact hxe)
      rw [← hy, ← hP] at HS
      have HS2 := hid HS
      have HXM := hid hxm
      have hcq : ((c : Int) + (P : Int)) / 4294967296 = (((c + P) / 4294967296 : Nat) : Int) := by omega
      have HCQ := hid hcq
      by_cases hbb : b' = 1
      · have hlow := hbm.2 hbb
        subst hbb
        clear hown hmss hgrow hcell hfr hP HS hxm hbm hxe hy hcq
        go_wp2_with fail
        refine HD.out.mono ?_
        rintro e w2 ⟨rfl, rfl⟩
        go_wp2_with fail
        rw [HXM.out, HCQ.out]
        go_roundw
        case rel => exact ⟨j + 1, 1, (c + P) / 4294967296, _, by omega, by go_num, rfl, rfl, (HO.out.stored (k + j) x).congr (fun t _ => put_upd (by omega) t), HS2.out, grown_set HW.out _ _⟩
        case measure => simp [intOf]; omega
      · have hlow : ¬ (((4294967296 : Int) + ((u j : Nat) : Int) - ((c : Int) + (P : Int)) % 4294967296 - (b : Int)) < 4294967296) := fun h => hbb (hbm.1 h)
        obtain rfl : b' = 0 := by omega
        clear hown hmss hgrow hcell hfr hP HS hxm hbm hxe hy hcq
        go_wp2_with fail
        refine HD.out.mono ?_
        rintro e w2 ⟨rfl, rfl⟩
        go_wp2_with fail
        rw [HXM.out, HCQ.out]
        go_roundw
        case rel => exact ⟨j + 1, 0, (c + P) / 4294967296, _, by omega, by go_num, rfl, rfl, (HO.out.stored (k + j) x).congr (fun t _ => put_upd (by omega) t), HS2.out, grown_set HW.out _ _⟩
        case measure => simp [intOf]; omega
    · obtain rfl : j = n + 1 := by omega
      have HWH : Hid (val u' (n + 1) = val u (n + 1) - g * val v n) := hmss.whole (by rw [HUD.out]; exact HLE.out)
      have HLT := hid hmss.lt
      clear hown hmss hgrow
      go_wp2_with fail
      go_end0
      refine ⟨rfl, put h k n u', HO.out, fun t ht => put_out ht, ?_, put_lt HH.out HLT.out, HW.out⟩
      rw [← HUD.out, ← HWH.out]
      exact val_congr fun t ht => put_at (by omega)

end Go.Proofs.Ytfknjfmgpfhjiaa
