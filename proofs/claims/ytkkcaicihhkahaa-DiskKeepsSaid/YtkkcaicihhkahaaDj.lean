/-
  The walks of text's Date: what its error tells.
-/
import Derived.Test.YtkkcaicihhkahaaDi
namespace Go.Proofs.Ytkkcaicihhkahaa
open Go.RowKit

theorem results_tmp4 {P : Program} {fn : Func} {t u v x : Tmp} (h : fn.results = #[.tmp t, .tmp u, .tmp v, .tmp x]) (tmps : Array Value) (w : World) :
    (results fn tmps).run P w = .ok (.tuple #[tmps.getD t undef, tmps.getD u undef, tmps.getD v undef, tmps.getD x undef]) w := by
  simp [results, h]

theorem leap_any (y : Nat) (w : World) : Calls Try.prog 39 #[.int .i64 (y : Nat)] w fun e w' => (∃ b, e = .returned (.bool b)) ∧ w = w' := by
  go_enter Try.func39, Try.ntmps39
  go_wp2_with fail
  all_goals (go_ret; exact ⟨⟨_, rfl⟩, rfl⟩)

theorem month_any (y m : Nat) (w : World) : Calls Try.prog 35 #[.int .i64 (y : Nat), .int .i64 (m : Nat)] w fun e w' => (∃ d : Nat, e = .returned (.int .i64 (d : Nat)) ∧ 28 ≤ d ∧ d ≤ 31) ∧ w = w' := by
  have HL := hid fun w => leap_any y w
  go_enter Try.func35, Try.ntmps35
  go_wp2_with (go_at_call 39; refine Calls.mono (HL.out _) ?_; rintro e w' ⟨⟨b, rfl⟩, rfl⟩)
  all_goals (go_ret; first | exact ⟨⟨29, rfl, by decide, by decide⟩, rfl⟩ | exact ⟨⟨28, rfl, by decide, by decide⟩, rfl⟩ | exact ⟨⟨30, rfl, by decide, by decide⟩, rfl⟩ | exact ⟨⟨31, rfl, by decide, by decide⟩, rfl⟩)

/-- How many days lie ahead of a year. -/
def bef (y : Nat) : Nat := if y = 0 then 0 else 365 * y + (y - 1) / 4 - (y - 1) / 100 + (y - 1) / 400 + 1

theorem wrap64_id {x : Int} (h1 : -9223372036854775808 ≤ x) (h2 : x ≤ 9223372036854775807) : wrap64 x = x := by
  unfold wrap64
  omega

theorem bef_int {y : Nat} (h0 : y ≠ 0) (hy : y ≤ 20000) : wrap64 (wrap64 (wrap64 (wrap64 (365 * (y : Int) + ((y : Int) - 1).tdiv 4) - ((y : Int) - 1).tdiv 100) + ((y : Int) - 1).tdiv 400) + 1) = ((bef y : Nat) : Int) := by
  obtain ⟨k, rfl⟩ : ∃ k, y = k + 1 := ⟨y - 1, by omega⟩
  have e : ((k + 1 : Nat) : Int) - 1 = (k : Int) := by omega
  have e4 : (k : Int).tdiv 4 = ((k / 4 : Nat) : Int) := (Int.ofNat_tdiv k 4).symm
  have e100 : (k : Int).tdiv 100 = ((k / 100 : Nat) : Int) := (Int.ofNat_tdiv k 100).symm
  have e400 : (k : Int).tdiv 400 = ((k / 400 : Nat) : Int) := (Int.ofNat_tdiv k 400).symm
  rw [e, e4, e100, e400]
  unfold bef
  rw [if_neg h0, Nat.add_sub_cancel]
  have q4 : k / 4 ≤ k := Nat.div_le_self _ _
  have q1 : k / 100 ≤ k / 4 := Nat.div_le_div_left (by decide) (by decide)
  have q2 : k / 400 ≤ k := Nat.div_le_self _ _
  generalize k / 4 = a4 at *
  generalize k / 100 = a100 at *
  generalize k / 400 = a400 at *
  rw [wrap64_id (x := 365 * ((k + 1 : Nat) : Int) + (a4 : Int)) (by omega) (by omega), wrap64_id (x := 365 * ((k + 1 : Nat) : Int) + (a4 : Int) - (a100 : Int)) (by omega) (by omega), wrap64_id (x := 365 * ((k + 1 : Nat) : Int) + (a4 : Int) - (a100 : Int) + (a400 : Int)) (by omega) (by omega), wrap64_id (by omega) (by omega)]
  omega

theorem before_any (y : Nat) (hy : y ≤ 20000) (w : World) : Calls Try.prog 34 #[.int .i64 (y : Nat)] w fun e w' => e = .returned (.int .i64 (bef y : Nat)) ∧ w = w' := by
  have h0 : (0 : Int) ≤ (y : Int) := by omega
  have h1 : (y : Int) ≤ 20000 := by omega
  go_enter Try.func34, Try.ntmps34
  go_wp2_with fail
  · rename_i hc
    have hy0 : y = 0 := by have := eq_of_beq hc; omega
    go_ret
    subst hy0
    exact ⟨rfl, rfl⟩
  · rename_i hc
    have hy0 : y ≠ 0 := by
      intro h
      subst h
      exact absurd hc (by decide)
    go_ret
    rw [← bef_int hy0 hy]
    exact ⟨rfl, rfl⟩

theorem bef_le {y : Nat} (hy : y ≤ 20000) : bef y ≤ 366 * y + 1 := by
  unfold bef
  split <;> omega

theorem bef_ge {y : Nat} : 365 * y ≤ bef y := by
  unfold bef
  split <;> omega

/-- The error that a time's day has. -/
def dateE (t : Int) : Int := if t < -62167219200 ∨ 253402300799 < t then 21 else 0

set_option maxHeartbeats 800000 in
theorem date_any (t : Int) (w : World) : Calls Try.prog 31 #[.int .i64 t] w fun e w' => (∃ a b c, e = .returned (.tuple #[.int .i64 a, .int .i64 b, .int .i64 c, .int .i64 (dateE t)])) ∧ w = w' := by
  by_cases h1 : t < -62167219200
  · have hE : dateE t = 21 := if_pos (Or.inl h1)
    rw [hE]
    go_enter Try.func31, Try.ntmps31
    go_wp2_with fail
    (try simp only [Exit.inBlock, Exit.then])
    refine bodyPost_ret (results_tmp4 rfl _ _) rfl ?_
    exact ⟨⟨_, _, _, rfl⟩, rfl⟩
  · by_cases h2 : 253402300799 < t
    · have hE : dateE t = 21 := if_pos (Or.inr h2)
      rw [hE]
      go_enter Try.func31, Try.ntmps31
      go_wp2_with fail
      (try simp only [Exit.inBlock, Exit.then])
      refine bodyPost_ret (results_tmp4 rfl _ _) rfl ?_
      exact ⟨⟨_, _, _, rfl⟩, rfl⟩
    · have hE : dateE t = 0 := if_neg (by omega)
      rw [hE]
      clear hE
      obtain ⟨D, hD⟩ : ∃ D : Nat, (t + 62167219200) / 86400 = (D : Int) := ⟨((t + 62167219200) / 86400).toNat, by omega⟩
      have hDl : D ≤ 3652424 := by omega
      go_enter Try.func31, Try.ntmps31
      go_wp2_with fail
      clear hD
      go_loopw [7] (fun x wr => ∃ (y : Nat), y ≤ 10007 ∧ x = .int .i64 (y : Int) ∧ wr = w) (fun x _ => 20000 - (intOf x).toNat)
      case atStart => exact ⟨D / 366, by omega, by simp, rfl⟩
      case round =>
        obtain ⟨y, hy, rfl, rfl⟩ := hrel
        have HB := hid fun w => before_any (y + 1) (by omega) w
        have HB0 := hid fun w => before_any y (by omega) w
        have hb1 := bef_ge (y := y + 1)
        have hb2 := bef_le (y := y + 1) (by omega)
        have hb3 := bef_le (y := y) (by omega)
        obtain ⟨q, hq⟩ : ∃ q, q = bef (y + 1) := ⟨_, rfl⟩
        obtain ⟨p, hp⟩ : ∃ p, p = bef y := ⟨_, rfl⟩
        rw [← hq] at HB hb1 hb2
        rw [← hp] at HB0 hb3
        have HQ := hid hq
        have HP := hid hp
        clear hq hp
        by_cases hc : q ≤ D
        · have hcd : decide ((q : Int) ≤ (D : Int)) = true := by simp; exact hc
          have e1 : ((y : Int) + 1) = ((y + 1 : Nat) : Int) := by omega
          have HE := hid e1
          have HHb := hid hb1
          have HDl := hid hDl
          have HCc := hid hc
          clear e1 hb1 hb2 hb3 hc
          go_wp2_with (go_at_call 34; rw [HE.out]; refine Calls.mono (HB.out _) ?_; rintro e w' ⟨rfl, rfl⟩)
          have hq1 := HHb.out
          have hq2 := HCc.out
          have hq3 := HDl.out
          refine ⟨⟨y + 1, by omega, by rw [HE.out], trivial⟩, ?_⟩
          simp [intOf]
          omega
        · have hcd : decide ((q : Int) ≤ (D : Int)) = false := by simp; omega
          have e1 : ((y : Int) + 1) = ((y + 1 : Nat) : Int) := by omega
          have HE := hid e1
          have e2 : ((D : Int) - (p : Int)) = ((D : Int) - (p : Int)) := rfl
          have g1 : (0 : Int) ≤ (p : Int) := by omega
          have g2 : (p : Int) ≤ 4000000 := by omega
          have g3 : (D : Int) ≤ 3652424 := by omega
          clear e1 hb1 hb2 hb3 e2 hDl hcd
          go_wp2_with (first | (go_at_call 34; with_reducible refine Calls.mono (HB0.out _) ?_; rintro e w' ⟨rfl, rfl⟩) | (go_at_call 34; rw [HE.out]; with_reducible refine Calls.mono (HB.out _) ?_; rintro e w' ⟨rfl, rfl⟩))
          have g4 : (D : Int) - (p : Int) ≤ 3652424 := by omega
          have g5 : -4000000 ≤ (D : Int) - (p : Int) := by omega
          clear hc HB HB0 HQ HP HE
          go_loopw [6, 8] (fun x z wx => ∃ (d : Int) (m : Nat), -4000000 ≤ d ∧ (m : Int) + d ≤ 3652425 ∧ d ≤ 3652424 ∧ x = .int .i64 d ∧ z = .int .i64 (m : Int) ∧ wx = wr) (fun x _ _ => (intOf x).toNat)
          case atStart => exact ⟨(D : Int) - (p : Int), 1, g5, by omega, g4, rfl, rfl, rfl⟩
          case round =>
            obtain ⟨d, m, d1, d2, d3, rfl, rfl, rfl⟩ := hrel
            have HM := hid fun w => month_any y m w
            have D1 := hid d1
            have D2 := hid d2
            have D3 := hid d3
            clear g1 g2 g3 g4 g5
            go_wp2_with fail
            refine Calls.mono (HM.out _) ?_
            rintro e w' ⟨⟨q1, rfl, q2, q3⟩, rfl⟩
            by_cases hlt : (q1 : Int) ≤ d
            · have m1 : (0 : Int) ≤ (m : Int) := by omega
              have m2 : (m : Int) ≤ 3652425 := by omega
              have Q2 := hid q2
              have Q3 := hid q3
              clear q2 q3
              go_wp2_with fail
              refine Calls.mono (HM.out _) ?_
              rintro e w' ⟨⟨r1, rfl, r2, r3⟩, rfl⟩
              go_wp2_with fail
              have q2 := Q2.out
              refine ⟨⟨d - (r1 : Int), m + 1, by omega, by omega, by omega, rfl, by go_num, trivial⟩, ?_⟩
              simp only [intOf]
              omega
            · go_wp2_with fail
              (try simp only [Exit.inBlock, Exit.then])
              refine bodyPost_ret (results_tmp4 rfl _ _) rfl ?_
              exact ⟨⟨_, _, _, rfl⟩, rfl⟩

/-- A journal lies at block p: its disk at block d, the last serial and time. -/
def JrAt (w : World) (p d s : Nat) (t : Int) : Prop := p < w.heap.size ∧ w.cell? ⟨p, 0, none⟩ = some (.pointer (some ⟨d, 0, none⟩)) ∧ w.cell? ⟨p, 1, none⟩ = some (.int .u64 (s : Nat)) ∧ w.cell? ⟨p, 2, none⟩ = some (.int .i64 t) ∧ ∀ o, w.frozen? ⟨p, o, none⟩ = false

theorem JrAt.same {w w' : World} {p d s : Nat} {t : Int} (h : JrAt w p d s t) (hz : w.heap.size ≤ w'.heap.size) (hb : w'.heap[p]? = w.heap[p]?) : JrAt w' p d s t := by
  obtain ⟨h0, h1, h2, h3, h5⟩ := h
  have hc : ∀ o, w'.cell? ⟨p, o, none⟩ = w.cell? ⟨p, o, none⟩ := fun o => World.cell?_of_block (a := ⟨p, o, none⟩) hb
  have hf : ∀ o, w'.frozen? ⟨p, o, none⟩ = w.frozen? ⟨p, o, none⟩ := fun o => World.frozen?_of_block (a := ⟨p, o, none⟩) hb
  exact ⟨Nat.lt_of_lt_of_le h0 hz, by rw [hc]; exact h1, by rw [hc]; exact h2, by rw [hc]; exact h3, fun o => by rw [hf]; exact h5 o⟩

theorem JrAt.below {w w' : World} {p d s : Nat} {t : Int} (h : JrAt w p d s t) (hb : Below w.heap.size w w') : JrAt w' p d s t := h.same hb.size (hb.block p h.1)

theorem JrAt.grown {w w' : World} {p d s : Nat} {t : Int} {row : Option Nat} (h : JrAt w p d s t) (hg : w.grownBy w' row) (hne : some p ≠ row) : JrAt w' p d s t := h.same hg.size (hg.block p h.1 hne)

theorem may_any {w : World} {p d s0 : Nat} {t0 : Int} (hj : JrAt w p d s0 t0) (s : Nat) (t : Int) :
    Calls Try.prog 26 #[.pointer (some ⟨p, 0, none⟩), .int .u64 (s : Nat), .int .i64 t] w fun e w' => e = .returned (.bool (mayB (s0, t0) s t)) ∧ w = w' := by
  have c1 := hj.2.2.1
  have c2 := hj.2.2.2.1
  have HD := hid fun w => date_any t w
  have HE : Hid ((decide (s0 < s) && decide (t0 ≤ t) && (dateE t == 0)) = mayB (s0, t0) s t) := by
    refine hid ?_
    unfold mayB dateE
    have e : (decide (tFirst ≤ t) && decide (t ≤ tLast)) = ((if t < -62167219200 ∨ 253402300799 < t then (21 : Int) else 0) == 0) := by
      unfold tFirst tLast
      split
      · rename_i h
        rw [Bool.eq_iff_iff]
        simp
        omega
      · rename_i h
        rw [Bool.eq_iff_iff]
        simp
        omega
    rw [← e, Bool.and_assoc (decide (s0 < s) && decide (t0 ≤ t))]
  obtain ⟨E, hE⟩ : ∃ E, E = dateE t := ⟨_, rfl⟩
  rw [← hE] at HD HE
  clear hj hE
  go_enter Try.func26, Try.ntmps26
  go_wp2_with fail
  refine Calls.mono (HD.out _) ?_
  rintro e w' ⟨⟨a, b, c, rfl⟩, rfl⟩
  by_cases h1 : s0 < s
  · by_cases h2 : t0 ≤ t
    · go_wp2_with fail
      go_ret
      refine ⟨?_, rfl⟩
      rw [← HE.out, decide_eq_true h1, decide_eq_true h2]
      rfl
    · go_wp2_with fail
      go_ret
      refine ⟨?_, rfl⟩
      rw [← HE.out, decide_eq_true h1, decide_eq_false (Int.not_le.2 h2)]
      rfl
  · go_wp2_with fail
    go_ret
    refine ⟨?_, rfl⟩
    rw [← HE.out, decide_eq_false h1]
    rfl

end Go.Proofs.Ytkkcaicihhkahaa
