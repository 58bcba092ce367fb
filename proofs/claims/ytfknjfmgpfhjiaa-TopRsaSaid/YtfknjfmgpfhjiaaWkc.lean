/-
  The walk of the reference's Kept.
-/
import Derived.Test.YtfknjfmgpfhjiaaWkb
namespace Go.Proofs.Ytfknjfmgpfhjiaa
open Go.RowKit Keys

/-- The table of pairs, as it lies in memory. -/
def pairs : Array Value := #[.int .i64 0, .int .i64 2, .int .i64 0, .int .i64 4, .int .i64 2, .int .i64 4, .int .i64 4, .int .i64 1, .int .i64 4, .int .i64 3, .int .i64 0, .int .i64 5, .int .i64 2, .int .i64 5, .int .i64 1, .int .i64 5, .int .i64 3, .int .i64 5, .int .i64 4, .int .i64 5, .int .i64 0, .int .i64 2, .int .i64 0, .int .i64 4]

theorem pairs_at : ∀ r, r < 12 → pairs[r * 2]? = some (.int .i64 (pa r : Nat)) ∧ pairs[r * 2 + 1]? = some (.int .i64 (pb r : Nat))
  | 0, _ => ⟨rfl, rfl⟩
  | 1, _ => ⟨rfl, rfl⟩
  | 2, _ => ⟨rfl, rfl⟩
  | 3, _ => ⟨rfl, rfl⟩
  | 4, _ => ⟨rfl, rfl⟩
  | 5, _ => ⟨rfl, rfl⟩
  | 6, _ => ⟨rfl, rfl⟩
  | 7, _ => ⟨rfl, rfl⟩
  | 8, _ => ⟨rfl, rfl⟩
  | 9, _ => ⟨rfl, rfl⟩
  | 10, _ => ⟨rfl, rfl⟩
  | 11, _ => ⟨rfl, rfl⟩
  | _ + 12, h => absurd h (by omega)

/-- A number stays while a block below it is written. -/
theorem Num.setLow {k : IntKind} {B g : Nat} {w : World} {v : Value} {N : Nat} (h : Num k B w v N) (hg : g < B) (o : Nat) (u : Value) : Num k B (w.setCell ⟨g, o, none⟩ u) v N := by
  obtain ⟨oa, c, rfl, h1, h2⟩ := h
  refine ⟨oa, c, rfl, h1.setCell_other (fun a ha => by have := (h2 a ha).1; omega) _ _, fun a ha => ?_⟩
  obtain ⟨q1, q2, q3⟩ := h2 a ha
  exact ⟨q1, by simpa using q2, fun x => by simpa using q3 x⟩

theorem pab_lt {r : Nat} (hr : r < 12) : pa r < 6 ∧ pb r < 6 := by
  have h := fits r hr
  unfold fit at h
  simp only [Bool.and_eq_true, decide_eq_true_eq, List.all_eq_true] at h
  exact ⟨h.1.1.1.1.1.1.1.1.1.1.1.1, h.1.1.1.1.1.1.1.1.1.1.1.2⟩

set_option maxRecDepth 100000 in
set_option maxHeartbeats 3200000 in
theorem kept_ref (i : Int) (hi : -9223372036854775808 ≤ i ∧ i ≤ 9223372036854775807) (r : Nat) (hr : (i % 12).toNat = r) (w : World) :
    Calls Try.prog 15 #[.int .i64 i] w fun x w' => ∃ n e d, x = .returned (.agg #[n, e, d]) ∧ Num .u32 w.heap.size w' n (mo r) ∧ Num .u32 w.heap.size w' e (ex r) ∧ Rf w' d (dl r).length (df r) ∧ Below w.heap.size w w' := by
  have hr12 : r < 12 := by omega
  have HA := hid (fun w => among_exact i 12 hi (by decide) (by decide) w)
  rw [show (i % ((12 : Nat) : Int)).toNat = r from hr] at HA
  clear hr
  obtain ⟨ha6, hb6⟩ := pab_lt hr12
  have HP := hid (pairs_at r hr12)
  go_enter Try.func15, Try.ntmps15
  go_wp2_with fail
  refine (HA.out _).mono ?_
  rintro e w1 ⟨rfl, rfl⟩
  go_upto_if 21 with fail
  go_cut [4] (fun s4 wx => s4 = .int .u64 ((ex r : Nat) : Int) ∧ wx = (w.alloc (Obj.cells #[Value.slice none 0 0, Value.slice none 0 0, Value.slice none 0 0] 25)).alloc (Obj.cells pairs 62))
  case first =>
    by_cases h10 : 10 ≤ r
    · have HEX := hid (show ex r = 257 from if_pos h10)
      go_wp2_with fail
      go_meet
      exact ⟨by rw [HEX.out]; rfl, rfl⟩
    · have HEX := hid (show ex r = 65537 from if_neg h10)
      go_wp2_with fail
      go_meet
      exact ⟨by rw [HEX.out]; rfl, rfl⟩
  case rest =>
  obtain ⟨rfl, rfl⟩ := hcut
  go_wp2_with fail
  have hca : ((w.alloc (Obj.cells #[Value.slice none 0 0, Value.slice none 0 0, Value.slice none 0 0] 25)).alloc (Obj.cells pairs 62)).cell? ⟨w.heap.size + 1, r * 2, none⟩ = some (.int .i64 (pa r : Nat)) := by
    rw [World.cell?_alloc_at _ _ _ _ (by simp)]; exact HP.out.1
  have hcb : ((w.alloc (Obj.cells #[Value.slice none 0 0, Value.slice none 0 0, Value.slice none 0 0] 25)).alloc (Obj.cells pairs 62)).cell? ⟨w.heap.size + 1, r * 2 + 1, none⟩ = some (.int .i64 (pb r : Nat)) := by
    rw [World.cell?_alloc_at _ _ _ _ (by simp)]; exact HP.out.2
  have hfr : ∀ o, ((w.alloc (Obj.cells #[Value.slice none 0 0, Value.slice none 0 0, Value.slice none 0 0] 25)).alloc (Obj.cells pairs 62)).frozen? ⟨w.heap.size, o, none⟩ = false := by
    intro o
    rw [World.frozen?_alloc_past _ _ _ (by simp), World.frozen?_alloc_at _ _ _ _ rfl]
  have hcl : ∀ o, o < 3 → ((w.alloc (Obj.cells #[Value.slice none 0 0, Value.slice none 0 0, Value.slice none 0 0] 25)).alloc (Obj.cells pairs 62)).cell? ⟨w.heap.size, o, none⟩ = some (.slice none 0 0) := by
    intro o ho
    rw [World.cell?_alloc_lt _ _ _ (by simp), World.cell?_alloc_at _ _ _ _ rfl]
    match o, ho with
    | 0, _ => rfl
    | 1, _ => rfl
    | 2, _ => rfl
  have hbe : Below w.heap.size w ((w.alloc (Obj.cells #[Value.slice none 0 0, Value.slice none 0 0, Value.slice none 0 0] 25)).alloc (Obj.cells pairs 62)) := ((Below.refl _ _).alloc (Nat.le_refl _) _).alloc (by simp) _
  have hsz : w.heap.size + 1 < ((w.alloc (Obj.cells #[Value.slice none 0 0, Value.slice none 0 0, Value.slice none 0 0] 25)).alloc (Obj.cells pairs 62)).heap.size := by simp
  generalize ((w.alloc (Obj.cells #[Value.slice none 0 0, Value.slice none 0 0, Value.slice none 0 0] 25)).alloc (Obj.cells pairs 62)) = W0 at *
  have S1 : Hid (∀ wy, Below W0.heap.size W0 wy → Calls Try.prog 19 #[.int .i64 (pa r : Nat)] wy fun e w' => ∃ v L, e = .returned v ∧ L ≤ 40 ∧ Rd w' v L (pt (pa r)) ∧ Below W0.heap.size W0 w' ∧ Below wy.heap.size wy w') := by
    intro wy hy
    refine (primes_ref (pa r) ha6 wy).mono ?_
    rintro e w' ⟨v, L, rfl, h1, h2, h3⟩
    exact ⟨v, L, rfl, h1, h2, hy.trans (h3.mono hy.size), h3⟩
  have S2 : Hid (∀ wy, Below W0.heap.size W0 wy → Calls Try.prog 19 #[.int .i64 (pb r : Nat)] wy fun e w' => ∃ v L, e = .returned v ∧ L ≤ 40 ∧ Rd w' v L (pt (pb r)) ∧ Below W0.heap.size W0 w' ∧ Below wy.heap.size wy w') := by
    intro wy hy
    refine (primes_ref (pb r) hb6 wy).mono ?_
    rintro e w' ⟨v, L, rfl, h1, h2, h3⟩
    exact ⟨v, L, rfl, h1, h2, hy.trans (h3.mono hy.size), h3⟩
  have hszl : w.heap.size < W0.heap.size := by omega
  have S5 : Hid (∀ wy, Below W0.heap.size W0 wy → Calls Try.prog 54 #[.int .i64 (r : Nat)] wy fun e w' => ∃ oa c, e = .returned (.slice oa (dl r).length c) ∧ Sl w' .u32 oa (dl r).length c (df r) ∧ Nw W0.heap.size w' oa ∧ Below W0.heap.size W0 w' ∧ Below wy.heap.size wy w') := by
    intro wy hy
    refine (exponent_ref r hr12 wy).mono ?_
    rintro e w' ⟨oa, c, rfl, h2, h4, h3⟩
    exact ⟨oa, c, rfl, h2, h4.mono hy.size, hy.trans (h3.mono hy.size), h3⟩
  have hex : ex r < 18446744073709551616 := by unfold ex; split <;> decide
  have S4 : Hid (∀ wy, Below W0.heap.size W0 wy → Calls Try.prog 40 #[.int .u64 ((ex r : Nat) : Int)] wy fun e w' => ∃ v, e = .returned v ∧ Num .u32 W0.heap.size w' v (ex r) ∧ Below W0.heap.size W0 w' ∧ Below wy.heap.size wy w') := by
    intro wy hy
    have hs := hy.size
    refine (rof_r (B := W0.heap.size) (ex r) wy hex (by omega)).mono ?_
    rintro e w' ⟨v, rfl, h2, h3⟩
    exact ⟨v, rfl, h2, hy.trans (h3.mono hy.size), h3⟩
  have S3 : Hid (∀ wy x y n m, Below W0.heap.size W0 wy → Rd wy x n (pt (pa r)) → Rd wy y m (pt (pb r)) → n ≤ 40 → m ≤ 40 → Calls Try.prog 33 #[x, y] wy fun e w' => ∃ v, e = .returned v ∧ Num .u32 W0.heap.size w' v (mo r) ∧ Below W0.heap.size W0 w' ∧ Below wy.heap.size wy w') := by
    intro wy x y n m hy hx hy2 hn hm
    have hs := hy.size
    refine (rmul_r (B := W0.heap.size) (by omega) hx hy2 (by omega) (by omega)).mono ?_
    rintro e w' ⟨v, rfl, h2, h3⟩
    exact ⟨v, rfl, h2, hy.trans (h3.mono hy.size), h3⟩
  go_region_with (first
    | (go_at_call_of 19 (Value.int .i64 (pa r : Nat)); refine (S1.out _ ?_).mono ?_; (first | exact below_drewN _ _ _ | assumption); rintro e wu ⟨v1, L1, rfl, u1, u2, u3, u4⟩; have U2 := hid u2; have hcb1 := Eq.trans (u3.cell (p := ⟨w.heap.size + 1, r * 2 + 1, none⟩) hsz) hcb; clear u2)
    | (go_at_call_of 19 (Value.int .i64 (pb r : Nat)); refine (S2.out _ ?_).mono ?_; (first | exact below_drewN _ _ _ | assumption); rintro e wv ⟨v2, L2, rfl, v1', v2', v3', v4'⟩; have V2 := hid v2'; have U2 := hid (U2.out.below v4'); clear v2')
    | (go_at_call 33; refine (S3.out _ _ _ _ _ ?_ U2.out V2.out u1 v1').mono ?_; (first | exact below_drewN _ _ _ | assumption); rintro e w3 ⟨v3, rfl, x1, x2, x3⟩; have HN := hid x1; obtain ⟨o3, c3, rfl, xa, xb⟩ := x1; clear xa xb)
    | (go_at_call 40; refine (S4.out _ ?_).mono ?_; (first | exact below_drewN _ _ _ | assumption); rintro e w4 ⟨v4, rfl, y1, y2, y3⟩; have HN := hid (HN.out.below y3); have HE := hid y1; obtain ⟨o4, c4, rfl, ya, yb⟩ := y1; clear ya yb)
    | (go_at_call 54; refine (S5.out _ ?_).mono ?_; (first | exact below_drewN _ _ _ | assumption); rintro e w5 ⟨o5, c5, rfl, z1, z4, z2, z3⟩; have HN := hid (HN.out.below z3); have HE := hid (HE.out.below z3); have HD := hid z1; have HDN := hid z4; have hz5 := z2.size; have hfz := fun o => Eq.trans (z2.frozen (p := ⟨w.heap.size, o, none⟩) hszl) (hfr o); have hcz := fun o ho => Eq.trans (z2.cell (p := ⟨w.heap.size, o, none⟩) hszl) (hcl o ho); have hc0 := hcz 0 (by decide); have hc1 := hcz 1 (by decide); have hc2 := hcz 2 (by decide); have hf0 := hfz 0; have hf1 := hfz 1; have hf2 := hfz 2; clear z1 z4 hfz hcz))
  all_goals (
    go_wp2_with fail
    refine bodyPost_ret (v := .agg #[.slice o3 (nd (mo r)) c3, .slice o4 (nd (ex r)) c4, .slice o5 (dl r).length c5]) (by simp [results, Try.results15, go_sem, hc0, hc1, hc2]) rfl ?_
    refine ⟨_, _, _, rfl, ?_, ?_, ⟨⟨o5, c5, rfl, ?_⟩, dl_lt hr12⟩, ?_⟩
    · exact (((HN.out.setLow hszl _ _).setLow hszl _ _).setLow hszl _ _).mono (by omega)
    · exact (((HE.out.setLow hszl _ _).setLow hszl _ _).setLow hszl _ _).mono (by omega)
    · have hne : ∀ a, o5 = some a → a.block ≠ w.heap.size := fun a ha => by have := (HDN.out a ha).1; omega
      exact ((HD.out.setCell_other hne _ _).setCell_other hne _ _).setCell_other hne _ _
    · exact (((hbe.trans (z2.mono (by omega))).setCell (Nat.le_refl _) _).setCell (Nat.le_refl _) _).setCell (Nat.le_refl _) _)

end Go.Proofs.Ytfknjfmgpfhjiaa
