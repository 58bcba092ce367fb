/-
  The walk of disk's Open.
-/
import Derived.Test.YtkkcaicihhkahaaDn
namespace Go.Proofs.Ytkkcaicihhkahaa
open Go.RowKit Go.Shelf
attribute [local go_sem] Oper.semAt_some

/-- A disk lies at block d: its bytes' slice, whether it is down, what it is armed with. -/
def DkAt (w : World) (d : Nat) (v : Value) (down : Bool) (arm k : Int) : Prop := d < w.heap.size ∧ w.cell? ⟨d, 0, none⟩ = some v ∧ w.cell? ⟨d, 1, none⟩ = some (.bool down) ∧ w.cell? ⟨d, 2, none⟩ = some (.int .i64 arm) ∧ w.cell? ⟨d, 3, none⟩ = some (.int .i64 k) ∧ ∀ o, w.frozen? ⟨d, o, none⟩ = false

theorem DkAt.same {w w' : World} {d : Nat} {v : Value} {dn : Bool} {arm k : Int} (h : DkAt w d v dn arm k) (hz : w.heap.size ≤ w'.heap.size) (hb : w'.heap[d]? = w.heap[d]?) : DkAt w' d v dn arm k := by
  obtain ⟨h0, h1, h2, h3, h4, h5⟩ := h
  have hc : ∀ o, w'.cell? ⟨d, o, none⟩ = w.cell? ⟨d, o, none⟩ := fun o => World.cell?_of_block (a := ⟨d, o, none⟩) hb
  have hf : ∀ o, w'.frozen? ⟨d, o, none⟩ = w.frozen? ⟨d, o, none⟩ := fun o => World.frozen?_of_block (a := ⟨d, o, none⟩) hb
  exact ⟨Nat.lt_of_lt_of_le h0 hz, by rw [hc]; exact h1, by rw [hc]; exact h2, by rw [hc]; exact h3, by rw [hc]; exact h4, fun o => by rw [hf]; exact h5 o⟩

theorem DkAt.below {w w' : World} {d : Nat} {v : Value} {dn : Bool} {arm k : Int} (h : DkAt w d v dn arm k) (hb : Below w.heap.size w w') : DkAt w' d v dn arm k := h.same hb.size (hb.block d h.1)
theorem DkAt.grown {w w' : World} {d : Nat} {v : Value} {dn : Bool} {arm k : Int} {row : Option Nat} (h : DkAt w d v dn arm k) (hg : w.grownBy w' row) (hne : some d ≠ row) : DkAt w' d v dn arm k := h.same hg.size (hg.block d h.1 hne)

theorem JrAt.store {w : World} {p d s0 : Nat} {t0 : Int} (h : JrAt w p d s0 t0) (s : Nat) (t : Int) : JrAt (((w.setCell ⟨p, 1, none⟩ (.int .u64 (s : Nat))).setCell ⟨p, 2, none⟩ (.int .i64 t)).drew) p d s t := by
  obtain ⟨h0, h1, h2, h3, h5⟩ := h
  have n1 : ((w.setCell ⟨p, 1, none⟩ (.int .u64 (s : Nat))).setCell ⟨p, 2, none⟩ (.int .i64 t)).cell? ⟨p, 1, none⟩ = some (.int .u64 (s : Nat)) := by
    rw [World.cell?_setCell_other _ _ _ _ (by simp)]
    exact World.cell?_setCell_same _ _ _ h2
  have n0 : ((w.setCell ⟨p, 1, none⟩ (.int .u64 (s : Nat))).setCell ⟨p, 2, none⟩ (.int .i64 t)).cell? ⟨p, 0, none⟩ = some (.pointer (some ⟨d, 0, none⟩)) := by
    rw [World.cell?_setCell_other _ _ _ _ (by simp), World.cell?_setCell_other _ _ _ _ (by simp)]
    exact h1
  have n2 : ((w.setCell ⟨p, 1, none⟩ (.int .u64 (s : Nat))).setCell ⟨p, 2, none⟩ (.int .i64 t)).cell? ⟨p, 2, none⟩ = some (.int .i64 t) := by
    refine World.cell?_setCell_same (u := .int .i64 t0) _ _ _ ?_
    rw [World.cell?_setCell_other _ _ _ _ (by simp)]
    exact h3
  exact ⟨by simpa using h0, n0, n1, n2, fun o => by simpa using h5 o⟩

theorem slotsF_any (oa : Option Addr) (m c : Nat) (w : World) : Calls Try.prog 24 #[.slice oa m c] w fun e w' => e = .returned (.func (.func 30) #[] #[.pointer (some ⟨w.heap.size, 0, none⟩)]) ∧ w' = w.alloc (.cells #[.slice oa m c] 27) := by
  go_enter Try.func24, Try.ntmps24
  go_wp2_with fail
  go_ret
  exact ⟨rfl, rfl⟩

theorem Sl.block {w w' : World} {k : IntKind} {g off n c : Nat} {f : Nat → Nat} (h : Sl w k (some ⟨g, off, none⟩) n c f) (hz : w.heap.size ≤ w'.heap.size) (hb : w'.heap[g]? = w.heap[g]?) : Sl w' k (some ⟨g, off, none⟩) n c f := by
  refine ⟨h.1, h.2.1, h.2.2.1, fun hn => ?_⟩
  obtain ⟨b, o, e, hlt, hc⟩ := h.at_ hn
  cases e
  exact ⟨g, off, rfl, Nat.lt_of_lt_of_le hlt hz, fun j hj => (World.cell?_of_block (w := w) (a := ⟨g, off + j, none⟩) hb).trans (hc j hj)⟩

theorem Ar.block {w w' : World} {k : IntKind} {g L : Nat} {f : Nat → Nat} (h : Ar w k g L f) (hz : w.heap.size ≤ w'.heap.size) (hb : w'.heap[g]? = w.heap[g]?) : Ar w' k g L f :=
  ⟨Nat.lt_of_lt_of_le h.1 hz, fun j hj => (World.cell?_of_block (w := w) (a := ⟨g, j, none⟩) hb).trans (h.2.1 j hj), fun o => (World.frozen?_of_block (w := w) (a := ⟨g, o, none⟩) hb).trans (h.2.2 o)⟩

/-- The world in which Open's loop begins. -/
theorem open_start (w : World) (d : Nat) (v : Value) {W : World} (hW : W = (((w.alloc (Obj.cells #[.pointer (some ⟨d, 0, none⟩), .int .u64 0, .int .i64 (-62167219200)] 58)).alloc (Obj.cells #[.pointer (some ⟨w.heap.size, 0, none⟩)] 28)).alloc (Obj.cells #[v] 27))) :
    JrAt W w.heap.size d 0 tFirst ∧ W.cell? ⟨w.heap.size + 1, 0, none⟩ = some (.pointer (some ⟨w.heap.size, 0, none⟩)) ∧ W.cell? ⟨w.heap.size + 1 + 1, 0, none⟩ = some v ∧ W.frozen? ⟨w.heap.size + 1 + 1, 0, none⟩ = false ∧ W.heap.size = w.heap.size + 3 ∧ Below w.heap.size w W := by
  subst hW
  have j0 : JrAt (w.alloc (Obj.cells #[.pointer (some ⟨d, 0, none⟩), .int .u64 0, .int .i64 (-62167219200)] 58)) w.heap.size d 0 tFirst := by
    refine ⟨by simp, ?_, ?_, ?_, fun o => World.frozen?_alloc_at _ _ _ _ rfl⟩ <;> (rw [World.cell?_alloc_at _ _ _ _ rfl]; rfl)
  refine ⟨(j0.alloc _).alloc _, ?_, ?_, World.frozen?_alloc_at _ _ _ _ (by simp), by simp, (((Below.refl w.heap.size w).alloc (Nat.le_refl _) _).alloc (by simp) _).alloc (by simp; omega) _⟩
  · rw [World.cell?_alloc_past _ _ _ (by simp)]
    rw [World.cell?_alloc_at _ _ _ _ (by simp)]
    rfl
  · rw [World.cell?_alloc_at _ _ _ _ (by simp)]
    rfl

set_option maxRecDepth 100000 in
set_option maxHeartbeats 3200000 in
theorem open_any {w : World} {d m c B : Nat} {oa : Option Addr} {arm kk : Int} {f T : Nat → Nat} (hdk : DkAt w d (.slice oa m c) false arm kk) (ho : Own B w .u8 5 oa m c f) (hm : m ≤ 2000000) (hf : ∀ i, f i < 256) (ht : Ar w .u64 0 80 T) (htl : ∀ j, j < 80 → T j < 18446744073709551616) :
    Calls Try.prog 10 #[.pointer (some ⟨d, 0, none⟩)] w fun e w' => ∃ p, e = .returned (.tuple #[.pointer (some ⟨p, 0, none⟩), .int .i64 0]) ∧ JrAt w' p d (jr (hd T) f (m / 24)).1 (jr (hd T) f (m / 24)).2 ∧ w.heap.size ≤ p ∧ Below w.heap.size w w' := by
  have d0 := hdk.2.1
  have d1 := hdk.2.2.1
  have dl := hdk.1
  have HDK := hid hdk
  have HO := hid ho
  have HF := hid hf
  have HT := hid ht
  have HTL := hid htl
  clear hdk ho hf ht htl
  refine (callsIn_wide (n := 5)).1 ?_
  refine callsIn_of_wp_marks Try.func10 rfl trivial ?_ rfl
  simp only [Try.ntmps10, List.size_toArray, List.length_cons, List.length_nil, Nat.reduceAdd, Nat.reduceSub, Array.replicate_succ, Array.replicate_zero, List.push_toArray, List.append_toArray, List.nil_append, List.cons_append]
  gi_wp2_with (refine ⟨trivial, ?_⟩; gi_at_call 24; refine (callsIn_wide.2 (slotsF_any _ _ _ _)).mono ?_; rintro e w' ⟨rfl, rfl⟩)
  obtain ⟨W0, hW0⟩ : ∃ W0, W0 = (((w.alloc (Obj.cells #[.pointer (some ⟨d, 0, none⟩), .int .u64 0, .int .i64 (-62167219200)] 58)).alloc (Obj.cells #[.pointer (some ⟨w.heap.size, 0, none⟩)] 28)).alloc (Obj.cells #[.slice oa m c] 27)) := ⟨_, rfl⟩
  rw [← hW0]
  obtain ⟨hj, hjb, hbx, hbf, hz0, hb0⟩ := open_start w d (.slice oa m c) hW0
  have hmc := HO.out.sl.len_le
  have hgb : ∃ gb, 24 ≤ m → oa = some ⟨gb, 0, none⟩ ∧ gb < w.heap.size := by
    by_cases h : 24 ≤ m
    · obtain ⟨gb, e, _, hlt, _⟩ := HO.out.at_ (by omega)
      exact ⟨gb, fun _ => ⟨e, hlt⟩⟩
    · exact ⟨0, fun h2 => absurd h2 h⟩
  obtain ⟨gb, hgb⟩ := hgb
  have HSL : Hid (24 ≤ m → Sl W0 .u8 (some ⟨gb, 0, none⟩) m c f) := hid fun h => by
    have h2 := HO.out.sl.below hb0
    rw [(hgb h).1] at h2
    exact h2
  have HTB := hid (HT.out.below hb0)
  have h0z := HT.out.1
  have HB0 := hid hb0
  obtain ⟨p, hp⟩ : ∃ p, p = w.heap.size := ⟨_, rfl⟩
  rw [← hp] at hj hjb hbx hbf hz0 hgb h0z ⊢
  have HP := hid hp
  clear hW0 hb0 hp
  refine range_slots (H := hd T) (f := f) (p := p) (d := d) (Bn := p + 1 + 1) (gb := gb) (m := m) (c := c) (oa := oa) (by decide) rfl hj (by omega) (by omega) hbx hbf hmc (fun h => (hgb h).1)
    (fun x => { tmps := #[.pointer (some ⟨d, 0, none⟩), undef, .pointer none, .int .i64 0, .pointer (some ⟨p + 1, 0, none⟩), x, undef, undef, .pointer (some ⟨d, 0, none⟩), .bool false, .pointer (some ⟨d, 0, none⟩), .pointer (some ⟨d, 0, none⟩), .pointer (some ⟨d, 1, none⟩), .bool false, .pointer (some ⟨d, 0, none⟩),
      .agg #[.pointer (some ⟨d, 0, none⟩), .int .u64 0, .int .i64 (-62167219200)], .pointer (some ⟨p, 0, none⟩), .pointer (some ⟨d, 0, none⟩), .pointer (some ⟨d, 0, none⟩), .pointer (some ⟨d, 0, none⟩), .slice oa m c, .func (.func 30) #[] #[.pointer (some ⟨p + 1 + 1, 0, none⟩)], x,
      undef, undef, undef, undef, undef, undef, undef, undef, undef, undef, undef, undef, undef, undef, undef, undef, undef, undef, undef, undef, undef, undef], defers := [] }) ?assign ?body ?done
  case assign =>
    intro l x W K hK
    gi_wp2
    exact hK
  case body =>
    intro l k W hlt hF hJ
    have hz : W0.heap.size ≤ W.heap.size := hF.size
    have hgz := (hgb (by omega)).2
    have hsl : Sl W .u8 (some ⟨gb, 24 * k, none⟩) 24 (c - 24 * k) (fun i => f (24 * k + i)) := ((HSL.out (by omega)).block hz (hF.block gb (by omega) (by omega) (by omega))).part (by omega) (by decide)
    have htw := HTB.out.block hz (hF.block 0 (by omega) (by omega) (by omega))
    have hjw : W.cell? ⟨p + 1, 0, none⟩ = some (.pointer (some ⟨p, 0, none⟩)) := (World.cell?_of_block (w := W0) (a := ⟨p + 1, 0, none⟩) (hF.block (p + 1) (by omega) (by omega) (by omega))).trans hjb
    have e1 : num8 (fun i => f (24 * k + i)) 0 = num8 f (24 * k) := num8_congr fun j _ => by rw [Nat.zero_add]
    have e2 : num8 (fun i => f (24 * k + i)) 8 = num8 f (24 * k + 8) := num8_congr fun j _ => by rw [Nat.add_assoc]
    have hN := numbers_any hsl (fun i => HF.out _)
    rw [e1, e2] at hN
    have HN := hid hN
    have HM := hid (may_any hJ (num8 f (24 * k)) (sgn (num8 f (24 * k + 8))))
    have hR := recordB_any (T := T) hsl (fun i => HF.out _) htw HTL.out
    have e3 : isRcB (hd T) (fun i => f (24 * k + i)) 0 = isRcB (hd T) f (24 * k) := by
      rw [Bool.eq_iff_iff, isRcB_iff, isRcB_iff]
      exact isRc_shift fun i _ => rfl
    rw [e3] at hR
    have HR := hid hR
    have HX := hid (jr_succ (hd T) f k)
    have HJ := hid hJ
    have HW := hid hjw
    clear hN hR hsl htw e1 e2 e3 hJ hjw hbx hbf hjb hj
    obtain ⟨s, hs⟩ : ∃ s, s = num8 f (24 * k) := ⟨_, rfl⟩
    obtain ⟨t, hst⟩ : ∃ t, t = sgn (num8 f (24 * k + 8)) := ⟨_, rfl⟩
    unfold jnx at HX
    rw [← hs, ← hst] at HN HM HX
    obtain ⟨bm, hbm⟩ : ∃ bm, bm = mayB (jr (hd T) f k) s t := ⟨_, rfl⟩
    obtain ⟨br, hbr⟩ : ∃ br, br = isRcB (hd T) f (24 * k) := ⟨_, rfl⟩
    have HM : Hid (Calls Try.prog 26 #[.pointer (some ⟨p, 0, none⟩), .int .u64 (s : Nat), .int .i64 t] W fun e w' => e = .returned (.bool bm) ∧ W = w') := by rw [hbm]; exact HM
    rw [← hbm, ← hbr] at HX
    rw [← hbr] at HR
    clear hs hst hbm hbr
    have hjc := HW.out
    rcases Bool.eq_false_or_eq_true bm with rfl | rfl
    · rcases Bool.eq_false_or_eq_true br with rfl | rfl
      · gi_wp2_with (first | (refine ⟨trivial, ?_⟩; gi_at_call 25; refine (CallsIn.inRound l (callsIn_wide.2 HN.out)).mono ?_; rintro e w' ⟨rfl, rfl⟩) | (refine ⟨trivial, ?_⟩; gi_at_call 26; refine (CallsIn.inRound l (callsIn_wide.2 HM.out)).mono ?_; rintro e w' ⟨rfl, rfl⟩) | (refine ⟨trivial, ?_⟩; gi_at_call 27; refine (CallsIn.inRound l (callsIn_wide.2 HR.out)).mono ?_; rintro e W5 ⟨rfl, hb5⟩))
        have hw5 : W5.cell? ⟨p + 1, 0, none⟩ = some (.pointer (some ⟨p, 0, none⟩)) := (hb5.cell (p := ⟨p + 1, 0, none⟩) (show p + 1 < W.heap.size by omega)).trans HW.out
        have hj5 := HJ.out.below hb5
        have HJ5 := hid hj5
        have c1 := hj5.2.2.1
        have c2 := hj5.2.2.2.1
        have f1 := hj5.2.2.2.2 1
        have f2 := hj5.2.2.2.2 2
        have HB5 := hid hb5
        clear hj5 hb5 hjc HN HM HR
        have hmo : Try.prog.follows Departure.mixedOrders = true := by kernel_rfl
        have hx : jr (hd T) f (k + 1) = (s, t) := HX.out.trans (if_pos rfl)
        have HXX := hid hx
        have HR5 : Hid (W.grownBy (((W5.setCell ⟨p, 1, none⟩ (.int .u64 (s : Nat))).setCell ⟨p, 2, none⟩ (.int .i64 t)).drew) (some p)) := by
          have g1 := grown_set (grown_set (grown_of_below (g := p) HB5.out) 1 (.int .u64 (s : Nat))) 2 (.int .i64 t)
          exact hid ⟨g1.os, g1.tape, g1.output, g1.size, g1.block⟩
        have HJ6 : Hid (JrAt (((W5.setCell ⟨p, 1, none⟩ (.int .u64 (s : Nat))).setCell ⟨p, 2, none⟩ (.int .i64 t)).drew) p d s t) := hid (HJ5.out.store s t)
        clear hx
        gi_region_o
        all_goals (
          show _ ∧ _ ∧ _
          rw [HXX.out]
          exact ⟨rfl, HR5.out, HJ6.out⟩)
      · gi_wp2_with (first | (refine ⟨trivial, ?_⟩; gi_at_call 25; refine (CallsIn.inRound l (callsIn_wide.2 HN.out)).mono ?_; rintro e w' ⟨rfl, rfl⟩) | (refine ⟨trivial, ?_⟩; gi_at_call 26; refine (CallsIn.inRound l (callsIn_wide.2 HM.out)).mono ?_; rintro e w' ⟨rfl, rfl⟩) | (refine ⟨trivial, ?_⟩; gi_at_call 27; refine (CallsIn.inRound l (callsIn_wide.2 HR.out)).mono ?_; rintro e W5 ⟨rfl, hb5⟩))
        have hx : jr (hd T) f (k + 1) = jr (hd T) f k := HX.out.trans (if_neg (by simp))
        rw [hx]
        exact ⟨grown_of_below hb5, HJ.out.below hb5⟩
    · gi_wp2_with (first | (refine ⟨trivial, ?_⟩; gi_at_call 25; refine (CallsIn.inRound l (callsIn_wide.2 HN.out)).mono ?_; rintro e w' ⟨rfl, rfl⟩) | (refine ⟨trivial, ?_⟩; gi_at_call 26; refine (CallsIn.inRound l (callsIn_wide.2 HM.out)).mono ?_; rintro e w' ⟨rfl, rfl⟩))
      have hx : jr (hd T) f (k + 1) = jr (hd T) f k := HX.out.trans (if_neg (by simp))
      have HXX := hid hx
      clear hx
      refine ⟨trivial, ?_⟩
      gi_wp2
      rw [HXX.out]
      exact ⟨World.grownBy.refl _ _, HJ.out⟩
  case done =>
    intro W hF hJ hK
    have hz : W0.heap.size ≤ W.heap.size := hF.size
    have hjw : W.cell? ⟨p + 1, 0, none⟩ = some (.pointer (some ⟨p, 0, none⟩)) := (World.cell?_of_block (w := W0) (a := ⟨p + 1, 0, none⟩) (hF.block (p + 1) (by omega) (by omega) (by omega))).trans hjb
    have HJ := hid hJ
    clear hbx hbf hjb hj hJ
    gi_wp2
    refine ⟨by simp, .inl ⟨_, _, rfl, run_takeDeferred hK, ?_⟩⟩
    refine ⟨_, results_tmp2 rfl _ _ _, p, rfl, HJ.out.putObj (by omega) _, by rw [HP.out]; exact Nat.le_refl _, ?_⟩
    rw [← HP.out]
    have hF2 := hF.putObj (l := W0.heap.size) (Nat.le_refl _) (.deferred none)
    have hb := HB0.out
    rw [← HP.out] at hb
    exact ⟨hF2.os.trans hb.os, hF2.tape.trans hb.tape, hF2.output.trans hb.output, Nat.le_trans hb.size hF2.size, fun j hj => (hF2.block j (by omega) (by omega) (by omega)).trans (hb.block j hj)⟩

end Go.Proofs.Ytkkcaicihhkahaa
