/-
  The walk of sha's take of a block (32 bits).
-/
import Derived.Test.YtkkcaicihhkahaaDb
import Derived.BigRegion
import Derived.BigQuiet
import Derived.Deep.DeepCutAuto
import Derived.Deep.RegionLaw
import Derived.Shelf.Spec.SlicesInsert
import Derived.Deep.RegionHeld3
namespace Go.Proofs.Ytkkcaicihhkahaa
open Go.RowKit Go.Proofs

theorem turn_q (x n : Nat) (hx : x < 4294967296) (hn : 1 ≤ n) (hn' : n ≤ 31) (w : World) :
    Calls Try.prog 67 #[.int .u32 (x : Nat), .int .i64 (n : Nat)] w fun e w' => e = .returned (.int .u32 (rot x n : Nat)) ∧ w' = w :=
  (turn_any x n hx hn hn' w).mono fun _ _ h => ⟨h.1, h.2.symm⟩

theorem inBlock_normal {R : Exit → Act → World → Prop} {n : Nat} {a : Act} {w : World} (h : R .normal a w) : Exit.inBlock n R .normal a w := h

theorem or4 {x0 x1 x2 x3 : Nat} (h0 : x0 < 256) (h1 : x1 < 256) (h2 : x2 < 256) (h3 : x3 < 256) :
    Go.bits .or .u32 (Go.bits .or .u32 (Go.bits .or .u32 ((x0 : Int) * 16777216) ((x1 : Int) * 65536)) ((x2 : Int) * 256)) (x3 : Int) = ((x0 * 16777216 ||| x1 * 65536 ||| x2 * 256 ||| x3 : Nat) : Int) := by
  have e0 : ((x0 : Int) * 16777216) = ((x0 * 16777216 : Nat) : Int) := by omega
  have e1 : ((x1 : Int) * 65536) = ((x1 * 65536 : Nat) : Int) := by omega
  have e2 : ((x2 : Int) * 256) = ((x2 * 256 : Nat) : Int) := by omega
  have g1 : x0 * 16777216 ||| x1 * 65536 < 2 ^ 32 := Nat.or_lt_two_pow (by omega) (by omega)
  have g2 : x0 * 16777216 ||| x1 * 65536 ||| x2 * 256 < 2 ^ 32 := Nat.or_lt_two_pow g1 (by omega)
  rw [e0, e1, e2, u32_or_nat _ _ (by omega) (by omega), u32_or_nat _ _ g1 (by omega), u32_or_nat _ _ g2 (by omega)]

set_option maxRecDepth 100000 in
set_option maxHeartbeats 6400000 in
theorem take_any {w : World} {gs cp : Nat} {T h b : Nat → Nat} {ob : Option Addr} (hs : Ar w .u32 gs 8 h) (hb : Sl w .u8 ob 64 cp b) (ht : Ar w .u64 0 80 T) (hl : ∀ j, j < 8 → h j < 4294967296) (hbl : ∀ j, j < 64 → b j < 256) (htl : ∀ j, j < 80 → T j < 18446744073709551616) (hnb : ∀ a, ob = some a → a.block ≠ gs) :
    Calls Try.prog 65 #[.pointer (some ⟨gs, 0, none⟩), .slice ob 64 cp] w fun e w' => e = .returned (.tuple #[]) ∧ Ar w' .u32 gs 8 (blk T h b) ∧ w.grownBy w' (some gs) := by
  have HS := hid hs
  have HT := hid ht
  have HL := hid hl
  have HBL := hid hbl
  have HTL := hid htl
  obtain ⟨bb, off, rfl, hlt, hc⟩ := hb.at_ (by decide)
  have HC := hid hc
  clear hs ht hl hbl htl hb hc
  go_enter Try.func65, Try.ntmps65
  go_wp2_with fail
  have hA0 : ∀ tid, Ar (w.alloc (.cells (Array.replicate 64 (Value.int .u32 0)) tid)) .u32 w.heap.size 64 (fun _ => 0) := by
    intro tid
    refine ⟨by simp, fun j hj => ?_, fun o => World.frozen?_alloc_at _ _ _ _ rfl⟩
    rw [World.cell?_alloc_at _ _ _ _ rfl]
    simp [hj]
  have hW0 : ∀ tid, Below w.heap.size w (w.alloc (.cells (Array.replicate 64 (Value.int .u32 0)) tid)) := fun tid => (Below.refl _ _).alloc (Nat.le_refl _) _
  obtain ⟨W0, hW0d⟩ : ∃ W0, W0 = (w.alloc (.cells (Array.replicate 64 (Value.int .u32 0)) 113)) := ⟨_, rfl⟩
  change Code.wp _ _ _ _ (w.alloc (.cells (Array.replicate 64 (Value.int .u32 0)) 113))
  have hA := hA0 113
  have hB := hW0 113
  rw [← hW0d] at hA hB ⊢
  have HA := hid hA
  have HB := hid hB
  have HS0 := hid (HS.out.below hB)
  have hgs := HS.out.lt
  clear hA0 hW0 hW0d hA hB
  obtain ⟨gw, hgw⟩ : ∃ gw, gw = w.heap.size := ⟨_, rfl⟩
  rw [← hgw] at HA ⊢
  have HGW := hid hgw
  clear hgw
  go_loopw [15] (fun i wr => ∃ (j : Nat), j ≤ 64 ∧ i = .int .i64 (j : Int) ∧ Ar wr .u32 gw 64 (wrow b j) ∧ Below w.heap.size w wr) (fun i _ => 64 - (intOf i).toNat)
  case atStart => exact ⟨0, Nat.zero_le _, rfl, HA.out, HB.out⟩
  case round =>
    obtain ⟨j, hj, rfl, ha, hbl⟩ := hrel
    have HA := hid ha
    have HB := hid hbl
    have hz := hbl.size
    have hgl := ha.lt
    by_cases hlt : j < 64
    · have hfr := ha.free j
      have hcj := ha.cell hlt
      by_cases h16 : j < 16
      · have hx : ∀ i, i < 4 → wr.cell? ⟨bb, off + (4 * j + i), none⟩ = some (.int .u8 (b (4 * j + i) : Nat)) := by
          intro i hi
          rw [hbl.cell (p := ⟨bb, off + (4 * j + i), none⟩) (by assumption)]
          exact HC.out _ (by omega)
        have x0 : wr.cell? ⟨bb, off + 4 * j, none⟩ = some (.int .u8 (b (4 * j) : Nat)) := hx 0 (by decide)
        have x1 := hx 1 (by decide)
        have x2 := hx 2 (by decide)
        have x3 := hx 3 (by decide)
        have l0 := HBL.out (4 * j) (by omega)
        have l1 := HBL.out (4 * j + 1) (by omega)
        have l2 := HBL.out (4 * j + 2) (by omega)
        have l3 := HBL.out (4 * j + 3) (by omega)
        have i0 : ((4 : Int) * (j : Int)).toNat = 4 * j := by omega
        have i1 : ((4 : Int) * (j : Int) + 1).toNat = 4 * j + 1 := by omega
        have i2 : ((4 : Int) * (j : Int) + 2).toNat = 4 * j + 2 := by omega
        have i3 : ((4 : Int) * (j : Int) + 3).toNat = 4 * j + 3 := by omega
        have p0 : (0 : Int) ≤ (4 : Int) * (j : Int) := by omega
        have p1 : (0 : Int) ≤ (4 : Int) * (j : Int) + 1 := by omega
        have p2 : (0 : Int) ≤ (4 : Int) * (j : Int) + 2 := by omega
        have p3 : (0 : Int) ≤ (4 : Int) * (j : Int) + 3 := by omega
        clear ha hbl hx
        go_wp2_with fail
        go_region
        rw [or4 l0 l1 l2 l3, show (b (4 * j) * 16777216 ||| b (4 * j + 1) * 65536 ||| b (4 * j + 2) * 256 ||| b (4 * j + 3)) = wval b (wrow b j) j from (if_pos h16).symm]
        clear x0 x1 x2 x3 l0 l1 l2 l3 i0 i1 i2 i3 p0 p1 p2 p3
        go_wp2_with fail
        go_roundw
        case rel => exact ⟨j + 1, by omega, by go_num, HA.out.stored hlt _, (HB.out.setCell (show w.heap.size ≤ (⟨gw, j, none⟩ : Addr).block by rw [HGW.out]; exact Nat.le_refl _) _).trans ⟨rfl, rfl, rfl, Nat.le_refl _, fun _ _ => rfl⟩⟩
        case measure => simp [intOf]; omega
      · have y2 := ha.cell (j := j - 2) (by omega)
        have y7 := ha.cell (j := j - 7) (by omega)
        have y15 := ha.cell (j := j - 15) (by omega)
        have y16 := ha.cell (j := j - 16) (by omega)
        have q2 : IntKind.i64.wrap ((j : Int) - 2) = (j : Int) - 2 := by rw [IntKind.wrap_i64]; omega
        have q7 : IntKind.i64.wrap ((j : Int) - 7) = (j : Int) - 7 := by rw [IntKind.wrap_i64]; omega
        have q15 : IntKind.i64.wrap ((j : Int) - 15) = (j : Int) - 15 := by rw [IntKind.wrap_i64]; omega
        have q16 : IntKind.i64.wrap ((j : Int) - 16) = (j : Int) - 16 := by rw [IntKind.wrap_i64]; omega
        have i2 : ((j : Int) - 2).toNat = j - 2 := by omega
        have i7 : ((j : Int) - 7).toNat = j - 7 := by omega
        have i15 : ((j : Int) - 15).toNat = j - 15 := by omega
        have i16 : ((j : Int) - 16).toNat = j - 16 := by omega
        have p2 : (0 : Int) ≤ (j : Int) - 2 := by omega
        have p7 : (0 : Int) ≤ (j : Int) - 7 := by omega
        have p15 : (0 : Int) ≤ (j : Int) - 15 := by omega
        have p16 : (0 : Int) ≤ (j : Int) - 16 := by omega
        have r7 : (j : Int) - 7 < 64 := by omega
        have r16 : (j : Int) - 16 < 64 := by omega
        have l2 := wrow_lt HBL.out j (j - 2)
        have l15 := wrow_lt HBL.out j (j - 15)
        have l7 := wrow_lt HBL.out j (j - 7)
        have l16 := wrow_lt HBL.out j (j - 16)
        have HWV := hid (show wval b (wrow b j) j = (sg1 (wrow b j (j - 2)) + wrow b j (j - 7) + sg0 (wrow b j (j - 15)) + wrow b j (j - 16)) % 4294967296 from if_neg h16)
        obtain ⟨x, hx⟩ : ∃ x, x = wrow b j (j - 2) := ⟨_, rfl⟩
        obtain ⟨y, hy⟩ : ∃ y, y = wrow b j (j - 15) := ⟨_, rfl⟩
        obtain ⟨u, hu⟩ : ∃ u, u = wrow b j (j - 7) := ⟨_, rfl⟩
        obtain ⟨v, hv⟩ : ∃ v, v = wrow b j (j - 16) := ⟨_, rfl⟩
        rw [← hx] at y2 l2 HWV
        rw [← hy] at y15 l15 HWV
        rw [← hu] at y7 l7 HWV
        rw [← hv] at y16 l16 HWV
        have T1 : Hid (∀ w, Calls Try.prog 67 #[.int .u32 (x : Nat), .int .i64 17] w fun e w' => e = .returned (.int .u32 (rot x 17 : Nat)) ∧ w = w') := fun w => turn_any x 17 l2 (by decide) (by decide) w
        have T2 : Hid (∀ w, Calls Try.prog 67 #[.int .u32 (x : Nat), .int .i64 19] w fun e w' => e = .returned (.int .u32 (rot x 19 : Nat)) ∧ w = w') := fun w => turn_any x 19 l2 (by decide) (by decide) w
        have T3 : Hid (∀ w, Calls Try.prog 67 #[.int .u32 (y : Nat), .int .i64 7] w fun e w' => e = .returned (.int .u32 (rot y 7 : Nat)) ∧ w = w') := fun w => turn_any y 7 l15 (by decide) (by decide) w
        have T4 : Hid (∀ w, Calls Try.prog 67 #[.int .u32 (y : Nat), .int .i64 18] w fun e w' => e = .returned (.int .u32 (rot y 18 : Nat)) ∧ w = w') := fun w => turn_any y 18 l15 (by decide) (by decide) w
        have KP : Hid (∀ (w' : World) (z : Value), (w'.cell? ⟨gw, j - 7, none⟩ = some (.int .u32 (u : Nat)) ∧ w'.cell? ⟨gw, j - 16, none⟩ = some (.int .u32 (v : Nat))) → ((w'.setCell ⟨gw, j, none⟩ z).cell? ⟨gw, j - 7, none⟩ = some (.int .u32 (u : Nat)) ∧ (w'.setCell ⟨gw, j, none⟩ z).cell? ⟨gw, j - 16, none⟩ = some (.int .u32 (v : Nat)))) := by
          intro w' z ⟨h1, h2⟩
          have n1 : (⟨gw, j, none⟩ : Addr) ≠ ⟨gw, j - 7, none⟩ := fun h => by have h3 : j = j - 7 := congrArg Addr.off h; omega
          have n2 : (⟨gw, j, none⟩ : Addr) ≠ ⟨gw, j - 16, none⟩ := fun h => by have h3 : j = j - 16 := congrArg Addr.off h; omega
          exact ⟨by rw [World.cell?_setCell_other _ _ _ _ n1]; exact h1, by rw [World.cell?_setCell_other _ _ _ _ n2]; exact h2⟩
        clear ha hbl hx hy hu hv
        go_wp2_with fail
        go_region
        go_wp2_with fail
        have s7 : (7 : Int) ≤ (j : Int) := by omega
        have s16 : (16 : Int) ≤ (j : Int) := by omega
        have t7 : (j : Int) < 71 := by omega
        have t16 : (j : Int) < 80 := by omega
        go_region_held3 (fun w' => w'.cell? ⟨gw, j - 7, none⟩ = some (.int .u32 (u : Nat)) ∧ w'.cell? ⟨gw, j - 16, none⟩ = some (.int .u32 (v : Nat))) (first | assumption | exact ⟨y7, y16⟩ | exact KP.out _ _ (by assumption) | exact KP.out _ _ ⟨y7, y16⟩) (first
          | (go_at_call 67; refine Calls.mono (T1.out _) ?_; rintro e w' ⟨rfl, rfl⟩)
          | (go_at_call 67; refine Calls.mono (T2.out _) ?_; rintro e w' ⟨rfl, rfl⟩)
          | (go_at_call 67; refine Calls.mono (T3.out _) ?_; rintro e w' ⟨rfl, rfl⟩)
          | (go_at_call 67; refine Calls.mono (T4.out _) ?_; rintro e w' ⟨rfl, rfl⟩))
        rw [wval_int l2 l15, ← HWV.out]
        clear T1 T2 T3 T4 KP y2 y7 y15 y16 q2 q7 q15 q16 i2 i7 i15 i16 p2 p7 p15 p16 r7 r16 s7 s16 t7 t16
        refine inBlock_normal ?_
        go_wp2_with fail
        go_roundw
        case rel => exact ⟨j + 1, by omega, by go_num, HA.out.stored hlt _, (HB.out.setCell (show w.heap.size ≤ (⟨gw, j, none⟩ : Addr).block by rw [HGW.out]; exact Nat.le_refl _) _).trans ⟨rfl, rfl, rfl, Nat.le_refl _, fun _ _ => rfl⟩⟩
        case measure => simp [intOf]; omega
    · obtain rfl : j = 64 := by omega
      rw [show ((64 : Nat) : Int) = (64 : Int) from rfl]
      clear ha hbl
      have HWL := hid (wrow_lt HBL.out 64)
      obtain ⟨wd, hwd⟩ : ∃ wd, wd = wrow b 64 := ⟨_, rfl⟩
      rw [← hwd] at HA HWL
      have HWD := hid hwd
      clear hwd
      have HSR := hid (HS.out.below HB.out)
      have HTR := hid (HT.out.below HB.out)
      have c0 := HSR.out.cell (j := 0) (by decide)
      have c1 := HSR.out.cell (j := 1) (by decide)
      have c2 := HSR.out.cell (j := 2) (by decide)
      have c3 := HSR.out.cell (j := 3) (by decide)
      have c4 := HSR.out.cell (j := 4) (by decide)
      have c5 := HSR.out.cell (j := 5) (by decide)
      have c6 := HSR.out.cell (j := 6) (by decide)
      have c7 := HSR.out.cell (j := 7) (by decide)
      go_wp2_with fail
      have hgvl : w.heap.size ≤ wr.heap.size := hz
      have hwv : gw ≠ wr.heap.size := by have := HA.out.lt; omega
      have HV := hid (ar_eight wr h 90)
      have hb1 : Below wr.heap.size wr (wr.alloc (Obj.cells #[.int .u32 (h 0 : Nat), .int .u32 (h 1 : Nat), .int .u32 (h 2 : Nat), .int .u32 (h 3 : Nat), .int .u32 (h 4 : Nat), .int .u32 (h 5 : Nat), .int .u32 (h 6 : Nat), .int .u32 (h 7 : Nat)] 90)) := (Below.refl _ _).alloc (Nat.le_refl _) _
      generalize (wr.alloc (Obj.cells #[.int .u32 (h 0 : Nat), .int .u32 (h 1 : Nat), .int .u32 (h 2 : Nat), .int .u32 (h 3 : Nat), .int .u32 (h 4 : Nat), .int .u32 (h 5 : Nat), .int .u32 (h 6 : Nat), .int .u32 (h 7 : Nat)] 90)) = W2 at *
      have HA := hid (HA.out.below hb1)
      have HB := hid (HB.out.trans (hb1.mono hz))
      clear hb1 c0 c1 c2 c3 c4 c5 c6 c7 HSR HTR
      generalize wr.heap.size = gv at *
      go_loopw [97] (fun i wr => ∃ (t : Nat), t ≤ 64 ∧ i = .int .i64 (t : Int) ∧ Ar wr .u32 gw 64 wd ∧ Ar wr .u32 gv 8 (vrow T wd h t) ∧ (∀ i, i < 8 → vrow T wd h t i < 4294967296) ∧ Below w.heap.size w wr) (fun i _ => 64 - (intOf i).toNat)
      case atStart => exact ⟨0, Nat.zero_le _, rfl, HA.out, HV.out, HL.out, HB.out⟩
      case round =>
        obtain ⟨t, ht, rfl, ha, hv, hvl, hbl⟩ := hrel
        have HA := hid ha
        have HV := hid hv
        have HB := hid hbl
        have hz := hbl.size
        by_cases hlt : t < 64
        · have HTR := HT.out.below hbl
          have tt := HTR.cell (j := t) (by omega)
          have wt := ha.cell hlt
          have ltt := HTL.out t (by omega)
          have lwt := HWL.out t
          obtain ⟨v, hvd⟩ : ∃ v, v = vrow T wd h t := ⟨_, rfl⟩
          rw [← hvd] at hv hvl HV
          have v0 := hv.cell (j := 0) (by decide)
          have v1 := hv.cell (j := 1) (by decide)
          have v2 := hv.cell (j := 2) (by decide)
          have v3 := hv.cell (j := 3) (by decide)
          have v4 := hv.cell (j := 4) (by decide)
          have v5 := hv.cell (j := 5) (by decide)
          have v6 := hv.cell (j := 6) (by decide)
          have v7 := hv.cell (j := 7) (by decide)
          have f0 := hv.free 0
          have f1 := hv.free 1
          have f2 := hv.free 2
          have f3 := hv.free 3
          have f4 := hv.free 4
          have f5 := hv.free 5
          have f6 := hv.free 6
          have f7 := hv.free 7
          have HVL := hid hvl
          have m0 := hvl 0 (by decide)
          have m1 := hvl 1 (by decide)
          have m2 := hvl 2 (by decide)
          have m4 := hvl 4 (by decide)
          have m5 := hvl 5 (by decide)
          have m6 := hvl 6 (by decide)
          have m7 := hvl 7 (by decide)
          have HVD := hid hvd
          have s0 : (0 : Int) ≤ (t : Int) := by omega
          have s1 : (t : Int) < 64 := by omega
          have s2 : (t : Int) < 80 := by omega
          have E6 : Hid (∀ w, Calls Try.prog 67 #[.int .u32 (v 4 : Nat), .int .i64 6] w fun e w' => e = .returned (.int .u32 (rot (v 4) 6 : Nat)) ∧ w' = w) := fun w => turn_q _ 6 m4 (by decide) (by decide) w
          have E11 : Hid (∀ w, Calls Try.prog 67 #[.int .u32 (v 4 : Nat), .int .i64 11] w fun e w' => e = .returned (.int .u32 (rot (v 4) 11 : Nat)) ∧ w' = w) := fun w => turn_q _ 11 m4 (by decide) (by decide) w
          have E25 : Hid (∀ w, Calls Try.prog 67 #[.int .u32 (v 4 : Nat), .int .i64 25] w fun e w' => e = .returned (.int .u32 (rot (v 4) 25 : Nat)) ∧ w' = w) := fun w => turn_q _ 25 m4 (by decide) (by decide) w
          have A2 : Hid (∀ w, Calls Try.prog 67 #[.int .u32 (v 0 : Nat), .int .i64 2] w fun e w' => e = .returned (.int .u32 (rot (v 0) 2 : Nat)) ∧ w' = w) := fun w => turn_q _ 2 m0 (by decide) (by decide) w
          have A13 : Hid (∀ w, Calls Try.prog 67 #[.int .u32 (v 0 : Nat), .int .i64 13] w fun e w' => e = .returned (.int .u32 (rot (v 0) 13 : Nat)) ∧ w' = w) := fun w => turn_q _ 13 m0 (by decide) (by decide) w
          have A22 : Hid (∀ w, Calls Try.prog 67 #[.int .u32 (v 0 : Nat), .int .i64 22] w fun e w' => e = .returned (.int .u32 (rot (v 0) 22 : Nat)) ∧ w' = w) := fun w => turn_q _ 22 m0 (by decide) (by decide) w
          clear ha hv hvl hbl hvd HTR
          go_wp2_with fail
          go_region
          go_wp2_with fail
          have HRX := hid (rx_int (T := T) (wd := wd) (t := t) m4 m5 m6)
          have HRY := hid (ry_int m0 m1 m2)
          have hrxl := rx_lt T wd v t
          have hryl := ry_lt v
          obtain ⟨X, hX⟩ : ∃ X, X = rx T wd v t := ⟨_, rfl⟩
          obtain ⟨Y, hY⟩ : ∃ Y, Y = ry v := ⟨_, rfl⟩
          rw [← hX] at HRX hrxl
          rw [← hY] at HRY hryl
          have HX := hid hX
          have HY := hid hY
          clear hX hY
          go_cut [12] (fun s12 wx => ∃ d, s12 = .int .u32 ((X : Nat) : Int) ∧ wx = wr.drewN d)
          case first =>
            go_quiet ((go_at_call 67; first | (refine Calls.mono (E6.out _) ?_; rintro e w' ⟨rfl, rfl⟩; exact ⟨rfl, _, rfl⟩) | (refine Calls.mono (E11.out _) ?_; rintro e w' ⟨rfl, rfl⟩; exact ⟨rfl, _, rfl⟩) | (refine Calls.mono (E25.out _) ?_; rintro e w' ⟨rfl, rfl⟩; exact ⟨rfl, _, rfl⟩)))
            go_wp2_with fail
            go_meet
            exact ⟨_, by rw [HRX.out], rfl⟩
          case rest =>
          obtain ⟨d1, rfl, rfl⟩ := hcut
          go_wp2_with fail
          go_cut [13] (fun s13 wx => ∃ d, s13 = .int .u32 ((Y : Nat) : Int) ∧ wx = wr.drewN d)
          case first =>
            go_quiet ((go_at_call 67; first | (refine Calls.mono (A2.out _) ?_; rintro e w' ⟨rfl, rfl⟩; exact ⟨rfl, _, rfl⟩) | (refine Calls.mono (A13.out _) ?_; rintro e w' ⟨rfl, rfl⟩; exact ⟨rfl, _, rfl⟩) | (refine Calls.mono (A22.out _) ?_; rintro e w' ⟨rfl, rfl⟩; exact ⟨rfl, _, rfl⟩)))
            go_wp2_with fail
            go_meet
            exact ⟨_, by rw [HRY.out], World.drewN_drewN _ _ _⟩
          case rest =>
          obtain ⟨d2, rfl, rfl⟩ := hcut
          clear E6 E11 E25 A2 A13 A22
          go_wp2_with fail
          have HRUN : Hid (∀ (w' : World) (ty : TypeId), Ar w' .u32 gv 8 v → (Builtin.copy_ #[115, 115] ty #[.slice (some ⟨gv, 1, none⟩) 7 7, .slice (some ⟨gv, 0, none⟩) 7 8]).run Try.prog w' = .ok (goInt 7) (w'.setCells gv 1 (seven v))) := fun w' ty h => run_shift h
          go_region_law (refine step_copy_runI rfl _ _ 115 115 rfl (.slice (some ⟨gv, 1, none⟩) 7 7) (.slice (some ⟨gv, 0, none⟩) 7 8) rfl rfl (HRUN.out _ _ (by exact HV.out)) ?_)
          have HV8 := hid (ar_shift (w := wr.drewN (d2 + 1)) (HV.out.drewN _))
          have HA8 := hid (Ar.setCells_other hwv (seven v) 1 (wr.drewN (d2 + 1)) (HA.out.drewN _))
          have HB8 := hid (Below.setCells_ hgvl (seven v) 1 (wr.drewN (d2 + 1)) (HB.out.trans ⟨rfl, rfl, rfl, Nat.le_refl _, fun _ _ => rfl⟩))
          generalize ((wr.drewN (d2 + 1)).setCells gv 1 (seven v)) = W8 at *
          have n4 : W8.cell? ⟨gv, 4, none⟩ = some (.int .u32 (v 3 : Nat)) := HV8.out.cell (j := 4) (by decide)
          have n0 : W8.cell? ⟨gv, 0, none⟩ = some (.int .u32 (v 0 : Nat)) := HV8.out.cell (j := 0) (by decide)
          have k4 := HV8.out.free 4
          have k0 := HV8.out.free 0
          have HVN : Hid (∀ i, i < 8 → upd (upd (fun i => v (i - 1)) 4 ((v 3 + X) % 4294967296)) 0 ((X + Y) % 4294967296) i = vrow T wd h (t + 1) i) := by
            intro i hi
            show _ = vnx T wd t (vrow T wd h t) i
            rw [← HVD.out, vnx, ← HX.out, ← HY.out]
            by_cases c0 : i = 0
            · subst c0; rw [upd_same, if_pos rfl]
            · rw [upd_other _ _ c0, if_neg c0]
              by_cases c4 : i = 4
              · subst c4; rw [upd_same, if_pos rfl]
              · rw [upd_other _ _ c4, if_neg c4]
          have HVB : Hid (∀ i, i < 8 → vrow T wd h (t + 1) i < 4294967296) := by
            intro i hi
            show vnx T wd t (vrow T wd h t) i < _
            rw [← HVD.out]
            exact vnx_lt HVL.out i hi
          clear v0 v1 v2 v3 v4 v5 v6 v7 f0 f1 f2 f3 f4 f5 f6 f7 HRX HRY HRUN tt wt
          go_wp2_with fail
          have z1 : ((v 3 : Nat) : Int) + (X : Int) = ((v 3 + X : Nat) : Int) := by omega
          have z2 : ((v 3 : Nat) : Int) % 1 = 0 := by omega
          have e4 : (((v 3 : Nat) : Int) + (X : Int)) % 4294967296 = (((v 3 + X) % 4294967296 : Nat) : Int) := by omega
          have e0 : ((X : Int) + (Y : Int)) % 4294967296 = (((X + Y) % 4294967296 : Nat) : Int) := by omega
          rw [e4, e0]
          go_roundw
          case rel => exact ⟨t + 1, by omega, by go_num, (HA8.out.setCell_other hwv _ _).setCell_other hwv _ _, ((HV8.out.stored (j := 4) (by decide) _).stored (j := 0) (by decide) _).congr HVN.out, HVB.out, (HB8.out.setCell (show w.heap.size ≤ (⟨gv, 4, none⟩ : Addr).block from hgvl) _).setCell (show w.heap.size ≤ (⟨gv, 0, none⟩ : Addr).block from hgvl) _⟩
          case measure => simp [intOf]; omega
        · obtain rfl : t = 64 := by omega
          obtain ⟨vv, hvv⟩ : ∃ vv, vv = vrow T wd h 64 := ⟨_, rfl⟩
          rw [← hvv] at hvl HV
          have HVV := hid hvv
          have HVL := hid hvl
          have HS9 := hid (HS.out.below hbl)
          have hvs : gv ≠ gs := by omega
          rw [show ((64 : Nat) : Int) = (64 : Int) from rfl]
          clear ha hv hvl hbl hvv
          go_wp2_with fail
          go_loopw [173] (fun i wx => ∃ (j : Nat), j ≤ 8 ∧ i = .int .i64 (j : Int) ∧ Ar wx .u32 gs 8 (fun k => if k < j then (h k + vv k) % 4294967296 else h k) ∧ Ar wx .u32 gv 8 vv ∧ w.grownBy wx (some gs)) (fun i _ => 8 - (intOf i).toNat)
          case atStart => exact ⟨0, Nat.zero_le _, rfl, HS9.out.congr fun k _ => (if_neg (by omega)).symm, HV.out, grown_of_below HB.out⟩
          case round =>
            obtain ⟨j, hj, rfl, hs, hv, hgr⟩ := hrel
            have HS := hid hs
            have HV := hid hv
            have HG := hid hgr
            by_cases hlt : j < 8
            · have sj := hs.cell hlt
              rw [show (if j < j then (h j + vv j) % 4294967296 else h j) = h j from if_neg (by omega)] at sj
              have vj := hv.cell hlt
              have fj := hs.free j
              have lh := HL.out j hlt
              have lv := HVL.out j hlt
              have s0 : (0 : Int) ≤ (j : Int) := by omega
              have s1 : (j : Int) < 8 := by omega
              clear hs hv hgr
              go_wp2_with fail
              go_region
              have e9 : (((h j : Nat) : Int) + ((vv j : Nat) : Int)) % 4294967296 = (((h j + vv j) % 4294967296 : Nat) : Int) := by omega
              rw [e9]
              clear e9 sj vj fj lh lv s0 s1
              refine inBlock_normal ?_
              go_wp2_with fail
              go_roundw
              case rel =>
                refine ⟨j + 1, by omega, by go_num, (HS.out.stored hlt ((h j + vv j) % 4294967296)).congr fun k hk => ?_, HV.out.setCell_other hvs _ _, grown_drewN (grown_set HG.out _ _) 1⟩
                by_cases c1 : k = j
                · subst c1; rw [upd_same, if_pos (by omega)]
                · rw [upd_other _ _ c1]
                  by_cases c2 : k < j
                  · rw [if_pos c2, if_pos (by omega)]
                  · rw [if_neg c2, if_neg (by omega)]
              case measure => simp [intOf]; omega
            · obtain rfl : j = 8 := by omega
              clear hs hv hgr
              go_wp2_with fail
              go_end0
              refine ⟨rfl, HS.out.congr fun k hk => ?_, HG.out⟩
              rw [if_pos hk, HVV.out, HWD.out]
              rfl

end Go.Proofs.Ytkkcaicihhkahaa
