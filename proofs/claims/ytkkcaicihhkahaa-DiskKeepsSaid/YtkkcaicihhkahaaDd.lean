/-
  The walks of sha's again, first and state (32 bits).
-/
import Derived.Test.YtkkcaicihhkahaaDb
import Derived.BigRegion
namespace Go.Proofs.Ytkkcaicihhkahaa
open Go.RowKit

theorem again_any {w : World} {gs : Nat} {h : Nat → Nat} (hs : Ar w .u32 gs 8 h) :
    Calls Try.prog 63 #[.pointer (some ⟨gs, 0, none⟩)] w fun e w' => ∃ g, e = .returned (.iface 88 (.pointer (some ⟨g, 0, none⟩))) ∧ Ar w' .u32 g 8 h ∧ w.heap.size ≤ g ∧ Below w.heap.size w w' := by
  have HS := hid hs
  have c0 := hs.cell (j := 0) (by decide)
  have c1 := hs.cell (j := 1) (by decide)
  have c2 := hs.cell (j := 2) (by decide)
  have c3 := hs.cell (j := 3) (by decide)
  have c4 := hs.cell (j := 4) (by decide)
  have c5 := hs.cell (j := 5) (by decide)
  have c6 := hs.cell (j := 6) (by decide)
  have c7 := hs.cell (j := 7) (by decide)
  clear hs
  go_enter Try.func63, Try.ntmps63
  go_wp2_with fail
  go_ret
  exact ⟨w.heap.size, rfl, ar_eight w h 92, Nat.le_refl _, (Below.refl _ _).alloc (Nat.le_refl _) _⟩

theorem index_eight (h : Nat → Nat) (w : World) : ∀ j, j < 8 → (Instr.index 90 (.agg #[.int .u32 (h 0 : Nat), .int .u32 (h 1 : Nat), .int .u32 (h 2 : Nat), .int .u32 (h 3 : Nat), .int .u32 (h 4 : Nat), .int .u32 (h 5 : Nat), .int .u32 (h 6 : Nat), .int .u32 (h 7 : Nat)]) (.int .i64 ((j : Nat) : Int))).run Try.prog w = .ok (.int .u32 (h j : Nat)) w
  | 0, _ => by kernel_rfl
  | 1, _ => by kernel_rfl
  | 2, _ => by kernel_rfl
  | 3, _ => by kernel_rfl
  | 4, _ => by kernel_rfl
  | 5, _ => by kernel_rfl
  | 6, _ => by kernel_rfl
  | 7, _ => by kernel_rfl
  | _ + 8, hj => absurd hj (by omega)

/-- The words that the state at first is made of. -/
def k256 : Nat → Nat := fun i => [7640891576956012808, 13503953896175478587, 4354685564936845355, 11912009170470909681, 5840696475078001361, 11170449401992604703, 2270897969802886507, 6620516959819538809].getD i 0

theorem index_first (w : World) : ∀ j, j < 8 → (Instr.index 87 (.agg #[.int .u64 7640891576956012808, .int .u64 13503953896175478587, .int .u64 4354685564936845355, .int .u64 11912009170470909681, .int .u64 5840696475078001361, .int .u64 11170449401992604703, .int .u64 2270897969802886507, .int .u64 6620516959819538809]) (.int .i64 ((j : Nat) : Int))).run Try.prog w = .ok (.int .u64 (k256 j : Nat)) w
  | 0, _ => by kernel_rfl
  | 1, _ => by kernel_rfl
  | 2, _ => by kernel_rfl
  | 3, _ => by kernel_rfl
  | 4, _ => by kernel_rfl
  | 5, _ => by kernel_rfl
  | 6, _ => by kernel_rfl
  | 7, _ => by kernel_rfl
  | _ + 8, hj => absurd hj (by omega)

theorem k256_lt : ∀ j, j < 8 → k256 j < 18446744073709551616
  | 0, _ => by decide
  | 1, _ => by decide
  | 2, _ => by decide
  | 3, _ => by decide
  | 4, _ => by decide
  | 5, _ => by decide
  | 6, _ => by decide
  | 7, _ => by decide
  | _ + 8, hj => absurd hj (by omega)

/-- The state at first. -/
def h256 : Nat → Nat := fun i => k256 i / 4294967296

set_option maxRecDepth 100000 in
set_option maxHeartbeats 1600000 in
theorem first_any {w : World} :
    Calls Try.prog 40 #[.int .i64 256] w fun e w' => ∃ g, e = .returned (.iface 88 (.pointer (some ⟨g, 0, none⟩))) ∧ Ar w' .u32 g 8 h256 ∧ w.heap.size ≤ g ∧ Below w.heap.size w w' := by
  have hix := index_first
  go_enter Try.func40, Try.ntmps40
  go_wp2_with fail
  go_loopw [14] (fun i wr => ∃ j, j ≤ 8 ∧ i = .int .i64 ((j : Nat) : Int) ∧ Ar wr .u32 (w.heap.size + 1) 8 (fun t => if t < j then h256 t else 0) ∧ Below w.heap.size w wr) (fun i _ => 8 - (intOf i).toNat)
  case atStart =>
    refine ⟨0, by decide, rfl, ⟨by simp, fun j hj => ?_, fun o => ?_⟩, ((Below.refl _ _).alloc (Nat.le_refl _) _).alloc (by simp) _⟩
    · rw [World.cell?_alloc_at _ _ _ _ (by simp)]
      match j, hj with
      | 0, _ => rfl
      | 1, _ => rfl
      | 2, _ => rfl
      | 3, _ => rfl
      | 4, _ => rfl
      | 5, _ => rfl
      | 6, _ => rfl
      | 7, _ => rfl
    · exact World.frozen?_alloc_at _ _ _ _ (by simp)
  case round =>
    obtain ⟨j, hj, rfl, ha, hbl⟩ := hrel
    have HA := hid ha
    have HB := hid hbl
    have hz := hbl.size
    by_cases hlt : j < 8
    · have hcj := ha.cell hlt
      have hfj := ha.free j
      have hl := k256_lt j hlt
      have hxj := fun w => index_first w j hlt
      obtain ⟨x, hx⟩ : ∃ x, x = k256 j := ⟨_, rfl⟩
      rw [← hx] at hl hxj
      have HX := hid hx
      clear hx ha hbl hix
      go_wp2_with fail
      have e1 : ((x : Int) / 4294967296) = ((h256 j : Nat) : Int) := by rw [HX.out]; exact (Int.natCast_ediv _ _).symm
      rw [e1]
      go_roundw
      case rel =>
        refine ⟨j + 1, by omega, by go_num, (HA.out.stored hlt (h256 j)).congr fun t ht => ?_, HB.out.setCell (show w.heap.size ≤ w.heap.size + 1 by omega) _⟩
        by_cases c1 : t = j
        · subst c1; rw [upd_same, if_pos (by omega)]
        · rw [upd_other _ _ c1]
          by_cases c2 : t < j
          · rw [if_pos c2, if_pos (by omega)]
          · rw [if_neg c2, if_neg (by omega)]
      case measure => simp [intOf]; omega
    · obtain rfl : j = 8 := by omega
      clear ha hbl
      go_wp2_with fail
      go_ret
      exact ⟨w.heap.size + 1, rfl, HA.out.congr fun t ht => if_pos ht, by omega, HB.out⟩

/-- A byte of a state. -/
def stb (h : Nat → Nat) (i : Nat) : Nat := h (i / 4) / 256 ^ (3 - i % 4) % 256

/-- The four bytes of a word. -/
def st4 (x : Nat) : Nat → Nat := fun i => x / 256 ^ (3 - i) % 256

theorem sl_four (w : World) (x : Nat) (hx : x < 4294967296) : Sl (w.alloc (.cells #[.int .u8 ((x : Int) / 16777216), .int .u8 ((x : Int) / 65536 % 256), .int .u8 ((x : Int) / 256 % 256), .int .u8 ((x : Int) % 256)] 5)) .u8 (some ⟨w.heap.size, 0, none⟩) 4 4 (st4 x) := by
  refine ⟨Nat.le_refl _, by simp [maxLen], (fun h => by cases h), fun _ => ⟨w.heap.size, 0, rfl, by simp, fun j hj => ?_⟩⟩
  rw [World.cell?_alloc_at _ _ _ _ rfl, Nat.zero_add]
  have e0 : ((x : Int) / 16777216) = ((st4 x 0 : Nat) : Int) := by unfold st4; omega
  have e1 : ((x : Int) / 65536 % 256) = ((st4 x 1 : Nat) : Int) := by unfold st4; omega
  have e2 : ((x : Int) / 256 % 256) = ((st4 x 2 : Nat) : Int) := by unfold st4; omega
  have e3 : ((x : Int) % 256) = ((st4 x 3 : Nat) : Int) := by unfold st4; omega
  rw [e0, e1, e2, e3]
  match j, hj with
  | 0, _ => rfl
  | 1, _ => rfl
  | 2, _ => rfl
  | 3, _ => rfl

theorem st_cat {h : Nat → Nat} {j x : Nat} (hx : x = h j) {t : Nat} (ht : t < 4 * j + 4) : cat (stb h) (4 * j) (st4 x) t = stb h t := by
  by_cases c : t < 4 * j
  · exact cat_left c
  · rw [cat_right (by omega), st4, stb, hx, show t / 4 = j from by omega, show t - 4 * j = t % 4 from by omega]

set_option maxRecDepth 100000 in
set_option maxHeartbeats 1600000 in
theorem state_any {w : World} {gs : Nat} {h : Nat → Nat} (hs : Ar w .u32 gs 8 h) (hl : ∀ j, j < 8 → h j < 4294967296) :
    Calls Try.prog 64 #[.pointer (some ⟨gs, 0, none⟩)] w fun e w' => ∃ oa c, e = .returned (.slice oa 32 c) ∧ Own w.heap.size w' .u8 5 oa 32 c (stb h) ∧ Below w.heap.size w w' := by
  have HS := hid hs
  have HL := hid hl
  have c0 := hs.cell (j := 0) (by decide)
  have c1 := hs.cell (j := 1) (by decide)
  have c2 := hs.cell (j := 2) (by decide)
  have c3 := hs.cell (j := 3) (by decide)
  have c4 := hs.cell (j := 4) (by decide)
  have c5 := hs.cell (j := 5) (by decide)
  have c6 := hs.cell (j := 6) (by decide)
  have c7 := hs.cell (j := 7) (by decide)
  clear hs hl
  clear c0 c1 c2 c3 c4 c5 c6 c7
  go_enter Try.func64, Try.ntmps64
  have c0 := HS.out.cell (j := 0) (by decide)
  have c1 := HS.out.cell (j := 1) (by decide)
  have c2 := HS.out.cell (j := 2) (by decide)
  have c3 := HS.out.cell (j := 3) (by decide)
  have c4 := HS.out.cell (j := 4) (by decide)
  have c5 := HS.out.cell (j := 5) (by decide)
  have c6 := HS.out.cell (j := 6) (by decide)
  have c7 := HS.out.cell (j := 7) (by decide)
  go_wp2_with fail
  go_loopw [3, 10] (fun o i wr => ∃ (j c : Nat) (oa : Option Addr), j ≤ 8 ∧ i = .int .i64 (j : Int) ∧ o = .slice oa (4 * j) c ∧ Own w.heap.size wr .u8 5 oa (4 * j) c (stb h) ∧ Below w.heap.size w wr) (fun _ i _ => 8 - (intOf i).toNat)
  case atStart => exact ⟨0, 0, none, by decide, rfl, rfl, Own.nil _ _ _ _ _, Below.refl _ _⟩
  case round =>
    obtain ⟨j, c, oa, hj, rfl, rfl, hown, hbl⟩ := hrel
    have HO := hid hown
    have HB := hid hbl
    have hz := hbl.size
    clear hown hbl c0 c1 c2 c3 c4 c5 c6 c7
    by_cases hlt : j < 8
    · have hl := HL.out j hlt
      have hix := fun w => index_eight h w j hlt
      obtain ⟨x, hx⟩ : ∃ x, x = h j := ⟨_, rfl⟩
      rw [← hx] at hl hix
      have HX := hid hx
      clear hx
      go_wp2_with (at_builtin; refine wpList_app rfl _ _ k8 rfl w.heap.size (4 * j) 4 oa _ c 4 (stb h) (st4 x) rfl rfl (HO.out.alloc _) (sl_four wr x hl) (by omega) (by simp; omega) ?_)
      intro oa' c' w' h1 h2 h3
      have HO2 := hid (h1.congr (g := stb h) fun t ht => st_cat HX.out ht)
      have HB2 := hid ((HB.out.alloc hz _).trans h3)
      clear h1 h2 h3 hix
      go_wp2_with fail
      go_roundw
      case rel => exact ⟨j + 1, c', oa', by omega, by go_num, rfl, HO2.out, HB2.out⟩
      case measure => simp [intOf]; omega
    · obtain rfl : j = 8 := by omega
      go_wp2_with fail
      go_ret
      exact ⟨_, _, rfl, HO.out, HB.out⟩

end Go.Proofs.Ytkkcaicihhkahaa
