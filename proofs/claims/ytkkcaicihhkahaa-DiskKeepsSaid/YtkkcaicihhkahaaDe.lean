/-
  The walks of sha's New, Write, Copy (32 bits).
-/
import Derived.Test.YtkkcaicihhkahaaDc
import Derived.Test.YtkkcaicihhkahaaDd
import Derived.StillTailTactics
namespace Go.Proofs.Ytkkcaicihhkahaa
open Go.RowKit

/-- A sum of 32 bits: at block p; its state at block gs; so many bytes written; what is kept. -/
def SumAt (w : World) (p gs n : Nat) (rv : Value) : Prop := p < w.heap.size ∧ w.cell? ⟨p, 0, none⟩ = some (.int .i64 256) ∧ w.cell? ⟨p, 1, none⟩ = some (.iface 88 (.pointer (some ⟨gs, 0, none⟩))) ∧
  w.cell? ⟨p, 2, none⟩ = some rv ∧ w.cell? ⟨p, 3, none⟩ = some (.int .u64 (n : Nat)) ∧ ∀ o, w.frozen? ⟨p, o, none⟩ = false

theorem SumAt.same {w w' : World} {p gs n : Nat} {rv : Value} (h : SumAt w p gs n rv) (hz : w.heap.size ≤ w'.heap.size) (hb : w'.heap[p]? = w.heap[p]?) : SumAt w' p gs n rv := by
  obtain ⟨h0, h1, h2, h3, h4, h5⟩ := h
  have hc : ∀ o, w'.cell? ⟨p, o, none⟩ = w.cell? ⟨p, o, none⟩ := fun o => World.cell?_of_block (a := ⟨p, o, none⟩) hb
  have hf : ∀ o, w'.frozen? ⟨p, o, none⟩ = w.frozen? ⟨p, o, none⟩ := fun o => World.frozen?_of_block (a := ⟨p, o, none⟩) hb
  exact ⟨Nat.lt_of_lt_of_le h0 hz, by rw [hc]; exact h1, by rw [hc]; exact h2, by rw [hc]; exact h3, by rw [hc]; exact h4, fun o => by rw [hf]; exact h5 o⟩

theorem SumAt.below {w w' : World} {p gs n : Nat} {rv : Value} (h : SumAt w p gs n rv) (hb : Below w.heap.size w w') : SumAt w' p gs n rv := h.same hb.size (hb.block p h.1)

theorem SumAt.grown {w w' : World} {p gs n : Nat} {rv : Value} {row : Option Nat} (h : SumAt w p gs n rv) (hg : w.grownBy w' row) (hne : some p ≠ row) : SumAt w' p gs n rv := h.same hg.size (hg.block p h.1 hne)

theorem SumAt.rest {w : World} {p gs n : Nat} {rv : Value} (h : SumAt w p gs n rv) (rv' : Value) : SumAt (w.setCell ⟨p, 2, none⟩ rv') p gs n rv' := by
  obtain ⟨h0, h1, h2, h3, h4, h5⟩ := h
  refine ⟨by simpa using h0, ?_, ?_, World.cell?_setCell_same _ _ _ h3, ?_, fun o => by simpa using h5 o⟩
  · rw [World.cell?_setCell_other _ _ _ _ (by simp)]; exact h1
  · rw [World.cell?_setCell_other _ _ _ _ (by simp)]; exact h2
  · rw [World.cell?_setCell_other _ _ _ _ (by simp)]; exact h4

theorem SumAt.count {w : World} {p gs n : Nat} {rv : Value} (h : SumAt w p gs n rv) (n' : Nat) : SumAt (w.setCell ⟨p, 3, none⟩ (.int .u64 (n' : Nat))) p gs n' rv := by
  obtain ⟨h0, h1, h2, h3, h4, h5⟩ := h
  refine ⟨by simpa using h0, ?_, ?_, ?_, World.cell?_setCell_same _ _ _ h4, fun o => by simpa using h5 o⟩
  · rw [World.cell?_setCell_other _ _ _ _ (by simp)]; exact h1
  · rw [World.cell?_setCell_other _ _ _ _ (by simp)]; exact h2
  · rw [World.cell?_setCell_other _ _ _ _ (by simp)]; exact h3

theorem Ar.grown {w w' : World} {k : IntKind} {g L : Nat} {f : Nat → Nat} {row : Option Nat} (h : Ar w k g L f) (hg : w.grownBy w' row) (hne : some g ≠ row) : Ar w' k g L f := by
  have hb := hg.block g h.1 hne
  exact ⟨Nat.lt_of_lt_of_le h.1 hg.size, fun j hj => by rw [World.cell?_of_block (w := w) (a := ⟨g, j, none⟩) hb]; exact h.2.1 j hj, fun o => by rw [World.frozen?_of_block (w := w) (a := ⟨g, o, none⟩) hb]; exact h.2.2 o⟩

theorem sum_new (w : World) (gs n : Nat) (rv : Value) : SumAt (w.alloc (.cells #[.int .i64 256, .iface 88 (.pointer (some ⟨gs, 0, none⟩)), rv, .int .u64 (n : Nat)] 81)) w.heap.size gs n rv := by
  refine ⟨by simp, ?_, ?_, ?_, ?_, fun o => World.frozen?_alloc_at _ _ _ _ rfl⟩ <;> (rw [World.cell?_alloc_at _ _ _ _ rfl]; rfl)

theorem new_any {w : World} : Calls Try.prog 36 #[.int .i64 256] w fun e w' => ∃ p gs, e = .returned (.tuple #[.pointer (some ⟨p, 0, none⟩), .int .i64 0]) ∧ SumAt w' p gs 0 (.slice none 0 0) ∧ Ar w' .u32 gs 8 h256 ∧ w.heap.size ≤ gs ∧ gs < p ∧ Below w.heap.size w w' := by
  go_enter Try.func36, Try.ntmps36
  go_wp2_with fail
  refine Calls.mono first_any ?_
  rintro e w1 ⟨g, rfl, ha, hg, hb⟩
  have HA := hid ha
  have HB := hid hb
  have hz := hb.size
  have hgl := ha.lt
  clear ha hb
  go_wp2_with fail
  go_ret2
  have hb2 : Below w1.heap.size w1 (w1.alloc (Obj.cells #[.int .i64 256, .iface 88 (.pointer (some ⟨g, 0, none⟩)), .slice none 0 0, .int .u64 0] 81)) := (Below.refl _ _).alloc (Nat.le_refl _) _
  exact ⟨w1.heap.size, g, rfl, sum_new w1 g 0 _, HA.out.below hb2, hg, hgl, HB.out.trans (hb2.mono hz)⟩

theorem width_any {w : World} {gs : Nat} : Calls Try.prog 66 #[.pointer (some ⟨gs, 0, none⟩)] w fun e w' => e = .returned (.int .i64 64) ∧ w = w' := by
  go_enter Try.func66, Try.ntmps66
  go_wp2_with fail
  go_ret
  exact ⟨rfl, rfl⟩

/-- The state behind so many blocks of the bytes F. -/
def bst (T h F : Nat → Nat) : Nat → Nat → Nat
  | 0 => h
  | j + 1 => blk T (bst T h F j) (fun i => F (64 * j + i))

theorem bst_lt {T h F : Nat → Nat} (hl : ∀ j, j < 8 → h j < 4294967296) : ∀ j i, i < 8 → bst T h F j i < 4294967296
  | 0, i, hi => hl i hi
  | _ + 1, _, _ => Nat.mod_lt _ (by decide)

/-- What a sum is: where it lies, its state, what it keeps; the blocks are three. -/
def SumIs (w : World) (p gs n m c : Nat) (o : Option Addr) (h f : Nat → Nat) : Prop :=
  SumAt w p gs n (.slice o m c) ∧ Ar w .u32 gs 8 h ∧ Own 0 w .u8 5 o m c f ∧ p ≠ gs ∧ (∀ a, o = some a → a.block ≠ p ∧ a.block ≠ gs)

theorem method_width (a : Addr) (w : World) : (method 217 88 (.pointer (some a)) "postmark/sha.width").run Try.prog w = .ok (66, .pointer (some a)) w := by kernel_rfl
theorem method_take (a : Addr) (w : World) : (method 217 88 (.pointer (some a)) "postmark/sha.take").run Try.prog w = .ok (65, .pointer (some a)) w := by kernel_rfl
theorem method_again (a : Addr) (w : World) : (method 217 88 (.pointer (some a)) "postmark/sha.again").run Try.prog w = .ok (63, .pointer (some a)) w := by kernel_rfl
theorem method_state (a : Addr) (w : World) : (method 217 88 (.pointer (some a)) "postmark/sha.state").run Try.prog w = .ok (64, .pointer (some a)) w := by kernel_rfl
theorem nil_take (a : Addr) (w : World) : (nilAhead 217 88 (.pointer (some a)) "postmark/sha.take").run Try.prog w = .ok (some false) w := by kernel_rfl
theorem nil_state (a : Addr) (w : World) : (nilAhead 217 88 (.pointer (some a)) "postmark/sha.state").run Try.prog w = .ok (some false) w := by kernel_rfl

theorem Ar.keep {B : Nat} {w w' : World} {k : IntKind} {g L : Nat} {f : Nat → Nat} (h : Ar w k g L f) (hb : Below B w w') (hg : g < B) : Ar w' k g L f :=
  ⟨Nat.lt_of_lt_of_le h.1 hb.size, fun j hj => by rw [hb.cell (p := ⟨g, j, none⟩) hg]; exact h.2.1 j hj, fun o => by rw [hb.frozen (p := ⟨g, o, none⟩) hg]; exact h.2.2 o⟩

/-- A part of a row, from place d on. -/
theorem Sl.part {w : World} {k : IntKind} {g n c : Nat} {f : Nat → Nat} (h : Sl w k (some ⟨g, 0, none⟩) n c f) {d m : Nat} (hd : d + m ≤ n) (hm : 0 < m) : Sl w k (some ⟨g, d, none⟩) m (c - d) (fun i => f (d + i)) := by
  have h1 := h.len_le
  have h2 := h.cap_le
  refine ⟨by omega, by omega, (fun h => by cases h), fun _ => ?_⟩
  obtain ⟨b, off, e, hlt, hc⟩ := h.at_ (by omega)
  cases e
  exact ⟨g, d, rfl, hlt, fun j hj => by have := hc (d + j) (by omega); rwa [Nat.zero_add] at this⟩

theorem run_mid {P : Program} (t e : TypeId) (i : TypeInfo) (ht : P.underlying t = some (.slice e)) (hi : P.info? e = some i) (hs : i.size = 1) (g n c l h : Nat) (hl : l ≤ h) (hh : h ≤ c) (hlc : l < c) (w : World) :
    (Instr.slice t (.slice (some ⟨g, 0, none⟩) n c) (some (.int .i64 (l : Int))) (some (.int .i64 (h : Int))) none).run P w = .ok (.slice (some ⟨g, l, none⟩) (h - l) (c - l)) w := by
  simp [Instr.slice, run_underlying ht, Instr.sliceBounds, Instr.sliceBound, asIntOf, sizeOf, typeInfo, hi, Addr.add, hs]
  rw [if_pos hh, if_pos hl, if_neg (show ¬ c = l by omega)]
  split
  · rename_i h6; subst h6; rfl
  · rfl

/-- 's[l:]', whatever s: where it ends up. -/
def fromA (g l c : Nat) : Option Addr := if l < c then some ⟨g, l, none⟩ else some ⟨g, 0, none⟩

theorem run_from {P : Program} (t e : TypeId) (i : TypeInfo) (ht : P.underlying t = some (.slice e)) (hi : P.info? e = some i) (hs : i.size = 1) (g n c l : Nat) (hl : l ≤ n) (hn : n ≤ c) (w : World) :
    (Instr.slice t (.slice (some ⟨g, 0, none⟩) n c) (some (.int .i64 (l : Int))) none none).run P w = .ok (.slice (fromA g l c) (n - l) (c - l)) w := by
  simp [Instr.slice, run_underlying ht, Instr.sliceBounds, Instr.sliceBound, asIntOf, sizeOf, typeInfo, hi, Addr.add, hs]
  unfold fromA
  rw [if_pos hl]
  by_cases h : l < c
  · rw [if_neg (show ¬ c = l by omega), if_pos h]
    split
    · rename_i h6; subst h6; rfl
    · rfl
  · rw [if_neg h, if_pos (show c = l by omega)]

theorem Sl.from {w : World} {k : IntKind} {g n c : Nat} {f : Nat → Nat} (h : Sl w k (some ⟨g, 0, none⟩) n c f) {d : Nat} (hd : d ≤ n) : Sl w k (fromA g d c) (n - d) (c - d) (fun i => f (d + i)) := by
  have h1 := h.len_le
  have h2 := h.cap_le
  by_cases hdc : d < c
  · rw [fromA, if_pos hdc]
    refine ⟨by omega, by omega, (fun h => by cases h), fun hn => ?_⟩
    obtain ⟨b, off, e, hlt, hc⟩ := h.at_ (by omega)
    cases e
    exact ⟨g, d, rfl, hlt, fun j hj => by have := hc (d + j) (by omega); rwa [Nat.zero_add] at this⟩
  · rw [fromA, if_neg hdc]
    exact ⟨by omega, by omega, (fun h => by cases h), fun hn => absurd hn (by omega)⟩

theorem ownBlock_ne {oa : Option Addr} {n c p : Nat} (h : ∀ a, oa = some a → a.block ≠ p) : some p ≠ (Value.slice oa n c).ownBlock := by
  cases oa with
  | none => simp [Value.ownBlock]
  | some a => have := h a rfl; simp [Value.ownBlock]; omega

/-- A block that holds something else at its beginning is another block. -/
theorem Own.apart {B : Nat} {w : World} {k : IntKind} {e : TypeId} {oa : Option Addr} {n c : Nat} {f : Nat → Nat} (h : Own B w k e oa n c f) (hn : 0 < n) {p : Nat} {v : Value} (hc : w.cell? ⟨p, 0, none⟩ = some v) (hv : ∀ x : Int, v ≠ .int k x) : ∀ a, oa = some a → a.block ≠ p := by
  intro a ha hp
  obtain ⟨g, rfl, _, _, h3, _⟩ := h.at_ hn
  cases ha
  have : g = p := hp
  subst this
  have h4 := h3 0 hn
  rw [hc] at h4
  exact hv _ (Option.some.inj h4)

set_option maxRecDepth 100000 in
set_option maxHeartbeats 3200000 in
theorem write_any {w : World} {B p gs n m0 m c0 cb : Nat} {o0 ob : Option Addr} {T h f b : Nat → Nat} (hs : SumAt w p gs n (.slice o0 m0 c0)) (h0 : Own B w .u8 5 o0 m0 c0 f) (hb : Sl w .u8 ob m cb b)
    (ha : Ar w .u32 gs 8 h) (ht : Ar w .u64 0 80 T) (hl : ∀ j, j < 8 → h j < 4294967296) (hbl : ∀ j, cat f m0 b j < 256) (htl : ∀ j, j < 80 → T j < 18446744073709551616)
    (hB : 0 < B) (hBp : B ≤ p) (hBg : B ≤ gs) (hBw : B ≤ w.heap.size) (hpg : p ≠ gs) (hop : ∀ a, o0 = some a → a.block ≠ p) (hog : ∀ a, o0 = some a → a.block ≠ gs) (hobp : ∀ a, ob = some a → a.block ≠ p) (hm0 : 0 < m0 + m) (hm : m0 + m < 128) (hn : n < 1000) :
    Calls Try.prog 37 #[.pointer (some ⟨p, 0, none⟩), .slice ob m cb] w fun e w' => e = .returned (.int .i64 0) ∧ ∃ o1 c1, SumAt w' p gs (n + m) (.slice o1 ((m0 + m) % 64) c1) ∧ Own w.heap.size w' .u8 5 o1 ((m0 + m) % 64) c1 (fun i => cat f m0 b (64 * ((m0 + m) / 64) + i)) ∧
      Ar w' .u32 gs 8 (bst T h (cat f m0 b) ((m0 + m) / 64)) ∧ Below B w w' := by
  have HS := hid hs
  have HO := hid h0
  have HB := hid hb
  have HA := hid ha
  have HT := hid ht
  have HL := hid hl
  have HBL := hid hbl
  have HTL := hid htl
  have HOP := hid hop
  have HOG := hid hog
  have HOBP := hid hobp
  obtain ⟨hp, s0, s1, s2, s3, s4⟩ := hs
  have f2 := s4 2
  have f3 := s4 3
  have hmw : IntKind.u64.wrap ((n : Int) + (m : Int)) = ((n + m : Nat) : Int) := by rw [IntKind.wrap_u64]; omega
  clear s4 h0 hb ha ht hl hbl htl hop hog hobp
  go_enter Try.func37, Try.ntmps37
  go_wp2_with (at_builtin; refine wpList_app rfl _ _ k8 rfl B m0 m o0 ob c0 cb f b rfl rfl (HO.out.setCell_other HOP.out _ _) (HB.out.setCell_other HOBP.out _ _) (by omega) (by simpa using hBw) ?_)
  intro oa' c' w1 h1 h2 h3
  have e0 : ((n : Int) + (m : Int)) = ((n + m : Nat) : Int) := by omega
  rw [e0] at h2 h3
  obtain ⟨gw, rfl, hgB, _, _, _⟩ := h1.at_ hm0
  have HS1 := hid (((HS.out.count (n + m)).grown h2 (ownBlock_ne HOP.out)).rest (.slice (some ⟨gw, 0, none⟩) (m0 + m) c'))
  have ha1 := (HA.out.setCell_other (fun h => hpg h.symm) 3 (.int .u64 ((n + m : Nat) : Int))).grown h2 (ownBlock_ne HOG.out)
  have HP := hid (h1.apart hm0 (((HS.out.count (n + m)).grown h2 (ownBlock_ne HOP.out)).2.1) (by intro x h; cases h))
  have HG := hid (h1.apart hm0 (ha1.cell (j := 0) (by decide)) (by intro x h; cases h))
  have HA1 := hid (ha1.setCell_other (fun h => hpg h.symm) 2 (.slice (some ⟨gw, 0, none⟩) (m0 + m) c'))
  have HO1 := hid (h1.setCell_other HP.out 2 (.slice (some ⟨gw, 0, none⟩) (m0 + m) c'))
  have HB1 := hid ((((Below.refl B w).setCell (p := ⟨p, 3, none⟩) hBp (.int .u64 ((n + m : Nat) : Int))).trans h3).setCell (p := ⟨p, 2, none⟩) hBp (.slice (some ⟨gw, 0, none⟩) (m0 + m) c'))
  have g1 := (((HS.out.count (n + m)).grown h2 (ownBlock_ne HOP.out))).2.2.1
  have g2 := (((HS.out.count (n + m)).grown h2 (ownBlock_ne HOP.out))).2.2.2.1
  have q2 := (((HS.out.count (n + m)).grown h2 (ownBlock_ne HOP.out))).2.2.2.2.2 2
  clear s0 s1 s2 s3 f2 f3 hmw ha1 h1 h2 h3 e0
  have HMW := method_width ⟨gs, 0, none⟩
  have HMT := method_take ⟨gs, 0, none⟩
  have HNT := nil_take ⟨gs, 0, none⟩
  go_wp2_with fail
  refine Calls.mono width_any ?_
  rintro e wq ⟨rfl, rfl⟩
  generalize (w1.setCell ⟨p, 2, none⟩ (.slice (some ⟨gw, 0, none⟩) (m0 + m) c')) = W2 at *
  clear g1 g2 q2 HMW
  obtain ⟨F, hF⟩ : ∃ F, F = cat f m0 b := ⟨_, rfl⟩
  rw [← hF] at HO1 HBL
  have HF := hid hF
  clear hF
  go_wp2_with fail
  go_loopw [6] (fun k wr => ∃ j, 64 * j ≤ m0 + m ∧ k = .int .i64 ((64 * j : Nat) : Int) ∧ SumAt wr p gs (n + m) (.slice (some ⟨gw, 0, none⟩) (m0 + m) c') ∧ Own B wr .u8 5 (some ⟨gw, 0, none⟩) (m0 + m) c' F ∧ Ar wr .u32 gs 8 (bst T h F j) ∧ Below B w wr) (fun k _ => m0 + m - (intOf k).toNat)
  case atStart => exact ⟨0, by omega, rfl, HS1.out, HO1.out, HA1.out, HB1.out⟩
  case round =>
    obtain ⟨j, hj, rfl, hs, ho, ha, hbl⟩ := hrel
    have HSR := hid hs
    have HOR := hid ho
    have HAR := hid ha
    have HBR := hid hbl
    have r1 := hs.2.2.1
    have r2 := hs.2.2.2.1
    have q2 := hs.2.2.2.2.2 2
    clear hs ho ha hbl
    obtain ⟨k, hk⟩ : ∃ k, k = 64 * j := ⟨_, rfl⟩
    rw [← hk] at hj ⊢
    have HK := hid hk
    clear hk
    by_cases hlt : k + 64 ≤ m0 + m
    · have hcl := HOR.out.sl.len_le
      have hcm := HOR.out.sl.cap_le
      go_wp2_with fail
      have HTK := hid <| take_any (w := wr.drew) (gs := gs) (HAR.out.drewN 1) ((HOR.out.sl.part (d := k) (m := 64) (by omega) (by omega))) ((HT.out.keep HBR.out hB : Ar wr .u64 0 80 T).drewN 1) (bst_lt HL.out j) (fun _ _ => HBL.out _) HTL.out (fun a ha => by cases ha; exact HG.out ⟨gw, 0, none⟩ rfl)
      have hsm : Hid (∀ w : World, (Instr.slice 27 (.slice (some ⟨gw, 0, none⟩) (m0 + m) c') (some (.int .i64 (k : Int))) (some (.int .i64 ((k : Int) + 64))) none).run Try.prog w = .ok (.slice (some ⟨gw, k, none⟩) 64 (c' - k)) w) := by
        intro w
        obtain ⟨i8, hi, _, hz1, _⟩ := k8.hi
        have := run_mid (P := Try.prog) 27 5 i8 Try.underlying27 hi hz1 gw (m0 + m) c' k (k + 64) (by omega) (by omega) (by omega) w
        rw [show k + 64 - k = 64 from by omega] at this
        exact this
      have hsm := hsm.out
      have hwr : IntKind.i64.wrap ((k : Int) + 64) = (k : Int) + 64 := by rw [IntKind.wrap_i64]; omega
      go_region_with (go_at_call 65; refine Calls.mono HTK.out ?_; rintro e w' ⟨rfl, hA2, hG2⟩)
      all_goals (
        have HA2 : Hid (Ar w' .u32 gs 8 (bst T h F (j + 1))) := by
          have h9 := hA2
          rw [HK.out] at h9
          exact hid h9
        have HG2 : Hid (wr.grownBy w' (some gs)) := hid ⟨hG2.os, hG2.tape, hG2.output, hG2.size, hG2.block⟩
        have hzr : w.heap.size ≤ wr.heap.size := HBR.out.size
        have HB3 : Hid (Below B w w') := hid (HBR.out.grown HG2.out (Nat.le_trans hBw hzr) (fun q hq => by cases hq; exact hBg))
        have HS3 : Hid (SumAt w' p gs (n + m) (.slice (some ⟨gw, 0, none⟩) (m0 + m) c')) := hid (HSR.out.grown HG2.out (by intro h; exact hpg (Option.some.inj h)))
        have HO3 : Hid (Own B w' .u8 5 (some ⟨gw, 0, none⟩) (m0 + m) c' F) := hid (HOR.out.grown HG2.out (.inr (fun h => (HG.out ⟨gw, 0, none⟩ rfl) (Option.some.inj h))))
        clear hA2 hG2 hsm hwr r1 r2 q2 HTK hcl hcm HMT HNT
        refine inBlock_normal ?_
        go_wp2_with fail
        have hk := HK.out
        go_roundw
        case rel =>
          exact ⟨j + 1, by omega, by go_num, HS3.out, HO3.out, HA2.out, HB3.out⟩
        case measure => simp [intOf]; omega)
    · have hj2 : j = (m0 + m) / 64 := by have := HK.out; omega
      have hcl := HOR.out.sl.len_le
      have hsm : ∀ w : World, (Instr.slice 27 (.slice (some ⟨gw, 0, none⟩) (m0 + m) c') (some (.int .i64 (k : Int))) none none).run Try.prog w = .ok (.slice (fromA gw k c') (m0 + m - k) (c' - k)) w := by
        obtain ⟨i8, hi, _, hz1, _⟩ := k8.hi
        exact run_from (P := Try.prog) 27 5 i8 Try.underlying27 hi hz1 gw (m0 + m) c' k hj hcl
      have hz := HBR.out.size
      clear HMT HNT
      go_wp2_with (at_builtin; refine wpList_app rfl _ _ k8 rfl wr.heap.size 0 (m0 + m - k) none _ 0 (c' - k) (fun _ => 0) (fun i => F (k + i)) rfl rfl (Own.nil _ _ _ _ _) (HOR.out.sl.from hj) (by omega) (Nat.le_refl _) ?_)
      intro o1 c1 w9 h1 h2 h3
      have HO9 := hid (h1.congr (g := fun i => F (k + i)) fun i hi => by rw [cat_right (Nat.zero_le _), Nat.sub_zero])
      have HS9 := hid (HSR.out.below h3)
      have HA9 := hid (HAR.out.below h3)
      have HB9 := hid (HBR.out.trans (h3.mono (Nat.le_trans hBw hz)))
      have r9 := HS9.out.2.2.2.1
      have q9 := HS9.out.2.2.2.2.2 2
      have HP9 : Hid (∀ a, o1 = some a → a.block ≠ p) := hid fun a ha e => by
        have h5 := (h1.nw a ha).1
        have h6 := HSR.out.1
        omega
      clear h1 h2 h3 r1 r2 q2 hsm
      go_wp2_with fail
      go_ret
      have e1 : (m0 + m) % 64 = m0 + m - k := by have := HK.out; omega
      rw [e1, ← hj2, ← HF.out]
      refine ⟨rfl, o1, c1, HS9.out.rest _, ?_, HA9.out.setCell_other (fun h => hpg h.symm) _ _, HB9.out.setCell (p := ⟨p, 2, none⟩) hBp _⟩
      rw [← HK.out]
      exact (HO9.out.mono hz).setCell_other HP9.out _ _

end Go.Proofs.Ytkkcaicihhkahaa
