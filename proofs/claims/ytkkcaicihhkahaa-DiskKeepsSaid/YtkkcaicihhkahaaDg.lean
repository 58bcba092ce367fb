/-
  The walks of sha's digest (32 bits, sixteen bytes).
-/
import Derived.Test.YtkkcaicihhkahaaDf
import Derived.BigQuiet
namespace Go.Proofs.Ytkkcaicihhkahaa
open Go.RowKit

/-- What is laid behind sixteen bytes. -/
def pad0 : Nat → Nat := fun i => if i = 0 then 128 else 0
def pad48 : Nat → Nat := fun i => if i = 0 then 128 else if i = 47 then 128 else 0

theorem Own.drewN {B : Nat} {w : World} {k : IntKind} {e : TypeId} {oa : Option Addr} {n c : Nat} {f : Nat → Nat} (h : Own B w k e oa n c f) (d : Nat) : Own B (w.drewN d) k e oa n c f := h

theorem Below.drewN0 {B d : Nat} {w w' : World} (h : Below B (w.drewN d) w') : Below B w w' := ⟨h.os, h.tape, h.output, h.size, h.block⟩

theorem upd_self (f : Nat → Nat) (j i : Nat) : upd f j (f j) i = f i := by
  by_cases h : i = j
  · subst h; exact upd_same _ _ _
  · exact upd_other _ _ h

theorem upd_pad0 {j : Nat} (hj : 1 ≤ j) (i : Nat) : upd pad0 j 0 i = pad0 i := by
  by_cases h : i = j
  · subst h; rw [upd_same, pad0, if_neg (by omega)]
  · exact upd_other _ _ h

theorem pad_byte : ∀ k : Fin 8, (128 : Int) / 2 ^ (8 * k.val) % 256 = ((pad48 (47 - k.val) : Nat) : Int) := by decide

def lenV : Value → Nat
  | .slice _ n _ => n
  | _ => 0

theorem assert_small (a : Addr) (w : World) : (Instr.typeAssert (.iface 88 (.pointer (some a))) 78 85 true).run Try.prog w = .ok (.tuple #[.pointer none, .bool false]) w := by kernel_rfl

theorem own_one (w : World) (v : Nat) (f : Nat → Nat) (hf : f 0 = v) : Own w.heap.size (w.alloc (.cells #[.int .u8 (v : Nat)] 5)) .u8 5 (some ⟨w.heap.size, 0, none⟩) 1 1 f := by
  have h1 := World.ownsRow_lit (base := w.heap.size) (e := 5) (size := 1) w #[.int .u8 (v : Nat)] 1 (Nat.le_refl _) (by decide) rfl
  unfold Own
  have : ((List.range 1).map fun j => Value.int .u8 (f j : Nat)) = [.int .u8 (v : Nat)] := by rw [← hf]; rfl
  rw [this]
  exact h1

set_option maxRecDepth 100000 in
set_option maxHeartbeats 3200000 in
theorem sumDigest_any {w : World} {p gs gw c : Nat} {T h f : Nat → Nat} (hs : SumAt w p gs 16 (.slice (some ⟨gw, 0, none⟩) 16 c)) (ha : Ar w .u32 gs 8 h) (hr : Sl w .u8 (some ⟨gw, 0, none⟩) 16 c f)
    (ht : Ar w .u64 0 80 T) (hl : ∀ j, j < 8 → h j < 4294967296) (hfl : ∀ j, f j < 256) (htl : ∀ j, j < 80 → T j < 18446744073709551616) :
    Calls Try.prog 38 #[.pointer (some ⟨p, 0, none⟩)] w fun e w' => ∃ o c', e = .returned (.slice o 32 c') ∧ Sl w' .u8 o 32 c' (stb (blk T h (cat f 16 pad48))) ∧ Below w.heap.size w w' := by
  have HS := hid hs
  have HT := hid ht
  have HL := hid hl
  have HFL := hid hfl
  have HTL := hid htl
  have HC := hid (copy_any hs ha hr (by decide) (by decide))
  have hp := hs.1
  clear hs ha hr ht hl hfl htl
  go_enter Try.func38, Try.ntmps38
  go_wp2_with fail
  refine Calls.mono HC.out ?_
  rintro e w1 ⟨q, g, o, cx, rfl, hs1, ha1, ho1, hq, hg, hqg, hoq, hog, hb1⟩
  have HS1 := hid hs1
  have HA1 := hid ha1
  have HO1 := hid ho1
  have HB1 := hid hb1
  have HOQ := hid hoq
  have HOG := hid hog
  have hz1 := hb1.size
  have r1 := hs1.2.2.1
  clear hs1 ha1 ho1 hb1 hoq hog HC
  have HTA := assert_small ⟨g, 0, none⟩
  go_wp2_with fail
  have HE := hid (own_one w1 128 pad0 rfl)
  have HB2 := hid ((HB1.out).trans (((Below.refl w1.heap.size w1).alloc (Nat.le_refl _) (Obj.cells #[.int .u8 128] 5)).mono hz1))
  have HK2 := hid ((Below.refl w1.heap.size w1).alloc (Nat.le_refl _) (Obj.cells #[.int .u8 128] 5))
  generalize (w1.alloc (Obj.cells #[.int .u8 128] 5)) = w2 at *
  clear r1 HTA
  go_loopw [7] (fun e wr => ∃ (j cj : Nat) (oj : Option Addr), 1 ≤ j ∧ j ≤ 40 ∧ e = .slice oj j cj ∧ Own w1.heap.size wr .u8 5 oj j cj pad0 ∧ Below w1.heap.size w1 wr) (fun e _ => 40 - (lenV e))
  case atStart => exact ⟨1, 1, _, Nat.le_refl _, by decide, rfl, HE.out, HK2.out⟩
  case round =>
    obtain ⟨j, cj, oj, hj1, hj2, rfl, hoj, hbl⟩ := hrel
    have HO := hid hoj
    have HB := hid hbl
    have hz := hbl.size
    have hsr := HS1.out.below hbl
    have r1 := hsr.2.2.1
    have r2 := hsr.2.2.2.1
    have HMW := method_width ⟨g, 0, none⟩
    have e1 : IntKind.i64.wrap ((16 : Int) + (j : Int)) = ((16 + j : Nat) : Int) := by rw [IntKind.wrap_i64]; omega
    have e2 : IntKind.i64.wrap (((16 + j : Nat) : Int) + 8) = ((16 + j + 8 : Nat) : Int) := by rw [IntKind.wrap_i64]; omega
    have e3 : ((16 + j + 8 : Nat) : Int).tmod 64 = (((16 + j + 8) % 64 : Nat) : Int) := rfl
    clear hoj hbl hsr
    go_wp2_with fail
    go_quiet ((go_at_call 66; refine Calls.mono width_any ?_; rintro e w' ⟨rfl, rfl⟩; exact ⟨rfl, _, rfl⟩))
    by_cases hlt : j < 40
    · have hc : ((16 + (j : Int) + 8) % 64 != 0) = true := by
        rw [bne_iff_ne]
        omega
      rw [hc]
      clear e1 e2 e3 hc r1 r2 HMW
      go_wp2_with (at_builtin; refine wpList_app1 (w0 := wr.drewN nq) (v := 0) rfl _ _ k8 rfl w1.heap.size j oj cj pad0 rfl rfl (HO.out.drewN nq) (by omega) hz ?_)
      intro oa' c' w' h1 h2 h3
      have HO2 := hid (h1.congr (g := pad0) fun i hi => upd_pad0 hj1 i)
      have HB2 := hid (HB.out.trans (Below.drewN0 h3))
      clear h1 h2 h3
      go_wp2_with fail
      go_roundw
      case rel => exact ⟨j + 1, c', oa', by omega, by omega, rfl, HO2.out, HB2.out⟩
      case measure => simp [lenV]; omega
    · obtain rfl : j = 40 := by omega
      have hc : ((16 + ((40 : Nat) : Int) + 8) % 64 != 0) = false := rfl
      rw [hc]
      clear e1 e2 e3 hc r1 r2 HMW
      go_wp2_with fail
      have HO := hid ((HO.out.drewN nq).congr (g := pad48) fun i hi => by unfold pad0 pad48; rw [if_neg (show ¬ i = 47 by omega)])
      have HB : Hid (Below w1.heap.size w1 (wr.drewN nq)) := hid (HB.out.trans ⟨rfl, rfl, rfl, Nat.le_refl _, fun _ _ => rfl⟩)
      generalize wr.drewN nq = w3 at *
      rw [show (16 + ((40 : Nat) : Int) + 8) % 64 = 0 from rfl, show 16 + ((40 : Nat) : Int) + 8 = 64 from rfl, show 16 + ((40 : Nat) : Int) = 56 from rfl, show ((40 : Nat) : Int) = 40 from rfl]
      go_loopw [7, 8] (fun e k wr => ∃ (j cj : Nat) (oj : Option Addr), j ≤ 8 ∧ e = .slice oj (40 + j) cj ∧ k = .int .i64 (7 - (j : Int)) ∧ Own w1.heap.size wr .u8 5 oj (40 + j) cj pad48 ∧ Below w1.heap.size w1 wr) (fun e _ _ => 48 - lenV e)
      case atStart => exact ⟨0, cj, oj, by decide, rfl, rfl, HO.out, HB.out⟩
      case round =>
        obtain ⟨j, cj, oj, hj, rfl, rfl, hoj, hbl⟩ := hrel
        have HO := hid hoj
        have HB := hid hbl
        have hz := hbl.size
        have hsp := HS.out.below (HB1.out.trans (hbl.mono hz1))
        have r3 := hsp.2.2.2.2.1
        clear hoj hbl hsp
        by_cases hlt : j < 8
        · obtain ⟨k, hk⟩ : ∃ k, k + j = 7 := ⟨7 - j, by omega⟩
          have ek : (7 : Int) - (j : Int) = (k : Int) := by omega
          rw [ek]
          have k7 : (k : Int) < 8 := by omega
          have HJ := hid hk
          have HPV : Hid ((128 : Int) / 2 ^ (8 * k) % 256 = ((pad48 (40 + j) : Nat) : Int)) := by
            have := pad_byte ⟨k, by omega⟩
            rw [show (40 + j) = 47 - k from by omega]
            exact hid this
          go_wp2_with (at_builtin; rw [HPV.out]; refine wpList_app1 (w0 := wr) (v := pad48 (40 + j)) rfl _ _ k8 rfl w1.heap.size (40 + j) oj cj pad48 rfl rfl HO.out (by omega) hz ?_)
          intro oa' c' w' h1 h2 h3
          have HO2 := hid (h1.congr (g := pad48) fun i hi => upd_self pad48 (40 + j) i)
          have HB2 := hid (HB.out.trans h3)
          clear h1 h2 h3
          go_wp2_with fail
          go_roundw
          case rel =>
            exact ⟨j + 1, c', oa', by omega, rfl, by have := HJ.out; go_num, HO2.out, HB2.out⟩
          case measure => simp [lenV]; omega
        · obtain rfl : j = 8 := by omega
          have hzr : w.heap.size ≤ wr.heap.size := Nat.le_trans hz1 hz
          have HSQ := hid (HS1.out.below HB.out)
          have HAQ := hid (HA1.out.below HB.out)
          have HOQ1 := hid ((HO1.out.below HB.out))
          have HTQ := hid (HT.out.below (HB1.out.trans (HB.out.mono hz1)))
          have HBQ : Hid (Below w.heap.size w wr) := hid (HB1.out.trans (HB.out.mono hz1))
          have HNQ := hid HO.out.nw
          have hqz := HS1.out.1
          have HWR := hid (write_any (B := w.heap.size) HSQ.out HOQ1.out HO.out.sl HAQ.out HTQ.out HL.out (fun i => by unfold cat; split; exact HFL.out _; unfold pad48; split; decide; split; decide; decide) HTL.out (by omega) hq hg hzr hqg HOQ.out HOG.out (fun a ha h => by have := (HNQ.out a ha).1; omega) (by decide) (by decide) (by decide))
          clear r3 HO
          go_wp2_with fail
          refine Calls.mono HWR.out ?_
          rintro e w4 ⟨rfl, o4, c4, hs4, ho4, ha4, hb4⟩
          have ha5 : Ar w4 .u32 g 8 (blk T h (cat f 16 pad48)) := by
            have e : (fun i => cat f 16 pad48 (64 * 0 + i)) = cat f 16 pad48 := by funext i; rw [Nat.mul_zero, Nat.zero_add]
            have h9 : Ar w4 .u32 g 8 (blk T h (fun i => cat f 16 pad48 (64 * 0 + i))) := ha4
            rw [e] at h9
            exact h9
          have hbl : ∀ j, j < 8 → blk T h (cat f 16 pad48) j < 4294967296 := fun j _ => Nat.mod_lt _ (by decide)
          have HB4 : Hid (Below w.heap.size w w4) := hid (HBQ.out.trans hb4)
          have hp0 := (HS.out.below HB4.out).2.1
          have hq1 := hs4.2.2.1
          have hqs := hs4.1
          have hz4 : w.heap.size ≤ w4.heap.size := HB4.out.size
          have KD : Hid (w4.drew.cell? ⟨p, 0, none⟩ = some (.int .i64 256) ∧ w4.drew.cell? ⟨q, 1, none⟩ = some (.iface 88 (.pointer (some ⟨g, 0, none⟩))) ∧ Ar w4.drew .u32 g 8 (blk T h (cat f 16 pad48)) ∧ Below w4.heap.size w4 w4.drew) := hid ⟨hp0, hq1, ha5, ⟨rfl, rfl, rfl, Nat.le_refl _, fun _ _ => rfl⟩⟩
          have KP : Hid (∀ v1 v2 : World, (v1.cell? ⟨p, 0, none⟩ = some (.int .i64 256) ∧ v1.cell? ⟨q, 1, none⟩ = some (.iface 88 (.pointer (some ⟨g, 0, none⟩))) ∧ Ar v1 .u32 g 8 (blk T h (cat f 16 pad48)) ∧ Below w4.heap.size w4 v1) → Below v1.heap.size v1 v2 →
              (v2.cell? ⟨p, 0, none⟩ = some (.int .i64 256) ∧ v2.cell? ⟨q, 1, none⟩ = some (.iface 88 (.pointer (some ⟨g, 0, none⟩))) ∧ Ar v2 .u32 g 8 (blk T h (cat f 16 pad48)) ∧ Below w4.heap.size w4 v2)) := by
            refine hid ?_
            intro v1 v2 ⟨a1, a2, a3, a4⟩ hb
            have hz5 := a4.size
            exact ⟨by rw [hb.cell (p := ⟨p, 0, none⟩) (show p < v1.heap.size by omega)]; exact a1, by rw [hb.cell (p := ⟨q, 1, none⟩) (show q < v1.heap.size by omega)]; exact a2, a3.below hb, a4.trans (hb.mono hz5)⟩
          have KA : Hid (∀ v1 : World, (v1.cell? ⟨p, 0, none⟩ = some (.int .i64 256) ∧ v1.cell? ⟨q, 1, none⟩ = some (.iface 88 (.pointer (some ⟨g, 0, none⟩))) ∧ Ar v1 .u32 g 8 (blk T h (cat f 16 pad48)) ∧ Below w4.heap.size w4 v1) →
              Calls Try.prog 64 #[.pointer (some ⟨g, 0, none⟩)] v1 fun e w' => ∃ oa c, e = .returned (.slice oa 32 c) ∧ Own v1.heap.size w' .u8 5 oa 32 c (stb (blk T h (cat f 16 pad48))) ∧ Below v1.heap.size v1 w') := hid fun v1 h1 => state_any h1.2.2.1 hbl
          have HSL : Hid (∀ (oa : Option Addr) (c : Nat), 32 ≤ c → ∀ w : World, (Instr.slice 27 (.slice oa 32 c) none (some (.int .i64 32)) none).run Try.prog w = .ok (.slice oa 32 c) w) := by
            refine hid fun oa c hc w => ?_
            obtain ⟨i8, hi, _⟩ := k8.hi
            exact run_upto (P := Try.prog) 27 5 i8 Try.underlying27 hi oa 32 c 32 hc w
          have HMS := method_state ⟨g, 0, none⟩
          have hq8 : IntKind.i64.wrap 32 = 32 := by decide
          clear hs4 ho4 ha4 hb4 ha5 hbl hp0 hq1
          go_wp2_with fail
          go_region_held3 (fun v1 => v1.cell? ⟨p, 0, none⟩ = some (.int .i64 256) ∧ v1.cell? ⟨q, 1, none⟩ = some (.iface 88 (.pointer (some ⟨g, 0, none⟩))) ∧ Ar v1 .u32 g 8 (blk T h (cat f 16 pad48)) ∧ Below w4.heap.size w4 v1)
            (first | assumption | exact KD.out | exact KP.out _ _ (by assumption) (by assumption) | exact KP.out _ _ KD.out (by assumption))
            (first
              | (go_at_call 64; refine Calls.mono (KA.out _ (by assumption)) ?_; rintro e w5 ⟨oa, cc, rfl, hO, hB⟩; have hsl := HSL.out oa cc hO.sl.len_le))
          have HO5 := hid hO.sl
          have hb5 : Below w4.heap.size w4 w5 := ⟨hB.os, hB.tape, hB.output, hB.size, hB.block⟩
          have HB5 : Hid (Below w.heap.size w w5) := hid (HB4.out.trans (hb5.mono hz4))
          clear hO hB hsl hb5 KD KP KA HSL HMS hq8
          go_wp2_with fail
          go_ret
          exact ⟨oa, cc, rfl, HO5.out, HB5.out⟩

/-- The digest's bytes of sixteen bytes. -/
def dig (T f : Nat → Nat) : Nat → Nat := stb (blk T h256 (cat f 16 pad48))

theorem dig_lt (T f : Nat → Nat) (i : Nat) : dig T f i < 256 := Nat.mod_lt _ (by decide)

theorem h256_lt (j : Nat) (hj : j < 8) : h256 j < 4294967296 := by
  have := k256_lt j hj
  unfold h256
  omega

theorem dig_congr {T f g : Nat → Nat} (h : ∀ j, j < 16 → f j = g j) : dig T f = dig T g := by
  have : cat f 16 pad48 = cat g 16 pad48 := by
    funext i
    by_cases hi : i < 16
    · rw [cat_left hi, cat_left hi, h i hi]
    · rw [cat_right (by omega), cat_right (by omega)]
  unfold dig
  rw [this]

set_option maxRecDepth 100000 in
theorem digest_any {w : World} {ob : Option Addr} {cb : Nat} {T f : Nat → Nat} (hb : Sl w .u8 ob 16 cb f) (ht : Ar w .u64 0 80 T) (hfl : ∀ j, f j < 256) (htl : ∀ j, j < 80 → T j < 18446744073709551616) :
    Calls Try.prog 33 #[.int .i64 256, .slice ob 16 cb] w fun e w' => ∃ o c', e = .returned (.tuple #[.slice o 32 c', .int .i64 0]) ∧ Sl w' .u8 o 32 c' (dig T f) ∧ Below w.heap.size w w' := by
  have HB := hid hb
  have HT := hid ht
  have HFL := hid hfl
  have HTL := hid htl
  have htz := ht.1
  clear hb ht hfl htl
  go_enter Try.func33, Try.ntmps33
  go_wp2_with fail
  refine Calls.mono new_any ?_
  rintro e w1 ⟨p, gs, rfl, hs1, ha1, hg, hgp, hb1⟩
  have HS1 := hid hs1
  have HA1 := hid ha1
  have HB1 := hid hb1
  have hz1 := hb1.size
  have hp1 := hs1.1
  have hobp : ∀ a, ob = some a → a.block ≠ p := by
    intro a ha
    obtain ⟨b, off, e, hlt, _⟩ := HB.out.at_ (by decide)
    rw [e] at ha
    cases ha
    intro h
    have h2 : b = p := h
    omega
  have HWR := hid (write_any (B := w.heap.size) (f := fun _ => 0) hs1 (Own.nil _ _ _ _ _) (HB.out.below hb1) ha1 (HT.out.below hb1) h256_lt (fun i => by rw [cat_right (Nat.zero_le _)]; exact HFL.out _) HTL.out (by omega) (by omega) hg hz1 (by omega) (fun a ha => by cases ha) (fun a ha => by cases ha) hobp (by decide) (by decide) (by decide))
  clear hs1 ha1 hb1 hobp
  go_wp2_with fail
  refine Calls.mono HWR.out ?_
  rintro e w2 ⟨rfl, o2, c2, hs2, ho2, ha2, hb2⟩
  have ho2' : Own w1.heap.size w2 .u8 5 o2 16 c2 f := by
    refine Own.congr (n := 16) ho2 fun j hj => ?_
    rw [cat_right (Nat.zero_le _)]
    congr 1
    omega
  obtain ⟨gw, rfl, _⟩ := ho2'.at_ (by decide)
  have hb2' : Below w.heap.size w w2 := HB1.out.trans hb2
  have HSD := hid (sumDigest_any (w := w2) (T := T) (h := h256) (f := f) hs2 ha2 ho2'.sl (HT.out.below hb2') h256_lt HFL.out HTL.out)
  have hz2 := hb2'.size
  have HB2 := hid hb2'
  clear hs2 ho2 ha2 hb2 ho2' hb2' HWR
  go_wp2_with fail
  refine Calls.mono HSD.out ?_
  rintro e w3 ⟨o, c3, rfl, hs3, hb3⟩
  have HS3 := hid hs3
  have HB3 : Hid (Below w.heap.size w w3) := hid (HB2.out.trans (hb3.mono hz2))
  clear hs3 hb3 HSD
  go_wp2_with fail
  go_ret2
  exact ⟨o, c3, rfl, HS3.out, HB3.out⟩

end Go.Proofs.Ytkkcaicihhkahaa
