/-
  The walks of the journal's Last and Add.
-/
import Derived.Test.YtkkcaicihhkahaaDr
import Derived.Test.YtkkcaicihhkahaaDl
namespace Go.Proofs.Ytkkcaicihhkahaa
open Go.RowKit

theorem last_any {w : World} {p d s : Nat} {t : Int} (h : JrAt w p d s t) : Calls Try.prog 16 #[.pointer (some ⟨p, 0, none⟩)] w fun e w' => e = .returned (.tuple #[.int .u64 (s : Nat), .int .i64 t]) ∧ Nxt (fun _ => False) none none w w' := by
  have c1 := h.2.2.1
  have c2 := h.2.2.2.1
  clear h
  go_enter Try.func16, Try.ntmps16
  go_wp2_with fail
  go_region
  all_goals (
    go_wp2_with fail
    go_ret2
    exact ⟨rfl, ⟨rfl, rfl, rfl, Nat.le_refl _, fun _ _ _ _ => rfl, SameOrNew.refl _ _⟩⟩)

/-- What Add makes of a disk and a journal, and what it answers. -/
def ad (T : Nat → Nat) (S : DSt) (J : Nat × Int) (s : Nat) (t : Int) (gv : Nat → Nat) : DSt × (Nat × Int) × Int :=
  if mayB J s t = true then ((wr S (gapN S.m + 24) (cat gv (gapN S.m) (rc (hd T) s t))).1, if (wr S (gapN S.m + 24) (cat gv (gapN S.m) (rc (hd T) s t))).2 = 0 then (s, t) else J, (wr S (gapN S.m + 24) (cat gv (gapN S.m) (rc (hd T) s t))).2)
  else (S, J, 1)

theorem gapN_lt (n : Nat) : gapN n < 24 := Nat.mod_lt _ (by decide)

theorem ad_may {T : Nat → Nat} {S : DSt} {J : Nat × Int} {s : Nat} {t : Int} {gv : Nat → Nat} (h : mayB J s t = true) {L : Nat} (hL : L = gapN S.m) :
    ad T S J s t gv = ((wr S (L + 24) (cat gv L (rc (hd T) s t))).1, if (wr S (L + 24) (cat gv L (rc (hd T) s t))).2 = 0 then (s, t) else J, (wr S (L + 24) (cat gv L (rc (hd T) s t))).2) := by
  subst hL
  exact if_pos h

theorem JrAt.store2 {w : World} {p d s0 : Nat} {t0 : Int} (h : JrAt w p d s0 t0) (s : Nat) (t : Int) : JrAt ((w.setCell ⟨p, 1, none⟩ (.int .u64 (s : Nat))).setCell ⟨p, 2, none⟩ (.int .i64 t)) p d s t := by
  obtain ⟨h0, h1, h2, h3, h5⟩ := h
  have n1 : ((w.setCell ⟨p, 1, none⟩ (.int .u64 (s : Nat))).setCell ⟨p, 2, none⟩ (.int .i64 t)).cell? ⟨p, 1, none⟩ = some (.int .u64 (s : Nat)) := by
    rw [World.cell?_setCell_other _ _ _ _ (by simp)]
    exact World.cell?_setCell_same _ _ _ h2
  have n0 : ((w.setCell ⟨p, 1, none⟩ (.int .u64 (s : Nat))).setCell ⟨p, 2, none⟩ (.int .i64 t)).cell? ⟨p, 0, none⟩ = some (.pointer (some ⟨d, 0, none⟩)) := by
    rw [World.cell?_setCell_other _ _ _ _ (by simp), World.cell?_setCell_other _ _ _ _ (by simp)]
    exact h1
  have n2 : ((w.setCell ⟨p, 1, none⟩ (.int .u64 (s : Nat))).setCell ⟨p, 2, none⟩ (.int .i64 t)).cell? ⟨p, 2, none⟩ = some (.int .i64 t) := by
    refine World.cell?_setCell_same (u := .int .i64 t0) _ _ _ ?_
    rw [World.cell?_setCell_other _ _ _ _ (by simp)]
    exact h3
  exact ⟨by simpa using h0, n0, n1, n2, fun o => by simpa using h5 o⟩

theorem Dk.setCell {w : World} {B d c p : Nat} {oa : Option Addr} {S : DSt} (h : Dk w B d oa c S) (hpd : p ≠ d) (hpo : ∀ a, oa = some a → a.block ≠ p) (o : Nat) (v : Value) : Dk (w.setCell ⟨p, o, none⟩ v) B d oa c S :=
  ⟨h.at_.same (by simp) (heap_setCell_other w ⟨p, o, none⟩ d v (fun e => hpd e.symm)), h.own.setCell_other hpo _ _, h.ne, h.lt, h.arm, h.hB, h.len⟩

set_option maxRecDepth 100000 in
set_option maxHeartbeats 6400000 in
theorem add_any {w : World} {B d c p : Nat} {oa : Option Addr} {S : DSt} {J : Nat × Int} {T : Nat → Nat} (h : Dk w B d oa c S) (hj : JrAt w p d J.1 J.2) (hpd : p ≠ d) (hpo : ∀ a, oa = some a → a.block ≠ p) (hBw : B ≤ w.heap.size) (ht : Ar w .u64 0 80 T) (htl : ∀ j, j < 80 → T j < 18446744073709551616) (s : Nat) (t : Int) :
    Calls Try.prog 11 #[.pointer (some ⟨p, 0, none⟩), .int .u64 (s : Nat), .int .i64 t] w fun e w' => ∃ oa' c' gv, (mayB J s t = true → (∀ i, gv i < 256) ∧ (S.m % 24 ≠ 0 → ¬ isRc (hd T) (cat S.f S.m gv) (24 * (S.m / 24)))) ∧
      e = .returned (.int .i64 (ad T S J s t gv).2.2) ∧ Dk w' B d oa' c' (ad T S J s t gv).1 ∧ JrAt w' p d (ad T S J s t gv).2.1.1 (ad T S J s t gv).2.1.2 ∧ Nxt (fun j => j = d ∨ j = p) oa oa' w w' := by
  have HM := hid (may_any hj s t)
  have HD := hid h
  have HJ := hid hj
  have HT := hid ht
  have HTL := hid htl
  have HPO := hid hpo
  have j0 := hj.2.1
  have d0 := h.at_.2.1
  have dl := h.at_.1
  have pl := hj.1
  clear h hj ht htl hpo
  have hJ : (J.1, J.2) = J := rfl
  rw [hJ] at HM
  rcases hm : mayB J s t with _ | _
  · rw [hm] at HM
    go_enter Try.func11, Try.ntmps11
    go_wp2_with fail
    refine Calls.mono HM.out ?_
    rintro e w' ⟨rfl, rfl⟩
    go_wp2_with fail
    go_ret
    refine ⟨oa, c, fun _ => 0, (fun h => by cases h), ?_⟩
    have e : ad T S J s t (fun _ => 0) = (S, J, 1) := by unfold ad; rw [hm]; rfl
    rw [e]
    exact ⟨rfl, HD.out, HJ.out, Nxt.refl _ _ _⟩
  · rw [hm] at HM
    obtain ⟨L, hL⟩ : ∃ L, L = gapN S.m := ⟨_, rfl⟩
    have hLl : L < 24 := by rw [hL]; exact gapN_lt _
    have KC : Hid (∀ v : World, Below w.heap.size w v → v.cell? ⟨p, 0, none⟩ = some (.pointer (some ⟨d, 0, none⟩)) ∧ v.cell? ⟨d, 0, none⟩ = some (.slice oa S.m c)) := hid fun v hb => ⟨(hb.cell (p := ⟨p, 0, none⟩) pl).trans j0, (hb.cell (p := ⟨d, 0, none⟩) dl).trans d0⟩
    have hB0 : Below w.heap.size w w.drew := ⟨rfl, rfl, rfl, Nat.le_refl _, fun _ _ => rfl⟩
    have hG := gap_any (w := w.drew) (HD.out.own : Own B w.drew .u8 5 oa S.m c S.f) (by have := HD.out.len; omega) HD.out.lt (HT.out.drewN 1) HTL.out
    rw [← hL] at hG
    have HG := hid hG
    have HR : Hid (∀ v : World, Below w.heap.size w v → Calls Try.prog 29 #[.int .u64 (s : Nat), .int .i64 t] v fun e w' => ∃ o c, e = .returned (.slice o 24 c) ∧ Own v.heap.size w' .u8 5 o 24 c (rc (hd T) s t) ∧ Below v.heap.size v w') := hid fun v hb => record_any (HT.out.below hb) HTL.out
    have HW : Hid (∀ (v : World) (ox : Option Addr) (cx : Nat) (gg : Nat → Nat), Below w.heap.size w v → Own w.heap.size v .u8 5 ox (L + 24) cx gg → (∀ i, gg i < 256) → Calls Try.prog 13 #[.pointer (some ⟨d, 0, none⟩), .slice ox (L + 24) cx] v fun e w' => ∃ oa' c', e = .returned (.int .i64 (wr S (L + 24) gg).2) ∧ Dk w' B d oa' c' (wr S (L + 24) gg).1 ∧ Nxt (fun j => j = d) oa oa' v w') := by
      refine hid fun v ox cx gg hb ho hl => writeD_any (HD.out.below hb) ho.sl hl (by omega) (fun _ a ha e => ?_) (Nat.le_trans hBw hb.size)
      have := (ho.nw a ha).1
      omega
    have HLE := hid hL
    clear hG hL
    go_enter Try.func11, Try.ntmps11
    go_wp2_with fail
    refine Calls.mono HM.out ?_
    rintro e w' ⟨rfl, rfl⟩
    go_wp2_with fail
    go_region_law (first
      | (refine step_appS rfl _ _ k8 rfl w.heap.size L 24 og orr cg cr gv (rc (hd T) s t) rfl rfl (hO2.below hb3) hO3.sl (by omega) hB3.size ?_; intro o4 c4 w4 k1 k2 k3 k4; have hB4 : Below w.heap.size w w4 := hB3.trans k3; have z1 := (KC.out _ hB4).1)
      | (go_simp; go_at_call 28; refine Calls.mono HG.out ?_; rintro e w2 ⟨og, cg, gv, rfl, hO2, hgl, hrc, hb2⟩; have hB2 : Below w.heap.size w w2 := hB0.trans hb2; have x1 := (KC.out _ hB2).1; have x2 := (KC.out _ hB2).2)
      | (go_simp; go_at_call 29; refine Calls.mono (HR.out _ hB2) ?_; rintro e w3 ⟨orr, cr, rfl, hO3, hb3⟩; have hB3 : Below w.heap.size w w3 := hB2.trans (hb3.mono hB2.size); have y1 := (KC.out _ hB3).1; have y2 := (KC.out _ hB3).2)
      | (go_simp; go_at_call 13; refine Calls.mono (HW.out _ _ _ _ hB4 k1 (fun i => by unfold cat; split; exact hgl _; exact rc_lt _ _ _ _)) ?_; rintro e w5 ⟨oa5, c5, rfl, hD5, hN5⟩))
    all_goals (
      have hp4 : p < w4.heap.size := Nat.lt_of_lt_of_le pl hB4.size
      have hJ5 : JrAt w5 p d J.1 J.2 := (HJ.out.below hB4).same hN5.size (hN5.other hp4 hpd HPO.out)
      have HPO5 : Hid (∀ a, oa5 = some a → a.block ≠ p) := hid fun a ha e => by
        rcases hN5.row a ha with ⟨a0, e0, e1⟩ | h5
        · exact HPO.out a0 e0 (e1.symm.trans e)
        · omega
      have HN6 := hid (((Nxt.of_below (X := fun j => j = d ∨ j = p) oa hB4)).trans (hN5.mono (Y := fun j => j = d ∨ j = p) fun j hj => .inl hj))
      have HD5 := hid hD5
      have HJ5 := hid hJ5
      have HAD := hid (ad_may (T := T) (S := S) (J := J) (s := s) (t := t) (gv := gv) hm HLE.out)
      have HGL := hid hgl
      have HRC := hid hrc
      have v1 := hJ5.2.2.1
      have v2 := hJ5.2.2.2.1
      have u1 := hJ5.2.2.2.2 1
      have u2 := hJ5.2.2.2.2 2
      obtain ⟨E, hE⟩ : ∃ E, E = (wr S (L + 24) (cat gv L (rc (hd T) s t))).2 := ⟨_, rfl⟩
      rw [← hE]
      rw [← hE] at HAD
      clear hE hO2 hgl hrc hb2 hB2 x1 x2 hO3 hb3 hB3 y1 y2 k1 k2 k3 k4 hB4 z1 hD5 hN5 hJ5 hp4 j0 d0 hB0
      by_cases hE0 : E = 0
      · subst hE0
        have HA1 : Hid (ad T S J s t gv = ((wr S (L + 24) (cat gv L (rc (hd T) s t))).1, (s, t), 0)) := hid (by rw [HAD.out, if_pos rfl])
        go_wp2_with fail
        go_ret
        first
          | refine ⟨oa5, c5, gv, fun _ => ⟨HGL.out, HRC.out⟩, ?_⟩
          | refine ⟨oa5, c5, gv, ⟨HGL.out, HRC.out⟩, ?_⟩
        rw [HA1.out]
        refine ⟨rfl, (HD5.out.setCell hpd HPO5.out _ _).setCell hpd HPO5.out _ _, HJ5.out.store2 s t, ?_⟩
        have n1 := Nxt.set (X := fun j => j = d ∨ j = p) (oa := oa5) (w := w5) (.inr rfl) 1 (.int .u64 (s : Nat))
        exact (HN6.out.trans n1).trans (Nxt.set (X := fun j => j = d ∨ j = p) (.inr rfl) 2 (.int .i64 t))
      · have HA1 : Hid (ad T S J s t gv = ((wr S (L + 24) (cat gv L (rc (hd T) s t))).1, J, E)) := hid (by rw [HAD.out, if_neg hE0])
        go_wp2_with fail
        go_ret
        first
          | refine ⟨oa5, c5, gv, fun _ => ⟨HGL.out, HRC.out⟩, ?_⟩
          | refine ⟨oa5, c5, gv, ⟨HGL.out, HRC.out⟩, ?_⟩
        rw [HA1.out]
        exact ⟨rfl, HD5.out, HJ5.out, HN6.out⟩)

end Go.Proofs.Ytkkcaicihhkahaa
