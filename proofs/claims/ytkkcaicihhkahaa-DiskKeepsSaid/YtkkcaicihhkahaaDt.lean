/-
  A disk with its journal: what each call makes of the two together; what a journal's addition lays.
-/
import Derived.Test.YtkkcaicihhkahaaDs
import Derived.Test.YtkkcaicihhkahaaDo
namespace Go.Proofs.Ytkkcaicihhkahaa
open Go.RowKit

/-- The table lies in block 0, any 80 numbers. -/
structure Tab (w : World) (T : Nat → Nat) : Prop where
  ar : Ar w .u64 0 80 T
  lt : ∀ j, j < 80 → T j < 18446744073709551616

theorem Tab.below {w w' : World} {T : Nat → Nat} (h : Tab w T) {B : Nat} (hB : 0 < B) (hb : Below B w w') : Tab w' T := ⟨h.ar.keep hb hB, h.lt⟩
theorem Tab.pos {w : World} {T : Nat → Nat} (h : Tab w T) : 0 < w.heap.size := h.ar.1

structure St (w0 w : World) (T : Nat → Nat) (B d p : Nat) (oa : Option Addr) (c : Nat) (S : DSt) (J : Nat × Int) : Prop where
  bel : Below B w0 w
  dk : Dk w B d oa c S
  jr : JrAt w p d J.1 J.2
  pd : p ≠ d
  po : ∀ a, oa = some a → a.block ≠ p
  pB : B ≤ p
  hB : B ≤ w.heap.size
  pos : 0 < B
  tab : Tab w T

section
variable {w0 w w' : World} {T : Nat → Nat} {B d p c c' : Nat} {oa oa' : Option Addr} {S S' : DSt} {J J' : Nat × Int}

theorem Dk.rowB (h : Dk w B d oa c S) : ∀ a, oa = some a → B ≤ a.block := fun a ha => (h.own.nw a ha).1

theorem St.step (h : St w0 w T B d p oa c S J) (hd : Dk w' B d oa' c' S') (hj : JrAt w' p d J'.1 J'.2) (hn : Nxt (fun j => j = d ∨ j = p) oa oa' w w') : St w0 w' T B d p oa' c' S' J' := by
  have hb : Below B w w' := hn.below h.hB (fun j hj => by rcases hj with rfl | rfl; exact h.dk.hB; exact h.pB) h.dk.rowB
  refine ⟨h.bel.trans hb, hd, hj, h.pd, fun a ha e => ?_, h.pB, Nat.le_trans h.hB hn.size, h.pos, h.tab.below h.pos hb⟩
  rcases hn.row a ha with ⟨a0, e0, e1⟩ | h5
  · exact h.po a0 e0 (e1.symm.trans e)
  · have := h.jr.1
    omega

theorem St.d1 (h : St w0 w T B d p oa c S J) (hd : Dk w' B d oa' c' S') (hn : Nxt (fun j => j = d) oa oa' w w') : St w0 w' T B d p oa' c' S' J :=
  h.step hd (h.jr.same hn.size (hn.other h.jr.1 h.pd h.po)) (hn.mono fun _ hj => .inl hj)

theorem St.keep (h : St w0 w T B d p oa c S J) (hb : Below w.heap.size w w') : St w0 w' T B d p oa c S J := h.step (h.dk.below hb) (h.jr.below hb) (Nxt.of_below oa hb)

theorem St.add (h : St w0 w T B d p oa c S J) (s : Nat) (t : Int) :
    Calls Try.prog 11 #[.pointer (some ⟨p, 0, none⟩), .int .u64 (s : Nat), .int .i64 t] w fun e w' => ∃ oa' c' gv, e = .returned (.int .i64 (ad T S J s t gv).2.2) ∧ (mayB J s t = true → (∀ i, gv i < 256) ∧ (S.m % 24 ≠ 0 → ¬ isRc (hd T) (cat S.f S.m gv) (24 * (S.m / 24)))) ∧
      St w0 w' T B d p oa' c' (ad T S J s t gv).1 (ad T S J s t gv).2.1 := by
  refine (add_any h.dk h.jr h.pd h.po h.hB h.tab.ar h.tab.lt s t).mono ?_
  rintro e w' ⟨oa', c', gv, hg, rfl, hd, hj, hn⟩
  exact ⟨oa', c', gv, rfl, hg, h.step hd hj hn⟩

theorem St.fail (h : St w0 w T B d p oa c S J) : Calls Try.prog 17 #[.pointer (some ⟨d, 0, none⟩)] w fun e w' => e = .returned (.int .i64 0) ∧ St w0 w' T B d p oa c { S with arm := 1 } J :=
  (fail_any h.dk).mono fun _ _ ⟨he, hd, hn⟩ => ⟨he, h.d1 hd hn⟩

theorem St.start (h : St w0 w T B d p oa c S J) : Calls Try.prog 19 #[.pointer (some ⟨d, 0, none⟩)] w fun e w' => e = .returned (.int .i64 0) ∧ St w0 w' T B d p oa c { S with dn := false, arm := 0 } J :=
  (start_any h.dk).mono fun _ _ ⟨he, hd, hn⟩ => ⟨he, h.d1 hd hn⟩

theorem St.cut (h : St w0 w T B d p oa c S J) (n : Nat) : Calls Try.prog 18 #[.pointer (some ⟨d, 0, none⟩), .int .i64 (n : Nat)] w fun e w' => e = .returned (.int .i64 0) ∧ St w0 w' T B d p oa c { S with arm := 2, kk := n } J :=
  (cut_any h.dk n).mono fun _ _ ⟨he, hd, hn⟩ => ⟨he, h.d1 hd hn⟩

theorem St.up (h : St w0 w T B d p oa c S J) : Calls Try.prog 22 #[.pointer (some ⟨d, 0, none⟩)] w fun e w' => e = .returned (.bool (!S.dn)) ∧ w = w' := up_any w h.dk

theorem St.last (h : St w0 w T B d p oa c S J) : Calls Try.prog 16 #[.pointer (some ⟨p, 0, none⟩)] w fun e w' => e = .returned (.tuple #[.int .u64 (J.1 : Nat), .int .i64 J.2]) ∧ St w0 w' T B d p oa c S J :=
  (last_any h.jr).mono fun _ _ ⟨he, hn⟩ => ⟨he, h.keep ⟨hn.os, hn.tape, hn.output, hn.size, fun j hj => hn.block j hj (fun h => h) (fun _ ha => by cases ha)⟩⟩

theorem St.bytes (h : St w0 w T B d p oa c S J) : Calls Try.prog 14 #[.pointer (some ⟨d, 0, none⟩)] w fun e w' => ∃ o c', e = .returned (.slice o S.m c') ∧ Own w.heap.size w' .u8 5 o S.m c' S.f ∧ Below w.heap.size w w' ∧ St w0 w' T B d p oa c S J :=
  (bytes_any h.dk).mono fun _ _ ⟨o, c', he, ho, hb⟩ => ⟨o, c', he, ho, hb, h.keep hb⟩

theorem St.write (h : St w0 w T B d p oa c S J) {mx cx : Nat} {ox : Option Addr} {g : Nat → Nat} (hx : Sl w .u8 ox mx cx g) (hg : ∀ i, g i < 256) (hm : mx ≤ 2000000) (hox : 0 < mx → ∀ a, ox = some a → a.block ≠ d) :
    Calls Try.prog 13 #[.pointer (some ⟨d, 0, none⟩), .slice ox mx cx] w fun e w' => ∃ oa' c', e = .returned (.int .i64 (wr S mx g).2) ∧ St w0 w' T B d p oa' c' (wr S mx g).1 J :=
  (writeD_any h.dk hx hg hm hox h.hB).mono fun _ _ ⟨oa', c', he, hd, hn⟩ => ⟨oa', c', he, h.d1 hd hn⟩

/-- Opened (anew). -/
theorem open_st {w0 w : World} (hbel : Below B w0 w) (hdk : Dk w B d oa c S) (hdn : S.dn = false) (hB : B ≤ w.heap.size) (hpos : 0 < B) (ht : Tab w T) :
    Calls Try.prog 10 #[.pointer (some ⟨d, 0, none⟩)] w fun e w' => ∃ p, e = .returned (.tuple #[.pointer (some ⟨p, 0, none⟩), .int .i64 0]) ∧ St w0 w' T B d p oa c S (jr (hd T) S.f (S.m / 24)) := by
  have hat : DkAt w d (.slice oa S.m c) false (S.arm : Nat) (S.kk : Nat) := by rw [← hdn]; exact hdk.at_
  refine (open_any hat hdk.own (by have := hdk.len; omega) hdk.lt ht.ar ht.lt).mono ?_
  rintro e w' ⟨p, rfl, hj, hp, hb⟩
  have hdl := hdk.at_.1
  refine ⟨p, rfl, hbel.trans (hb.mono hB), hdk.below hb, hj, by omega, fun a ha e => ?_, by omega, Nat.le_trans hB hb.size, hpos, ht.below hpos (hb.mono hB)⟩
  have := (hdk.own.nw a ha).2.1
  omega
end

/-! ### What an addition lays -/

theorem laid_ad {T : Nat → Nat} {S : DSt} {s : Nat} {t : Int} {gv : Nat → Nat} (hgv : S.m % 24 ≠ 0 → ¬ isRc (hd T) (cat S.f S.m gv) (24 * (S.m / 24))) :
    Laid (hd T) S.f S.m s t (cat S.f S.m (cat gv (gapN S.m) (rc (hd T) s t))) := by
  refine ⟨fun j hj => cat_left hj, fun h => ?_, fun i hi => ?_⟩
  · have hg : gapN S.m = 24 - S.m % 24 := by unfold gapN; omega
    intro hr
    refine hgv h ((isRc_congr fun j hj => ?_).1 hr)
    by_cases hjn : 24 * (S.m / 24) + j < S.m
    · rw [cat_left hjn, cat_left hjn]
    · rw [cat_right (f := S.f) (n := S.m) (by omega), cat_right (f := S.f) (n := S.m) (by omega), cat_left (by omega)]
  · rw [cat_right (by omega), show S.m + gapN S.m + i - S.m = gapN S.m + i from by omega, cat_right (by omega), show gapN S.m + i - gapN S.m = i from by omega]

/-- What was laid by an addition. -/
def lay (T : Nat → Nat) (S : DSt) (s : Nat) (t : Int) (gv : Nat → Nat) : Nat → Nat := cat S.f S.m (cat gv (gapN S.m) (rc (hd T) s t))

theorem ad_fit {T : Nat → Nat} {S : DSt} {J : Nat × Int} {s : Nat} {t : Int} {gv : Nat → Nat} (h : mayB J s t = true) (hdn : S.dn = false) (ha : S.arm = 0) (hf : S.m + gapN S.m + 24 ≤ 1048576) :
    ad T S J s t gv = ({ S with m := S.m + (gapN S.m + 24), f := lay T S s t gv, arm := 0 }, (s, t), 0) := by
  have e : wr S (gapN S.m + 24) (cat gv (gapN S.m) (rc (hd T) s t)) = ({ S with m := S.m + (gapN S.m + 24), f := lay T S s t gv, arm := 0 }, 0) := by
    unfold wr lay
    rw [hdn, if_neg (by simp), if_neg (by omega), if_neg (by omega), if_neg (by omega)]
  unfold ad
  rw [if_pos h, e]
  simp

theorem ad_cut {T : Nat → Nat} {S : DSt} {J : Nat × Int} {s : Nat} {t : Int} {gv : Nat → Nat} (h : mayB J s t = true) (hdn : S.dn = false) (ha : S.arm = 2) (hf : S.m + gapN S.m + 24 ≤ 1048576) :
    ad T S J s t gv = ({ S with m := S.m + min S.kk (gapN S.m + 24), f := lay T S s t gv, dn := true, arm := 0 }, J, 100) := by
  have e : wr S (gapN S.m + 24) (cat gv (gapN S.m) (rc (hd T) s t)) = ({ S with m := S.m + min S.kk (gapN S.m + 24), f := lay T S s t gv, dn := true, arm := 0 }, 100) := by
    unfold wr lay
    rw [hdn, if_neg (by simp), if_neg (by omega), if_neg (by omega), if_pos ha]
  unfold ad
  rw [if_pos h, e]
  simp

theorem ad_fail {T : Nat → Nat} {S : DSt} {J : Nat × Int} {s : Nat} {t : Int} {gv : Nat → Nat} (h : mayB J s t = true) (hdn : S.dn = false) (ha : S.arm = 1) (hf : S.m + gapN S.m + 24 ≤ 1048576) :
    ad T S J s t gv = ({ S with arm := 0 }, J, 101) := by
  have e : wr S (gapN S.m + 24) (cat gv (gapN S.m) (rc (hd T) s t)) = ({ S with arm := 0 }, 101) := by
    unfold wr
    rw [hdn, if_neg (by simp), if_neg (by omega), if_pos ha]
  unfold ad
  rw [if_pos h, e]
  simp

theorem ad_long {T : Nat → Nat} {S : DSt} {J : Nat × Int} {s : Nat} {t : Int} {gv : Nat → Nat} (h : mayB J s t = true) (hdn : S.dn = false) (hf : ¬ S.m + gapN S.m + 24 ≤ 1048576) (hl : S.m ≤ 1048576) :
    ad T S J s t gv = (S, J, 2) := by
  have e : wr S (gapN S.m + 24) (cat gv (gapN S.m) (rc (hd T) s t)) = (S, 2) := by
    unfold wr
    rw [hdn, if_neg (by simp), if_pos (by omega)]
  unfold ad
  rw [if_pos h, e]
  simp

/-- Behind an addition that is laid whole the bytes tell it. -/
theorem jr_lay {T : Nat → Nat} {S : DSt} {s : Nat} {t : Int} {gv : Nat → Nat} (hgv : S.m % 24 ≠ 0 → ¬ isRc (hd T) (cat S.f S.m gv) (24 * (S.m / 24))) (hm : mayB (jr (hd T) S.f (S.m / 24)) s t = true) (hs : s < 18446744073709551616) :
    jr (hd T) (lay T S s t gv) ((S.m + (gapN S.m + 24)) / 24) = (s, t) := by
  rw [← Nat.add_assoc]
  exact (laid_ad hgv).whole (mayB_iff.1 hm) hs

/-- Behind the beginning of an addition, not whole, the bytes tell what they told. -/
theorem jr_part {T : Nat → Nat} {S : DSt} {s q : Nat} {t : Int} {gv : Nat → Nat} (hgv : S.m % 24 ≠ 0 → ¬ isRc (hd T) (cat S.f S.m gv) (24 * (S.m / 24))) (hq : q < gapN S.m + 24) :
    jr (hd T) (lay T S s t gv) ((S.m + q) / 24) = jr (hd T) S.f (S.m / 24) :=
  (laid_ad (s := s) (t := t) hgv).part hq fun _ _ => rfl

end Go.Proofs.Ytkkcaicihhkahaa
