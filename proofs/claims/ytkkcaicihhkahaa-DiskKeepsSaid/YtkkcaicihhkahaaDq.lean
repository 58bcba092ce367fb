/-
  The walks of disk's New, Bytes, Copy and Write.
-/
import Derived.Test.YtkkcaicihhkahaaDp
namespace Go.Proofs.Ytkkcaicihhkahaa
open Go.RowKit

theorem cat0 (f g : Nat → Nat) (i : Nat) : cat f 0 g i = g i := by rw [cat_right (Nat.zero_le _), Nat.sub_zero]

theorem newD_any {w : World} {ox : Option Addr} {mx cx : Nat} {g : Nat → Nat} (hx : Sl w .u8 ox mx cx g) (hg : ∀ i, g i < 256) (hm : mx ≤ 1048576) :
    Calls Try.prog 9 #[.slice ox mx cx] w fun e w' => ∃ d oa c, e = .returned (.tuple #[.pointer (some ⟨d, 0, none⟩), .int .i64 0]) ∧ Dk w' w.heap.size d oa c ⟨mx, g, false, 0, 0⟩ ∧ Below w.heap.size w w' := by
  have HX := hid hx
  have HG := hid hg
  have m0 : (mx : Int) ≤ 1048576 := by omega
  clear hx hg
  go_enter Try.func9, Try.ntmps9
  go_wp2_with (at_builtin; refine wpList_appS rfl _ _ k8 rfl w.heap.size 0 mx none ox 0 cx (fun _ => 0) g rfl rfl (Own.nil _ _ _ _ _) HX.out (by omega) (Nat.le_refl _) ?_)
  intro oa c w1 h1 h2 h3 h4
  have HO := hid (h1.congr (g := g) fun i _ => cat0 _ _ i)
  have HB := hid h3
  have hz := h3.size
  clear h1 h2 h3 h4
  go_wp2_with fail
  go_ret2
  have hal : Below w1.heap.size w1 (w1.alloc (Obj.cells #[.slice oa mx c, .bool false, .int .i64 0, .int .i64 0] 56)) := (Below.refl _ _).alloc (Nat.le_refl _) _
  refine ⟨w1.heap.size, oa, c, rfl, ⟨⟨by simp, ?_, ?_, ?_, ?_, fun o => World.frozen?_alloc_at _ _ _ _ rfl⟩, HO.out.below hal, fun a ha => ?_, HG.out, Nat.zero_le _, hz, hm⟩, HB.out.trans (hal.mono hz)⟩
  · rw [World.cell?_alloc_at _ _ _ _ rfl]; rfl
  · rw [World.cell?_alloc_at _ _ _ _ rfl]; rfl
  · rw [World.cell?_alloc_at _ _ _ _ rfl]; rfl
  · rw [World.cell?_alloc_at _ _ _ _ rfl]; rfl
  · have := (HO.out.nw a ha).2.1
    omega

theorem bytes_any {w : World} {B d c : Nat} {oa : Option Addr} {S : DSt} (h : Dk w B d oa c S) : Calls Try.prog 14 #[.pointer (some ⟨d, 0, none⟩)] w fun e w' => ∃ o c', e = .returned (.slice o S.m c') ∧ Own w.heap.size w' .u8 5 o S.m c' S.f ∧ Below w.heap.size w w' := by
  have HD := hid h
  have c0 := h.at_.2.1
  clear h
  go_enter Try.func14, Try.ntmps14
  go_wp2_with (at_builtin; refine wpList_appS rfl _ _ k8 rfl w.heap.size 0 S.m none oa 0 c (fun _ => 0) S.f rfl rfl (Own.nil _ _ _ _ _) HD.out.own.sl (by have := HD.out.len; omega) (Nat.le_refl _) ?_)
  intro o c' w1 h1 h2 h3 h4
  have HO := hid (h1.congr (g := S.f) fun i _ => cat0 _ _ i)
  have HB := hid h3
  clear h1 h2 h3 h4
  go_wp2_with fail
  go_ret
  exact ⟨o, c', rfl, HO.out, HB.out⟩

set_option maxRecDepth 100000 in
set_option maxHeartbeats 1600000 in
theorem copyD_any {w : World} {B d c : Nat} {oa : Option Addr} {S : DSt} (h : Dk w B d oa c S) : Calls Try.prog 23 #[.pointer (some ⟨d, 0, none⟩)] w fun e w' => ∃ x o c', e = .returned (.pointer (some ⟨x, 0, none⟩)) ∧ Dk w' w.heap.size x o c' S ∧ (∀ a, o = some a → w.heap.size ≤ a.block) ∧ Below w.heap.size w w' := by
  have HD := hid h
  have c0 := h.at_.2.1
  have c1 := h.at_.2.2.1
  have c2 := h.at_.2.2.2.1
  have c3 := h.at_.2.2.2.2.1
  have dl := h.at_.1
  clear h
  go_enter Try.func23, Try.ntmps23
  have hal : Below w.heap.size w (w.alloc (Obj.cells #[.slice oa S.m c, .bool S.dn, .int .i64 (S.arm : Nat), .int .i64 (S.kk : Nat)] 56)) := (Below.refl _ _).alloc (Nat.le_refl _) _
  have HSL := hid (HD.out.own.sl.below hal)
  have hzl : w.heap.size ≤ (w.alloc (Obj.cells #[.slice oa S.m c, .bool S.dn, .int .i64 (S.arm : Nat), .int .i64 (S.kk : Nat)] 56)).heap.size := hal.size
  have HZL := hid hzl
  clear hzl
  go_wp2_with (at_builtin; refine wpList_appS rfl _ _ k8 rfl w.heap.size 0 S.m none oa 0 c (fun _ => 0) S.f rfl rfl (Own.nil _ _ _ _ _) HSL.out (by have := HD.out.len; omega) HZL.out ?_)
  intro o c' w1 h1 h2 h3 h4
  have HO := hid (h1.congr (g := S.f) fun i _ => cat0 _ _ i)
  have HB : Hid (Below w.heap.size w w1) := hid (hal.trans h3)
  have hx0 : DkAt' (w.alloc (Obj.cells #[.slice oa S.m c, .bool S.dn, .int .i64 (S.arm : Nat), .int .i64 (S.kk : Nat)] 56)) w.heap.size (.slice oa S.m c) S := by
    refine ⟨by simp, ?_, ?_, ?_, ?_, fun o => World.frozen?_alloc_at _ _ _ _ rfl⟩ <;> (rw [World.cell?_alloc_at _ _ _ _ rfl]; rfl)
  have hx1 := hx0.grown h2 (by simp [Value.ownBlock])
  have HX := hid hx1
  have x0 := hx1.2.1
  have xf := hx1.2.2.2.2.2 0
  have HNE : Hid (∀ a, o = some a → a.block ≠ w.heap.size) := hid fun a ha e => by
    rcases h4 a ha with ⟨a0, e0, _⟩ | h5
    · cases e0
    · have h6 : w.heap.size + 1 ≤ a.block := by simpa using h5
      omega
  clear hal h1 h2 h3 h4 hx0 hx1 HSL HZL c0 c1 c2 c3
  go_wp2_with fail
  go_ret
  exact ⟨w.heap.size, o, c', rfl, ⟨HX.out.set0 _, HO.out.setCell_other HNE.out _ _, HNE.out, HD.out.lt, HD.out.arm, Nat.le_refl _, HD.out.len⟩, fun a ha => (HO.out.nw a ha).1, HB.out.setCell (p := ⟨w.heap.size, 0, none⟩) (Nat.le_refl _) _⟩

end Go.Proofs.Ytkkcaicihhkahaa
