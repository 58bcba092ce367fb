/-
  The walks of disk's Write.
-/
import Derived.Test.YtkkcaicihhkahaaDq
import Derived.Deep.RegionLaw
import Derived.BigRegion
namespace Go.Proofs.Ytkkcaicihhkahaa
open Go.RowKit

theorem Sl.setCell_gen {w : World} {k : IntKind} {oa : Option Addr} {n c gb : Nat} {f : Nat → Nat} (h : Sl w k oa n c f) (hne : 0 < n → ∀ a, oa = some a → a.block ≠ gb) (j : Nat) (u : Value) : Sl (w.setCell ⟨gb, j, none⟩ u) k oa n c f := by
  rcases Nat.eq_zero_or_pos n with h0 | h0
  · subst h0
    exact ⟨h.1, h.2.1, h.2.2.1, fun h => absurd h (by decide)⟩
  · exact h.setCell_other (hne h0) j u

theorem step_appS {P : Program} {w : World} {ops : Array Oper} {o : Oper} {a : Act} {K : Act → World → Prop} {Q : Exit → Act → World → Prop} {E : Prop} {t e : TypeId} {k : IntKind} {by_ : Nat} (hg : o.guard = none) (s x : Operand) (T : Kd P t e k by_) (ho : o.op = .call { callee := .builtin .append, args := #[s, x], argTypes := #[t, t] })
    (B n m : Nat) (oa ox : Option Addr) (cs cx : Nat) (f g : Nat → Nat) (hs : a.eval s = .slice oa n cs) (hx : a.eval x = .slice ox m cx) (hown : Own B w k e oa n cs f) (hsl : Sl w k ox m cx g)
    (hb : n + m ≤ 1000000000) (hB : B ≤ w.heap.size)
    (hK : ∀ oa' c' w', Own B w' k e oa' (n + m) c' (cat f n g) → w.grownBy w' (Value.slice oa n cs).ownBlock → Below B w w' → SameOrNew oa oa' w.heap.size → K (a.put o.dst (.slice oa' (n + m) c')) w') :
    if Region.wanted o (yielded ops a.tmps) = true then Oper.wp P o a w K Q else E := by
  have hw : Region.wanted o (yielded ops a.tmps) = true := by simp [Region.wanted, hg]
  rw [if_pos hw]
  exact wp_appS s x T ho B n m oa ox cs cx f g hs hx hown hsl hb hB hK

set_option maxRecDepth 100000 in
set_option maxHeartbeats 3200000 in
theorem writeD_any {w : World} {B d c mx cx : Nat} {oa ox : Option Addr} {S : DSt} {g : Nat → Nat} (h : Dk w B d oa c S) (hx : Sl w .u8 ox mx cx g) (hg : ∀ i, g i < 256) (hm : mx ≤ 2000000) (hox : 0 < mx → ∀ a, ox = some a → a.block ≠ d) (hBw : B ≤ w.heap.size) :
    Calls Try.prog 13 #[.pointer (some ⟨d, 0, none⟩), .slice ox mx cx] w fun e w' => ∃ oa' c', e = .returned (.int .i64 (wr S mx g).2) ∧ Dk w' B d oa' c' (wr S mx g).1 ∧ Nxt (fun j => j = d) oa oa' w w' := by
  have HD := hid h
  have HX := hid hx
  have HG := hid hg
  have HOX := hid hox
  have c0 := h.at_.2.1
  have c1 := h.at_.2.2.1
  have c2 := h.at_.2.2.2.1
  have c3 := h.at_.2.2.2.2.1
  have f0 := h.at_.2.2.2.2.2 0
  have f1 := h.at_.2.2.2.2.2 1
  have f2 := h.at_.2.2.2.2.2 2
  have dl := h.at_.1
  have hlen := h.len
  have m1 : (S.m : Int) ≤ 1048576 := by omega
  have m2 : (mx : Int) ≤ 2000000 := by omega
  have hcx := hx.len_le
  clear h hx hg hox
  rcases hdn : S.dn with _ | _
  · by_cases hL : 1048576 - S.m < mx
    · have hL' : (1048576 : Int) - (S.m : Int) < (mx : Int) := by omega
      rw [show wr S mx g = (S, 2) from by unfold wr; rw [hdn, if_neg (by simp), if_pos hL]]
      rw [hdn] at c1
      go_enter Try.func13, Try.ntmps13
      go_wp2_with fail
      go_ret
      exact ⟨oa, c, rfl, HD.out, Nxt.refl _ _ _⟩
    · have hL' : ¬ (1048576 : Int) - (S.m : Int) < (mx : Int) := by omega
      rw [hdn] at c1
      have hD2 : Dk (w.setCell ⟨d, 2, none⟩ (.int .i64 ((0 : Nat) : Int))) B d oa c { S with arm := 0 } := ⟨HD.out.at_.set2 0, HD.out.own.setCell_other HD.out.ne _ _, HD.out.ne, HD.out.lt, (by show 0 ≤ 2; decide), HD.out.hB, HD.out.len⟩
      have HD2 := hid hD2
      have HX2 := hid (HX.out.setCell_gen HOX.out 2 (.int .i64 ((0 : Nat) : Int)))
      have HN2 := hid (Nxt.set (X := fun j => j = d) (oa := oa) (w := w) rfl 2 (.int .i64 ((0 : Nat) : Int)))
      have HBz : Hid (B ≤ (w.setCell ⟨d, 2, none⟩ (.int .i64 ((0 : Nat) : Int))).heap.size) := hid (by simpa using hBw)
      have b0 := hD2.at_.2.1
      have b1 := hD2.at_.2.2.1
      have b3 := hD2.at_.2.2.2.2.1
      have g0 := hD2.at_.2.2.2.2.2 0
      have g1 := hD2.at_.2.2.2.2.2 1
      rw [show (({ S with arm := 0 } : DSt).dn) = false from hdn] at b1
      clear hD2
      have ha := HD.out.arm
      by_cases h1 : S.arm = 1
      · rw [show wr S mx g = ({ S with arm := 0 }, 101) from by unfold wr; rw [hdn, if_neg (by simp), if_neg hL, if_pos h1]]
        rw [h1] at c2
        clear b0 b1 b3 g0 g1
        go_enter Try.func13, Try.ntmps13
        go_wp2_with fail
        go_ret
        first
          | exact ⟨oa, c, rfl, HD2.out, HN2.out⟩
          | exact ⟨rfl, oa, ⟨c, HD2.out⟩, HN2.out⟩
          | exact ⟨rfl, oa, ⟨c, by have := HD2.out; rw [hdn] at this; exact this⟩, HN2.out⟩
      · by_cases h2 : S.arm = 2
        · rw [show wr S mx g = ({ S with m := S.m + min S.kk mx, f := cat S.f S.m g, dn := true, arm := 0 }, 100) from by unfold wr; rw [hdn, if_neg (by simp), if_neg hL, if_neg h1, if_pos h2]]
          rw [h2] at c2
          have hq : ∃ q, q = min S.kk mx := ⟨_, rfl⟩
          obtain ⟨q, hq⟩ := hq
          rw [← hq]
          have hqi : min ((S.kk : Nat) : Int) ((mx : Nat) : Int) = ((q : Nat) : Int) := by rw [hq]; omega
          have hqm : q ≤ mx := by omega
          have HQM := hid hqm
          have hup : ∀ w : World, (Instr.slice 27 (.slice ox mx cx) none (some (.int .i64 (q : Int))) none).run Try.prog w = .ok (.slice ox q cx) w := by
            obtain ⟨i8, hi, _⟩ := k8.hi
            exact fun w => run_upto (P := Try.prog) 27 5 i8 Try.underlying27 hi _ mx cx q (by omega) w
          clear hq hqm
          go_enter Try.func13, Try.ntmps13
          go_wp2_with fail
          go_region_law (refine step_appS rfl _ _ k8 rfl B S.m q oa ox c cx S.f g rfl rfl HD2.out.own (HX2.out.take HQM.out) (by have := HQM.out; omega) HBz.out ?_; intro oa' c' w1 k1 k2 k3 k4; have hat := HD2.out.at_.grown (row := (Value.slice oa S.m c).ownBlock) ⟨k2.os, k2.tape, k2.output, k2.size, k2.block⟩ (ownBlock_ne HD.out.ne); have x0 := hat.2.1; have xf := hat.2.2.2.2.2 0)
          all_goals (
            have HAT := hid hat
            have x1 : w1.cell? ⟨d, 1, none⟩ = some (.bool false) := by rw [← hdn]; exact hat.2.2.1
            have xf1 := hat.2.2.2.2.2 1
            have HNE : Hid (∀ a, oa' = some a → a.block ≠ d) := hid fun a ha e => by
              rcases k4 a ha with ⟨a0, e0, e1⟩ | h5
              · exact HD.out.ne a0 e0 (e1.symm.trans e)
              · have h6 : w.heap.size ≤ a.block := by simpa using h5
                omega
            have HO := hid k1
            have HN3 := hid (HN2.out.trans (Nxt.app (n := S.m) (c := c) ⟨k2.os, k2.tape, k2.output, k2.size, k2.block⟩ k4))
            have hcl : ∀ i, cat S.f S.m g i < 256 := fun i => by
              unfold cat
              split
              · exact HD.out.lt _
              · exact HG.out _
            have HCL := hid hcl
            clear k1 k2 k3 k4 hat hcl b0 b1 b3 g0 g1 c0 c1 c2 c3 f0 f1 f2 hup hqi
            go_wp2_with fail
            go_ret
            have hqm := HQM.out
            have hD9 : Dk ((w1.setCell ⟨d, 0, none⟩ (.slice oa' (S.m + q) c')).setCell ⟨d, 1, none⟩ (.bool true)) B d oa' c' { S with m := S.m + q, f := cat S.f S.m g, dn := true, arm := 0 } :=
              ⟨(HAT.out.set0 _).set1 true, (HO.out.setCell_other HNE.out _ _).setCell_other HNE.out _ _, HNE.out, HCL.out, (by show 0 ≤ 2; decide), HD.out.hB, (by show S.m + q ≤ 1048576; omega)⟩
            have hN9 := (HN3.out.trans (Nxt.set (X := fun j => j = d) (oa := oa') (w := w1) rfl 0 (.slice oa' (S.m + q) c'))).trans (Nxt.set (X := fun j => j = d) rfl 1 (.bool true))
            first
              | exact ⟨oa', c', rfl, hD9, hN9⟩
              | exact ⟨rfl, oa', ⟨c', hD9⟩, hN9⟩)
        · have h0 : S.arm = 0 := by omega
          rw [show wr S mx g = ({ S with m := S.m + mx, f := cat S.f S.m g, arm := 0 }, 0) from by unfold wr; rw [hdn, if_neg (by simp), if_neg hL, if_neg h1, if_neg h2]]
          rw [h0] at c2
          go_enter Try.func13, Try.ntmps13
          go_wp2_with (at_builtin; refine wpList_appS rfl _ _ k8 rfl B S.m mx oa ox c cx S.f g rfl rfl HD2.out.own HX2.out (by omega) HBz.out ?_)
          intro oa' c' w1 k1 k2 k3 k4
          have hat := HD2.out.at_.grown k2 (ownBlock_ne HD.out.ne)
          have HAT := hid hat
          have x0 := hat.2.1
          have xf := hat.2.2.2.2.2 0
          have HNE : Hid (∀ a, oa' = some a → a.block ≠ d) := hid fun a ha e => by
            rcases k4 a ha with ⟨a0, e0, e1⟩ | h5
            · exact HD.out.ne a0 e0 (e1.symm.trans e)
            · omega
          have HO := hid k1
          have HN3 := hid (HN2.out.trans (Nxt.app k2 (by simpa using k4)))
          have hcl : ∀ i, cat S.f S.m g i < 256 := fun i => by
            unfold cat
            split
            · exact HD.out.lt _
            · exact HG.out _
          have HCL := hid hcl
          clear k1 k2 k3 k4 hat hcl b0 b1 b3 g0 g1 c0 c1 c2 c3 f0 f1 f2
          go_wp2_with fail
          go_ret
          have hD9 : Dk (w1.setCell ⟨d, 0, none⟩ (.slice oa' (S.m + mx) c')) B d oa' c' { S with m := S.m + mx, f := cat S.f S.m g, arm := 0 } :=
            ⟨HAT.out.set0 _, HO.out.setCell_other HNE.out _ _, HNE.out, HCL.out, (by show 0 ≤ 2; decide), HD.out.hB, (by show S.m + mx ≤ 1048576; omega)⟩
          have hN9 := HN3.out.trans (Nxt.set (X := fun j => j = d) (oa := oa') (w := w1) rfl 0 (.slice oa' (S.m + mx) c'))
          first
            | exact ⟨oa', c', rfl, hD9, hN9⟩
            | exact ⟨rfl, oa', ⟨c', hD9⟩, hN9⟩
            | exact ⟨rfl, oa', ⟨c', by rw [hdn] at hD9; exact hD9⟩, hN9⟩
  · rw [show wr S mx g = (S, 100) from by unfold wr; rw [hdn, if_pos rfl]]
    rw [hdn] at c1
    go_enter Try.func13, Try.ntmps13
    go_wp2_with fail
    go_ret
    exact ⟨oa, c, rfl, HD.out, Nxt.refl _ _ _⟩

end Go.Proofs.Ytkkcaicihhkahaa
