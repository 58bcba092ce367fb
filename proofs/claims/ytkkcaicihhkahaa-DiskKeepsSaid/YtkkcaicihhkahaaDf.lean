/-
  The walks of sha's Copy (32 bits).
-/
import Derived.Test.YtkkcaicihhkahaaDe
import Derived.Deep.RegionHeld3
namespace Go.Proofs.Ytkkcaicihhkahaa
open Go.RowKit

/-- 'append(s, x...)' inside a region that draws its order: s nil or the call's own, x a slice that is there. -/
theorem step_app {P : Program} {w : World} {ops : Array Oper} {o : Oper} {a : Act} {K : Act → World → Prop} {Q : Exit → Act → World → Prop} {E : Prop} {t e : TypeId} {k : IntKind} {by_ : Nat} (hg : o.guard = none) (s x : Operand) (T : Kd P t e k by_) (ho : o.op = .call { callee := .builtin .append, args := #[s, x], argTypes := #[t, t] })
    (B n m : Nat) (oa : Option Addr) (ad : Addr) (cs cx : Nat) (f g : Nat → Nat) (hs : a.eval s = .slice oa n cs) (hx : a.eval x = .slice (some ad) m cx) (hown : Own B w k e oa n cs f) (hsl : Sl w k (some ad) m cx g)
    (hb : n + m ≤ 1000000000) (hB : B ≤ w.heap.size)
    (hK : ∀ oa' c' w', Own B w' k e oa' (n + m) c' (cat f n g) → w.grownBy w' (Value.slice oa n cs).ownBlock → Below B w w' → K (a.put o.dst (.slice oa' (n + m) c')) w') :
    if Region.wanted o (yielded ops a.tmps) = true then Oper.wp P o a w K Q else E := by
  have hw : Region.wanted o (yielded ops a.tmps) = true := by simp [Region.wanted, hg]
  rw [if_pos hw]
  obtain ⟨i, hi, hz, hsize, hby⟩ := T.hi
  refine wp_append_own w s x t ho B e i (.int k 0) 1 by_ T.ht hi hz hsize hby rfl (by decide) (.slice oa n cs) n _ hs hown ad m cx ((List.range m).map fun j => Value.int k (g j : Nat)) hx (by simp) ?_ ?_ ?_ ?_ hB ?_
  · intro j u hu
    have hjm : j < m := by
      by_cases h : j < m
      · exact h
      · simp [h] at hu
    simp [hjm] at hu
    obtain ⟨b, off, hb', _, hc⟩ := hsl.at_ (by omega)
    cases hb'
    rw [← hu, ← hc j hjm]
    congr 1
    unfold Addr.add
    split
    · rename_i h0; subst h0; rfl
    · rfl
  · intro u hu
    simp only [List.mem_map] at hu
    obtain ⟨j, _, rfl⟩ := hu
    rfl
  · simp only [maxLen]; omega
  · have := T.pos
    have h2 : (n + m) * by_ ≤ 1000000000 * 8 := Nat.mul_le_mul hb this
    omega
  · intro v' w' h1 h2 _
    have hl := hown.lt
    have hbel : Below B w w' := (Below.refl B w).grown h2 hB (fun k hk => (hl k hk).1)
    have hv : ∃ oa' c', v' = .slice oa' (n + m) c' := by
      rcases h1.2 with ⟨rfl, h0⟩ | ⟨_, cap, _, rfl, _⟩
      · rw [h0]; exact ⟨_, _, rfl⟩
      · exact ⟨_, _, rfl⟩
    obtain ⟨oa', c', rfl⟩ := hv
    refine hK oa' c' w' ?_ h2 hbel
    unfold Own
    have : ((List.range n).map fun j => Value.int k (f j : Nat)) ++ ((List.range m).map fun j => Value.int k (g j : Nat)) = (List.range (n + m)).map fun j => Value.int k (cat f n g j : Nat) := by
      rw [List.range_add, List.map_append]
      congr 1
      · exact List.map_congr_left fun j hj => by rw [cat_left (List.mem_range.1 hj)]
      · rw [List.map_map]
        exact List.map_congr_left fun j _ => by simp [cat_right (Nat.le_add_right n j)]
    rw [this] at h1
    exact h1

set_option maxRecDepth 100000 in
set_option maxHeartbeats 3200000 in
theorem copy_any {w : World} {p gs gw n m c : Nat} {h f : Nat → Nat} (hs : SumAt w p gs n (.slice (some ⟨gw, 0, none⟩) m c)) (ha : Ar w .u32 gs 8 h) (hr : Sl w .u8 (some ⟨gw, 0, none⟩) m c f) (hm : 0 < m) (hm' : m ≤ 64) :
    Calls Try.prog 41 #[.pointer (some ⟨p, 0, none⟩)] w fun e w' => ∃ q g o c', e = .returned (.pointer (some ⟨q, 0, none⟩)) ∧ SumAt w' q g n (.slice o m c') ∧ Ar w' .u32 g 8 h ∧ Own w.heap.size w' .u8 5 o m c' f ∧
      w.heap.size ≤ q ∧ w.heap.size ≤ g ∧ q ≠ g ∧ (∀ a, o = some a → a.block ≠ q) ∧ (∀ a, o = some a → a.block ≠ g) ∧ Below w.heap.size w w' := by
  have hp := hs.1
  have KD : Hid (w.drew.cell? ⟨p, 0, none⟩ = some (.int .i64 256) ∧ w.drew.cell? ⟨p, 1, none⟩ = some (.iface 88 (.pointer (some ⟨gs, 0, none⟩))) ∧ w.drew.cell? ⟨p, 2, none⟩ = some (.slice (some ⟨gw, 0, none⟩) m c) ∧ w.drew.cell? ⟨p, 3, none⟩ = some (.int .u64 (n : Nat)) ∧ Ar w.drew .u32 gs 8 h ∧ Sl w.drew .u8 (some ⟨gw, 0, none⟩) m c f ∧ Below w.heap.size w w.drew) :=
    hid ⟨hs.2.1, hs.2.2.1, hs.2.2.2.1, hs.2.2.2.2.1, ha, hr, ⟨rfl, rfl, rfl, Nat.le_refl _, fun _ _ => rfl⟩⟩
  have KP : Hid (∀ w1 w2 : World, (w1.cell? ⟨p, 0, none⟩ = some (.int .i64 256) ∧ w1.cell? ⟨p, 1, none⟩ = some (.iface 88 (.pointer (some ⟨gs, 0, none⟩))) ∧ w1.cell? ⟨p, 2, none⟩ = some (.slice (some ⟨gw, 0, none⟩) m c) ∧ w1.cell? ⟨p, 3, none⟩ = some (.int .u64 (n : Nat)) ∧ Ar w1 .u32 gs 8 h ∧ Sl w1 .u8 (some ⟨gw, 0, none⟩) m c f ∧ Below w.heap.size w w1) → Below w1.heap.size w1 w2 →
      (w2.cell? ⟨p, 0, none⟩ = some (.int .i64 256) ∧ w2.cell? ⟨p, 1, none⟩ = some (.iface 88 (.pointer (some ⟨gs, 0, none⟩))) ∧ w2.cell? ⟨p, 2, none⟩ = some (.slice (some ⟨gw, 0, none⟩) m c) ∧ w2.cell? ⟨p, 3, none⟩ = some (.int .u64 (n : Nat)) ∧ Ar w2 .u32 gs 8 h ∧ Sl w2 .u8 (some ⟨gw, 0, none⟩) m c f ∧ Below w.heap.size w w2)) := by
    intro w1 w2 ⟨h0, h1, h2, h3, h4, h5, h6⟩ hb
    have hp1 : p < w1.heap.size := Nat.lt_of_lt_of_le hp h6.size
    exact ⟨by rw [hb.cell (p := ⟨p, 0, none⟩) hp1]; exact h0, by rw [hb.cell (p := ⟨p, 1, none⟩) hp1]; exact h1, by rw [hb.cell (p := ⟨p, 2, none⟩) hp1]; exact h2, by rw [hb.cell (p := ⟨p, 3, none⟩) hp1]; exact h3, h4.below hb, h5.below hb, h6.trans (hb.mono h6.size)⟩
  have KA : Hid (∀ w1 : World, (w1.cell? ⟨p, 0, none⟩ = some (.int .i64 256) ∧ w1.cell? ⟨p, 1, none⟩ = some (.iface 88 (.pointer (some ⟨gs, 0, none⟩))) ∧ w1.cell? ⟨p, 2, none⟩ = some (.slice (some ⟨gw, 0, none⟩) m c) ∧ w1.cell? ⟨p, 3, none⟩ = some (.int .u64 (n : Nat)) ∧ Ar w1 .u32 gs 8 h ∧ Sl w1 .u8 (some ⟨gw, 0, none⟩) m c f ∧ Below w.heap.size w w1) →
      Calls Try.prog 63 #[.pointer (some ⟨gs, 0, none⟩)] w1 fun e w' => ∃ g, e = .returned (.iface 88 (.pointer (some ⟨g, 0, none⟩))) ∧ Ar w' .u32 g 8 h ∧ w1.heap.size ≤ g ∧ Below w1.heap.size w1 w') := fun w1 h => again_any h.2.2.2.2.1
  have KS : Hid (∀ w1 : World, (w1.cell? ⟨p, 0, none⟩ = some (.int .i64 256) ∧ w1.cell? ⟨p, 1, none⟩ = some (.iface 88 (.pointer (some ⟨gs, 0, none⟩))) ∧ w1.cell? ⟨p, 2, none⟩ = some (.slice (some ⟨gw, 0, none⟩) m c) ∧ w1.cell? ⟨p, 3, none⟩ = some (.int .u64 (n : Nat)) ∧ Ar w1 .u32 gs 8 h ∧ Sl w1 .u8 (some ⟨gw, 0, none⟩) m c f ∧ Below w.heap.size w w1) → Sl w1 .u8 (some ⟨gw, 0, none⟩) m c f) := fun w1 h => h.2.2.2.2.2.1
  have HMA := method_again ⟨gs, 0, none⟩
  clear hs ha hr
  go_enter Try.func41, Try.ntmps41
  go_wp2_with fail
  go_region_held3 (fun w1 => w1.cell? ⟨p, 0, none⟩ = some (.int .i64 256) ∧ w1.cell? ⟨p, 1, none⟩ = some (.iface 88 (.pointer (some ⟨gs, 0, none⟩))) ∧ w1.cell? ⟨p, 2, none⟩ = some (.slice (some ⟨gw, 0, none⟩) m c) ∧ w1.cell? ⟨p, 3, none⟩ = some (.int .u64 (n : Nat)) ∧ Ar w1 .u32 gs 8 h ∧ Sl w1 .u8 (some ⟨gw, 0, none⟩) m c f ∧ Below w.heap.size w w1)
    (first | assumption | exact KD.out | exact KP.out _ _ (by assumption) (by assumption) | exact KP.out _ _ KD.out (by assumption) | exact KP.out _ _ (by assumption) ((Below.refl _ _).alloc (Nat.le_refl _) _))
    (first
      | (go_at_call 63; refine Calls.mono (KA.out _ (by assumption)) ?_; rintro e w2 ⟨g, rfl, hA, hG, hB⟩)
      | (refine step_app rfl _ _ k8 rfl _ 0 m none ⟨gw, 0, none⟩ 0 c (fun _ => 0) f rfl rfl (Own.nil _ _ _ _ _) (KS.out _ (by assumption)) (by omega) (Nat.le_refl _) ?_; intro oa' c' w3 h1 h2 h3))
  have hz2 : w.heap.size ≤ w2.heap.size := hB.size
  have hz3 : w2.heap.size ≤ w3.heap.size := h3.size
  have hB2 : Below w.heap.size w w2 := ⟨hB.os, hB.tape, hB.output, hB.size, hB.block⟩
  have hz4 : g < w2.heap.size := hA.1
  have hA3 := hA.below h3
  have hO3 : Own w2.heap.size w3 .u8 5 oa' m c' f := by
    rw [Nat.zero_add] at h1
    exact h1.congr fun j _ => by rw [cat_right (Nat.zero_le _), Nat.sub_zero]
  have hB3 := hB2.trans (h3.mono hz2)
  have hal : Below w3.heap.size w3 (w3.alloc (Obj.cells #[.int .i64 256, .iface 88 (.pointer (some ⟨g, 0, none⟩)), .slice oa' m c', .int .u64 (n : Nat)] 81)) := (Below.refl _ _).alloc (Nat.le_refl _) _
  have HO := hid (hO3.below hal)
  have HA := hid (hA3.below hal)
  have HB := hid (hB3.trans (hal.mono (Nat.le_trans hz2 hz3)))
  have HS := hid (sum_new w3 g n (.slice oa' m c'))
  have HN := hid hO3.nw
  clear hA hB h1 h2 h3 hB2 hA3 hO3 hB3 hal KD KP KA KS HMA
  go_wp2_with fail
  go_ret
  refine ⟨w3.heap.size, g, oa', c', rfl, HS.out, HA.out, HO.out.mono hz2, Nat.le_trans hz2 hz3, hG, ?_, fun a ha => ?_, fun a ha => ?_, HB.out⟩
  · omega
  · have := (HN.out a ha).2.1
    omega
  · have := (HN.out a ha).1
    omega

end Go.Proofs.Ytkkcaicihhkahaa
