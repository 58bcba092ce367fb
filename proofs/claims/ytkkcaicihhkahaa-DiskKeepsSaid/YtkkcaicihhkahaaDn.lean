/-
  The range over disk's slots: the law of the loop.
-/
import Derived.Test.YtkkcaicihhkahaaDm
namespace Go.Proofs.Ytkkcaicihhkahaa
open Go.RowKit Go.Shelf
attribute [local go_sem] Oper.semAt_some

/-- But for blocks p and B, what lay in w lies in W as it lay. -/
structure Far (p B : Nat) (w W : World) : Prop where
  os : W.os = w.os
  tape : W.tape = w.tape
  output : W.output = w.output
  size : w.heap.size ≤ W.heap.size
  block : ∀ j, j < w.heap.size → j ≠ p → j ≠ B → W.heap[j]? = w.heap[j]?

theorem Far.refl (p B : Nat) (w : World) : Far p B w w := ⟨rfl, rfl, rfl, Nat.le_refl _, fun _ _ _ _ => rfl⟩

theorem Far.grown {p B : Nat} {w W W' : World} {r : Nat} (h : Far p B w W) (hg : W.grownBy W' (some r)) (hr : r = p ∨ r = B ∨ w.heap.size ≤ r) : Far p B w W' :=
  ⟨hg.os.trans h.os, hg.tape.trans h.tape, hg.output.trans h.output, Nat.le_trans h.size hg.size, fun j hj hp hB => by
    rw [hg.block j (Nat.lt_of_lt_of_le hj h.size) (fun e => by cases e; omega)]
    exact h.block j hj hp hB⟩

theorem Far.alloc {p B : Nat} {w W : World} (h : Far p B w W) (o : Obj) : Far p B w (W.alloc o) :=
  ⟨h.os, h.tape, h.output, Nat.le_trans h.size (by simp), fun j hj hp hB => by
    rw [← h.block j hj hp hB]
    exact Below.heap_alloc W o j (Nat.lt_of_lt_of_le hj h.size)⟩

theorem Far.putObj {p B : Nat} {w W : World} (h : Far p B w W) {l : Nat} (hl : w.heap.size ≤ l) (o : Obj) : Far p B w (W.putObj l o) := h.grown (grownBy_putObj' W l o) (.inr (.inr hl))

theorem JrAt.putObj {w : World} {p d s l : Nat} {t : Int} (h : JrAt w p d s t) (hl : p ≠ l) (o : Obj) : JrAt (w.putObj l o) p d s t := h.grown (grownBy_putObj' w l o) (fun e => hl (Option.some.inj e))
theorem JrAt.alloc {w : World} {p d s : Nat} {t : Int} (h : JrAt w p d s t) (o : Obj) : JrAt (w.alloc o) p d s t := h.below ((Below.refl _ w).alloc (Nat.le_refl _) o)
theorem JrAt.setCell {w : World} {p d s B : Nat} {t : Int} (h : JrAt w p d s t) (hB : p ≠ B) (v : Value) : JrAt (w.setCell ⟨B, 0, none⟩ v) p d s t := h.grown (grownBy_setCell' w B v) (fun e => hB (Option.some.inj e))

set_option maxHeartbeats 1600000 in
theorem range_slots {n : Nat} {g : Operand} {assign body : Code} {Q : Exit → Act → World → Prop} {a : Act} {w : World} {p d Bn gb m c : Nat} {oa : Option Addr} {f : Nat → Nat} {H : Nat → Int → Nat → Nat} (hn : 3 ≤ n)
    (hg : a.eval g = .func (.func 30) #[] #[.pointer (some ⟨Bn, 0, none⟩)]) (hj : JrAt w p d 0 tFirst) (hpB : p ≠ Bn) (hBw : Bn < w.heap.size) (hbox : w.cell? ⟨Bn, 0, none⟩ = some (.slice oa m c)) (hbf : w.frozen? ⟨Bn, 0, none⟩ = false)
    (hmc : m ≤ c) (hoa : 24 ≤ m → oa = some ⟨gb, 0, none⟩) (a₁ : Value → Act)
    (hassign : ∀ (l : Nat) (x : Value) (W : World) (K : Act → World → Prop), K (a₁ x) W → assign.wpIn (Fence.wide.inRound l) (n - 1 - 1) Try.prog (Exit.then K (fun _ _ _ => False)) { tmps := ((#[22] : Array Tmp).zip #[x]).foldl (fun t (p, v) => t.setIfInBounds p v) a.tmps, defers := [] } W)
    (hbody : ∀ (l k : Nat) (W : World), 24 * k + 24 ≤ m → Far p Bn w W → JrAt W p d (jr H f k).1 (jr H f k).2 →
      body.wpIn (Fence.wide.inRound l) (n - 1 - 1) Try.prog (fun e _ W' => e = .normal ∧ W.grownBy W' (some p) ∧ JrAt W' p d (jr H f (k + 1)).1 (jr H f (k + 1)).2) (a₁ (.slice (some ⟨gb, 24 * k, none⟩) 24 (c - 24 * k))) W)
    (hdone : ∀ (W : World), Far p Bn w W → JrAt W p d (jr H f (m / 24)).1 (jr H f (m / 24)).2 → W.heap[w.heap.size]? = some (.deferred (some [])) → Q .normal { a with defers := { target := .collected w.heap.size, args := #[] } :: a.defers } W) :
    (Code.rangeFunc g #[22] assign body).wpIn Fence.wide n Try.prog Q a w := by
  refine wpIn_rangeFunc ?_
  intro fn hfn
  obtain ⟨rec, hrec⟩ : ∃ rec : LoopState → Loop, rec = fun st => { state := st, pending := none, fn, tmps := a.tmps, params := #[22], assign, body, defers := w.heap.size } := ⟨_, rfl⟩
  obtain ⟨W1, hW1⟩ : ∃ W1, (w.alloc (.deferred (some []))).alloc (.loop (rec .ready)) = W1 := ⟨_, rfl⟩
  have hL1 : W1.heap[w.heap.size + 1]? = some (.loop (rec .ready)) := by
    rw [← hW1]
    have := World.alloc_heap_new (w.alloc (.deferred (some []))) (.loop (rec .ready))
    rwa [World.size_alloc] at this
  have hK1 : W1.heap[w.heap.size]? = some (.deferred (some [])) := by
    rw [← hW1]
    exact (Below.heap_alloc _ _ _ (by simp)).trans (World.alloc_heap_new w _)
  have hF1 : Far p Bn w W1 := by rw [← hW1]; exact ((Far.refl p Bn w).alloc _).alloc _
  have hJ1 : JrAt W1 p d 0 tFirst := by rw [← hW1]; exact (hj.alloc _).alloc _
  have hBn1 : W1.heap[Bn]? = w.heap[Bn]? := by
    rw [← hW1, Below.heap_alloc _ _ _ (by simp; omega), Below.heap_alloc _ _ _ hBw]
  have hp := hj.1
  have hc1 : W1.cell? ⟨Bn, 0, none⟩ = some (.slice oa m c) := (World.cell?_of_block (w := w) (a := ⟨Bn, 0, none⟩) hBn1).trans hbox
  have hf1 : W1.frozen? ⟨Bn, 0, none⟩ = false := (World.frozen?_of_block (w := w) (a := ⟨Bn, 0, none⟩) hBn1).trans hbf
  refine ⟨w.heap.size + 1, [{ target := .collected w.heap.size, args := #[] }], W1, { target := .fn (.func 30) #[.pointer (some ⟨Bn, 0, none⟩)], args := #[.func (.yield (w.heap.size + 1)) #[] #[]] }, W1, 30,
    #[.func (.yield (w.heap.size + 1)) #[] #[], .pointer (some ⟨Bn, 0, none⟩)], W1, ?_, ?_, ?_, ?_, fun _ => by omega, ?_⟩
  · rw [← hW1, hrec]
    exact run_enterLoop_outer _ _ _ _ _
  · simp only [resolve, hg]
    simp [go_sem]
  · intro f' _
    exact trivial
  · simp [invoke, go_sem]
  · refine (slots_in (n - 1) (by omega) (w.heap.size + 1) Bn gb m c oa (fun k W => Far p Bn w W ∧ JrAt W p d (jr H f k).1 (jr H f k).2 ∧ W.heap[w.heap.size + 1]? = some (.loop (rec .ready)) ∧ W.heap[w.heap.size]? = some (.deferred (some []))) hmc hoa ?_ ?_ W1 hc1 hf1 ⟨hF1, hJ1, hL1, hK1⟩).mono ?_
    · rintro k W hlt ⟨hF, hJ, hL, hK⟩
      have hlz : w.heap.size + 1 < W.heap.size := (Array.getElem?_eq_some_iff.1 hL).1
      have hy := run_yield (P := Try.prog) (args := #[.slice (some ⟨gb, 24 * k, none⟩) 24 (c - 24 * k)]) hL (by rw [hrec]; rfl)
      rw [hrec] at hy
      refine ⟨fn, _, assign, body, hy, roundIn_of_wpIn hfn (hassign _ _ W _ ?_)⟩
      clear hy
      refine ⟨_, run_beginRound hL (by rw [hrec]), ?_⟩
      have hL2 : (W.putObj (w.heap.size + 1) (.loop { rec .ready with state := .busy })).heap[w.heap.size + 1]? = some (.loop { rec .ready with state := .busy }) := World.putObj_heap_same hlz
      have hK2 : (W.putObj (w.heap.size + 1) (.loop { rec .ready with state := .busy })).heap[w.heap.size]? = some (.deferred (some [])) := (World.putObj_heap_other (by omega)).trans hK
      have hB2 : (W.putObj (w.heap.size + 1) (.loop { rec .ready with state := .busy })).heap[Bn]? = W.heap[Bn]? := World.putObj_heap_other (by omega)
      have hz2 : (W.putObj (w.heap.size + 1) (.loop { rec .ready with state := .busy })).heap.size = W.heap.size := World.putObj_size
      refine wpIn_mono (hbody _ k _ hlt (hF.putObj (by omega) _) (hJ.putObj (by omega) _)) ?_
      rintro e a3 W3 ⟨rfl, hg3, hJ3⟩
      have hF3 : Far p Bn w W3 := (hF.putObj (l := w.heap.size + 1) (by omega) _).grown hg3 (.inl rfl)
      have hL3 : W3.heap[w.heap.size + 1]? = some (.loop { rec .ready with state := .busy }) := (hg3.block _ (by rw [hz2]; exact hlz) (fun e => by cases e; omega)).trans hL2
      have hK3 : W3.heap[w.heap.size]? = some (.deferred (some [])) := (hg3.block _ (by rw [hz2]; omega) (fun e => by cases e; omega)).trans hK2
      have hB3 : W3.heap[Bn]? = W.heap[Bn]? := (hg3.block _ (by rw [hz2]; omega) (fun e => by cases e; omega)).trans hB2
      have hl3 : w.heap.size + 1 < W3.heap.size := (Array.getElem?_eq_some_iff.1 hL3).1
      have hend := run_endRound (P := Try.prog) none hL3
      have hB4 : (W3.putObj (w.heap.size + 1) (.loop { ({ rec .ready with state := .busy } : Loop) with state := if (none : Option Code).isNone then .ready else .done, pending := none })).heap[Bn]? = W.heap[Bn]? := (World.putObj_heap_other (by omega)).trans hB3
      refine ⟨_, _, hend, rfl, ⟨hF3.putObj (by omega) _, hJ3.putObj (by omega) _, ?_, (World.putObj_heap_other (by omega)).trans hK3⟩, World.cell?_of_block (w := W) (a := ⟨Bn, 0, none⟩) hB4, World.frozen?_of_block (w := W) (a := ⟨Bn, 0, none⟩) hB4⟩
      rw [World.putObj_heap_same hl3, hrec]
      rfl
    · rintro k W v ⟨hF, hJ, hL, hK⟩
      have hlz : w.heap.size + 1 < W.heap.size := (Array.getElem?_eq_some_iff.1 hL).1
      have hgs := grownBy_setCell' W Bn v
      exact ⟨hF.grown hgs (.inr (.inl rfl)), hJ.setCell hpB v, (hgs.block _ hlz (fun e => by cases e; omega)).trans hL, (hgs.block _ (by omega) (fun e => by cases e; omega)).trans hK⟩
    · rintro e W2 ⟨⟨v, rfl⟩, hF, hJ, hL, hK⟩
      have hend := run_endLoop (P := Try.prog) hL (by rw [hrec]; simp)
      rw [hrec] at hend
      exact ⟨none, _, hend, hdone _ (hF.putObj (by omega) _) (hJ.putObj (by omega) _) ((World.putObj_heap_other (by omega)).trans hK)⟩

end Go.Proofs.Ytkkcaicihhkahaa
