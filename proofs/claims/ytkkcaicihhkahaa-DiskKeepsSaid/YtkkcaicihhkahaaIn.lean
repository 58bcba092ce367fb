/-
  What comes in: a slice of bytes, as the row's frame tells of it; the table, any 80 numbers.
-/
import Derived.Test.YtkkcaicihhkahaaDt
import Derived.ProofKit
import Derived.OpenShut
import Derived.HandedShaped
namespace Go.Proofs.Ytkkcaicihhkahaa
open Go.RowKit

/-- WHAT THE WALK IS TOLD OF A SLICE OF INTEGERS THAT CAME IN: it is nil; or it leads to a row of 'cap' cells, the numbers 'zs' (the first 'len' are its elements, the rest its spare room), each fitting its kind. -/
def IsRow (k : IntKind) (w : World) (a : Option Addr) (len cap : Nat) (zs : List Int) : Prop :=
  (a = none ∧ len = 0 ∧ cap = 0 ∧ zs = []) ∨
  ∃ x, a = some x ∧ len ≤ cap ∧ cap ≤ maxLen ∧ zs.length = cap ∧ (∀ i, i < zs.length → w.cell? (x.add i) = some (.int k (zs.getD i 0))) ∧ ∀ n ∈ zs, (Lit.int k n).wf = true

theorem cell_lt {w : World} {a : Addr} {v : Value} (h : w.cell? a = some v) : a.block < w.heap.size := by
  refine Decidable.byContradiction fun hn => ?_
  have : w.heap[a.block]? = none := Array.getElem?_eq_none (by omega)
  simp [World.cell?, this] at h

/-- A byte of a row that came in. -/
def rowf (zs : List Int) : Nat → Nat := fun j => (zs.getD j 0).toNat

theorem IsRow.sl {w : World} {a : Option Addr} {len cap : Nat} {zs : List Int} (h : IsRow .u8 w a len cap zs) : Sl w .u8 a len cap (rowf zs) := by
  rcases h with ⟨rfl, rfl, rfl, rfl⟩ | ⟨x, rfl, hl, hm, hz, hc, hw⟩
  · exact Sl.nil _ _ _
  · refine ⟨hl, hm, (fun h => by cases h), fun hn => ?_⟩
    obtain ⟨b, off, rfl, hc2⟩ := ints_at hc (by omega)
    refine ⟨b, off, rfl, cell_lt (hc2 0 (by omega)), fun j hj => ?_⟩
    rw [hc2 j (by omega)]
    have hjz : j < zs.length := by omega
    have h0 := bounds_u8 (hw zs[j] (List.getElem_mem hjz))
    have e : zs.getD j 0 = zs[j] := by simp [hjz]
    show _ = some (Value.int .u8 ((zs.getD j 0).toNat : Nat))
    rw [e, Int.toNat_of_nonneg h0.1]

theorem IsRow.lt {w : World} {a : Option Addr} {len cap : Nat} {zs : List Int} (h : IsRow .u8 w a len cap zs) (i : Nat) : rowf zs i < 256 := by
  unfold rowf
  rcases h with ⟨rfl, rfl, rfl, rfl⟩ | ⟨x, rfl, hl, hm, hz, hc, hw⟩
  · simp
  · by_cases hjz : i < zs.length
    · have h0 := bounds_u8 (hw zs[i] (List.getElem_mem hjz))
      have e : zs.getD i 0 = zs[i] := by simp [hjz]
      rw [e]
      omega
    · have e : zs.getD i 0 = 0 := by simp [hjz]
      rw [e]
      decide

/-- The slice's block, if any, lies below. -/
theorem IsRow.blk {w : World} {a : Option Addr} {len cap : Nat} {zs : List Int} (h : IsRow .u8 w a len cap zs) (hn : 0 < len) : ∀ x, a = some x → x.block < w.heap.size := by
  intro x hx
  obtain ⟨b, off, e, hlt, _⟩ := h.sl.at_ hn
  rw [e] at hx
  cases hx
  exact hlt

set_option maxRecDepth 100000 in
theorem table_of {w : World} (h : w.ShapedOpen Try.prog) : ∃ T, Tab w T := by
  obtain ⟨cs, hh, hs, hr⟩ := h.1 0 (Array.replicate 80 (.int .u64 0)) 110 (of_decide_eq_true (by kernel_rfl)) (by kernel_rfl)
  obtain ⟨ts, hts, _, hall⟩ := hr (by kernel_rfl)
  have hts2 : Try.prog.cellTypes Try.prog.depth 110 = some (List.replicate 80 32) := by kernel_rfl
  rw [hts2] at hts
  cases hts
  have hs80 : cs.size = 80 := by simpa using hs
  have hcell : ∀ j, j < 80 → ∃ n : Nat, cs[j]? = some (.int .u64 (n : Nat)) ∧ n < 18446744073709551616 := by
    intro j hj
    have hjs : j < cs.size := by omega
    obtain ⟨u, hu', hok⟩ := hall j cs[j] (by simp [hjs])
    have hu : u = 32 := by
      rw [List.length_replicate, Nat.mod_eq_of_lt hj, List.getElem?_replicate, if_pos hj] at hu'
      exact (Option.some.inj hu').symm
    subst hu
    unfold Cell.ok at hok
    rw [Try.underlying32] at hok
    cases hv : cs[j] <;> rw [hv] at hok <;> simp at hok
    case int k' n =>
      obtain ⟨rfl, h1, h2⟩ := hok
      have h3 : (0 : Int) ≤ n := h1
      have h4 : n ≤ 18446744073709551615 := h2
      refine ⟨n.toNat, ?_, by omega⟩
      rw [Array.getElem?_eq_getElem hjs, hv, Int.toNat_of_nonneg h3]
  refine ⟨fun j => if h : j < 80 then (hcell j h).choose else 0, ⟨⟨?_, fun j hj => ?_, fun o => ?_⟩, fun j hj => ?_⟩⟩
  · exact (Array.getElem?_eq_some_iff.1 hh).1
  · have := (hcell j hj).choose_spec.1
    simp only [hj, dif_pos]
    rw [← this]
    simp [World.cell?, hh]
  · simp [World.frozen?, hh]
  · simp only [hj, dif_pos]
    exact (hcell j hj).choose_spec.2

end Go.Proofs.Ytkkcaicihhkahaa
