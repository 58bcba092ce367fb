/-
  What comes in: a slice of integers, as the row's frame tells of it, read as digits or bytes.
-/
import Derived.Test.YtfknjfmgpfhjiaaWv
import Derived.ProofKit
import Derived.OpenShut
namespace Go.Proofs.Ytfknjfmgpfhjiaa
open Go.RowKit

/-- WHAT THE WALK IS TOLD OF A SLICE OF INTEGERS THAT CAME IN: it is nil; or it leads to a row of 'cap' cells, the numbers 'zs' (the first 'len' are its elements, the rest its spare room), each fitting its kind. -/
def IsRow (k : IntKind) (w : World) (a : Option Addr) (len cap : Nat) (zs : List Int) : Prop :=
  (a = none ∧ len = 0 ∧ cap = 0 ∧ zs = []) ∨
  ∃ x, a = some x ∧ len ≤ cap ∧ cap ≤ maxLen ∧ zs.length = cap ∧ (∀ i, i < zs.length → w.cell? (x.add i) = some (.int k (zs.getD i 0))) ∧ ∀ n ∈ zs, (Lit.int k n).wf = true

theorem cell_lt {w : World} {a : Addr} {v : Value} (h : w.cell? a = some v) : a.block < w.heap.size := by
  refine Decidable.byContradiction fun hn => ?_
  have : w.heap[a.block]? = none := Array.getElem?_eq_none (by omega)
  simp [World.cell?, this] at h

theorem IsRow.sl {k : IntKind} {w : World} {a : Option Addr} {len cap : Nat} {zs : List Int} (h : IsRow k w a len cap zs) (hk : ∀ n, (Lit.int k n).wf = true → 0 ≤ n) :
    Sl w k a len cap fun j => (zs.getD j 0).toNat := by
  rcases h with ⟨rfl, rfl, rfl, rfl⟩ | ⟨x, rfl, hl, hm, hz, hc, hw⟩
  · exact Sl.nil _ _ _
  · refine ⟨hl, hm, (fun h => by cases h), fun hn => ?_⟩
    obtain ⟨b, off, rfl, hc2⟩ := ints_at hc (by omega)
    refine ⟨b, off, rfl, cell_lt (hc2 0 (by omega)), fun j hj => ?_⟩
    rw [hc2 j (by omega)]
    have hjz : j < zs.length := by omega
    have h0 := hk _ (hw zs[j] (List.getElem_mem hjz))
    have e : zs.getD j 0 = zs[j] := by simp [hjz]
    show _ = some (Value.int k ((zs.getD j 0).toNat : Nat))
    rw [e, Int.toNat_of_nonneg h0]

theorem IsRow.at_ {k : IntKind} {w : World} {a : Option Addr} {len cap : Nat} {zs : List Int} (h : IsRow k w a len cap zs) {j : Nat} (hj : j < len) : (Lit.int k (zs.getD j 0)).wf = true := by
  rcases h with ⟨rfl, rfl, rfl, rfl⟩ | ⟨x, rfl, hl, hm, hz, hc, hw⟩
  · omega
  · have hjz : j < zs.length := by omega
    have e : zs.getD j 0 = zs[j] := by simp [hjz]
    rw [e]
    exact hw _ (List.getElem_mem hjz)

theorem IsRow.rf {w : World} {a : Option Addr} {len cap : Nat} {zs : List Int} (h : IsRow .u32 w a len cap zs) : Rf w (.slice a len cap) len fun j => (zs.getD j 0).toNat := by
  refine ⟨⟨a, cap, rfl, h.sl fun n hn => (bounds_u32 hn).1⟩, fun j hj => ?_⟩
  have := bounds_u32 (h.at_ hj)
  show (zs.getD j 0).toNat < _
  omega

theorem IsRow.rb {w : World} {a : Option Addr} {len cap : Nat} {zs : List Int} (h : IsRow .u8 w a len cap zs) : Rb w (.slice a len cap) len fun j => (zs.getD j 0).toNat := by
  refine ⟨a, cap, rfl, h.sl fun n hn => (bounds_u8 hn).1, fun j hj => ?_⟩
  have := bounds_u8 (h.at_ hj)
  show (zs.getD j 0).toNat < _
  omega

end Go.Proofs.Ytfknjfmgpfhjiaa
