/-
  What comes in: a slice of tries (structs of three numbers).
-/
import Derived.Test.YtkkcaicihhkahaaDz
import Derived.Deep.Slices
import Derived.Deep.Fields
import Derived.ChangeSame
namespace Go.Proofs.Ytkkcaicihhkahaa
open Go.RowKit Go.ChangeShapes Go.WideShapes Go.Deep

/-- A slice of structs of one-cell fields that came in: its elements' cells. -/
theorem fields_of {H : Type} {enc : TypeId × Value → H} {P : Program} {w : World} {base : Nat} {spare : Nat → Bool} {held : Bool} {t e : TypeId} {fs : Array Field} {fuel : Nat} {cs : List Value} {x : DataW H × List MemPlace} (ht : P.underlying t = some (.slice e)) (he : P.underlying e = some (.struct fs))
    (hone : oneCellFields P fs = true) (hC : P.cellsOf e = fs.size) (h : DataW.trod enc P w base spare held fuel t cs = some x) :
    cs = [.slice none 0 0] ∨ ∃ (a : Addr) (len cap : Nat), cs = [.slice (some a) len cap] ∧ len ≤ cap ∧
      ∀ i, i < len → ∀ (j : Nat) (f : Field), fs[j]? = some f → ∃ (v : Value) (n : Nat) (y : DataW H × List MemPlace), w.cell? (a.add (i * fs.size + j)) = some v ∧ DataW.trod enc P w base spare held n f.type [v] = some y := by
  rcases open_slice ht h with ⟨h0, _⟩ | ⟨a, len, cap, m, n, D, Pl, hcs, hb, hl, hm, hmm, hx, hi⟩
  · exact .inl h0
  · refine .inr ⟨a, len, cap, hcs, hl, fun i hil => ?_⟩
    have him : i < m := by rw [hmm]; split <;> omega
    obtain ⟨cs', hc, ht'⟩ := hi i him
    rw [hC] at hc
    obtain ⟨ys, n', hn', hy, hlen, hyl, hf⟩ := DataW.trod_struct he ht'
    obtain ⟨_, hcl, hat⟩ := World.cells?_some hc
    intro j f hj
    obtain ⟨ho, hk⟩ := hone_of hone j f hj
    have hjl : j < fs.size := (Array.getElem?_eq_some_iff.1 hj).1
    have hcell := hat j hjl
    have hv : cs'[j]? = some (cs'[j]'(by omega)) := List.getElem?_eq_getElem (by omega)
    have h1 := hf j f hj
    rw [ho, hk] at h1
    have hone' : (cs'.drop j).take 1 = [cs'[j]'(by omega)] := by
      rw [List.drop_eq_getElem_cons (by omega)]
      rfl
    rw [hone'] at h1
    have hys : ys[j]? = some (ys[j]'(by omega)) := List.getElem?_eq_getElem (by omega)
    refine ⟨_, _, _, ?_, h1.trans hys⟩
    rw [← Go.Deep.add_add, hcell, hv]

theorem trs_of {H : Type} {enc : TypeId × Value → H} {w : World} {base : Nat} {spare : Nat → Bool} {held : Bool} {fuel : Nat} {a1 : Option Addr} {len1 cap1 : Nat} {x : DataW H × List MemPlace} (h : DataW.trod enc Try.prog w base spare held fuel 38 [.slice a1 len1 cap1] = some x) : Trs w a1 len1 cap1 := by
  rcases fields_of Try.underlying38 Try.underlying42 (by kernel_rfl) (by kernel_rfl) h with hcs | ⟨a, l, c, hcs, hl, hi⟩
  · simp at hcs
    obtain ⟨rfl, rfl, rfl⟩ := hcs
    exact ⟨Nat.le_refl _, fun h => absurd h (by decide)⟩
  · simp at hcs
    obtain ⟨rfl, rfl, rfl⟩ := hcs
    refine ⟨hl, fun hn => ?_⟩
    obtain ⟨b, off, spot⟩ := a
    have key : ∀ i, i < len1 → ∃ x k t : Int, w.cell? ((⟨b, off, spot⟩ : Addr).add (i * 3)) = some (.int .i64 x) ∧ w.cell? ((⟨b, off, spot⟩ : Addr).add (i * 3 + 1)) = some (.int .i64 k) ∧ w.cell? ((⟨b, off, spot⟩ : Addr).add (i * 3 + 2)) = some (.int .i64 t) := by
      intro i hil
      obtain ⟨v0, n0, y0, c0, t0⟩ := hi i hil 0 _ rfl
      obtain ⟨v1, n1, y1, c1, t1⟩ := hi i hil 1 _ rfl
      obtain ⟨v2, n2, y2, c2, t2⟩ := hi i hil 2 _ rfl
      obtain ⟨x0, e0, _, _⟩ := DataW.trod_int Try.underlying3 t0
      obtain ⟨x1, e1, _, _⟩ := DataW.trod_int Try.underlying3 t1
      obtain ⟨x2, e2, _, _⟩ := DataW.trod_int Try.underlying2 t2
      cases e0
      cases e1
      cases e2
      exact ⟨x0, x1, x2, c0, c1, c2⟩
    obtain ⟨x, k, t, c0, _, _⟩ := key 0 hn
    have hspot : spot = none := by
      have := World.cell?_spot c0
      simpa [Addr.add] using this
    subst hspot
    refine ⟨b, off, rfl, ?_, fun i hil => ?_⟩
    · have : ((⟨b, off, none⟩ : Addr).add (0 * 3)).block < w.heap.size := cell_lt c0
      rwa [Go.WideShapes.add_plain] at this
    · obtain ⟨x, k, t, c0, c1, c2⟩ := key i hil
      rw [Go.WideShapes.add_plain] at c0 c1 c2
      exact ⟨x, k, t, c0, by rw [Nat.add_assoc]; exact c1, by rw [Nat.add_assoc]; exact c2⟩

end Go.Proofs.Ytkkcaicihhkahaa
