/-
  A block's numbers in memory (an array); the plain reckoning of one block of the digest.
-/
import Derived.Test.YtkkcaicihhkahaaDa
import Derived.Laws.IdiomCopy
namespace Go.Proofs.Ytkkcaicihhkahaa
open Go.RowKit

/-- Block g holds the L numbers f of kind k, and may be written. -/
def Ar (w : World) (k : IntKind) (g L : Nat) (f : Nat → Nat) : Prop := g < w.heap.size ∧ (∀ j, j < L → w.cell? ⟨g, j, none⟩ = some (.int k (f j : Nat))) ∧ ∀ o, w.frozen? ⟨g, o, none⟩ = false

section
variable {w w' : World} {k : IntKind} {g L : Nat} {f h : Nat → Nat}

theorem Ar.lt (h : Ar w k g L f) : g < w.heap.size := h.1
theorem Ar.cell (h : Ar w k g L f) {j : Nat} (hj : j < L) : w.cell? ⟨g, j, none⟩ = some (.int k (f j : Nat)) := h.2.1 j hj
theorem Ar.free (h : Ar w k g L f) (o : Nat) : w.frozen? ⟨g, o, none⟩ = false := h.2.2 o

theorem Ar.below (h : Ar w k g L f) (hb : Below w.heap.size w w') : Ar w' k g L f :=
  ⟨Nat.lt_of_lt_of_le h.1 hb.size, fun j hj => by rw [hb.cell (p := ⟨g, j, none⟩) h.1]; exact h.2.1 j hj, fun o => by rw [hb.frozen (p := ⟨g, o, none⟩) h.1]; exact h.2.2 o⟩

theorem Ar.drewN (h : Ar w k g L f) (d : Nat) : Ar (w.drewN d) k g L f := h

theorem Ar.congr (hA : Ar w k g L f) (hfg : ∀ j, j < L → f j = h j) : Ar w k g L h := ⟨hA.1, fun j hj => by rw [hA.2.1 j hj, hfg j hj], hA.2.2⟩

theorem Ar.stored (h : Ar w k g L f) {j : Nat} (hj : j < L) (v : Nat) : Ar (w.setCell ⟨g, j, none⟩ (.int k (v : Nat))) k g L (upd f j v) := by
  refine ⟨by simpa using h.1, fun i hi => ?_, fun o => by simpa using h.2.2 o⟩
  by_cases e : i = j
  · subst e
    rw [upd_same]
    exact World.cell?_setCell_same _ _ _ (h.2.1 i hi)
  · rw [upd_other _ _ e, World.cell?_setCell_other _ _ _ _ (fun h2 => e (by have h3 : j = i := congrArg Addr.off h2; exact h3.symm))]
    exact h.2.1 i hi

theorem Ar.setCell_other (h : Ar w k g L f) {g' : Nat} (hne : g ≠ g') (o : Nat) (u : Value) : Ar (w.setCell ⟨g', o, none⟩ u) k g L f := by
  refine ⟨by simpa using h.1, fun j hj => ?_, fun x => by simpa using h.2.2 x⟩
  rw [World.cell?_setCell_other _ _ _ _ (fun h2 => hne (by have h3 : g' = g := congrArg Addr.block h2; exact h3.symm))]
  exact h.2.1 j hj
end

/-- Eight words that have been laid in a new block. -/
theorem ar_eight (w : World) (h : Nat → Nat) (t : TypeId) : Ar (w.alloc (.cells #[.int .u32 (h 0 : Nat), .int .u32 (h 1 : Nat), .int .u32 (h 2 : Nat), .int .u32 (h 3 : Nat), .int .u32 (h 4 : Nat), .int .u32 (h 5 : Nat), .int .u32 (h 6 : Nat), .int .u32 (h 7 : Nat)] t)) .u32 w.heap.size 8 h := by
  refine ⟨by simp, fun j hj => ?_, fun o => World.frozen?_alloc_at _ _ _ _ rfl⟩
  rw [World.cell?_alloc_at _ _ _ _ rfl]
  match j, hj with
  | 0, _ => rfl
  | 1, _ => rfl
  | 2, _ => rfl
  | 3, _ => rfl
  | 4, _ => rfl
  | 5, _ => rfl
  | 6, _ => rfl
  | 7, _ => rfl

/-- The first seven words as values. -/
def seven (v : Nat → Nat) : List Value := [.int .u32 (v 0 : Nat), .int .u32 (v 1 : Nat), .int .u32 (v 2 : Nat), .int .u32 (v 3 : Nat), .int .u32 (v 4 : Nat), .int .u32 (v 5 : Nat), .int .u32 (v 6 : Nat)]

theorem seven_at {v : Nat → Nat} : ∀ j, j < 7 → (seven v)[j]? = some (.int .u32 (v j : Nat))
  | 0, _ => rfl
  | 1, _ => rfl
  | 2, _ => rfl
  | 3, _ => rfl
  | 4, _ => rfl
  | 5, _ => rfl
  | 6, _ => rfl
  | _ + 7, h => absurd h (by omega)

theorem setCells_frozen (b : Nat) (p : Addr) : ∀ (vs : List Value) (o : Nat) (w : World), (w.setCells b o vs).frozen? p = w.frozen? p
  | [], _, _ => rfl
  | v :: r, o, w => by rw [World.setCells, setCells_frozen b p r, World.frozen?_setCell]

theorem setCells_size (b : Nat) : ∀ (vs : List Value) (o : Nat) (w : World), (w.setCells b o vs).heap.size = w.heap.size
  | [], _, _ => rfl
  | v :: r, o, w => by rw [World.setCells, setCells_size b r]; simp

theorem Below.setCells_ {B b : Nat} {a : World} (hB : B ≤ b) : ∀ (vs : List Value) (o : Nat) (w : World), Below B a w → Below B a (w.setCells b o vs)
  | [], _, _, h => h
  | v :: r, o, w, h => by rw [World.setCells]; exact Below.setCells_ hB r (o + 1) _ (h.setCell (p := ⟨b, o, none⟩) hB v)

theorem Ar.setCells_other {k : IntKind} {g g' L : Nat} {f : Nat → Nat} (hne : g ≠ g') : ∀ (vs : List Value) (o : Nat) (w : World), Ar w k g L f → Ar (w.setCells g' o vs) k g L f
  | [], _, _, h => h
  | v :: r, o, w, h => by rw [World.setCells]; exact Ar.setCells_other hne r (o + 1) _ (h.setCell_other hne o v)

theorem grown_of_below {w w' : World} {g : Nat} (hb : Below w.heap.size w w') : w.grownBy w' (some g) := ⟨hb.os, hb.tape, hb.output, hb.size, fun k hk _ => hb.block k hk⟩

theorem grown_set {w w' : World} {gb : Nat} (h : w.grownBy w' (some gb)) (j : Nat) (u : Value) : w.grownBy (w'.setCell ⟨gb, j, none⟩ u) (some gb) :=
  ⟨h.os, h.tape, h.output, by have := h.size; simpa using this, fun k hk hne => by rw [← h.block k hk hne]; exact heap_setCell_other w' ⟨gb, j, none⟩ k u (fun e => hne (by simp [e]))⟩

theorem grown_drewN {w w' : World} {row : Option Nat} (h : w.grownBy w' row) (d : Nat) : w.grownBy (w'.drewN d) row := ⟨h.os, h.tape, h.output, h.size, h.block⟩

/-- 'copy(v[1:], v[:7])' in an array of eight. -/
theorem ar_shift {w : World} {g : Nat} {v : Nat → Nat} (h : Ar w .u32 g 8 v) : Ar (w.setCells g 1 (seven v)) .u32 g 8 (fun i => v (i - 1)) := by
  have h7 : (seven v).length = 7 := rfl
  refine ⟨by rw [setCells_size]; exact h.1, fun j hj => ?_, fun o => by rw [setCells_frozen]; exact h.2.2 o⟩
  by_cases h0 : j = 0
  · subst h0
    rw [World.cell?_setCells_out g (seven v) 1 w ⟨g, 0, none⟩ (fun _ _ => Or.inl Nat.zero_lt_one)]
    exact h.2.1 0 (by decide)
  · have := World.cell?_setCells_in g (seven v) 1 w (fun i hi => by rw [h.2.1 (1 + i) (by omega)]; rfl) (j - 1) (by omega)
    rw [show 1 + (j - 1) = j from by omega] at this
    rw [this]
    have h2 := seven_at (v := v) (j - 1) (by omega)
    rw [List.getElem?_eq_getElem (show j - 1 < (seven v).length by omega)] at h2
    exact h2

theorem run_shift {w : World} {g : Nat} {v : Nat → Nat} {ty : TypeId} (h : Ar w .u32 g 8 v) :
    (Builtin.copy_ #[115, 115] ty #[.slice (some ⟨g, 1, none⟩) 7 7, .slice (some ⟨g, 0, none⟩) 7 8]).run Try.prog w = .ok (goInt 7) (w.setCells g 1 (seven v)) := by
  obtain ⟨i, hi, hz, hs, _⟩ := k32.hi
  refine run_copy_cells w 115 115 ty 89 g 1 7 7 ⟨g, 0, none⟩ 7 8 (seven v) Try.underlying115 (by rw [hi]; simp [hs]) rfl (fun j u hj => ?_) (fun j hj => ?_) (fun j _ => h.2.2 _) (fun u hu => ?_)
  · have hj7 : j < 7 := by
      rcases Nat.lt_or_ge j 7 with h | h
      · exact h
      · rw [List.getElem?_eq_none (show (seven v).length ≤ j from h)] at hj
        cases hj
    rw [seven_at j hj7] at hj
    cases hj
    have e : (⟨g, 0, none⟩ : Addr).add j = ⟨g, j, none⟩ := by
      unfold Addr.add
      split
      · rename_i h0; subst h0; rfl
      · simp
    rw [e]
    exact h.2.1 j (by omega)
  · have hj7 : j < 7 := hj
    rw [h.2.1 (1 + j) (by omega)]
    rfl
  · obtain ⟨j, hj⟩ := List.mem_iff_getElem?.1 hu
    have hj7 : j < 7 := by
      rcases Nat.lt_or_ge j 7 with h | h
      · exact h
      · rw [List.getElem?_eq_none (show (seven v).length ≤ j from h)] at hj
        cases hj
    rw [seven_at j hj7] at hj
    cases hj
    rfl

/-! ### The plain reckoning -/

def sg0 (x : Nat) : Nat := rot x 7 ^^^ rot x 18 ^^^ x / 8
def sg1 (x : Nat) : Nat := rot x 17 ^^^ rot x 19 ^^^ x / 1024

/-- A word of the block's schedule. -/
def wval (b f : Nat → Nat) (t : Nat) : Nat :=
  if t < 16 then b (4 * t) * 16777216 ||| b (4 * t + 1) * 65536 ||| b (4 * t + 2) * 256 ||| b (4 * t + 3)
  else (sg1 (f (t - 2)) + f (t - 7) + sg0 (f (t - 15)) + f (t - 16)) % 4294967296

/-- The schedule's first t words. -/
def wrow (b : Nat → Nat) : Nat → Nat → Nat
  | 0 => fun _ => 0
  | t + 1 => upd (wrow b t) t (wval b (wrow b t) t)

theorem wval_lt {b f : Nat → Nat} (hb : ∀ j, j < 64 → b j < 256) {t : Nat} : wval b f t < 4294967296 := by
  unfold wval
  split
  · rename_i h
    have h0 := hb (4 * t) (by omega)
    have h1 := hb (4 * t + 1) (by omega)
    have h2 := hb (4 * t + 2) (by omega)
    have h3 := hb (4 * t + 3) (by omega)
    refine Nat.or_lt_two_pow (n := 32) (Nat.or_lt_two_pow (n := 32) (Nat.or_lt_two_pow (n := 32) ?_ ?_) ?_) ?_ <;> omega
  · exact Nat.mod_lt _ (by decide)

theorem wrow_lt {b : Nat → Nat} (hb : ∀ j, j < 64 → b j < 256) : ∀ t j, wrow b t j < 4294967296
  | 0, _ => by show 0 < 4294967296; decide
  | t + 1, j => by
    show upd (wrow b t) t _ j < _
    unfold upd
    split
    · exact wval_lt hb
    · exact wrow_lt hb t j

theorem sg0_lt {x : Nat} (hx : x < 4294967296) : sg0 x < 4294967296 :=
  Nat.xor_lt_two_pow (n := 32) (Nat.xor_lt_two_pow (n := 32) (rot_lt hx) (rot_lt hx)) (Nat.lt_of_le_of_lt (Nat.div_le_self _ _) hx)

theorem sg1_lt {x : Nat} (hx : x < 4294967296) : sg1 x < 4294967296 :=
  Nat.xor_lt_two_pow (n := 32) (Nat.xor_lt_two_pow (n := 32) (rot_lt hx) (rot_lt hx)) (Nat.lt_of_le_of_lt (Nat.div_le_self _ _) hx)

theorem sg1_int {x : Nat} (hx : x < 4294967296) : Go.bits .xor .u32 (Go.bits .xor .u32 ((rot x 17 : Nat) : Int) ((rot x 19 : Nat) : Int)) ((x : Int) / 1024) = ((sg1 x : Nat) : Int) := by
  have e : ((x : Int) / 1024) = ((x / 1024 : Nat) : Int) := by omega
  rw [e, u32_xor_nat _ _ (rot_lt hx) (rot_lt hx), u32_xor_nat _ _ (Nat.xor_lt_two_pow (n := 32) (rot_lt hx) (rot_lt hx)) (by omega)]
  rfl

theorem sg0_int {x : Nat} (hx : x < 4294967296) : Go.bits .xor .u32 (Go.bits .xor .u32 ((rot x 7 : Nat) : Int) ((rot x 18 : Nat) : Int)) ((x : Int) / 8) = ((sg0 x : Nat) : Int) := by
  have e : ((x : Int) / 8) = ((x / 8 : Nat) : Int) := by omega
  rw [e, u32_xor_nat _ _ (rot_lt hx) (rot_lt hx), u32_xor_nat _ _ (Nat.xor_lt_two_pow (n := 32) (rot_lt hx) (rot_lt hx)) (by omega)]
  rfl

/-- The word of the schedule as the walk meets it. -/
theorem wval_int {x y u v : Nat} (hx : x < 4294967296) (hy : y < 4294967296) :
    IntKind.u32.wrap (IntKind.u32.wrap (IntKind.u32.wrap (Go.bits .xor .u32 (Go.bits .xor .u32 ((rot x 17 : Nat) : Int) ((rot x 19 : Nat) : Int)) ((x : Int) / 1024) + (u : Int)) + Go.bits .xor .u32 (Go.bits .xor .u32 ((rot y 7 : Nat) : Int) ((rot y 18 : Nat) : Int)) ((y : Int) / 8)) + (v : Int)) = (((sg1 x + u + sg0 y + v) % 4294967296 : Nat) : Int) := by
  rw [sg1_int hx, sg0_int hy, IntKind.wrap_u32', IntKind.wrap_u32', IntKind.wrap_u32']
  omega

/-- What x and y of a round are. -/
def rx (T wd v : Nat → Nat) (t : Nat) : Nat :=
  (v 7 + (rot (v 4) 6 ^^^ rot (v 4) 11 ^^^ rot (v 4) 25) + ((v 4 &&& v 5) ^^^ ((4294967295 ^^^ v 4) &&& v 6)) + T t / 4294967296 + wd t) % 4294967296

def ry (v : Nat → Nat) : Nat :=
  ((rot (v 0) 2 ^^^ rot (v 0) 13 ^^^ rot (v 0) 22) + ((v 0 &&& v 1) ^^^ (v 0 &&& v 2) ^^^ (v 1 &&& v 2))) % 4294967296

theorem xor_lt {a b : Nat} (ha : a < 4294967296) (hb : b < 4294967296) : a ^^^ b < 4294967296 := Nat.xor_lt_two_pow (n := 32) ha hb
theorem and_lt' {a b : Nat} (ha : a < 4294967296) : a &&& b < 4294967296 := Nat.lt_of_le_of_lt Nat.and_le_left ha

/-- x as the walk meets it. -/
theorem rx_int {T wd v : Nat → Nat} {t : Nat} (h4 : v 4 < 4294967296) (h5 : v 5 < 4294967296) (h6 : v 6 < 4294967296) :
    ((((v 7 : Nat) : Int) + Go.bits .xor .u32 (Go.bits .xor .u32 ((rot (v 4) 6 : Nat) : Int) ((rot (v 4) 11 : Nat) : Int)) ((rot (v 4) 25 : Nat) : Int) +
      Go.bits .xor .u32 (Go.bits .and .u32 ((v 4 : Nat) : Int) ((v 5 : Nat) : Int)) (Go.bits .and .u32 (Go.bits .xor .u32 IntKind.u32.max ((v 4 : Nat) : Int)) ((v 6 : Nat) : Int)) + ((T t : Nat) : Int) / 4294967296 + ((wd t : Nat) : Int)) % 4294967296) = ((rx T wd v t : Nat) : Int) := by
  have hm : IntKind.u32.max = ((4294967295 : Nat) : Int) := by decide
  have e : ((T t : Nat) : Int) / 4294967296 = ((T t / 4294967296 : Nat) : Int) := by omega
  have r6 := rot_lt (n := 6) h4
  have r11 := rot_lt (n := 11) h4
  have r25 := rot_lt (n := 25) h4
  rw [hm, e, u32_xor_nat _ _ r6 r11, u32_xor_nat _ _ (xor_lt r6 r11) r25, u32_and_nat _ _ h4 h5, u32_xor_nat 4294967295 _ (by decide) h4, u32_and_nat _ _ (xor_lt (by decide) h4) h6, u32_xor_nat _ _ (and_lt' h4) (and_lt' (xor_lt (by decide) h4))]
  unfold rx
  omega

/-- y as the walk meets it. -/
theorem ry_int {v : Nat → Nat} (h0 : v 0 < 4294967296) (h1 : v 1 < 4294967296) (h2 : v 2 < 4294967296) :
    ((Go.bits .xor .u32 (Go.bits .xor .u32 ((rot (v 0) 2 : Nat) : Int) ((rot (v 0) 13 : Nat) : Int)) ((rot (v 0) 22 : Nat) : Int) +
      Go.bits .xor .u32 (Go.bits .xor .u32 (Go.bits .and .u32 ((v 0 : Nat) : Int) ((v 1 : Nat) : Int)) (Go.bits .and .u32 ((v 0 : Nat) : Int) ((v 2 : Nat) : Int))) (Go.bits .and .u32 ((v 1 : Nat) : Int) ((v 2 : Nat) : Int))) % 4294967296) = ((ry v : Nat) : Int) := by
  have r2 := rot_lt (n := 2) h0
  have r13 := rot_lt (n := 13) h0
  have r22 := rot_lt (n := 22) h0
  rw [u32_xor_nat _ _ r2 r13, u32_xor_nat _ _ (xor_lt r2 r13) r22, u32_and_nat _ _ h0 h1, u32_and_nat _ _ h0 h2, u32_and_nat _ _ h1 h2, u32_xor_nat _ _ (and_lt' h0) (and_lt' h0), u32_xor_nat _ _ (xor_lt (and_lt' h0) (and_lt' h0)) (and_lt' h1)]
  unfold ry
  omega

theorem rx_lt (T wd v : Nat → Nat) (t : Nat) : rx T wd v t < 4294967296 := Nat.mod_lt _ (by decide)
theorem ry_lt (v : Nat → Nat) : ry v < 4294967296 := Nat.mod_lt _ (by decide)

/-- A round. -/
def vnx (T wd : Nat → Nat) (t : Nat) (v : Nat → Nat) : Nat → Nat := fun i =>
  if i = 0 then (rx T wd v t + ry v) % 4294967296 else if i = 4 then (v 3 + rx T wd v t) % 4294967296 else v (i - 1)

def vrow (T wd h : Nat → Nat) : Nat → Nat → Nat
  | 0 => h
  | t + 1 => vnx T wd t (vrow T wd h t)

theorem vnx_lt {T wd v : Nat → Nat} {t : Nat} (hv : ∀ i, i < 8 → v i < 4294967296) : ∀ i, i < 8 → vnx T wd t v i < 4294967296 := by
  intro i hi
  unfold vnx
  split
  · exact Nat.mod_lt _ (by decide)
  · split
    · exact Nat.mod_lt _ (by decide)
    · exact hv _ (by omega)

/-- The state behind a block. -/
def blk (T h b : Nat → Nat) : Nat → Nat := fun i => (h i + vrow T (wrow b 64) h 64 i) % 4294967296

end Go.Proofs.Ytkkcaicihhkahaa
