/-
  Rows of digits in memory: a slice that reads as so many numbers of one kind; a slice that a call made itself; what stays of them when memory grows; the laws of append, make, slicing and storing in these words.
-/
import Derived.Test.YtkkcaicihhkahaaRows
import Derived.WalkKit
import Derived.WalkSpells
import Derived.WalkLawsBesides
import Derived.Laws.AppendOwnNone
namespace Go.Proofs.Ytkkcaicihhkahaa
open Go.RowKit

/-- A fact put behind a name, so that the walk does not take it for a rule. -/
theorem hid {p : Prop} (h : p) : Hid p := h

/-- The slice over oa, of length n and capacity c, reads as the numbers f of kind k. -/
def Sl (w : World) (k : IntKind) (oa : Option Addr) (n c : Nat) (f : Nat → Nat) : Prop :=
  n ≤ c ∧ c ≤ maxLen ∧ (oa = none → c = 0) ∧ (0 < n → ∃ b off, oa = some ⟨b, off, none⟩ ∧ b < w.heap.size ∧ ∀ j, j < n → w.cell? ⟨b, off + j, none⟩ = some (.int k (f j : Nat)))

/-- It lies in memory from block B on, and may be written. -/
def Nw (B : Nat) (w : World) (oa : Option Addr) : Prop := ∀ a, oa = some a → B ≤ a.block ∧ a.block < w.heap.size ∧ ∀ o, w.frozen? ⟨a.block, o, none⟩ = false

section
variable {w w' : World} {k : IntKind} {oa : Option Addr} {n c : Nat} {f g : Nat → Nat}

theorem Sl.len_le (h : Sl w k oa n c f) : n ≤ c := h.1
theorem Sl.cap_le (h : Sl w k oa n c f) : c ≤ maxLen := h.2.1
theorem Sl.none_cap (h : Sl w k oa n c f) : oa = none → c = 0 := h.2.2.1
theorem Sl.at_ (h : Sl w k oa n c f) (hn : 0 < n) : ∃ b off, oa = some ⟨b, off, none⟩ ∧ b < w.heap.size ∧ ∀ j, j < n → w.cell? ⟨b, off + j, none⟩ = some (.int k (f j : Nat)) := h.2.2.2 hn

theorem Sl.below (h : Sl w k oa n c f) (hb : Below w.heap.size w w') : Sl w' k oa n c f := by
  refine ⟨h.1, h.2.1, h.2.2.1, fun hn => ?_⟩
  obtain ⟨b, off, rfl, hlt, hc⟩ := h.at_ hn
  exact ⟨b, off, rfl, Nat.lt_of_lt_of_le hlt hb.size, fun j hj => by rw [hb.cell (p := ⟨b, off + j, none⟩) hlt]; exact hc j hj⟩

theorem Sl.drew (h : Sl w k oa n c f) : Sl w.drew k oa n c f := h

theorem Sl.congr (h : Sl w k oa n c f) (hfg : ∀ j, j < n → f j = g j) : Sl w k oa n c g := by
  refine ⟨h.1, h.2.1, h.2.2.1, fun hn => ?_⟩
  obtain ⟨b, off, rfl, hlt, hc⟩ := h.at_ hn
  exact ⟨b, off, rfl, hlt, fun j hj => by rw [hc j hj, hfg j hj]⟩

theorem Sl.take (h : Sl w k oa n c f) {m : Nat} (hm : m ≤ n) : Sl w k oa m c f := by
  refine ⟨Nat.le_trans hm h.1, h.2.1, h.2.2.1, fun hn => ?_⟩
  obtain ⟨b, off, rfl, hlt, hc⟩ := h.at_ (by omega)
  exact ⟨b, off, rfl, hlt, fun j hj => hc j (by omega)⟩

theorem Sl.nil (w : World) (k : IntKind) (f : Nat → Nat) : Sl w k none 0 0 f := ⟨Nat.le_refl _, Nat.zero_le _, fun _ => rfl, fun h => absurd h (by decide)⟩

/-- A slice of length 0 reads as any numbers. -/
theorem Sl.empty (h : Sl w k oa 0 c f) : Sl w k oa 0 c g := ⟨h.1, h.2.1, h.2.2.1, fun h => absurd h (by decide)⟩

theorem Nw.nil (B : Nat) (w : World) : Nw B w none := fun a h => by cases h

theorem Nw.mono {B B' : Nat} (h : Nw B w oa) (hB : B' ≤ B) : Nw B' w oa := fun a ha => ⟨Nat.le_trans hB (h a ha).1, (h a ha).2⟩

theorem Nw.below {B : Nat} (h : Nw B w oa) (hb : Below w.heap.size w w') : Nw B w' oa := fun a ha => by
  obtain ⟨h1, h2, h3⟩ := h a ha
  exact ⟨h1, Nat.lt_of_lt_of_le h2 hb.size, fun o => by rw [hb.frozen (p := ⟨a.block, o, none⟩) h2]; exact h3 o⟩
end

/-! ### A row of the call's own -/

/-- The slice over oa is a row of the call's own, from block B on, of elements of type e, and holds the numbers f of kind k. -/
def Own (B : Nat) (w : World) (k : IntKind) (e : TypeId) (oa : Option Addr) (n c : Nat) (f : Nat → Nat) : Prop :=
  w.ownsRow B e 1 (.slice oa n c) n ((List.range n).map fun j => Value.int k (f j : Nat))

def upd (f : Nat → Nat) (j v : Nat) : Nat → Nat := fun i => if i = j then v else f i

theorem upd_same (f : Nat → Nat) (j v : Nat) : upd f j v j = v := by simp [upd]
theorem upd_other (f : Nat → Nat) {i j : Nat} (v : Nat) (h : i ≠ j) : upd f j v i = f i := by simp [upd, h]

section
variable {B : Nat} {w w' : World} {k : IntKind} {e : TypeId} {oa : Option Addr} {n c : Nat} {f g : Nat → Nat}

theorem Own.sl (h : Own B w k e oa n c f) : Sl w k oa n c f := by
  unfold Own at h
  rcases h.2 with ⟨h1, rfl⟩ | ⟨g, cap, cur, h1, hb, hg, hnc, hcm, hsz, ht⟩
  · cases h1
    exact Sl.nil _ _ _
  · cases h1
    refine ⟨hnc, hcm, (fun h => by cases h), fun hn => ⟨g, 0, rfl, (Array.getElem?_eq_some_iff.1 hg).1, fun j hj => ?_⟩⟩
    have := h.cellAt j (by omega)
    rw [Nat.zero_add, this]
    simp [hj]

theorem Own.nw (h : Own B w k e oa n c f) : Nw B w oa := by
  unfold Own at h
  rcases h.2 with ⟨h1, rfl⟩ | ⟨g, cap, cur, h1, hb, hg, hnc, hcm, hsz, ht⟩
  · cases h1
    exact Nw.nil _ _
  · cases h1
    intro a ha
    cases ha
    exact ⟨hb, (Array.getElem?_eq_some_iff.1 hg).1, fun o => h.frozenAt o⟩

/-- Where it lies. -/
theorem Own.at_ (h : Own B w k e oa n c f) (hn : 0 < n) : ∃ g, oa = some ⟨g, 0, none⟩ ∧ B ≤ g ∧ g < w.heap.size ∧ (∀ j, j < n → w.cell? ⟨g, j, none⟩ = some (.int k (f j : Nat))) ∧ ∀ o, w.frozen? ⟨g, o, none⟩ = false := by
  have h1 := h.sl
  have h2 := h.nw
  unfold Own at h
  rcases h.2 with ⟨h3, rfl⟩ | ⟨g, cap, cur, h3, hb, hg, hnc, hcm, hsz, ht⟩
  · omega
  · cases h3
    obtain ⟨b, off, hb', hlt, hc⟩ := h1.at_ hn
    cases hb'
    obtain ⟨q1, q2, q3⟩ := h2 _ rfl
    exact ⟨g, rfl, hb, hlt, fun j hj => by have := hc j hj; rwa [Nat.zero_add] at this, q3⟩

theorem Own.congr (h : Own B w k e oa n c f) (hfg : ∀ j, j < n → f j = g j) : Own B w k e oa n c g := by
  unfold Own at h ⊢
  have : ((List.range n).map fun j => Value.int k (g j : Nat)) = (List.range n).map fun j => Value.int k (f j : Nat) :=
    List.map_congr_left fun j hj => by rw [hfg j (List.mem_range.1 hj)]
  rw [this]
  exact h

theorem Own.grown {row : Option Nat} (h : Own B w k e oa n c f) (hg : w.grownBy w' row) (hne : (Value.slice oa n c).ownBlock = none ∨ (Value.slice oa n c).ownBlock ≠ row) : Own B w' k e oa n c f := World.ownsRow.kept h hg hne

theorem Own.alloc (h : Own B w k e oa n c f) (o : Obj) : Own B (w.alloc o) k e oa n c f := World.ownsRow.alloc h o

theorem Own.drew (h : Own B w k e oa n c f) : Own B w.drew k e oa n c f := h

theorem Own.nil (B : Nat) (w : World) (k : IntKind) (e : TypeId) (f : Nat → Nat) : Own B w k e none 0 0 f := World.ownsRow_nil w B e 1

theorem Own.mono {B' : Nat} (h : Own B w k e oa n c f) (hB : B' ≤ B) : Own B' w k e oa n c f := by
  unfold Own at h ⊢
  refine ⟨h.1, ?_⟩
  rcases h.2 with h1 | ⟨g, cap, cur, h3, hb, r⟩
  · exact .inl h1
  · exact .inr ⟨g, cap, cur, h3, Nat.le_trans hB hb, r⟩

/-- Nothing below the heap's end has turned: it stays. -/
theorem Own.below (h : Own B w k e oa n c f) (hb : Below w.heap.size w w') : Own B w' k e oa n c f := by
  have hg : w.grownBy w' none := ⟨hb.os, hb.tape, hb.output, hb.size, fun k hk _ => hb.block k hk⟩
  refine h.grown hg ?_
  cases oa <;> simp [Value.ownBlock]

/-- A store into it. -/
theorem Own.stored {gb : Nat} (h : Own B w k e (some ⟨gb, 0, none⟩) n c f) (j v : Nat) : Own B (w.setCell ⟨gb, j, none⟩ (.int k (v : Nat))) k e (some ⟨gb, 0, none⟩) n c (upd f j v) := by
  have h1 := (World.ownsRow.stored h j (.int k (v : Nat))).1
  unfold Own
  have : ((List.range n).map fun i => Value.int k (f i : Nat)).set j (.int k (v : Nat)) = (List.range n).map fun i => Value.int k (upd f j v i : Nat) := by
    apply List.ext_getElem?
    intro i
    rw [List.getElem?_set]
    by_cases hi : i < n
    · by_cases e : j = i
      · subst e; simp [hi, upd_same]
      · simp [hi, e, upd_other f v (fun h => e h.symm)]
    · by_cases e : j = i
      · subst e; simp [hi]
      · simp [hi, e]
  rw [this] at h1
  exact h1

/-- A row of the call's own stays while another block is written. -/
theorem Own.setCell_other {gb : Nat} (h : Own B w k e oa n c f) (hne : ∀ a, oa = some a → a.block ≠ gb) (j : Nat) (u : Value) : Own B (w.setCell ⟨gb, j, none⟩ u) k e oa n c f := by
  have hg : w.grownBy (w.setCell ⟨gb, j, none⟩ u) (some gb) := ⟨rfl, rfl, rfl, by simp, fun k _ hk => heap_setCell_other w ⟨gb, j, none⟩ k u (fun e => hk (by simp [e]))⟩
  refine h.grown hg ?_
  cases oa with
  | none => exact .inl rfl
  | some a => exact .inr (by simpa [Value.ownBlock] using hne a rfl)

theorem Sl.setCell_other {gb : Nat} (h : Sl w k oa n c f) (hne : ∀ a, oa = some a → a.block ≠ gb) (j : Nat) (u : Value) : Sl (w.setCell ⟨gb, j, none⟩ u) k oa n c f := by
  refine ⟨h.1, h.2.1, h.2.2.1, fun hn => ?_⟩
  obtain ⟨b, off, rfl, hlt, hc⟩ := h.at_ hn
  refine ⟨b, off, rfl, by simpa using hlt, fun i hi => ?_⟩
  rw [← hc i hi]
  exact World.cell?_of_block (w := w) (heap_setCell_other w ⟨gb, j, none⟩ b u (fun e => hne _ rfl (by simpa using e)))

end

/-! ### The table's rows -/

/-- A slice type t of elements of type e, numbers of kind k, so many bytes each. -/
structure Kd (P : Program) (t e : TypeId) (k : IntKind) (by_ : Nat) : Prop where
  ht : P.underlying t = some (.slice e)
  hi : ∃ i, P.info? e = some i ∧ i.zero = some (.int k 0) ∧ i.size = 1 ∧ i.bytes = by_
  pos : by_ ≤ 8

theorem k32 : Kd Try.prog 115 89 .u32 4 := ⟨Try.underlying115, info_parts (by kernel_rfl), by decide⟩
theorem k64 : Kd Try.prog 112 32 .u64 8 := ⟨Try.underlying112, info_parts (by kernel_rfl), by decide⟩
theorem k8 : Kd Try.prog 27 5 .u8 1 := ⟨Try.underlying27, info_parts (by kernel_rfl), by decide⟩

section
variable {P : Program} {w : World} {ops : Array Oper} {rest : List Oper} {o : Oper} {a : Act} {Q : Exit → Act → World → Prop} {t e : TypeId} {k : IntKind} {by_ : Nat}

/-- The two rows one behind the other. -/
def cat (f : Nat → Nat) (n : Nat) (g : Nat → Nat) : Nat → Nat := fun j => if j < n then f j else g (j - n)

theorem cat_left {f g : Nat → Nat} {n j : Nat} (h : j < n) : cat f n g j = f j := by simp [cat, h]
theorem cat_right {f g : Nat → Nat} {n j : Nat} (h : n ≤ j) : cat f n g j = g (j - n) := by simp [cat, Nat.not_lt.2 h]

/-- append(s, x...): s nil or the call's own, x any slice. -/
theorem wpList_app (hg : o.guard = none) (s x : Operand) (T : Kd P t e k by_) (ho : o.op = .call { callee := .builtin .append, args := #[s, x], argTypes := #[t, t] })
    (B n m : Nat) (oa ox : Option Addr) (cs cx : Nat) (f g : Nat → Nat) (hs : a.eval s = .slice oa n cs) (hx : a.eval x = .slice ox m cx) (hown : Own B w k e oa n cs f) (hsl : Sl w k ox m cx g)
    (hb : n + m ≤ 1000000000) (hB : B ≤ w.heap.size)
    (hK : ∀ oa' c' w', Own B w' k e oa' (n + m) c' (cat f n g) → w.grownBy w' (Value.slice oa n cs).ownBlock → Below B w w' → wpList P ops Q rest (a.put o.dst (.slice oa' (n + m) c')) w') : wpList P ops Q (o :: rest) a w := by
  obtain ⟨i, hi, hz, hsize, hby⟩ := T.hi
  cases ox with
  | none =>
    have hc0 := hsl.none_cap rfl
    have hm0 : m = 0 := by have := hsl.len_le; omega
    subst hc0; subst hm0
    refine wpList_append_own_none hg s x t ho B e i 1 T.ht hi (.slice oa n cs) n _ hs hown hx ?_
    refine hK oa cs w ?_ (World.grownBy.refl _ _) (Below.refl _ _)
    rw [Nat.add_zero]
    exact hown.congr fun j hj => (cat_left hj).symm
  | some ad =>
    refine wpList_append_own w hg s x t ho B e i (.int k 0) 1 by_ T.ht hi hz hsize hby rfl (by decide) (.slice oa n cs) n _ hs hown ad m cx ((List.range m).map fun j => Value.int k (g j : Nat)) hx (by simp) ?_ ?_ ?_ ?_ hB ?_
    · intro j u hu
      have hjm : j < m := by
        by_cases h : j < m
        · exact h
        · simp [h] at hu
      simp [hjm] at hu
      obtain ⟨b, off, hb', _, hc⟩ := hsl.at_ (by omega)
      cases hb'
      rw [← hu, ← hc j hjm]
      congr 1
      unfold Addr.add
      split
      · rename_i h0; subst h0; rfl
      · rfl
    · intro u hu
      simp only [List.mem_map] at hu
      obtain ⟨j, _, rfl⟩ := hu
      rfl
    · simp only [maxLen]; omega
    · have := T.pos
      have h2 : (n + m) * by_ ≤ 1000000000 * 8 := Nat.mul_le_mul hb this
      omega
    · intro v' w' h1 h2 _
      have hl := hown.lt
      have hbel : Below B w w' := (Below.refl B w).grown h2 hB (fun k hk => (hl k hk).1)
      have hv : ∃ oa' c', v' = .slice oa' (n + m) c' := by
        rcases h1.2 with ⟨rfl, h0⟩ | ⟨_, cap, _, rfl, _⟩
        · rw [h0]; exact ⟨_, _, rfl⟩
        · exact ⟨_, _, rfl⟩
      obtain ⟨oa', c', rfl⟩ := hv
      refine hK oa' c' w' ?_ h2 hbel
      unfold Own
      have : ((List.range n).map fun j => Value.int k (f j : Nat)) ++ ((List.range m).map fun j => Value.int k (g j : Nat)) = (List.range (n + m)).map fun j => Value.int k (cat f n g j : Nat) := by
        rw [List.range_add, List.map_append]
        congr 1
        · exact List.map_congr_left fun j hj => by rw [cat_left (List.mem_range.1 hj)]
        · rw [List.map_map]
          exact List.map_congr_left fun j _ => by simp [cat_right (Nat.le_add_right n j)]
      rw [this] at h1
      exact h1

theorem sl_one (w : World) (k : IntKind) (e : TypeId) (v : Nat) : Sl (w.alloc (.cells #[.int k (v : Nat)] e)) k (some ⟨w.heap.size, 0, none⟩) 1 1 (fun _ => v) := by
  refine ⟨Nat.le_refl _, by simp [maxLen], (fun h => by cases h), fun _ => ⟨w.heap.size, 0, rfl, by simp, fun j hj => ?_⟩⟩
  obtain rfl : j = 0 := by omega
  rw [World.cell?_alloc_at _ _ _ _ rfl]
  rfl

/-- append(s, v): s nil or the call's own; v has been laid in a new block. -/
theorem wpList_app1 {w0 : World} {v : Nat} (hg : o.guard = none) (s x : Operand) (T : Kd P t e k by_) (ho : o.op = .call { callee := .builtin .append, args := #[s, x], argTypes := #[t, t] })
    (B n : Nat) (oa : Option Addr) (cs : Nat) (f : Nat → Nat) (hs : a.eval s = .slice oa n cs) (hx : a.eval x = .slice (some ⟨w0.heap.size, 0, none⟩) 1 1) (hown : Own B w0 k e oa n cs f)
    (hb : n + 1 ≤ 1000000000) (hB : B ≤ w0.heap.size)
    (hK : ∀ oa' c' w', Own B w' k e oa' (n + 1) c' (upd f n v) → w0.grownBy w' (Value.slice oa n cs).ownBlock → Below B w0 w' → wpList P ops Q rest (a.put o.dst (.slice oa' (n + 1) c')) w') :
    wpList P ops Q (o :: rest) a (w0.alloc (.cells #[.int k (v : Nat)] e)) := by
  refine wpList_app hg s x T ho B n 1 oa _ cs 1 f (fun _ => v) hs hx (hown.alloc _) (sl_one w0 k e v) hb (by simp; omega) ?_
  intro oa' c' w' h1 h2 h3
  refine hK oa' c' w' (h1.congr fun j hj => ?_) ?_ (((Below.refl B w0).alloc hB _).trans h3)
  · by_cases hj' : j < n
    · rw [cat_left hj', upd_other _ _ (by omega)]
    · rw [cat_right (by omega)]
      obtain rfl : j = n := by omega
      rw [upd_same]
  · exact ⟨h2.os, h2.tape, h2.output, by have := h2.size; simp at this; omega, fun i hi hne => by rw [h2.block i (by simp; omega) hne]; exact Below.heap_alloc w0 _ i hi⟩

/-- make([]T, n). -/
theorem wpList_mk (hg : o.guard = none) (l c : Operand) (T : Kd P t e k by_) (ho : o.op = Op.makeSlice t l c) (kl kc : IntKind) (L C : Int) (n : Nat) (hl : a.eval l = .int kl L) (hc : a.eval c = .int kc C) (hL : L = (n : Int)) (hC : C = (n : Int)) (hb : n ≤ 1000000000)
    (hK : ∀ w', Own w.heap.size w' k e (some ⟨w.heap.size, 0, none⟩) n n (fun _ => 0) → Below w.heap.size w w' → w.heap.size < w'.heap.size → wpList P ops Q rest (a.put o.dst (.slice (some ⟨w.heap.size, 0, none⟩) n n)) w') : wpList P ops Q (o :: rest) a w := by
  obtain ⟨i, hi, hz, hsize, hby⟩ := T.hi
  refine wpList_make_full w hg l c t ho w.heap.size e i (.int k 0) 1 T.ht hi hz hsize kl kc L C n hl hc hL hC ?_ ?_ (Nat.le_refl _) ?_
  · rw [hby]
    have h2 : by_ * n ≤ 8 * 1000000000 := Nat.mul_le_mul T.pos hb
    omega
  · simp only [maxLen]; omega
  · intro w' h1 h2
    have hz' : (madeCells (Value.int k 0).cells (n * 1)).toList = (List.range n).map fun j => Value.int k (((fun _ => 0 : Nat → Nat) j : Nat)) := by
      rw [Nat.mul_one]
      show (madeCells #[Value.int k 0] n).toList = _
      rw [toList_madeCells_one]
      apply List.ext_getElem?
      intro j
      by_cases hj : j < n <;> simp [hj]
    rw [hz'] at h1
    have h1' : Own w.heap.size w' k e (some ⟨w.heap.size, 0, none⟩) n n (fun _ => 0) := h1
    refine hK w' h1' ((Below.refl _ w).grown h2 (Nat.le_refl _) (fun k hk => by cases hk)) ?_
    have := (h1'.nw _ rfl).2.1
    exact this
end

/-- 's[:m]' of any slice. -/
theorem run_upto {P : Program} (t e : TypeId) (i : TypeInfo) (ht : P.underlying t = some (.slice e)) (hi : P.info? e = some i) (oa : Option Addr) (n c m : Nat) (hm : m ≤ c) (w : World) :
    (Instr.slice t (.slice oa n c) none (some (.int .i64 (m : Int))) none).run P w = .ok (.slice oa m c) w := by
  simp [Instr.slice, run_underlying ht, Instr.sliceBounds, Instr.sliceBound, asIntOf, sizeOf, typeInfo, hi, Addr.add]
  intro h
  omega

end Go.Proofs.Ytkkcaicihhkahaa
