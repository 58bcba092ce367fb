/-
  Disks in memory; what a write makes of one; the walks of disk's New, Write, Bytes, Copy and the small ones.
-/
import Derived.Test.YtkkcaicihhkahaaDk
import Derived.Maps.AppendAt
import Derived.StillTailTactics
namespace Go.Proofs.Ytkkcaicihhkahaa
open Go.RowKit

/-- Where a row lies behind an append: where it lay, or in a new block. -/
def SameOrNew (oa oa' : Option Addr) (z : Nat) : Prop := ∀ a, oa' = some a → (∃ a0, oa = some a0 ∧ a.block = a0.block) ∨ z ≤ a.block

theorem wp_appS {P : Program} {w : World} {o : Oper} {a : Act} {K : Act → World → Prop} {Q : Exit → Act → World → Prop} {t e : TypeId} {k : IntKind} {by_ : Nat} (s x : Operand) (T : Kd P t e k by_) (ho : o.op = .call { callee := .builtin .append, args := #[s, x], argTypes := #[t, t] })
    (B n m : Nat) (oa ox : Option Addr) (cs cx : Nat) (f g : Nat → Nat) (hs : a.eval s = .slice oa n cs) (hx : a.eval x = .slice ox m cx) (hown : Own B w k e oa n cs f) (hsl : Sl w k ox m cx g)
    (hb : n + m ≤ 1000000000) (hB : B ≤ w.heap.size)
    (hK : ∀ oa' c' w', Own B w' k e oa' (n + m) c' (cat f n g) → w.grownBy w' (Value.slice oa n cs).ownBlock → Below B w w' → SameOrNew oa oa' w.heap.size → K (a.put o.dst (.slice oa' (n + m) c')) w') : o.wp P a w K Q := by
  obtain ⟨i, hi, hz, hsize, hby⟩ := T.hi
  cases ox with
  | none =>
    have hc0 := hsl.none_cap rfl
    have hm0 : m = 0 := by have := hsl.len_le; omega
    subst hc0; subst hm0
    have hrun := run_append_owned_none (P := P) (w := w) B t o.type e i 1 T.ht hi (.slice oa n cs) n _ hown
    have h9 := hK oa cs w (by rw [Nat.add_zero]; exact Own.congr (g := cat f n g) hown fun j hj => (cat_left hj).symm) (World.grownBy.refl _ _) (Below.refl _ _) (fun a ha => .inl ⟨a, ha, rfl⟩)
    unfold Oper.wp
    simp [execOp, ho, resolve, invoke, builtin, hs, hx, hrun, Result.andThen]
    exact h9
  | some ad =>
    have hnews : ∀ j u, ((List.range m).map fun j => Value.int k (g j : Nat))[j]? = some u → w.cell? (ad.add j) = some u := by
      intro j u hu
      have hjm : j < m := by
        by_cases h : j < m
        · exact h
        · simp [h] at hu
      simp [hjm] at hu
      obtain ⟨b, off, hb', _, hc⟩ := hsl.at_ (by omega)
      cases hb'
      rw [← hu, ← hc j hjm]
      congr 1
      unfold Addr.add
      split
      · rename_i h0; subst h0; rfl
      · rfl
    have h1 : ∀ u ∈ ((List.range m).map fun j => Value.int k (g j : Nat)), u.oneCell' = true := by
      intro u hu
      simp only [List.mem_map] at hu
      obtain ⟨j, _, rfl⟩ := hu
      rfl
    obtain ⟨v', w', hr, h2, h3, _, h5⟩ := run_append_own_at (P := P) w B t o.type e i (.int k 0) 1 by_ T.ht hi hz hsize hby rfl (by decide) (.slice oa n cs) n _ hown ad m cx _ (by simp) hnews h1 (by simp only [maxLen]; omega)
      (by have := T.pos; have h2 : (n + m) * by_ ≤ 1000000000 * 8 := Nat.mul_le_mul hb this; omega) hB
    have hl := hown.lt
    have hbel : Below B w w' := (Below.refl B w).grown h3 hB (fun k hk => (hl k hk).1)
    have hv : ∃ oa' c', v' = .slice oa' (n + m) c' := by
      rcases h2.2 with ⟨rfl, h0⟩ | ⟨_, cap, _, rfl, _⟩
      · rw [h0]; exact ⟨_, _, rfl⟩
      · exact ⟨_, _, rfl⟩
    obtain ⟨oa', c', rfl⟩ := hv
    have hown' : Own B w' k e oa' (n + m) c' (cat f n g) := by
      unfold Own
      have : ((List.range n).map fun j => Value.int k (f j : Nat)) ++ ((List.range m).map fun j => Value.int k (g j : Nat)) = (List.range (n + m)).map fun j => Value.int k (cat f n g j : Nat) := by
        rw [List.range_add, List.map_append]
        congr 1
        · exact List.map_congr_left fun j hj => by rw [cat_left (List.mem_range.1 hj)]
        · rw [List.map_map]
          exact List.map_congr_left fun j _ => by simp [cat_right (Nat.le_add_right n j)]
      rw [this] at h2
      exact h2
    have hsn : SameOrNew oa oa' w.heap.size := by
      intro a ha
      subst ha
      rcases h5 with h5 | h5
      · cases oa with
        | none => simp [Value.ownBlock] at h5
        | some a0 => exact .inl ⟨a0, rfl, by simpa [Value.ownBlock] using h5⟩
      · exact .inr (by have : a.block = w.heap.size := by simpa [Value.ownBlock] using h5
                       omega)
    have h9 := hK oa' c' w' hown' h3 hbel hsn
    unfold Oper.wp execOp
    simp only [ho, resolve, invoke, builtin, Sem.run_bind, Sem.run_pure, Result.andThen_ok, List.map_toArray, List.map_cons, List.map_nil, hs, hx, hr]
    exact h9

theorem wpList_appS {P : Program} {w : World} {ops : Array Oper} {rest : List Oper} {o : Oper} {a : Act} {Q : Exit → Act → World → Prop} {t e : TypeId} {k : IntKind} {by_ : Nat} (hg : o.guard = none) (s x : Operand) (T : Kd P t e k by_) (ho : o.op = .call { callee := .builtin .append, args := #[s, x], argTypes := #[t, t] })
    (B n m : Nat) (oa ox : Option Addr) (cs cx : Nat) (f g : Nat → Nat) (hs : a.eval s = .slice oa n cs) (hx : a.eval x = .slice ox m cx) (hown : Own B w k e oa n cs f) (hsl : Sl w k ox m cx g)
    (hb : n + m ≤ 1000000000) (hB : B ≤ w.heap.size)
    (hK : ∀ oa' c' w', Own B w' k e oa' (n + m) c' (cat f n g) → w.grownBy w' (Value.slice oa n cs).ownBlock → Below B w w' → SameOrNew oa oa' w.heap.size → wpList P ops Q rest (a.put o.dst (.slice oa' (n + m) c')) w') : wpList P ops Q (o :: rest) a w :=
  wpList_plain hg fun _ hK' => wp_appS s x T ho B n m oa ox cs cx f g hs hx hown hsl hb hB fun oa' c' w' h1 h2 h3 h4 => hK' _ _ (hK oa' c' w' h1 h2 h3 h4)

/-- A disk: how many bytes, which, whether it is down, what it is armed with. -/
structure DSt where
  m : Nat
  f : Nat → Nat
  dn : Bool
  arm : Nat
  kk : Nat

def DkAt' (w : World) (d : Nat) (v : Value) (S : DSt) : Prop := d < w.heap.size ∧ w.cell? ⟨d, 0, none⟩ = some v ∧ w.cell? ⟨d, 1, none⟩ = some (.bool S.dn) ∧ w.cell? ⟨d, 2, none⟩ = some (.int .i64 (S.arm : Nat)) ∧ w.cell? ⟨d, 3, none⟩ = some (.int .i64 (S.kk : Nat)) ∧ ∀ o, w.frozen? ⟨d, o, none⟩ = false

theorem DkAt'.same {w w' : World} {d : Nat} {v : Value} {S : DSt} (h : DkAt' w d v S) (hz : w.heap.size ≤ w'.heap.size) (hb : w'.heap[d]? = w.heap[d]?) : DkAt' w' d v S := by
  obtain ⟨h0, h1, h2, h3, h4, h5⟩ := h
  have hc : ∀ o, w'.cell? ⟨d, o, none⟩ = w.cell? ⟨d, o, none⟩ := fun o => World.cell?_of_block (a := ⟨d, o, none⟩) hb
  have hf : ∀ o, w'.frozen? ⟨d, o, none⟩ = w.frozen? ⟨d, o, none⟩ := fun o => World.frozen?_of_block (a := ⟨d, o, none⟩) hb
  exact ⟨Nat.lt_of_lt_of_le h0 hz, by rw [hc]; exact h1, by rw [hc]; exact h2, by rw [hc]; exact h3, by rw [hc]; exact h4, fun o => by rw [hf]; exact h5 o⟩

theorem DkAt'.grown {w w' : World} {d : Nat} {v : Value} {S : DSt} {row : Option Nat} (h : DkAt' w d v S) (hg : w.grownBy w' row) (hne : some d ≠ row) : DkAt' w' d v S := h.same hg.size (hg.block d h.1 hne)

theorem DkAt'.set0 {w : World} {d : Nat} {v : Value} {S : DSt} (h : DkAt' w d v S) (v' : Value) : DkAt' (w.setCell ⟨d, 0, none⟩ v') d v' S := by
  obtain ⟨h0, h1, h2, h3, h4, h5⟩ := h
  refine ⟨by simpa using h0, World.cell?_setCell_same _ _ _ h1, ?_, ?_, ?_, fun o => by simpa using h5 o⟩ <;> (rw [World.cell?_setCell_other _ _ _ _ (by simp)]; assumption)

theorem DkAt'.set1 {w : World} {d : Nat} {v : Value} {S : DSt} (h : DkAt' w d v S) (b : Bool) : DkAt' (w.setCell ⟨d, 1, none⟩ (.bool b)) d v { S with dn := b } := by
  obtain ⟨h0, h1, h2, h3, h4, h5⟩ := h
  refine ⟨by simpa using h0, ?_, World.cell?_setCell_same _ _ _ h2, ?_, ?_, fun o => by simpa using h5 o⟩ <;> (rw [World.cell?_setCell_other _ _ _ _ (by simp)]; assumption)

theorem DkAt'.set2 {w : World} {d : Nat} {v : Value} {S : DSt} (h : DkAt' w d v S) (b : Nat) : DkAt' (w.setCell ⟨d, 2, none⟩ (.int .i64 (b : Nat))) d v { S with arm := b } := by
  obtain ⟨h0, h1, h2, h3, h4, h5⟩ := h
  refine ⟨by simpa using h0, ?_, ?_, World.cell?_setCell_same _ _ _ h3, ?_, fun o => by simpa using h5 o⟩ <;> (rw [World.cell?_setCell_other _ _ _ _ (by simp)]; assumption)

theorem DkAt'.set3 {w : World} {d : Nat} {v : Value} {S : DSt} (h : DkAt' w d v S) (b : Nat) : DkAt' (w.setCell ⟨d, 3, none⟩ (.int .i64 (b : Nat))) d v { S with kk := b } := by
  obtain ⟨h0, h1, h2, h3, h4, h5⟩ := h
  refine ⟨by simpa using h0, ?_, ?_, ?_, World.cell?_setCell_same _ _ _ h4, fun o => by simpa using h5 o⟩ <;> (rw [World.cell?_setCell_other _ _ _ _ (by simp)]; assumption)

/-- A disk lies at block d, its bytes in a row of their own at oa. -/
structure Dk (w : World) (B d : Nat) (oa : Option Addr) (c : Nat) (S : DSt) : Prop where
  at_ : DkAt' w d (.slice oa S.m c) S
  own : Own B w .u8 5 oa S.m c S.f
  ne : ∀ a, oa = some a → a.block ≠ d
  lt : ∀ i, S.f i < 256
  arm : S.arm ≤ 2
  hB : B ≤ d
  len : S.m ≤ 1048576

/-- What may turn: blocks of X and the row at oa; the row goes to oa'. -/
structure Nxt (X : Nat → Prop) (oa oa' : Option Addr) (w w' : World) : Prop where
  os : w'.os = w.os
  tape : w'.tape = w.tape
  output : w'.output = w.output
  size : w.heap.size ≤ w'.heap.size
  block : ∀ j, j < w.heap.size → ¬ X j → (∀ a, oa = some a → j ≠ a.block) → w'.heap[j]? = w.heap[j]?
  row : SameOrNew oa oa' w.heap.size

section
variable {X Y : Nat → Prop} {oa oa' oa'' : Option Addr} {w w' w'' : World}

theorem SameOrNew.refl (oa : Option Addr) (z : Nat) : SameOrNew oa oa z := fun a ha => .inl ⟨a, ha, rfl⟩

theorem Nxt.refl (X : Nat → Prop) (oa : Option Addr) (w : World) : Nxt X oa oa w w := ⟨rfl, rfl, rfl, Nat.le_refl _, fun _ _ _ _ => rfl, SameOrNew.refl _ _⟩

theorem Nxt.mono (h : Nxt X oa oa' w w') (hXY : ∀ j, X j → Y j) : Nxt Y oa oa' w w' := ⟨h.os, h.tape, h.output, h.size, fun j hj hn ho => h.block j hj (fun hx => hn (hXY j hx)) ho, h.row⟩

theorem Nxt.trans (h : Nxt X oa oa' w w') (k : Nxt X oa' oa'' w' w'') : Nxt X oa oa'' w w'' := by
  refine ⟨k.os.trans h.os, k.tape.trans h.tape, k.output.trans h.output, Nat.le_trans h.size k.size, fun j hj hn ho => ?_, fun a ha => ?_⟩
  · rw [k.block j (Nat.lt_of_lt_of_le hj h.size) hn (fun a ha e => ?_)]
    · exact h.block j hj hn ho
    · rcases h.row a ha with ⟨a0, e0, e1⟩ | h2
      · exact ho a0 e0 (e.trans e1)
      · omega
  · rcases k.row a ha with ⟨a1, e1, e2⟩ | h2
    · rcases h.row a1 e1 with ⟨a0, e0, e3⟩ | h3
      · exact .inl ⟨a0, e0, e2.trans e3⟩
      · exact .inr (by omega)
    · exact .inr (Nat.le_trans h.size h2)

theorem Nxt.below {B : Nat} (h : Nxt X oa oa' w w') (hB : B ≤ w.heap.size) (hX : ∀ j, X j → B ≤ j) (ho : ∀ a, oa = some a → B ≤ a.block) : Below B w w' :=
  ⟨h.os, h.tape, h.output, h.size, fun j hj => h.block j (by omega) (fun hx => by have := hX j hx; omega) (fun a ha e => by have := ho a ha; omega)⟩

theorem Nxt.of_below (oa : Option Addr) (hb : Below w.heap.size w w') : Nxt X oa oa w w' := ⟨hb.os, hb.tape, hb.output, hb.size, fun j hj _ _ => hb.block j hj, SameOrNew.refl _ _⟩

theorem Nxt.set {j : Nat} (hj : X j) (o : Nat) (v : Value) : Nxt X oa oa w (w.setCell ⟨j, o, none⟩ v) :=
  ⟨rfl, rfl, rfl, by simp, fun i _ hn _ => heap_setCell_other w ⟨j, o, none⟩ i v (fun e => hn (by rw [show i = j from e]; exact hj)), SameOrNew.refl _ _⟩

theorem Nxt.app {n c : Nat} (hg : w.grownBy w' (Value.slice oa n c).ownBlock) (hr : SameOrNew oa oa' w.heap.size) : Nxt X oa oa' w w' :=
  ⟨hg.os, hg.tape, hg.output, hg.size, fun j hj _ ho => hg.block j hj (ownBlock_ne (fun a ha e => ho a ha e.symm)), hr⟩

/-- What lies elsewhere lies as it lay. -/
theorem Nxt.other (h : Nxt X oa oa' w w') {j : Nat} (hj : j < w.heap.size) (hn : ¬ X j) (ho : ∀ a, oa = some a → a.block ≠ j) : w'.heap[j]? = w.heap[j]? := h.block j hj hn fun a ha e => ho a ha e.symm
end

theorem Dk.below {w w' : World} {B d c : Nat} {oa : Option Addr} {S : DSt} (h : Dk w B d oa c S) (hb : Below w.heap.size w w') : Dk w' B d oa c S :=
  ⟨h.at_.same hb.size (hb.block d h.at_.1), h.own.below hb, h.ne, h.lt, h.arm, h.hB, h.len⟩

/-- What a write of mx bytes g makes of a disk, and what it answers. -/
def wr (S : DSt) (mx : Nat) (g : Nat → Nat) : DSt × Int :=
  if S.dn then (S, 100) else if 1048576 - S.m < mx then (S, 2) else if S.arm = 1 then ({ S with arm := 0 }, 101)
  else if S.arm = 2 then ({ S with m := S.m + min S.kk mx, f := cat S.f S.m g, dn := true, arm := 0 }, 100) else ({ S with m := S.m + mx, f := cat S.f S.m g, arm := 0 }, 0)

theorem up_any (w : World) {B d c : Nat} {oa : Option Addr} {S : DSt} (h : Dk w B d oa c S) : Calls Try.prog 22 #[.pointer (some ⟨d, 0, none⟩)] w fun e w' => e = .returned (.bool (!S.dn)) ∧ w = w' := by
  have h1 := h.at_.2.2.1
  clear h
  go_enter Try.func22, Try.ntmps22
  go_wp2_with fail
  go_ret
  exact ⟨rfl, rfl⟩

theorem fail_any {w : World} {B d c : Nat} {oa : Option Addr} {S : DSt} (h : Dk w B d oa c S) : Calls Try.prog 17 #[.pointer (some ⟨d, 0, none⟩)] w fun e w' => e = .returned (.int .i64 0) ∧ Dk w' B d oa c { S with arm := 1 } ∧ Nxt (fun j => j = d) oa oa w w' := by
  have HD := hid h
  have c2 := h.at_.2.2.2.1
  have f2 := h.at_.2.2.2.2.2 2
  clear h
  go_enter Try.func17, Try.ntmps17
  go_wp2_with fail
  go_ret
  exact ⟨rfl, ⟨HD.out.at_.set2 1, HD.out.own.setCell_other HD.out.ne _ _, HD.out.ne, HD.out.lt, (by show 1 ≤ 2; decide), HD.out.hB, HD.out.len⟩, Nxt.set (X := fun j => j = d) rfl _ _⟩

theorem start_any {w : World} {B d c : Nat} {oa : Option Addr} {S : DSt} (h : Dk w B d oa c S) : Calls Try.prog 19 #[.pointer (some ⟨d, 0, none⟩)] w fun e w' => e = .returned (.int .i64 0) ∧ Dk w' B d oa c { S with dn := false, arm := 0 } ∧ Nxt (fun j => j = d) oa oa w w' := by
  have HD := hid h
  have c1 := h.at_.2.2.1
  have c2 := h.at_.2.2.2.1
  have f1 := h.at_.2.2.2.2.2 1
  have f2 := h.at_.2.2.2.2.2 2
  clear h
  go_enter Try.func19, Try.ntmps19
  go_wp2_with fail
  go_ret
  refine ⟨rfl, ⟨(HD.out.at_.set1 false).set2 0, (HD.out.own.setCell_other HD.out.ne _ _).setCell_other HD.out.ne _ _, HD.out.ne, HD.out.lt, (by show 0 ≤ 2; decide), HD.out.hB, HD.out.len⟩, ?_⟩
  have n1 := Nxt.set (X := fun j => j = d) (oa := oa) (w := w) rfl 1 (.bool false)
  exact n1.trans (Nxt.set (X := fun j => j = d) rfl 2 (.int .i64 (0 : Nat)))

theorem cut_any {w : World} {B d c : Nat} {oa : Option Addr} {S : DSt} (h : Dk w B d oa c S) (n : Nat) : Calls Try.prog 18 #[.pointer (some ⟨d, 0, none⟩), .int .i64 (n : Nat)] w fun e w' => e = .returned (.int .i64 0) ∧ Dk w' B d oa c { S with arm := 2, kk := n } ∧ Nxt (fun j => j = d) oa oa w w' := by
  have HD := hid h
  have c2 := h.at_.2.2.2.1
  have c3 := h.at_.2.2.2.2.1
  have f2 := h.at_.2.2.2.2.2 2
  have f3 := h.at_.2.2.2.2.2 3
  have n0 : (0 : Int) ≤ (n : Int) := by omega
  clear h
  go_enter Try.func18, Try.ntmps18
  go_wp2_with fail
  go_ret
  refine ⟨rfl, ⟨(HD.out.at_.set2 2).set3 n, (HD.out.own.setCell_other HD.out.ne _ _).setCell_other HD.out.ne _ _, HD.out.ne, HD.out.lt, (by show 2 ≤ 2; decide), HD.out.hB, HD.out.len⟩, ?_⟩
  have n1 := Nxt.set (X := fun j => j = d) (oa := oa) (w := w) rfl 2 (.int .i64 (2 : Nat))
  exact n1.trans (Nxt.set (X := fun j => j = d) rfl 3 (.int .i64 (n : Nat)))

end Go.Proofs.Ytkkcaicihhkahaa
