/-
  The plain arithmetic of products: a row of digits filled by rounds within rounds. No program in sight.
-/
import Derived.Test.YtfknjfmgpfhjiaaMathb
namespace Go.Proofs.Ytfknjfmgpfhjiaa

theorem val_upd_at {h : Nat → Nat} {j v : Nat} : val (fun i => if i = j then v else h i) (j + 1) = val h j + v * W j := by
  rw [val_succ, if_pos rfl]
  congr 1
  exact val_congr fun t ht => by rw [if_neg (by omega)]

/-- Within the inner round: k digits of g are done, c is carried. -/
structure Inn (f g h0 h : Nat → Nat) (i k c : Nat) : Prop where
  lt : ∀ t, h t < 4294967296
  clt : c < 4294967296
  same : ∀ t, i + k ≤ t → h t = h0 t
  sum : val h (i + k) + c * W (i + k) = val h0 (i + k) + f i * W i * val g k

/-- Within the outer round: i digits of f are done. -/
structure Outr (f g h : Nat → Nat) (i m : Nat) : Prop where
  lt : ∀ t, h t < 4294967296
  zero : ∀ t, i + m ≤ t → h t = 0
  sum : val h (i + m) = val f i * val g m

theorem Outr.start (f g : Nat → Nat) (m : Nat) : Outr f g (fun _ => 0) 0 m :=
  ⟨fun _ => by omega, fun _ _ => rfl, by rw [val_nought (fun _ _ => rfl), val_zero, Nat.zero_mul]⟩

theorem Outr.inn {f g h : Nat → Nat} {i m : Nat} (o : Outr f g h i m) : Inn f g h h i 0 0 :=
  ⟨o.lt, by omega, fun _ _ => rfl, by rw [val_zero]; omega⟩

theorem mul_bound {a b : Nat} (ha : a < 4294967296) (hb : b < 4294967296) : a * b ≤ 18446744065119617025 := by
  have : a * b ≤ 4294967295 * 4294967295 := Nat.mul_le_mul (by omega) (by omega)
  omega

theorem Inn.step {f g h0 h : Nat → Nat} {i k c : Nat} (n : Inn f g h0 h i k c) (hf : f i < 4294967296) (hg : g k < 4294967296) :
    Inn f g h0 (fun t => if t = i + k then (c + h (i + k) + f i * g k) % 4294967296 else h t) i (k + 1) ((c + h (i + k) + f i * g k) / 4294967296) := by
  have hm := mul_bound hf hg
  have hh := n.lt (i + k)
  have hc := n.clt
  refine ⟨fun t => ?_, by omega, fun t ht => ?_, ?_⟩
  · show (if _ then _ else _) < _
    split
    · exact Nat.mod_lt _ (by decide)
    · exact n.lt t
  · show (if _ then _ else _) = _
    rw [if_neg (by omega)]
    exact n.same t (by omega)
  · rw [← Nat.add_assoc, val_upd_at, val_succ h0, val_succ g, W_succ]
    have h1 := n.sum
    have h2 := n.same (i + k) (Nat.le_refl _)
    have h3 := mul_step (h := fun _ => h (i + k)) (c := c) (p := f i * g k) (W0 := W (i + k)) (s := c + h (i + k) + f i * g k) (by omega)
    have h4 : f i * W i * (val g k + g k * W k) = f i * W i * val g k + f i * g k * W (i + k) := by
      rw [Nat.mul_add, W_add]
      congr 1
      rw [Nat.mul_mul_mul_comm]
    have h5 : (c + f i * g k + h (i + k)) * W (i + k) = c * W (i + k) + f i * g k * W (i + k) + h (i + k) * W (i + k) := by
      rw [Nat.add_mul, Nat.add_mul]
    rw [h4, ← h2]
    omega

theorem Inn.done {f g h0 h : Nat → Nat} {i m c : Nat} (n : Inn f g h0 h i m c) (o : Outr f g h0 i m) : Outr f g (fun t => if t = i + m then c else h t) (i + 1) m := by
  refine ⟨fun t => ?_, fun t ht => ?_, ?_⟩
  · show (if _ then _ else _) < _
    split
    · exact n.clt
    · exact n.lt t
  · show (if _ then _ else _) = _
    rw [if_neg (by omega), n.same t (by omega)]
    exact o.zero t (by omega)
  · rw [show i + 1 + m = i + m + 1 from by omega, val_upd_at, n.sum, o.sum, val_succ, Nat.add_mul]

theorem Outr.end_ {f g h : Nat → Nat} {n m L : Nat} (o : Outr f g h n m) (hL : n + m ≤ L) : val h L = val f n * val g m := by
  rw [← o.sum]
  exact val_ext_nought hL fun j hj _ => o.zero j hj

theorem mul_lt_W {X Y a b : Nat} (hX : X < W a) (hY : Y < W b) : X * Y < W (a + b) := by
  rw [W_add]
  rcases Nat.eq_zero_or_pos Y with h | h
  · subst h; rw [Nat.mul_zero]; exact Nat.mul_pos (W_pos a) (W_pos b)
  · exact Nat.mul_lt_mul'' hX hY

end Go.Proofs.Ytfknjfmgpfhjiaa
