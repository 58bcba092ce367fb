/-
  The plain law of a journal of records on a row of bytes: slots of 24 bytes, what they tell, what stays when a record, or the beginning of one, is laid behind them. The digest is any function. No program in sight.
-/
namespace Go.Proofs.Ytkkcaicihhkahaa

/-- The number that i bytes from place o on make, the first byte first. -/
def nums (f : Nat → Nat) (o : Nat) : Nat → Nat
  | 0 => 0
  | i + 1 => nums f o i * 256 + f (o + i)

def num8 (f : Nat → Nat) (o : Nat) : Nat := nums f o 8

/-- A number of 64 binary digits as one with a sign. -/
def sgn (x : Nat) : Int := if x < 9223372036854775808 then (x : Int) else (x : Int) - 18446744073709551616

/-- A number with a sign as one of 64 binary digits. -/
def uns (t : Int) : Nat := (t % 18446744073709551616).toNat

/-- A byte of a number of 8 bytes, the first one first. -/
def by8 (N i : Nat) : Nat := N / 256 ^ (7 - i) % 256

theorem by8_lt (N i : Nat) : by8 N i < 256 := Nat.mod_lt _ (by decide)

theorem nums_congr {f g : Nat → Nat} {o p : Nat} : ∀ {i : Nat}, (∀ j, j < i → f (o + j) = g (p + j)) → nums f o i = nums g p i
  | 0, _ => rfl
  | i + 1, h => by
    show nums f o i * 256 + f (o + i) = nums g p i * 256 + g (p + i)
    rw [nums_congr (fun j hj => h j (by omega)), h i (by omega)]

theorem nums_lt {f : Nat → Nat} {o : Nat} : ∀ {i : Nat}, (∀ j, j < i → f (o + j) < 256) → nums f o i < 256 ^ i
  | 0, _ => Nat.one_pos
  | i + 1, h => by
    have h1 := nums_lt (f := f) (o := o) (i := i) (fun j hj => h j (by omega))
    have h2 := h i (by omega)
    show nums f o i * 256 + f (o + i) < 256 ^ (i + 1)
    rw [Nat.pow_succ]
    omega

theorem num8_congr {f g : Nat → Nat} {o p : Nat} (h : ∀ j, j < 8 → f (o + j) = g (p + j)) : num8 f o = num8 g p := nums_congr h

theorem num8_lt {f : Nat → Nat} {o : Nat} (h : ∀ j, j < 8 → f (o + j) < 256) : num8 f o < 18446744073709551616 := nums_lt (i := 8) h

/-- The bytes of a number make the number. -/
theorem nums_by8 {f : Nat → Nat} {o N : Nat} (h : ∀ j, j < 8 → f (o + j) = by8 N j) : ∀ i, i ≤ 8 → nums f o i = N / 256 ^ (8 - i) % 256 ^ i
  | 0, _ => by rw [Nat.pow_zero, Nat.mod_one]; rfl
  | i + 1, hi => by
    show nums f o i * 256 + f (o + i) = _
    rw [nums_by8 h i (by omega), h i (by omega), by8, show 8 - (i + 1) = 7 - i from by omega, show 8 - i = 7 - i + 1 from by omega, Nat.pow_succ, ← Nat.div_div_eq_div_mul]
    generalize N / 256 ^ (7 - i) = M
    rw [Nat.pow_succ, Nat.mul_comm (256 ^ i) 256, Nat.mod_mul]
    omega

theorem num8_by8 {f : Nat → Nat} {o N : Nat} (h : ∀ j, j < 8 → f (o + j) = by8 N j) (hN : N < 18446744073709551616) : num8 f o = N := by
  unfold num8
  rw [nums_by8 h 8 (Nat.le_refl _), Nat.sub_self, Nat.pow_zero, Nat.div_one]
  exact Nat.mod_eq_of_lt hN

theorem uns_lt (t : Int) : uns t < 18446744073709551616 := by unfold uns; omega

theorem sgn_uns {t : Int} (h1 : -9223372036854775808 ≤ t) (h2 : t ≤ 9223372036854775807) : sgn (uns t) = t := by
  unfold sgn uns
  split <;> omega

/-- A record: the serial, the time, the digest's first bytes. -/
def rc (H : Nat → Int → Nat → Nat) (s : Nat) (t : Int) (i : Nat) : Nat := if i < 8 then by8 s i else if i < 16 then by8 (uns t) (i - 8) else H s t (i - 16)

/-- The slot at place o is a record. -/
def isRc (H : Nat → Int → Nat → Nat) (f : Nat → Nat) (o : Nat) : Prop := ∀ i, i < 24 → f (o + i) = rc H (num8 f o) (sgn (num8 f (o + 8))) i

def tFirst : Int := -62167219200
def tLast : Int := 253402300799

/-- A serial and a time may be the next ones. -/
def mayJ (j : Nat × Int) (s : Nat) (t : Int) : Prop := j.1 < s ∧ j.2 ≤ t ∧ tFirst ≤ t ∧ t ≤ tLast

def mayB (j : Nat × Int) (s : Nat) (t : Int) : Bool := decide (j.1 < s) && decide (j.2 ≤ t) && decide (tFirst ≤ t) && decide (t ≤ tLast)

theorem mayB_iff {j : Nat × Int} {s : Nat} {t : Int} : mayB j s t = true ↔ mayJ j s t := by
  unfold mayB mayJ
  simp only [Bool.and_eq_true, decide_eq_true_eq, and_assoc]

def isRcB (H : Nat → Int → Nat → Nat) (f : Nat → Nat) (o : Nat) : Bool := (List.range 24).all fun i => decide (f (o + i) = rc H (num8 f o) (sgn (num8 f (o + 8))) i)

theorem isRcB_iff {H : Nat → Int → Nat → Nat} {f : Nat → Nat} {o : Nat} : isRcB H f o = true ↔ isRc H f o := by
  unfold isRcB isRc
  simp only [List.all_eq_true, List.mem_range, decide_eq_true_eq]

/-- The journal behind one slot more. -/
def jnx (H : Nat → Int → Nat → Nat) (f : Nat → Nat) (k : Nat) (j : Nat × Int) : Nat × Int :=
  if mayB j (num8 f (24 * k)) (sgn (num8 f (24 * k + 8))) && isRcB H f (24 * k) then (num8 f (24 * k), sgn (num8 f (24 * k + 8))) else j

/-- The journal of the first k slots. -/
def jr (H : Nat → Int → Nat → Nat) (f : Nat → Nat) : Nat → Nat × Int
  | 0 => (0, tFirst)
  | k + 1 => jnx H f k (jr H f k)

theorem jr_succ (H : Nat → Int → Nat → Nat) (f : Nat → Nat) (k : Nat) : jr H f (k + 1) = jnx H f k (jr H f k) := rfl

section
variable {H : Nat → Int → Nat → Nat} {f g : Nat → Nat}

theorem isRc_congr {o : Nat} (h : ∀ j, j < 24 → f (o + j) = g (o + j)) : isRc H f o ↔ isRc H g o := by
  have e1 : num8 f o = num8 g o := num8_congr fun j hj => h j (by omega)
  have e2 : num8 f (o + 8) = num8 g (o + 8) := num8_congr fun j hj => by have := h (8 + j) (by omega); rwa [← Nat.add_assoc, ] at this
  unfold isRc
  rw [e1, e2]
  constructor <;> intro k i hi
  · rw [← h i hi]; exact k i hi
  · rw [h i hi]; exact k i hi

theorem jr_congr : ∀ {k : Nat}, (∀ j, j < 24 * k → f j = g j) → jr H f k = jr H g k
  | 0, _ => rfl
  | k + 1, h => by
    have e0 : jr H f k = jr H g k := jr_congr fun j hj => h j (by omega)
    have e1 : num8 f (24 * k) = num8 g (24 * k) := num8_congr fun j hj => h _ (by omega)
    have e2 : num8 f (24 * k + 8) = num8 g (24 * k + 8) := num8_congr fun j hj => h _ (by omega)
    have e3 : isRcB H f (24 * k) = isRcB H g (24 * k) := by
      have := isRc_congr (H := H) (f := f) (g := g) (o := 24 * k) fun j hj => h _ (by omega)
      rw [← isRcB_iff, ← isRcB_iff] at this
      exact Bool.eq_iff_iff.2 this
    rw [jr_succ, jr_succ, jnx, jnx, e0, e1, e2, e3]

theorem jr_time : ∀ k, tFirst ≤ (jr H f k).2 ∧ (jr H f k).2 ≤ tLast
  | 0 => ⟨Int.le_refl _, by show tFirst ≤ tLast; decide⟩
  | k + 1 => by
    rw [jr_succ, jnx]
    split
    · rename_i h
      have := mayB_iff.1 (Bool.and_eq_true_iff.1 h).1
      exact ⟨this.2.2.1, this.2.2.2⟩
    · exact jr_time k

theorem jr_lt : ∀ k, (∀ j, j < 24 * k → f j < 256) → (jr H f k).1 < 18446744073709551616
  | 0, _ => by show 0 < 18446744073709551616; decide
  | k + 1, hf => by
    rw [jr_succ, jnx]
    split
    · exact num8_lt fun j hj => hf _ (by omega)
    · exact jr_lt k fun j hj => hf j (by omega)

/-- A slot that is no record is passed by. -/
theorem jr_skip {k : Nat} (h : ¬ isRc H f (24 * k)) : jr H f (k + 1) = jr H f k := if_neg fun h2 => h (isRcB_iff.1 (Bool.and_eq_true_iff.1 h2).2)

/-- A slot whose serial may not be next is passed by. -/
theorem jr_not {k : Nat} (h : ¬ mayJ (jr H f k) (num8 f (24 * k)) (sgn (num8 f (24 * k + 8)))) : jr H f (k + 1) = jr H f k := if_neg fun h2 => h (mayB_iff.1 (Bool.and_eq_true_iff.1 h2).1)

/-- A record that may be next is taken. -/
theorem jr_take {k : Nat} (h1 : mayJ (jr H f k) (num8 f (24 * k)) (sgn (num8 f (24 * k + 8)))) (h2 : isRc H f (24 * k)) : jr H f (k + 1) = (num8 f (24 * k), sgn (num8 f (24 * k + 8))) := if_pos (Bool.and_eq_true_iff.2 ⟨mayB_iff.2 h1, isRcB_iff.2 h2⟩)

/-- What a record's bytes tell. -/
theorem rc_tells {o s : Nat} {t : Int} (h : ∀ i, i < 24 → f (o + i) = rc H s t i) (hs : s < 18446744073709551616) (h1 : -9223372036854775808 ≤ t) (h2 : t ≤ 9223372036854775807) :
    num8 f o = s ∧ sgn (num8 f (o + 8)) = t ∧ isRc H f o := by
  have e1 : num8 f o = s := num8_by8 (fun j hj => by rw [h j (by omega), rc, if_pos hj]) hs
  have e2 : num8 f (o + 8) = uns t := num8_by8 (fun j hj => by
    rw [Nat.add_assoc, h (8 + j) (by omega), rc, if_neg (by omega), if_pos (by omega), show 8 + j - 8 = j from by omega]) (uns_lt t)
  have e3 : sgn (num8 f (o + 8)) = t := by rw [e2, sgn_uns h1 h2]
  exact ⟨e1, e3, fun i hi => by rw [e1, e3]; exact h i hi⟩

/-- A slot whose last byte is 1, where with 0 in its place it is a record, is none. -/
theorem not_rc_of_one {o : Nat} (hg : isRc H g o) (h0 : g (o + 23) = 0) (h1 : f (o + 23) = 1) (h : ∀ j, j < 23 → f (o + j) = g (o + j)) : ¬ isRc H f o := by
  intro hf
  have e1 : num8 f o = num8 g o := num8_congr fun j hj => h j (by omega)
  have e2 : num8 f (o + 8) = num8 g (o + 8) := num8_congr fun j hj => by have := h (8 + j) (by omega); rwa [← Nat.add_assoc] at this
  have a := hf 23 (by omega)
  have b := hg 23 (by omega)
  rw [e1, e2, ← b, h0, h1] at a
  exact absurd a (by decide)

/-- How many bytes are missing to the next slot. -/
def gapN (n : Nat) : Nat := (24 - n % 24) % 24

/-- What was laid behind n bytes: what fills the slot, so that it is no record, and a record. -/
structure Laid (H : Nat → Int → Nat → Nat) (f : Nat → Nat) (n : Nat) (s : Nat) (t : Int) (g : Nat → Nat) : Prop where
  old : ∀ j, j < n → g j = f j
  gap : n % 24 ≠ 0 → ¬ isRc H g (24 * (n / 24))
  whole_ : ∀ i, i < 24 → g (n + gapN n + i) = rc H s t i

/-- A record that was laid whole is the journal's last. -/
theorem Laid.whole {n s : Nat} {t : Int} (L : Laid H f n s t g) (hm : mayJ (jr H f (n / 24)) s t) (hs : s < 18446744073709551616) : jr H g ((n + gapN n + 24) / 24) = (s, t) := by
  have ht1 : -9223372036854775808 ≤ t := by have := hm.2.2.1; unfold tFirst at this; omega
  have ht2 : t ≤ 9223372036854775807 := by have := hm.2.2.2; unfold tLast at this; omega
  have e0 : jr H g (n / 24) = jr H f (n / 24) := jr_congr fun j hj => L.old j (by omega)
  have key : ∀ k, 24 * k = n + gapN n → jr H g k = jr H f (n / 24) → jr H g (k + 1) = (s, t) := by
    intro k hk hj
    obtain ⟨a1, a2, a3⟩ := rc_tells (f := g) (o := 24 * k) (by rw [hk]; exact L.whole_) hs ht1 ht2
    rw [jr_take (by rw [hj, a1, a2]; exact hm) a3, a1, a2]
  by_cases h0 : n % 24 = 0
  · have hg : gapN n = 0 := by unfold gapN; omega
    rw [show (n + gapN n + 24) / 24 = n / 24 + 1 from by omega]
    exact key _ (by omega) e0
  · have hg : gapN n = 24 - n % 24 := by unfold gapN; omega
    rw [show (n + gapN n + 24) / 24 = n / 24 + 1 + 1 from by omega]
    exact key _ (by omega) (by rw [jr_skip (L.gap h0), e0])

/-- The beginning of what was to be laid, not whole, tells nothing. -/
theorem Laid.part {n s m : Nat} {t : Int} {h : Nat → Nat} (L : Laid H f n s t g) (hm : m < gapN n + 24) (hh : ∀ j, j < n + m → h j = g j) : jr H h ((n + m) / 24) = jr H f (n / 24) := by
  have e0 : jr H g (n / 24) = jr H f (n / 24) := jr_congr fun j hj => L.old j (by omega)
  have e1 : jr H h ((n + m) / 24) = jr H g ((n + m) / 24) := jr_congr fun j hj => hh j (by omega)
  rw [e1]
  by_cases h0 : n % 24 = 0
  · have hg : gapN n = 0 := by unfold gapN; omega
    rw [show (n + m) / 24 = n / 24 from by omega, e0]
  · have hg : gapN n = 24 - n % 24 := by unfold gapN; omega
    by_cases h1 : n % 24 + m < 24
    · rw [show (n + m) / 24 = n / 24 from by omega, e0]
    · rw [show (n + m) / 24 = n / 24 + 1 from by omega, jr_skip (L.gap h0), e0]
end

end Go.Proofs.Ytkkcaicihhkahaa
