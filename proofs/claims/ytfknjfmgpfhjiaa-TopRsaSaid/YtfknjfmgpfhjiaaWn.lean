/-
  The walk of nat.step: one digit of a quotient. The frame at the label was written by a program of ours.
-/
import Derived.Test.YtfknjfmgpfhjiaaWm
import Derived.Test.YtfknjfmgpfhjiaaMathe
import Derived.ScopeJumps
import Derived.WalkMore
import Derived.Deep.DeepCutAuto
namespace Go.Proofs.Ytfknjfmgpfhjiaa
open Go.RowKit

theorem Exit.jump_mono {l : Nat} {J J' : Act → World → Prop} {Q : Exit → Act → World → Prop} (h : ∀ a w, J a w → J' a w) : ∀ e a w, Exit.jump l J Q e a w → Exit.jump l J' Q e a w := by
  intro e a w
  cases e <;> first | exact id | exact fun q => ⟨q.1, h _ _ q.2⟩

/-- A scope that is jumped back into: what holds at the label holds when it is first come to, too. -/
theorem wp_scope_again {P : Program} {a : Act} {w : World} {Q : Exit → Act → World → Prop} {c rest : Code} (l : Nat) (J : Act → World → Prop) (μ : Act → World → Nat) (hf : findLabel c l = some (Code.seq Code.skip rest))
    (first : (∀ a w, J a w → rest.wp P (Exit.jump l J Q) a w) → c.wp P (Exit.jump l J Q) a w)
    (pass : ∀ a w, J a w → rest.wp P (Exit.jump l (fun a' w' => J a' w' ∧ μ a' w' < μ a w) Q) a w) : (Code.scope c).wp P Q a w :=
  wp_scope_jumps l J μ hf (first fun a w hJ => wp_mono (pass a w hJ) (Exit.jump_mono fun _ _ h => h.1)) (fun a w hJ => wp_seq (wp_skip (pass a w hJ)))

set_option maxRecDepth 100000 in
theorem ofFn173 (x : Nat → Value) : Array.ofFn (n := 173) (fun i => x i.val) = List.toArray (x 0 :: x 1 :: x 2 :: x 3 :: x 4 :: x 5 :: x 6 :: x 7 :: x 8 :: x 9 :: x 10 :: x 11 :: x 12 :: x 13 :: x 14 :: x 15 :: x 16 :: x 17 :: x 18 :: x 19 :: x 20 :: x 21 :: x 22 :: x 23 :: x 24 :: x 25 :: x 26 :: x 27 :: x 28 :: x 29 :: x 30 :: x 31 :: x 32 :: x 33 :: x 34 :: x 35 :: x 36 :: x 37 :: x 38 :: x 39 :: x 40 :: x 41 :: x 42 :: x 43 :: x 44 :: x 45 :: x 46 :: x 47 :: x 48 :: x 49 :: x 50 :: x 51 :: x 52 :: x 53 :: x 54 :: x 55 :: x 56 :: x 57 :: x 58 :: x 59 :: x 60 :: x 61 :: x 62 :: x 63 :: x 64 :: x 65 :: x 66 :: x 67 :: x 68 :: x 69 :: x 70 :: x 71 :: x 72 :: x 73 :: x 74 :: x 75 :: x 76 :: x 77 :: x 78 :: x 79 :: x 80 :: x 81 :: x 82 :: x 83 :: x 84 :: x 85 :: x 86 :: x 87 :: x 88 :: x 89 :: x 90 :: x 91 :: x 92 :: x 93 :: x 94 :: x 95 :: x 96 :: x 97 :: x 98 :: x 99 :: x 100 :: x 101 :: x 102 :: x 103 :: x 104 :: x 105 :: x 106 :: x 107 :: x 108 :: x 109 :: x 110 :: x 111 :: x 112 :: x 113 :: x 114 :: x 115 :: x 116 :: x 117 :: x 118 :: x 119 :: x 120 :: x 121 :: x 122 :: x 123 :: x 124 :: x 125 :: x 126 :: x 127 :: x 128 :: x 129 :: x 130 :: x 131 :: x 132 :: x 133 :: x 134 :: x 135 :: x 136 :: x 137 :: x 138 :: x 139 :: x 140 :: x 141 :: x 142 :: x 143 :: x 144 :: x 145 :: x 146 :: x 147 :: x 148 :: x 149 :: x 150 :: x 151 :: x 152 :: x 153 :: x 154 :: x 155 :: x 156 :: x 157 :: x 158 :: x 159 :: x 160 :: x 161 :: x 162 :: x 163 :: x 164 :: x 165 :: x 166 :: x 167 :: x 168 :: x 169 :: x 170 :: x 171 :: x 172 :: []) := by kernel_rfl

set_option maxRecDepth 100000 in
theorem arr173 (t : Array Value) (h : t.size = 173) (x : Nat → Value) (hx : ∀ i, i < 173 → x i = t.getD i undef) : t = List.toArray (x 0 :: x 1 :: x 2 :: x 3 :: x 4 :: x 5 :: x 6 :: x 7 :: x 8 :: x 9 :: x 10 :: x 11 :: x 12 :: x 13 :: x 14 :: x 15 :: x 16 :: x 17 :: x 18 :: x 19 :: x 20 :: x 21 :: x 22 :: x 23 :: x 24 :: x 25 :: x 26 :: x 27 :: x 28 :: x 29 :: x 30 :: x 31 :: x 32 :: x 33 :: x 34 :: x 35 :: x 36 :: x 37 :: x 38 :: x 39 :: x 40 :: x 41 :: x 42 :: x 43 :: x 44 :: x 45 :: x 46 :: x 47 :: x 48 :: x 49 :: x 50 :: x 51 :: x 52 :: x 53 :: x 54 :: x 55 :: x 56 :: x 57 :: x 58 :: x 59 :: x 60 :: x 61 :: x 62 :: x 63 :: x 64 :: x 65 :: x 66 :: x 67 :: x 68 :: x 69 :: x 70 :: x 71 :: x 72 :: x 73 :: x 74 :: x 75 :: x 76 :: x 77 :: x 78 :: x 79 :: x 80 :: x 81 :: x 82 :: x 83 :: x 84 :: x 85 :: x 86 :: x 87 :: x 88 :: x 89 :: x 90 :: x 91 :: x 92 :: x 93 :: x 94 :: x 95 :: x 96 :: x 97 :: x 98 :: x 99 :: x 100 :: x 101 :: x 102 :: x 103 :: x 104 :: x 105 :: x 106 :: x 107 :: x 108 :: x 109 :: x 110 :: x 111 :: x 112 :: x 113 :: x 114 :: x 115 :: x 116 :: x 117 :: x 118 :: x 119 :: x 120 :: x 121 :: x 122 :: x 123 :: x 124 :: x 125 :: x 126 :: x 127 :: x 128 :: x 129 :: x 130 :: x 131 :: x 132 :: x 133 :: x 134 :: x 135 :: x 136 :: x 137 :: x 138 :: x 139 :: x 140 :: x 141 :: x 142 :: x 143 :: x 144 :: x 145 :: x 146 :: x 147 :: x 148 :: x 149 :: x 150 :: x 151 :: x 152 :: x 153 :: x 154 :: x 155 :: x 156 :: x 157 :: x 158 :: x 159 :: x 160 :: x 161 :: x 162 :: x 163 :: x 164 :: x 165 :: x 166 :: x 167 :: x 168 :: x 169 :: x 170 :: x 171 :: x 172 :: []) := by
  rw [← ofFn173]
  apply Array.ext
  · rw [Array.size_ofFn, h]
  · intro i h1 h2
    rw [Array.getElem_ofFn]
    rw [hx i (by omega), Array.getD_eq_getD_getElem?]
    simp [h1]

set_option maxRecDepth 100000 in
/-- What holds at the label. -/
def StepJ (gb k n cp vb vo cv : Nat) (W : World) (rel : Nat → Nat → Prop) (a : Act) (w : World) : Prop :=
  ∃ (g r d : Nat) (x : Nat → Value), a = { tmps := List.toArray (.slice (some ⟨gb, k, none⟩) (n + 1) cp :: .slice (some ⟨vb, vo, none⟩) n cv :: x 2 :: x 3 :: .int .u32 0 :: .int .i64 (n : Nat) :: x 6 :: .int .u64 (g : Nat) :: .int .u64 (r : Nat) :: x 9 :: x 10 :: x 11 :: x 12 :: x 13 :: x 14 :: x 15 :: x 16 :: x 17 :: x 18 :: x 19 :: x 20 :: x 21 :: x 22 :: x 23 :: x 24 :: x 25 :: x 26 :: x 27 :: x 28 :: x 29 :: x 30 :: x 31 :: x 32 :: x 33 :: x 34 :: x 35 :: x 36 :: x 37 :: x 38 :: x 39 :: x 40 :: x 41 :: x 42 :: x 43 :: x 44 :: x 45 :: x 46 :: x 47 :: x 48 :: x 49 :: x 50 :: x 51 :: x 52 :: x 53 :: x 54 :: x 55 :: x 56 :: x 57 :: x 58 :: x 59 :: x 60 :: x 61 :: x 62 :: x 63 :: x 64 :: x 65 :: x 66 :: x 67 :: x 68 :: x 69 :: x 70 :: x 71 :: x 72 :: x 73 :: x 74 :: x 75 :: x 76 :: x 77 :: x 78 :: x 79 :: x 80 :: x 81 :: x 82 :: x 83 :: x 84 :: x 85 :: x 86 :: x 87 :: x 88 :: x 89 :: x 90 :: x 91 :: x 92 :: x 93 :: x 94 :: x 95 :: x 96 :: x 97 :: x 98 :: x 99 :: x 100 :: x 101 :: x 102 :: x 103 :: x 104 :: x 105 :: x 106 :: x 107 :: x 108 :: x 109 :: x 110 :: x 111 :: x 112 :: x 113 :: x 114 :: x 115 :: x 116 :: x 117 :: x 118 :: x 119 :: x 120 :: x 121 :: x 122 :: x 123 :: x 124 :: x 125 :: x 126 :: x 127 :: x 128 :: x 129 :: x 130 :: x 131 :: x 132 :: x 133 :: x 134 :: x 135 :: x 136 :: x 137 :: x 138 :: x 139 :: x 140 :: x 141 :: x 142 :: x 143 :: x 144 :: x 145 :: x 146 :: x 147 :: x 148 :: x 149 :: x 150 :: x 151 :: x 152 :: x 153 :: x 154 :: x 155 :: x 156 :: x 157 :: x 158 :: x 159 :: x 160 :: x 161 :: x 162 :: x 163 :: x 164 :: x 165 :: x 166 :: x 167 :: x 168 :: x 169 :: x 170 :: x 171 :: x 172 :: []), defers := [] } ∧ w = W.drewN d ∧ rel g r

set_option maxRecDepth 100000 in
theorem StepJ.mk {gb k n cp vb vo cv : Nat} {W : World} {rel : Nat → Nat → Prop} {t : Array Value} {w : World} (g r d : Nat) (hs : t.size = 173) (hw : w = W.drewN d) (hr : rel g r)
    (h0 : t.getD 0 undef = .slice (some ⟨gb, k, none⟩) (n + 1) cp) (h1 : t.getD 1 undef = .slice (some ⟨vb, vo, none⟩) n cv) (h4 : t.getD 4 undef = .int .u32 0) (h5 : t.getD 5 undef = .int .i64 (n : Nat))
    (h7 : t.getD 7 undef = .int .u64 (g : Nat)) (h8 : t.getD 8 undef = .int .u64 (r : Nat)) : StepJ gb k n cp vb vo cv W rel { tmps := t, defers := [] } w := by
  refine ⟨g, r, d, fun i => t.getD i undef, ?_, hw, hr⟩
  rw [← h0, ← h1, ← h4, ← h5, ← h7, ← h8]
  exact congrArg (fun s => ({ tmps := s, defers := [] } : Act)) (arr173 t hs (fun i => t.getD i undef) (fun _ _ => rfl))


theorem gss_n {u v : Nat → Nat} {n : Nat} (hn : 2 ≤ n) (hu : ∀ t, u t < 4294967296) (hv : ∀ t, t < n → v t < 4294967296) (h1 : 0 < v (n - 1)) :
    Gss (val u (n + 1)) (val v n) (val u (n - 2)) (u (n - 2) + (u n * 4294967296 + u (n - 1)) * 4294967296) (W (n - 2)) (val v (n - 2)) (v (n - 2) + v (n - 1) * 4294967296) (u n * 4294967296 + u (n - 1)) (v (n - 1)) (u (n - 2)) (v (n - 2)) := by
  obtain ⟨m, rfl⟩ : ∃ m, n = m + 2 := ⟨n - 2, by omega⟩
  rw [show m + 2 - 1 = m + 1 from by omega, show m + 2 - 2 = m from by omega] at *
  exact gss_of hu hv h1

theorem top_le {u v : Nat → Nat} {n : Nat} (hn : 2 ≤ n) (_ : ∀ t, u t < 4294967296) (hv : ∀ t, t < n → v t < 4294967296) (h : val u (n + 1) < val v n * 4294967296) : u n ≤ v (n - 1) := by
  obtain ⟨m, rfl⟩ : ∃ m, n = m + 1 := ⟨n - 1, by omega⟩
  rw [Nat.add_sub_cancel]
  have hm := val_lt (f := v) (n := m) (fun t ht => hv t (by omega))
  have h1 : val v (m + 1) < (v m + 1) * W m := by rw [val_succ, Nat.add_mul]; omega
  have h2 : u (m + 1) * W (m + 1) ≤ val u (m + 1 + 1) := by rw [val_succ u (m + 1)]; omega
  have h3 : val v (m + 1) * 4294967296 < (v m + 1) * W m * 4294967296 := Nat.mul_lt_mul_of_pos_right h1 (by decide)
  have e : (v m + 1) * W m * 4294967296 = (v m + 1) * W (m + 1) := by rw [W_succ, Nat.mul_assoc, Nat.mul_comm (W m)]
  rw [e] at h3
  have h4 : u (m + 1) * W (m + 1) < (v m + 1) * W (m + 1) := by omega
  have := Nat.lt_of_mul_lt_mul_right h4
  omega

theorem guess_le {a b c : Nat} (h : a ≤ c) (hc : 2147483648 ≤ c) (hb : b < 4294967296) : (a * 4294967296 + b) / c ≤ 4294967297 := by
  have : (a * 4294967296 + b) / c < 4294967298 := by
    refine Nat.div_lt_of_lt_mul ?_
    have : a * 4294967296 ≤ c * 4294967296 := Nat.mul_le_mul_right _ h
    omega
  omega

/-- A guess that is too great, less by one. -/
theorem guess_less {U V Ul T X Vl Z top v1 u2 v2 Q g1 r : Nat} (G : Gss U V Ul T X Vl Z top v1 u2 v2) (hQ : Q = U / V) (hr : v1 * (g1 + 1) + r = top) (hlt : Q < g1 + 1) (hg : g1 + 1 ≤ 4294967297) (hv2 : v2 < 4294967296) :
    (r + v1 < 4294967296 → v1 * g1 + (r + v1) = top ∧ Q ≤ g1 ∧ g1 ≤ 4294967297 ∧ r + v1 < 4294967296) ∧ (Q ≤ g1 ∧ (4294967296 ≤ r + v1 → g1 ≤ Q + 1)) := by
  have e : v1 * g1 + (r + v1) = top := by rw [Nat.mul_add] at hr; omega
  refine ⟨fun h => ⟨e, by omega, by omega, h⟩, by omega, fun h => ?_⟩
  rw [hQ]
  refine G.near e (by omega) ?_
  have h1 : g1 * v2 ≤ 4294967296 * 4294967295 := Nat.mul_le_mul (by omega) (by omega)
  have h2 : 4294967296 * 4294967296 ≤ (r + v1) * 4294967296 := Nat.mul_le_mul_right _ h
  omega

/-- A row whose places from k to k + n are turned. -/
def put (h : Nat → Nat) (k n : Nat) (u : Nat → Nat) : Nat → Nat := fun t => if k ≤ t ∧ t ≤ k + n then u (t - k) else h t

theorem put_at {h u : Nat → Nat} {k n j : Nat} (hj : j ≤ n) : put h k n u (k + j) = u j := by
  unfold put; rw [if_pos (by omega)]; congr 1; omega

theorem put_out {h u : Nat → Nat} {k n t : Nat} (ht : t < k ∨ k + n < t) : put h k n u t = h t := by
  unfold put; rw [if_neg (by omega)]

theorem put_self {h : Nat → Nat} {k n : Nat} : ∀ t, h t = put h k n (fun t => h (k + t)) t := by
  intro t
  unfold put
  split
  · congr 1; omega
  · rfl

theorem put_upd {h u : Nat → Nat} {k n j x : Nat} (hj : j ≤ n) : ∀ t, upd (put h k n u) (k + j) x t = put h k n (fun i => if i = j then x else u i) t := by
  intro t
  by_cases e : t = k + j
  · subst e; rw [upd_same, put_at hj, if_pos rfl]
  · rw [upd_other _ _ e]
    unfold put
    split
    · show u (t - k) = if t - k = j then x else u (t - k)
      rw [if_neg (by omega)]
    · rfl

theorem put_lt {h u : Nat → Nat} {k n : Nat} (hh : ∀ t, h t < 4294967296) (hu : ∀ t, u t < 4294967296) : ∀ t, put h k n u t < 4294967296 := by
  intro t
  unfold put
  split
  · exact hu _
  · exact hh _

theorem grown_set {w w' : World} {gb : Nat} (h : w.grownBy w' (some gb)) (j : Nat) (u : Value) : w.grownBy (w'.setCell ⟨gb, j, none⟩ u) (some gb) :=
  ⟨h.os, h.tape, h.output, by have := h.size; simpa using this, fun k hk hne => by rw [heap_setCell_other w' ⟨gb, j, none⟩ k u (fun e => hne (by simp [e]))]; exact h.block k hk hne⟩

theorem grown_drewN {w w' : World} {row : Option Nat} (h : w.grownBy w' row) (d : Nat) : w.grownBy (w'.drewN d) row := ⟨h.os, h.tape, h.output, h.size, h.block⟩

theorem Exit.jump_ret {l : Nat} {J : Act → World → Prop} {Q : Exit → Act → World → Prop} {a : Act} {w : World} : Exit.jump l J Q .ret a w = Q .ret a w := rfl

theorem guess_parts {a b c : Nat} (h : a ≤ c) (hc : 2147483648 ≤ c) (hb : b < 4294967296) : ∃ q0 r0 : Nat, c * q0 + r0 = a * 4294967296 + b ∧ q0 ≤ 4294967297 ∧ r0 < c ∧ (a * 4294967296 + b) / c = q0 ∧
    ((a : Int) * 4294967296 + (b : Int)) / (c : Int) = (q0 : Int) ∧ ((a : Int) * 4294967296 + (b : Int)) % (c : Int) = (r0 : Int) := by
  refine ⟨(a * 4294967296 + b) / c, (a * 4294967296 + b) % c, Nat.div_add_mod _ _, guess_le h hc hb, Nat.mod_lt _ (by omega), rfl, ?_, ?_⟩
  · rw [Int.natCast_ediv, Int.natCast_add, Int.natCast_mul]
    rfl
  · rw [Int.natCast_emod, Int.natCast_add, Int.natCast_mul]
    rfl

set_option maxRecDepth 100000 in
set_option maxHeartbeats 4000000 in
theorem step_any (B gb k n L cL cp vb vo cv : Nat) (h v : Nat → Nat) (w : World) (hn : 2 ≤ n) (hn' : n ≤ 1000000) (hL : k + n + 1 ≤ L) (hkb : k ≤ 1000000)
    (hu : Own B w .u32 60 (some ⟨gb, 0, none⟩) L cL h) (hv : Sl w .u32 (some ⟨vb, vo, none⟩) n cv v) (hne : vb ≠ gb)
    (hhl : ∀ t, h t < 4294967296) (hvl : ∀ t, t < n → v t < 4294967296) (hvt : 2147483648 ≤ v (n - 1)) (hUV : val (fun t => h (k + t)) (n + 1) < val v n * 4294967296) :
    Calls Try.prog 59 #[.slice (some ⟨gb, k, none⟩) (n + 1) cp, .slice (some ⟨vb, vo, none⟩) n cv] w fun e w' =>
      e = .returned (.int .u32 ((val (fun t => h (k + t)) (n + 1) / val v n : Nat) : Nat)) ∧ ∃ h' : Nat → Nat, Own B w' .u32 60 (some ⟨gb, 0, none⟩) L cL h' ∧ (∀ t, t < k ∨ k + n < t → h' t = h t) ∧
        val (fun t => h' (k + t)) (n + 1) = val (fun t => h (k + t)) (n + 1) % val v n ∧ (∀ t, h' t < 4294967296) ∧ w.grownBy w' (some gb) := by
  obtain ⟨u, hudef⟩ : ∃ u : Nat → Nat, u = fun t => h (k + t) := ⟨_, rfl⟩
  rw [← hudef] at hUV ⊢
  have hul : ∀ t, u t < 4294967296 := fun t => by rw [hudef]; exact hhl _
  have G := gss_n (u := u) hn hul hvl (by omega)
  have hQB : val u (n + 1) / val v n < 4294967296 := by
    rw [Nat.div_lt_iff_lt_mul G.Vpos, Nat.mul_comm]; exact hUV
  -- what lies in memory
  obtain ⟨g0, hg0, hBg, hgs, hcell, hfr⟩ := hu.at_ (by omega)
  cases hg0
  have hcu : ∀ t, t ≤ n → w.cell? ⟨gb, k + t, none⟩ = some (.int .u32 (u t : Nat)) := fun t ht => by rw [hudef]; exact hcell (k + t) (by omega)
  obtain ⟨b', o', hb', hvs, hcv⟩ := hv.at_ (by omega)
  cases hb'
  have c1 := hcu n (Nat.le_refl _)
  have c2 := hcu (n - 1) (by omega)
  have c3 := hcu (n - 2) (by omega)
  have c4 := hcv (n - 1) (by omega)
  have c5 := hcv (n - 2) (by omega)
  have l1 := hul n
  have l2 := hul (n - 1)
  have l3 := hul (n - 2)
  have l4 := hvl (n - 1) (by omega)
  have l5 := hvl (n - 2) (by omega)
  -- the first guess
  have htop : u n ≤ v (n - 1) := top_le hn hul hvl hUV
  have hQ1 := G.first
  generalize hQ : val u (n + 1) / val v n = Q at hQB hQ1 ⊢
  have HG := hid G
  have HU := hid hu
  have HV := hid hv
  have HHL := hid hhl
  have HVL := hid hvl
  have HUL := hid hul
  have HUV := hid hUV
  have HCU := hid hcu
  have HCV := hid hcv
  have HUD := hid hudef
  have HFR := hid hfr
  have HQ := hid hQ
  clear G hu hv hhl hvl hul hUV hcu hcv hudef hfr hcell hQ
  have hor := or_shift64 (u n) (u (n - 1)) l1 l2
  obtain ⟨q0, r0, hdm, hdivlt, hml, hdq, ediv, emod⟩ := guess_parts htop hvt l2
  have HDM := hid hdm
  have HQ1 : Hid (Q ≤ q0) := Nat.le_trans hQ1 (Nat.le_of_eq hdq)
  clear hdm hdq hQ1
  go_enter Try.func59, Try.ntmps59
  go_wp2_with fail
  refine wp_scope_again 0 (StepJ gb k n cp vb vo cv w fun g r => v (n - 1) * g + r = u n * 4294967296 + u (n - 1) ∧ Q ≤ g ∧ g ≤ 4294967297 ∧ r < 4294967296) (fun a _ => (intOf (a.tmps.getD 7 undef)).toNat) rfl ?first ?pass
  case first =>
    intro hrest
    have HR := hid hrest
    clear hrest
    go_wp2_with fail
    go_quiet (fail)
    go_wp2_with fail
    rw [ediv, emod]
    go_step3
    go_step
    go_step
    refine HR.out _ _ ?_
    exact StepJ.mk q0 r0 nq rfl rfl ⟨HDM.out, HQ1.out, hdivlt, by omega⟩ rfl rfl rfl rfl rfl rfl
  case pass =>
    rintro a1 w1 ⟨g, r, d, x, rfl, rfl, hgr, hQg, hgl, hrl⟩
    have HGR := hid hgr
    clear hgr ediv emod HDM HQ1 hdivlt hml hor
    apply wp_seq_k
    intro KK hKK
    go_cut [7] (fun s7 wx => ∃ (g2 d2 : Nat), s7 = .int .u64 (g2 : Nat) ∧ wx = w.drewN d2 ∧ Q ≤ g2 ∧ g2 ≤ Q + 1)
    case first =>
      have hor2 := or_shift64 r (u (n - 2)) hrl l3
      have hg1 : Q < g → 0 < g := fun h => by omega
      by_cases hA : 4294967296 ≤ g
      · have hd : decide (0 < (g : Int) / 4294967296) = true := by
          rw [decide_eq_true_eq]; omega
        have hQlt : Q < g := by omega
        obtain ⟨g1, hge⟩ : ∃ g1, g = g1 + 1 := ⟨g - 1, by omega⟩
        have HJ := hid (guess_less (r := r) (g1 := g1) HG.out HQ.out.symm (hge ▸ HGR.out) (hge ▸ hQlt) (hge ▸ hgl) l5)
        have HE := hid hge
        clear hor2 hg1 hge
        go_wp2_with fail
        go_quiet (fail)
        go_wp2_with fail
        · have ht : r + v (n - 1) < 4294967296 := by
            rename_i ht
            rw [beq_iff_eq] at ht
            omega
          have hg1 := HE.out
          refine wp_goto ?_
          exact ⟨rfl, StepJ.mk g1 (r + v (n - 1)) (d + nq) rfl rfl (HJ.out.1 ht) rfl rfl rfl rfl (congrArg (Value.int .u64) (by omega)) (congrArg (Value.int .u64) (Int.natCast_add _ _).symm), by show (intOf (Value.int .u64 _)).toNat < (intOf (Value.int .u64 _)).toNat; simp only [intOf]; omega⟩
        · have ht : 4294967296 ≤ r + v (n - 1) := by
            rename_i ht
            rw [beq_eq_false_iff_ne] at ht
            omega
          have hg1 := HE.out
          go_meet
          exact ⟨g1, d + nq, congrArg (Value.int .u64) (by omega), rfl, HJ.out.2.1, HJ.out.2.2 ht⟩
      · obtain ⟨P, hP⟩ : ∃ P, P = g * v (n - 2) := ⟨_, rfl⟩
        have hgv : ((g : Nat) : Int) * ((v (n - 2) : Nat) : Int) = (P : Int) := by rw [hP, Int.natCast_mul]
        have hPb : P ≤ 18446744065119617025 := by rw [hP]; exact mul_bound (by omega) l5
        have HP := hid hP
        have hd : decide (0 < (g : Int) / 4294967296) = false := by
          rw [decide_eq_false_iff_not]; omega
        clear hP
        by_cases hT : r * 4294967296 + u (n - 2) < P
        · have hT2 : decide ((r : Int) * 4294967296 + ((u (n - 2) : Nat) : Int) < (P : Int)) = true := by
            rw [decide_eq_true_eq]; omega
          have hQlt : Q < g := by rw [← HQ.out]; exact HG.out.great HGR.out (by rw [← HP.out]; exact hT)
          obtain ⟨g1, hge⟩ : ∃ g1, g = g1 + 1 := ⟨g - 1, by omega⟩
          have HJ := hid (guess_less (r := r) (g1 := g1) HG.out HQ.out.symm (hge ▸ HGR.out) (hge ▸ hQlt) (hge ▸ hgl) l5)
          have HE := hid hge
          clear hg1 hge
          go_wp2_with fail
          go_quiet (fail)
          go_wp2_with fail
          · have ht : r + v (n - 1) < 4294967296 := by
              rename_i ht
              rw [beq_iff_eq] at ht
              omega
            have hg1 := HE.out
            refine wp_goto ?_
            exact ⟨rfl, StepJ.mk g1 (r + v (n - 1)) (d + nq) rfl rfl (HJ.out.1 ht) rfl rfl rfl rfl (congrArg (Value.int .u64) (by omega)) (congrArg (Value.int .u64) (Int.natCast_add _ _).symm), by show (intOf (Value.int .u64 _)).toNat < (intOf (Value.int .u64 _)).toNat; simp only [intOf]; omega⟩
          · have ht : 4294967296 ≤ r + v (n - 1) := by
              rename_i ht
              rw [beq_eq_false_iff_ne] at ht
              omega
            have hg1 := HE.out
            go_meet
            exact ⟨g1, d + nq, congrArg (Value.int .u64) (by omega), rfl, HJ.out.2.1, HJ.out.2.2 ht⟩
        · have hT2 : decide ((r : Int) * 4294967296 + ((u (n - 2) : Nat) : Int) < (P : Int)) = false := by
            rw [decide_eq_false_iff_not]; omega
          have hnear : g ≤ Q + 1 := by rw [← HQ.out]; exact HG.out.near HGR.out (by omega) (by rw [← HP.out]; omega)
          clear hg1
          go_wp2_with fail
          go_quiet (fail)
          go_wp2_with fail
          go_meet
          exact ⟨g, d + nq, rfl, World.drewN_drewN _ _ _, hQg, hnear⟩
    case rest =>
      obtain ⟨g2, d2, rfl, rfl, hq1, hq2⟩ := hcut
      clear c1 c2 c3 c4 c5 hQg hgl hrl
      go_wp2_with fail
      go_loopw [9, 10, 84] (fun br cr i wr => ∃ (j b c : Nat) (u' : Nat → Nat), j ≤ n ∧ i = .int .i64 j ∧ br = .int .i64 (b : Nat) ∧ cr = .int .u64 (c : Nat) ∧ Own B wr .u32 60 (some ⟨gb, 0, none⟩) L cL (put h k n u') ∧ Mss u u' v g2 j b c ∧ w.grownBy wr (some gb)) (fun _ _ i _ => n - (intOf i).toNat)
      case atStart => exact ⟨0, 0, 0, u, Nat.zero_le _, rfl, rfl, rfl, (HU.out.drewN d2).congr (fun t _ => by rw [HUD.out]; exact put_self t), Mss.start HUL.out, ⟨rfl, rfl, rfl, Nat.le_refl _, fun _ _ _ => rfl⟩⟩
      case round =>
        obtain ⟨j, b, c, u', hj, rfl, rfl, rfl, hown, hmss, hgrow⟩ := hrel
        have HO := hid hown
        have HM := hid hmss
        have HW := hid hgrow
        obtain ⟨g0, hg0, _, hz3, hcell, hfr⟩ := hown.at_ (by omega)
        cases hg0
        by_cases hlt : j < n
        · have hcj := hcell (k + j) (by omega)
          rw [put_at (by omega), hmss.same j (Nat.le_refl _)] at hcj
          have hfrj := hfr (k + j)
          have hcv : wr.cell? ⟨vb, vo + j, none⟩ = some (.int .u32 (v j : Nat)) := hgrow.cell (HCV.out j hlt) (by simp; exact hne)
          have hlv := HVL.out j hlt
          have hlu := HUL.out j
          have hbe := hmss.ble
          obtain ⟨P, hP⟩ : ∃ P, P = g2 * v j := ⟨_, rfl⟩
          have hcP : c + P < 18446744073709551616 := by rw [hP]; exact hmss.bound (by omega) hlv
          have hgv : ((g2 : Nat) : Int) * ((v j : Nat) : Int) = (P : Int) := by rw [hP, Int.natCast_mul]
          obtain ⟨x, b', hxl, hb', hxe, hxm, hbm⟩ : ∃ x b' : Nat, x < 4294967296 ∧ b' ≤ 1 ∧ x + b + (c + P) % 4294967296 = u j + b' * 4294967296 ∧
              (((u j : Nat) : Int) - (b : Int) - ((c : Int) + (P : Int))) % 4294967296 = (x : Int) ∧
              -((((u j : Nat) : Int) - (b : Int) - ((c : Int) + (P : Int)) % 4294967296) / 4294967296) = (b' : Int) := by
            by_cases hs : b + (c + P) % 4294967296 ≤ u j
            · exact ⟨u j - (b + (c + P) % 4294967296), 0, by omega, by omega, by omega, by omega, by omega⟩
            · exact ⟨u j + 4294967296 - (b + (c + P) % 4294967296), 1, by omega, by omega, by omega, by omega, by omega⟩
          have HS := hmss.step hlv hxl hb' (by rw [← hP]; exact hxe)
          rw [← hP] at HS
          have HS2 := hid HS
          have HXM := hid hxm
          have HBM := hid hbm
          clear hown hmss hgrow hcell hfr hP HS hxm hbm hxe
          go_wp2_with fail
          have hcq : ((c : Int) + (P : Int)) / 4294967296 = (((c + P) / 4294967296 : Nat) : Int) := by omega
          rw [HXM.out, HBM.out, hcq]
          go_roundw
          case rel => exact ⟨j + 1, b', (c + P) / 4294967296, _, by omega, by go_num, rfl, rfl, (HO.out.stored (k + j) x).congr (fun t _ => put_upd (by omega) t), HS2.out, grown_set HW.out _ _⟩
          case measure => simp [intOf]; omega
        · obtain rfl : j = n := by omega
          have hcj := hcell (k + j) (by omega)
          rw [put_at (by omega), hmss.same j (Nat.le_refl _)] at hcj
          have hfrj := hfr (k + j)
          have hlu := HUL.out j
          have hbe := hmss.ble
          have hce := hmss.cle
          have hVp := HG.out.Vpos
          have hVl : val v j < W j := val_lt (fun t ht => HVL.out t ht)
          by_cases hd : b + c ≤ u j
          · obtain ⟨e1, e2, e3⟩ := hmss.right hVp (by rw [HQ.out]; exact hq1) hd hlu
            rw [HQ.out] at e1
            subst e1
            have hx1 : (((u j : Nat) : Int) - (b : Int) - (c : Int)) = ((u j - (b + c) : Nat) : Int) := by omega
            have hge : 0 ≤ ((u j : Nat) : Int) - (b : Int) - (c : Int) := by omega
            have HX1 := hid hx1
            have E2 := hid e2
            have E3 := hid e3
            clear hown hmss hgrow hcell hfr e2 e3 hx1
            go_wp2_with fail
            rw [Exit.jump_ret]
            go_ret
            refine ⟨rfl, put h k j (fun t => if t = j then u j - (b + c) else u' t), ?_, fun t ht => put_out ht, ?_, put_lt HHL.out E3.out, ?_⟩
            · rw [HX1.out]
              exact (HO.out.stored (k + j) _).congr (fun t _ => put_upd (by omega) t)
            · rw [← E2.out]
              exact val_congr fun t ht => put_at (by omega)
            · exact grown_set HW.out _ _
          · obtain ⟨e1, e2, e3⟩ := hmss.wrong hVp hVl (by rw [HQ.out]; exact hq2) (by omega)
            rw [HQ.out] at e1
            subst e1
            have hx1 : (((u j : Nat) : Int) - (b : Int) - (c : Int)) = -1 := by omega
            have hneg : ¬ (0 ≤ ((u j : Nat) : Int) - (b : Int) - (c : Int)) := by omega
            obtain ⟨u1, hud1⟩ : ∃ u1 : Nat → Nat, u1 = fun t => if t = j then 4294967295 else u' t := ⟨_, rfl⟩
            have hu1 : ∀ t, u1 t < 4294967296 := fun t => by
              rw [hud1]
              show (if _ then _ else _) < _
              split
              · decide
              · exact hmss.lt t
            have hval1 : val u1 j = val u' j := val_congr fun t ht => by rw [hud1]; exact if_neg (by omega)
            have hu1j : u1 j = 4294967295 := by rw [hud1]; exact if_pos rfl
            rw [← hval1] at e3
            have HU1 := hid hu1
            have HUJ := hid hu1j
            have E3 := hid e3
            have hO2 : Own B (wr.setCell ⟨gb, k + j, none⟩ (.int .u32 ((4294967295 : Nat) : Nat))) .u32 60 (some ⟨gb, 0, none⟩) L cL (put h k j u1) := (hown.stored (k + j) 4294967295).congr (fun t _ => by rw [hud1]; exact put_upd (by omega) t)
            have HO2 := hid hO2
            clear hown hmss hgrow hcell hfr e2 e3 hu1 hval1 hO2 hud1 hu1j
            go_wp2_with fail
            clear hcj hfrj
            go_loopw [14, 138] (fun cr i wr2 => ∃ (i2 c3 : Nat) (u2 : Nat → Nat), i2 ≤ j ∧ i = .int .i64 i2 ∧ cr = .int .u64 (c3 : Nat) ∧ Own B wr2 .u32 60 (some ⟨gb, 0, none⟩) L cL (put h k j u2) ∧ Adb u1 u2 v i2 c3 ∧ w.grownBy wr2 (some gb)) (fun _ i _ => j - (intOf i).toNat)
            case atStart => exact ⟨0, 0, u1, Nat.zero_le _, rfl, rfl, HO2.out, Adb.start HU1.out, grown_set HW.out _ _⟩
            case round =>
              obtain ⟨i2, c3, u2, hi2, rfl, rfl, hown, hadb, hgrow⟩ := hrel
              have HO3 := hid hown
              have HA := hid hadb
              have HW3 := hid hgrow
              obtain ⟨g0, hg0, _, hz3, hcell, hfr⟩ := hown.at_ (by omega)
              cases hg0
              have hcj := hcell (k + i2) (by omega)
              rw [put_at (by omega), hadb.same i2 (Nat.le_refl _)] at hcj
              have hfrj := hfr (k + i2)
              by_cases hlt2 : i2 < j
              · have hcv : wr.cell? ⟨vb, vo + i2, none⟩ = some (.int .u32 (v i2 : Nat)) := hgrow.cell (HCV.out i2 hlt2) (by simp; exact hne)
                have hlv := HVL.out i2 hlt2
                have hlu1 := HU1.out i2
                have hce3 := hadb.cle
                have HS := hid (hadb.step hlu1 hlv)
                clear hown hadb hgrow hcell hfr
                go_wp2_with fail
                go_quiet (fail)
                go_wp2_with fail
                have hr1 : ((c3 : Int) + (((u1 i2 : Nat) : Int) + ((v i2 : Nat) : Int))) % 4294967296 = (((c3 + (u1 i2 + v i2)) % 4294967296 : Nat) : Int) := by omega
                have hr2 : ((c3 : Int) + (((u1 i2 : Nat) : Int) + ((v i2 : Nat) : Int))) / 4294967296 = (((c3 + (u1 i2 + v i2)) / 4294967296 : Nat) : Int) := by omega
                rw [hr1, hr2]
                go_roundw
                case rel => exact ⟨i2 + 1, _, _, by omega, by go_num, rfl, ((HO3.out.drewN nq).stored (k + i2) _).congr (fun t _ => put_upd (by omega) t), HS.out, grown_set (grown_drewN HW3.out nq) _ _⟩
                case measure => simp [intOf]; omega
              · obtain rfl : i2 = j := by omega
                obtain ⟨ec, er⟩ := hadb.done E3.out
                subst ec
                rw [HUJ.out] at hcj
                have ER := hid er
                have HLT := hid hadb.lt
                clear hown hadb hgrow hcell hfr er
                go_wp2_with fail
                rw [Exit.jump_ret]
                go_ret
                refine ⟨rfl, put h k i2 (fun t => if t = i2 then 0 else u2 t), ?_, fun t ht => put_out ht, ?_, put_lt HHL.out (fun t => ?_), ?_⟩
                · exact (HO3.out.stored (k + i2) 0).congr (fun t _ => put_upd (by omega) t)
                · have e5 : val (fun t => put h k i2 (fun t => if t = i2 then 0 else u2 t) (k + t)) (i2 + 1) = val (fun t => if t = i2 then 0 else u2 t) (i2 + 1) := val_congr fun t ht => put_at (by omega)
                  rw [e5, val_upd_at, Nat.zero_mul, Nat.add_zero]
                  exact ER.out
                · show (if _ then _ else _) < _
                  split
                  · decide
                  · exact HLT.out t
                · exact grown_set HW3.out _ _

end Go.Proofs.Ytfknjfmgpfhjiaa
