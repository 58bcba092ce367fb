/-
  The walk of DiskCopies.
-/
import Derived.Test.YtkkcaicihhkahaaDx
namespace Go.Proofs.Ytkkcaicihhkahaa
open Go.RowKit

/-- Two disks that lie apart. -/
structure Two (w0 w : World) (T : Nat → Nat) (B d x : Nat) (oa ox : Option Addr) (c cx : Nat) (S R : DSt) : Prop where
  bel : Below B w0 w
  dk : Dk w B d oa c S
  xk : Dk w B x ox cx R
  ne : d ≠ x
  dx : ∀ a, oa = some a → a.block ≠ x
  xd : ∀ a, ox = some a → a.block ≠ d
  rows : ∀ a a', oa = some a → ox = some a' → a.block ≠ a'.block
  hB : B ≤ w.heap.size
  pos : 0 < B
  tab : Tab w T

theorem Dk.other {w w' : World} {B d c : Nat} {oa : Option Addr} {S : DSt} {X : Nat → Prop} {ob ob' : Option Addr} (h : Dk w B d oa c S) (hn : Nxt X ob ob' w w') (hd : ¬ X d) (ho : ∀ a, ob = some a → a.block ≠ d) (hX : ∀ a, oa = some a → ¬ X a.block) (hr : ∀ a a', oa = some a → ob = some a' → a'.block ≠ a.block) : Dk w' B d oa c S := by
  refine ⟨h.at_.same hn.size (hn.other h.at_.1 hd ho), ?_, h.ne, h.lt, h.arm, h.hB, h.len⟩
  cases oa with
  | none =>
    have h9 := h.own
    unfold Own at h9 ⊢
    refine ⟨h9.1, ?_⟩
    rcases h9.2 with h1 | ⟨g, cap, cur, h3, _⟩
    · exact .inl h1
    · cases h3
  | some a =>
    have hlt := (h.own.nw a rfl).2.1
    have hb := hn.other hlt (hX a rfl) (fun a' ha' => hr a a' rfl ha')
    have h9 := h.own
    unfold Own at h9 ⊢
    refine ⟨h9.1, ?_⟩
    rcases h9.2 with h1 | ⟨g, cap, cur, h3, h4, h5, h6⟩
    · exact .inl h1
    · cases h3
      exact .inr ⟨_, _, cur, rfl, h4, hb.trans h5, h6⟩

section
variable {w0 w w' : World} {T : Nat → Nat} {B d x c cx c' : Nat} {oa ox oa' ox' : Option Addr} {S R S' R' : DSt}

/-- The first one turns. -/
theorem Two.d1 (h : Two w0 w T B d x oa ox c cx S R) (hd : Dk w' B d oa' c' S') (hn : Nxt (fun j => j = d) oa oa' w w') : Two w0 w' T B d x oa' ox c' cx S' R := by
  have hb : Below B w w' := hn.below h.hB (fun j hj => by rw [hj]; exact h.dk.hB) h.dk.rowB
  have hx := h.xk.other hn (fun e => h.ne e.symm) h.dx (fun a ha e => h.xd a ha e) (fun a a' ha ha' => h.rows a' a ha' ha)
  refine ⟨h.bel.trans hb, hd, hx, h.ne, fun a ha e => ?_, h.xd, fun a a' ha ha' e => ?_, Nat.le_trans h.hB hn.size, h.pos, h.tab.below h.pos hb⟩
  · rcases hn.row a ha with ⟨a0, e0, e1⟩ | h5
    · exact h.dx a0 e0 (e1.symm.trans e)
    · have := h.xk.at_.1
      omega
  · rcases hn.row a ha with ⟨a0, e0, e1⟩ | h5
    · exact h.rows a0 a' e0 ha' (e1.symm.trans e)
    · have := (h.xk.own.nw a' ha').2.1
      omega

theorem Two.swap (h : Two w0 w T B d x oa ox c cx S R) : Two w0 w T B x d ox oa cx c R S := ⟨h.bel, h.xk, h.dk, h.ne.symm, h.xd, h.dx, fun a a' ha ha' => (h.rows a' a ha' ha).symm, h.hB, h.pos, h.tab⟩

theorem Two.keep (h : Two w0 w T B d x oa ox c cx S R) (hb : Below w.heap.size w w') : Two w0 w' T B d x oa ox c cx S R :=
  ⟨h.bel.trans (hb.mono h.hB), h.dk.below hb, h.xk.below hb, h.ne, h.dx, h.xd, h.rows, Nat.le_trans h.hB hb.size, h.pos, h.tab.below h.pos (hb.mono h.hB)⟩

theorem Two.write (h : Two w0 w T B d x oa ox c cx S R) {mx cz : Nat} {oz : Option Addr} {g : Nat → Nat} (hx : Sl w .u8 oz mx cz g) (hg : ∀ i, g i < 256) (hm : mx ≤ 2000000) (hoz : 0 < mx → ∀ a, oz = some a → a.block ≠ d) :
    Calls Try.prog 13 #[.pointer (some ⟨d, 0, none⟩), .slice oz mx cz] w fun e w' => ∃ oa' c', e = .returned (.int .i64 (wr S mx g).2) ∧ Two w0 w' T B d x oa' ox c' cx (wr S mx g).1 R :=
  (writeD_any h.dk hx hg hm hoz h.hB).mono fun _ _ ⟨oa', c', he, hd, hn⟩ => ⟨oa', c', he, h.d1 hd hn⟩

theorem Two.bytes (h : Two w0 w T B d x oa ox c cx S R) : Calls Try.prog 14 #[.pointer (some ⟨d, 0, none⟩)] w fun e w' => ∃ o c', e = .returned (.slice o S.m c') ∧ Own w.heap.size w' .u8 5 o S.m c' S.f ∧ Below w.heap.size w w' ∧ Two w0 w' T B d x oa ox c cx S R :=
  (bytes_any h.dk).mono fun _ _ ⟨o, c', he, ho, hb⟩ => ⟨o, c', he, ho, hb, h.keep hb⟩

theorem Two.start (h : Two w0 w T B d x oa ox c cx S R) : Calls Try.prog 19 #[.pointer (some ⟨d, 0, none⟩)] w fun e w' => e = .returned (.int .i64 0) ∧ Two w0 w' T B d x oa ox c cx { S with dn := false, arm := 0 } R :=
  (start_any h.dk).mono fun _ _ ⟨he, hd, hn⟩ => ⟨he, h.d1 hd hn⟩

theorem Two.up (h : Two w0 w T B d x oa ox c cx S R) : Calls Try.prog 22 #[.pointer (some ⟨d, 0, none⟩)] w fun e w' => e = .returned (.bool (!S.dn)) ∧ w = w' := up_any w h.dk
end

theorem copy_two {w0 w : World} {T : Nat → Nat} {B d c : Nat} {oa : Option Addr} {S : DSt} (hbel : Below B w0 w) (hdk : Dk w B d oa c S) (hB : B ≤ w.heap.size) (hpos : 0 < B) (ht : Tab w T) :
    Calls Try.prog 23 #[.pointer (some ⟨d, 0, none⟩)] w fun e w' => ∃ x ox cx, e = .returned (.pointer (some ⟨x, 0, none⟩)) ∧ Two w0 w' T B d x oa ox c cx S S := by
  refine (copyD_any hdk).mono ?_
  rintro e w' ⟨x, ox, cx, rfl, hx, hox, hb⟩
  have hdl := hdk.at_.1
  have hxB := hx.hB
  refine ⟨x, ox, cx, rfl, hbel.trans (hb.mono hB), hdk.below hb, ⟨hx.at_, hx.own.mono hB, hx.ne, hx.lt, hx.arm, Nat.le_trans hB hx.hB, hx.len⟩, by omega, fun a ha e => ?_, fun a ha e => ?_, fun a a' ha ha' e => ?_, Nat.le_trans hB hb.size, hpos, ht.below hpos (hb.mono hB)⟩
  · have := (hdk.own.nw a ha).2.1
    omega
  · have := hox a ha
    omega
  · have := (hdk.own.nw a ha).2.1
    have := hox a' ha'
    omega

theorem Own.nxt {w w' : World} {B n c : Nat} {k : IntKind} {e : TypeId} {oa ob ob' : Option Addr} {f : Nat → Nat} {X : Nat → Prop} (h : Own B w k e oa n c f) (hn : Nxt X ob ob' w w') (hX : ∀ a, oa = some a → ¬ X a.block) (hr : ∀ a a', oa = some a → ob = some a' → a'.block ≠ a.block) : Own B w' k e oa n c f := by
  cases oa with
  | none =>
    unfold Own at h ⊢
    refine ⟨h.1, ?_⟩
    rcases h.2 with h1 | ⟨g, cap, cur, h3, _⟩
    · exact .inl h1
    · cases h3
  | some a =>
    have hlt := (h.nw a rfl).2.1
    have hb := hn.other hlt (hX a rfl) (fun a' ha' => hr a a' rfl ha')
    unfold Own at h ⊢
    refine ⟨h.1, ?_⟩
    rcases h.2 with h1 | ⟨g, cap, cur, h3, h4, h5, h6⟩
    · exact .inl h1
    · cases h3
      exact .inr ⟨_, _, cur, rfl, h4, hb.trans h5, h6⟩

/-- The copy and what was told of it, while the other disk goes on. -/
structure Fin2 (w0 w : World) (T : Nat → Nat) (B x : Nat) (ox : Option Addr) (cx : Nat) (R : DSt) (o : Option Addr) (c : Nat) : Prop where
  bel : Below B w0 w
  xk : Dk w B x ox cx R
  own : Own B w .u8 5 o R.m c R.f
  hB : B ≤ w.heap.size
  pos : 0 < B
  tab : Tab w T

theorem Fin2.step {w0 w w' : World} {T : Nat → Nat} {B x cx c : Nat} {ox o ob ob' : Option Addr} {R : DSt} {X : Nat → Prop} (h : Fin2 w0 w T B x ox cx R o c) (hn : Nxt X ob ob' w w') (hXB : ∀ j, X j → B ≤ j) (hob : ∀ a, ob = some a → B ≤ a.block)
    (c1 : ¬ X x) (c2 : ∀ a, ob = some a → a.block ≠ x) (c3 : ∀ a, ox = some a → ¬ X a.block) (c4 : ∀ a a', ox = some a → ob = some a' → a'.block ≠ a.block) (c5 : ∀ a, o = some a → ¬ X a.block) (c6 : ∀ a a', o = some a → ob = some a' → a'.block ≠ a.block) : Fin2 w0 w' T B x ox cx R o c := by
  have hb : Below B w w' := hn.below h.hB hXB hob
  exact ⟨h.bel.trans hb, h.xk.other hn c1 c2 c3 c4, h.own.nxt hn c5 c6, Nat.le_trans h.hB hn.size, h.pos, h.tab.below h.pos hb⟩

theorem Fin2.keep {w0 w w' : World} {T : Nat → Nat} {B x cx c : Nat} {ox o : Option Addr} {R : DSt} (h : Fin2 w0 w T B x ox cx R o c) (hb : Below w.heap.size w w') : Fin2 w0 w' T B x ox cx R o c :=
  ⟨h.bel.trans (hb.mono h.hB), h.xk.below hb, h.own.below hb, Nat.le_trans h.hB hb.size, h.pos, h.tab.below h.pos (hb.mono h.hB)⟩

set_option maxRecDepth 100000 in
set_option maxHeartbeats 6400000 in
theorem diskCopies_any {w : World} {T : Nat → Nat} (hT : Tab w T) {ob oc om : Option Addr} {m cb mc cc mm cm : Nat} {f g l : Nat → Nat} (hb : Sl w .u8 ob m cb f) (hc : Sl w .u8 oc mc cc g) (hm : Sl w .u8 om mm cm l) (hf : ∀ i, f i < 256) (hg : ∀ i, g i < 256) (hl : ∀ i, l i < 256) (hcz : 0 < mc → ∀ a, oc = some a → a.block < w.heap.size) (hmz : 0 < mm → ∀ a, om = some a → a.block < w.heap.size) (arm n : Int) :
    Calls Try.prog 6 #[.slice ob m cb, .int .i64 arm, .int .i64 n, .slice oc mc cc, .slice om mm cm] w fun e w' => e = .returned (.bool true) ∧ Below w.heap.size w w' := by
  have HK := hid (known_any hT)
  have hpos := hT.pos
  by_cases h1 : 3000 < m
  · have hmi : (3000 : Int) < (m : Int) := by omega
    clear hT hb hc hm hf hg hl hcz hmz
    go_enter Try.func6, Try.ntmps6
    go_wp2_with (go_at_call 15; refine Calls.mono HK.out ?_; rintro e w' ⟨rfl, hb⟩)
    go_ret
    exact ⟨rfl, hb⟩
  have h1i : (m : Int) ≤ 3000 := by omega
  by_cases h2 : 3000 < mc
  · have hni : (3000 : Int) < (mc : Int) := by omega
    clear hT hb hc hm hf hg hl hcz hmz
    go_enter Try.func6, Try.ntmps6
    go_wp2_with (go_at_call 15; refine Calls.mono HK.out ?_; rintro e w' ⟨rfl, hb⟩)
    go_ret
    exact ⟨rfl, hb⟩
  have h2i : (mc : Int) ≤ 3000 := by omega
  by_cases h3 : 3000 < mm
  · have hni : (3000 : Int) < (mm : Int) := by omega
    clear hT hb hc hm hf hg hl hcz hmz
    go_enter Try.func6, Try.ntmps6
    go_wp2_with (go_at_call 15; refine Calls.mono HK.out ?_; rintro e w' ⟨rfl, hb⟩)
    go_ret
    exact ⟨rfl, hb⟩
  have h3i : (mm : Int) ≤ 3000 := by omega
  have HN := hid (newD_any hb hf (by omega))
  have HT := hid hT
  have HC := hid hc
  have HM := hid hm
  have HG := hid hg
  have HLL := hid hl
  have HCZ := hid hcz
  have HMZ := hid hmz
  have HAM3 := hid (among_any arm 3 (by decide) (by decide))
  have HAM50 := hid (among_any n 50 (by decide) (by decide))
  clear hT hb hc hm hf hg hl hcz hmz HK
  go_enter Try.func6, Try.ntmps6
  go_wp2_with fail
  refine Calls.mono HN.out ?_
  rintro e w1 ⟨d, o0, c0, rfl, hd1, hb1⟩
  have HD1 := hid hd1
  have HB1 := hid hb1
  clear hd1 hb1 HN
  go_wp2_with fail
  refine Calls.mono (HAM3.out _) ?_
  rintro e w' ⟨⟨r, rfl, hr⟩, rfl⟩
  have hz1 := HB1.out.size
  have e3 : r = 0 ∨ r = 1 ∨ r = 2 := by omega
  rcases e3 with rfl | rfl | rfl
  · have HDK := HD1
    have HBK := HB1
    obtain ⟨S, hS⟩ : ∃ S, S = (⟨m, f, false, 0, 0⟩ : DSt) := ⟨_, rfl⟩
    rw [← hS] at HDK
    clear hS HD1 HB1
    have HCT := hid (copy_two HBK.out HDK.out HBK.out.size hpos (HT.out.below hpos HBK.out))
    clear HDK HBK
    go_wp2_with fail
    refine Calls.mono HCT.out ?_
    rintro e w4 ⟨x, ox, cx, rfl, h2⟩
    have HW := hid (h2.write (HC.out.below h2.bel) HG.out (by omega) (fun h0 a ha e => by have := HCZ.out h0 a ha; have := h2.dk.hB; omega))
    clear h2 HCT
    go_wp2_with fail
    refine Calls.mono HW.out ?_
    rintro e w5 ⟨oa, c5, rfl, h2⟩
    have HW := hid (h2.swap.write (HC.out.below h2.bel) HG.out (by omega) (fun h0 a ha e => by have := HCZ.out h0 a ha; have := h2.xk.hB; omega))
    clear h2
    go_wp2_with fail
    refine Calls.mono HW.out ?_
    rintro e w6 ⟨ox6, c6, rfl, h2⟩
    obtain ⟨S', hS'⟩ : ∃ S', S' = (wr S mc g).1 := ⟨_, rfl⟩
    obtain ⟨E, hE⟩ : ∃ E, E = (wr S mc g).2 := ⟨_, rfl⟩
    rw [← hS'] at h2
    rw [← hE]
    have h2 := h2.swap
    have HB := hid h2.bytes
    clear h2 hS' hE HW
    go_wp2_with fail
    refine Calls.mono HB.out ?_
    rintro e w7 ⟨o7, c7, rfl, ho7, hb7, h2⟩
    have HO7 := hid ho7
    have HB := hid h2.swap.bytes
    clear h2 ho7 hb7
    go_wp2_with fail
    refine Calls.mono HB.out ?_
    rintro e w8 ⟨o8, c8, rfl, ho8, hb8, h2⟩
    have h2 := h2.swap
    have HQ := hid (sameb_any (HO7.out.below hb8).sl ho8.sl (fun _ _ => rfl))
    have H2 := hid h2
    clear h2 ho8 hb8 HB HO7
    go_wp2_with fail
    refine Calls.mono HQ.out ?_
    rintro e w' ⟨rfl, rfl⟩
    have HU := hid H2.out.up
    have HV := hid H2.out.swap.up
    obtain ⟨ub, hub⟩ : ∃ ub, ub = !S'.dn := ⟨_, rfl⟩
    rw [← hub] at HU HV
    clear hub
    go_wp2_with fail
    refine Calls.mono HU.out ?_
    rintro e w' ⟨rfl, rfl⟩
    go_wp2_with fail
    refine Calls.mono HV.out ?_
    rintro e w' ⟨rfl, rfl⟩
    have HB := hid H2.out.swap.bytes
    clear HU HV HQ
    go_wp2_with fail
    refine Calls.mono HB.out ?_
    rintro e w9 ⟨o9, c9, rfl, ho9, hb9, h2⟩
    have h2 := h2.swap
    have h2' := H2.out
    have H2 := hid h2
    have HO9 := hid ho9
    have HF := hid (Fin2.mk h2.bel h2.xk (ho9.mono h2'.hB) h2.hB h2.pos h2.tab)
    have D5 : Hid (∀ a, o9 = some a → a.block ≠ d) := hid fun a ha e => by
      have q1 := (ho9.nw a ha).1
      have q2 := h2'.dk.at_.1
      omega
    have D6 : Hid (∀ a a', o9 = some a → oa = some a' → a'.block ≠ a.block) := hid fun a a' ha ha' e => by
      have q1 := (ho9.nw a ha).1
      have q2 := (h2'.dk.own.nw a' ha').2.1
      omega
    have HS := hid (start_any h2.dk)
    clear h2 ho9 hb9 h2' HB
    go_wp2_with fail
    refine Calls.mono HS.out ?_
    rintro e w10 ⟨rfl, hdk, hn⟩
    have HF := hid (HF.out.step hn (fun j hj => by rw [hj]; exact H2.out.dk.hB) H2.out.dk.rowB (fun e => H2.out.ne e.symm) H2.out.dx (fun a ha e => H2.out.xd a ha e) (fun a a' ha ha' => H2.out.rows a' a ha' ha) (fun a ha e => D5.out a ha e) D6.out)
    have HW := hid (writeD_any hdk (HM.out.below HF.out.bel) HLL.out (by omega) (fun h0 a ha e => by have := HMZ.out h0 a ha; have := hdk.hB; omega) HF.out.hB)
    clear hdk hn HS
    go_wp2_with fail
    refine Calls.mono HW.out ?_
    rintro e w11 ⟨oa', c11, rfl, hdk, hn⟩
    have HF := hid (HF.out.step hn (fun j hj => by rw [hj]; exact H2.out.dk.hB) H2.out.dk.rowB (fun e => H2.out.ne e.symm) H2.out.dx (fun a ha e => H2.out.xd a ha e) (fun a a' ha ha' => H2.out.rows a' a ha' ha) (fun a ha e => D5.out a ha e) D6.out)
    have HY := hid (bytes_any hdk)
    obtain ⟨R, hR⟩ : ∃ R, R = (wr { S' with dn := false, arm := 0 } mm l).1 := ⟨_, rfl⟩
    have hRl := hdk.len
    rw [← hR] at HY hRl
    have HRL := hid hRl
    clear hdk hn hR HW D5 D6 H2 hRl
    go_wp2_with fail
    refine Calls.mono HY.out ?_
    rintro e w12 ⟨o12, c12, rfl, ho, hb⟩
    have HX11 : Hid (x < w11.heap.size ∧ (∀ a, ox6 = some a → a.block < w11.heap.size) ∧ (∀ a, o9 = some a → a.block < w11.heap.size) ∧ w.heap.size ≤ w11.heap.size) := hid ⟨HF.out.xk.at_.1, fun a ha => (HF.out.xk.own.nw a ha).2.1, fun a ha => (HF.out.own.nw a ha).2.1, HF.out.hB⟩
    have HF := hid (HF.out.keep hb)
    have HO := hid ho
    clear ho hb HY
    obtain ⟨q, hq⟩ : ∃ q, q = R.m := ⟨_, rfl⟩
    obtain ⟨ff, hff⟩ : ∃ ff, ff = R.f := ⟨_, rfl⟩
    rw [← hq] at HO HRL ⊢
    rw [← hff] at HO
    clear hq hff
    have q0 : (q : Int) ≤ 1048576 := by have := HRL.out; omega
    go_wp2_with fail
    go_loopw [19] (fun i wr => ∃ (j : Nat) (fi : Nat → Nat), j ≤ q ∧ i = .int .i64 (j : Int) ∧ Own w11.heap.size wr .u8 5 o12 q c12 fi ∧ Fin2 w wr T w.heap.size x ox6 c6 S' o9 c9) (fun i _ => q - (intOf i).toNat)
    case atStart => exact ⟨0, ff, Nat.zero_le _, rfl, HO.out, HF.out⟩
    case round =>
      obtain ⟨j, fi, hj, rfl, ho, hfin⟩ := hrel
      have HO := hid ho
      have HF := hid hfin
      by_cases hlt : j < q
      · obtain ⟨g4, rfl, hg4, _, hc4, hf4⟩ := ho.at_ (by omega)
        have cj := hc4 j hlt
        have fj := hf4 j
        have j0 : (0 : Int) ≤ (j : Int) := by omega
        have j1 : (j : Int) < (q : Int) := by omega
        have hX := HX11.out
        have HN : Hid (Fin2 w (wr.setCell ⟨g4, j, none⟩ (.int .u8 ((0 : Nat) : Int))) T w.heap.size x ox6 c6 S' o9 c9) := hid (hfin.step (X := fun j => j = g4) (ob := none) (ob' := none) (Nxt.set (X := fun j => j = g4) rfl _ _) (fun i hi => by rw [hi]; omega) (fun _ ha => by cases ha) (by omega) (fun _ ha => by cases ha) (fun a ha e => by have := hX.2.1 a ha; omega) (fun _ _ _ ha => by cases ha) (fun a ha e => by have := hX.2.2.1 a ha; omega) (fun _ _ _ ha => by cases ha))
        have HO2 := hid (ho.stored j 0)
        clear ho hfin hc4 hf4 hX hg4
        go_wp2_with fail
        go_roundw
        case rel => exact ⟨j + 1, _, by omega, by go_num, HO2.out, HN.out⟩
        case measure => simp [intOf]; omega
      · obtain rfl : j = q := by omega
        have HY := hid (bytes_any hfin.xk)
        clear ho hfin
        go_wp2_with fail
        refine Calls.mono HY.out ?_
        rintro e w13 ⟨o13, c13, rfl, ho, hb⟩
        have HF := hid (HF.out.keep hb)
        have HQ := hid (sameb_any HF.out.own.sl ho.sl (fun _ _ => rfl))
        clear ho hb HY
        go_wp2_with fail
        refine Calls.mono HQ.out ?_
        rintro e w' ⟨rfl, rfl⟩
        have HK := hid (known_any HF.out.tab)
        go_wp2_with fail
        refine Calls.mono HK.out ?_
        rintro e w14 ⟨rfl, hb⟩
        have HBE := hid (HF.out.bel.trans (hb.mono HF.out.hB))
        clear hb
        go_wp2_with fail
        go_ret
        exact ⟨rfl, HBE.out⟩
  · have HA := hid (fail_any HD1.out)
    go_wp2_with fail
    refine Calls.mono HA.out ?_
    rintro e w3 ⟨rfl, hd3, hn3⟩
    have HBK : Hid (Below w.heap.size w w3) := hid (HB1.out.trans (hn3.below hz1 (fun j hj => by rw [hj]; exact HD1.out.hB) HD1.out.rowB))
    obtain ⟨S, hS⟩ : ∃ S, S = ({ (⟨m, f, false, 0, 0⟩ : DSt) with arm := 1 } : DSt) := ⟨_, rfl⟩
    rw [← hS] at hd3
    have HDK := hid hd3
    clear hS HD1 HB1 hd3 hn3 HA
    have HCT := hid (copy_two HBK.out HDK.out HBK.out.size hpos (HT.out.below hpos HBK.out))
    clear HDK HBK
    go_wp2_with fail
    refine Calls.mono HCT.out ?_
    rintro e w4 ⟨x, ox, cx, rfl, h2⟩
    have HW := hid (h2.write (HC.out.below h2.bel) HG.out (by omega) (fun h0 a ha e => by have := HCZ.out h0 a ha; have := h2.dk.hB; omega))
    clear h2 HCT
    go_wp2_with fail
    refine Calls.mono HW.out ?_
    rintro e w5 ⟨oa, c5, rfl, h2⟩
    have HW := hid (h2.swap.write (HC.out.below h2.bel) HG.out (by omega) (fun h0 a ha e => by have := HCZ.out h0 a ha; have := h2.xk.hB; omega))
    clear h2
    go_wp2_with fail
    refine Calls.mono HW.out ?_
    rintro e w6 ⟨ox6, c6, rfl, h2⟩
    obtain ⟨S', hS'⟩ : ∃ S', S' = (wr S mc g).1 := ⟨_, rfl⟩
    obtain ⟨E, hE⟩ : ∃ E, E = (wr S mc g).2 := ⟨_, rfl⟩
    rw [← hS'] at h2
    rw [← hE]
    have h2 := h2.swap
    have HB := hid h2.bytes
    clear h2 hS' hE HW
    go_wp2_with fail
    refine Calls.mono HB.out ?_
    rintro e w7 ⟨o7, c7, rfl, ho7, hb7, h2⟩
    have HO7 := hid ho7
    have HB := hid h2.swap.bytes
    clear h2 ho7 hb7
    go_wp2_with fail
    refine Calls.mono HB.out ?_
    rintro e w8 ⟨o8, c8, rfl, ho8, hb8, h2⟩
    have h2 := h2.swap
    have HQ := hid (sameb_any (HO7.out.below hb8).sl ho8.sl (fun _ _ => rfl))
    have H2 := hid h2
    clear h2 ho8 hb8 HB HO7
    go_wp2_with fail
    refine Calls.mono HQ.out ?_
    rintro e w' ⟨rfl, rfl⟩
    have HU := hid H2.out.up
    have HV := hid H2.out.swap.up
    obtain ⟨ub, hub⟩ : ∃ ub, ub = !S'.dn := ⟨_, rfl⟩
    rw [← hub] at HU HV
    clear hub
    go_wp2_with fail
    refine Calls.mono HU.out ?_
    rintro e w' ⟨rfl, rfl⟩
    go_wp2_with fail
    refine Calls.mono HV.out ?_
    rintro e w' ⟨rfl, rfl⟩
    have HB := hid H2.out.swap.bytes
    clear HU HV HQ
    go_wp2_with fail
    refine Calls.mono HB.out ?_
    rintro e w9 ⟨o9, c9, rfl, ho9, hb9, h2⟩
    have h2 := h2.swap
    have h2' := H2.out
    have H2 := hid h2
    have HO9 := hid ho9
    have HF := hid (Fin2.mk h2.bel h2.xk (ho9.mono h2'.hB) h2.hB h2.pos h2.tab)
    have D5 : Hid (∀ a, o9 = some a → a.block ≠ d) := hid fun a ha e => by
      have q1 := (ho9.nw a ha).1
      have q2 := h2'.dk.at_.1
      omega
    have D6 : Hid (∀ a a', o9 = some a → oa = some a' → a'.block ≠ a.block) := hid fun a a' ha ha' e => by
      have q1 := (ho9.nw a ha).1
      have q2 := (h2'.dk.own.nw a' ha').2.1
      omega
    have HS := hid (start_any h2.dk)
    clear h2 ho9 hb9 h2' HB
    go_wp2_with fail
    refine Calls.mono HS.out ?_
    rintro e w10 ⟨rfl, hdk, hn⟩
    have HF := hid (HF.out.step hn (fun j hj => by rw [hj]; exact H2.out.dk.hB) H2.out.dk.rowB (fun e => H2.out.ne e.symm) H2.out.dx (fun a ha e => H2.out.xd a ha e) (fun a a' ha ha' => H2.out.rows a' a ha' ha) (fun a ha e => D5.out a ha e) D6.out)
    have HW := hid (writeD_any hdk (HM.out.below HF.out.bel) HLL.out (by omega) (fun h0 a ha e => by have := HMZ.out h0 a ha; have := hdk.hB; omega) HF.out.hB)
    clear hdk hn HS
    go_wp2_with fail
    refine Calls.mono HW.out ?_
    rintro e w11 ⟨oa', c11, rfl, hdk, hn⟩
    have HF := hid (HF.out.step hn (fun j hj => by rw [hj]; exact H2.out.dk.hB) H2.out.dk.rowB (fun e => H2.out.ne e.symm) H2.out.dx (fun a ha e => H2.out.xd a ha e) (fun a a' ha ha' => H2.out.rows a' a ha' ha) (fun a ha e => D5.out a ha e) D6.out)
    have HY := hid (bytes_any hdk)
    obtain ⟨R, hR⟩ : ∃ R, R = (wr { S' with dn := false, arm := 0 } mm l).1 := ⟨_, rfl⟩
    have hRl := hdk.len
    rw [← hR] at HY hRl
    have HRL := hid hRl
    clear hdk hn hR HW D5 D6 H2 hRl
    go_wp2_with fail
    refine Calls.mono HY.out ?_
    rintro e w12 ⟨o12, c12, rfl, ho, hb⟩
    have HX11 : Hid (x < w11.heap.size ∧ (∀ a, ox6 = some a → a.block < w11.heap.size) ∧ (∀ a, o9 = some a → a.block < w11.heap.size) ∧ w.heap.size ≤ w11.heap.size) := hid ⟨HF.out.xk.at_.1, fun a ha => (HF.out.xk.own.nw a ha).2.1, fun a ha => (HF.out.own.nw a ha).2.1, HF.out.hB⟩
    have HF := hid (HF.out.keep hb)
    have HO := hid ho
    clear ho hb HY
    obtain ⟨q, hq⟩ : ∃ q, q = R.m := ⟨_, rfl⟩
    obtain ⟨ff, hff⟩ : ∃ ff, ff = R.f := ⟨_, rfl⟩
    rw [← hq] at HO HRL ⊢
    rw [← hff] at HO
    clear hq hff
    have q0 : (q : Int) ≤ 1048576 := by have := HRL.out; omega
    go_wp2_with fail
    go_loopw [19] (fun i wr => ∃ (j : Nat) (fi : Nat → Nat), j ≤ q ∧ i = .int .i64 (j : Int) ∧ Own w11.heap.size wr .u8 5 o12 q c12 fi ∧ Fin2 w wr T w.heap.size x ox6 c6 S' o9 c9) (fun i _ => q - (intOf i).toNat)
    case atStart => exact ⟨0, ff, Nat.zero_le _, rfl, HO.out, HF.out⟩
    case round =>
      obtain ⟨j, fi, hj, rfl, ho, hfin⟩ := hrel
      have HO := hid ho
      have HF := hid hfin
      by_cases hlt : j < q
      · obtain ⟨g4, rfl, hg4, _, hc4, hf4⟩ := ho.at_ (by omega)
        have cj := hc4 j hlt
        have fj := hf4 j
        have j0 : (0 : Int) ≤ (j : Int) := by omega
        have j1 : (j : Int) < (q : Int) := by omega
        have hX := HX11.out
        have HN : Hid (Fin2 w (wr.setCell ⟨g4, j, none⟩ (.int .u8 ((0 : Nat) : Int))) T w.heap.size x ox6 c6 S' o9 c9) := hid (hfin.step (X := fun j => j = g4) (ob := none) (ob' := none) (Nxt.set (X := fun j => j = g4) rfl _ _) (fun i hi => by rw [hi]; omega) (fun _ ha => by cases ha) (by omega) (fun _ ha => by cases ha) (fun a ha e => by have := hX.2.1 a ha; omega) (fun _ _ _ ha => by cases ha) (fun a ha e => by have := hX.2.2.1 a ha; omega) (fun _ _ _ ha => by cases ha))
        have HO2 := hid (ho.stored j 0)
        clear ho hfin hc4 hf4 hX hg4
        go_wp2_with fail
        go_roundw
        case rel => exact ⟨j + 1, _, by omega, by go_num, HO2.out, HN.out⟩
        case measure => simp [intOf]; omega
      · obtain rfl : j = q := by omega
        have HY := hid (bytes_any hfin.xk)
        clear ho hfin
        go_wp2_with fail
        refine Calls.mono HY.out ?_
        rintro e w13 ⟨o13, c13, rfl, ho, hb⟩
        have HF := hid (HF.out.keep hb)
        have HQ := hid (sameb_any HF.out.own.sl ho.sl (fun _ _ => rfl))
        clear ho hb HY
        go_wp2_with fail
        refine Calls.mono HQ.out ?_
        rintro e w' ⟨rfl, rfl⟩
        have HK := hid (known_any HF.out.tab)
        go_wp2_with fail
        refine Calls.mono HK.out ?_
        rintro e w14 ⟨rfl, hb⟩
        have HBE := hid (HF.out.bel.trans (hb.mono HF.out.hB))
        clear hb
        go_wp2_with fail
        go_ret
        exact ⟨rfl, HBE.out⟩
  · go_wp2_with fail
    refine Calls.mono (HAM50.out _) ?_
    rintro e w' ⟨⟨r, rfl, hr⟩, rfl⟩
    have HA := hid (cut_any HD1.out r)
    go_wp2_with fail
    refine Calls.mono HA.out ?_
    rintro e w3 ⟨rfl, hd3, hn3⟩
    have HBK : Hid (Below w.heap.size w w3) := hid (HB1.out.trans (hn3.below hz1 (fun j hj => by rw [hj]; exact HD1.out.hB) HD1.out.rowB))
    obtain ⟨S, hS⟩ : ∃ S, S = ({ (⟨m, f, false, 0, 0⟩ : DSt) with arm := 2, kk := r } : DSt) := ⟨_, rfl⟩
    rw [← hS] at hd3
    have HDK := hid hd3
    clear hS HD1 HB1 hd3 hn3 HA
    have HCT := hid (copy_two HBK.out HDK.out HBK.out.size hpos (HT.out.below hpos HBK.out))
    clear HDK HBK
    go_wp2_with fail
    refine Calls.mono HCT.out ?_
    rintro e w4 ⟨x, ox, cx, rfl, h2⟩
    have HW := hid (h2.write (HC.out.below h2.bel) HG.out (by omega) (fun h0 a ha e => by have := HCZ.out h0 a ha; have := h2.dk.hB; omega))
    clear h2 HCT
    go_wp2_with fail
    refine Calls.mono HW.out ?_
    rintro e w5 ⟨oa, c5, rfl, h2⟩
    have HW := hid (h2.swap.write (HC.out.below h2.bel) HG.out (by omega) (fun h0 a ha e => by have := HCZ.out h0 a ha; have := h2.xk.hB; omega))
    clear h2
    go_wp2_with fail
    refine Calls.mono HW.out ?_
    rintro e w6 ⟨ox6, c6, rfl, h2⟩
    obtain ⟨S', hS'⟩ : ∃ S', S' = (wr S mc g).1 := ⟨_, rfl⟩
    obtain ⟨E, hE⟩ : ∃ E, E = (wr S mc g).2 := ⟨_, rfl⟩
    rw [← hS'] at h2
    rw [← hE]
    have h2 := h2.swap
    have HB := hid h2.bytes
    clear h2 hS' hE HW
    go_wp2_with fail
    refine Calls.mono HB.out ?_
    rintro e w7 ⟨o7, c7, rfl, ho7, hb7, h2⟩
    have HO7 := hid ho7
    have HB := hid h2.swap.bytes
    clear h2 ho7 hb7
    go_wp2_with fail
    refine Calls.mono HB.out ?_
    rintro e w8 ⟨o8, c8, rfl, ho8, hb8, h2⟩
    have h2 := h2.swap
    have HQ := hid (sameb_any (HO7.out.below hb8).sl ho8.sl (fun _ _ => rfl))
    have H2 := hid h2
    clear h2 ho8 hb8 HB HO7
    go_wp2_with fail
    refine Calls.mono HQ.out ?_
    rintro e w' ⟨rfl, rfl⟩
    have HU := hid H2.out.up
    have HV := hid H2.out.swap.up
    obtain ⟨ub, hub⟩ : ∃ ub, ub = !S'.dn := ⟨_, rfl⟩
    rw [← hub] at HU HV
    clear hub
    go_wp2_with fail
    refine Calls.mono HU.out ?_
    rintro e w' ⟨rfl, rfl⟩
    go_wp2_with fail
    refine Calls.mono HV.out ?_
    rintro e w' ⟨rfl, rfl⟩
    have HB := hid H2.out.swap.bytes
    clear HU HV HQ
    go_wp2_with fail
    refine Calls.mono HB.out ?_
    rintro e w9 ⟨o9, c9, rfl, ho9, hb9, h2⟩
    have h2 := h2.swap
    have h2' := H2.out
    have H2 := hid h2
    have HO9 := hid ho9
    have HF := hid (Fin2.mk h2.bel h2.xk (ho9.mono h2'.hB) h2.hB h2.pos h2.tab)
    have D5 : Hid (∀ a, o9 = some a → a.block ≠ d) := hid fun a ha e => by
      have q1 := (ho9.nw a ha).1
      have q2 := h2'.dk.at_.1
      omega
    have D6 : Hid (∀ a a', o9 = some a → oa = some a' → a'.block ≠ a.block) := hid fun a a' ha ha' e => by
      have q1 := (ho9.nw a ha).1
      have q2 := (h2'.dk.own.nw a' ha').2.1
      omega
    have HS := hid (start_any h2.dk)
    clear h2 ho9 hb9 h2' HB
    go_wp2_with fail
    refine Calls.mono HS.out ?_
    rintro e w10 ⟨rfl, hdk, hn⟩
    have HF := hid (HF.out.step hn (fun j hj => by rw [hj]; exact H2.out.dk.hB) H2.out.dk.rowB (fun e => H2.out.ne e.symm) H2.out.dx (fun a ha e => H2.out.xd a ha e) (fun a a' ha ha' => H2.out.rows a' a ha' ha) (fun a ha e => D5.out a ha e) D6.out)
    have HW := hid (writeD_any hdk (HM.out.below HF.out.bel) HLL.out (by omega) (fun h0 a ha e => by have := HMZ.out h0 a ha; have := hdk.hB; omega) HF.out.hB)
    clear hdk hn HS
    go_wp2_with fail
    refine Calls.mono HW.out ?_
    rintro e w11 ⟨oa', c11, rfl, hdk, hn⟩
    have HF := hid (HF.out.step hn (fun j hj => by rw [hj]; exact H2.out.dk.hB) H2.out.dk.rowB (fun e => H2.out.ne e.symm) H2.out.dx (fun a ha e => H2.out.xd a ha e) (fun a a' ha ha' => H2.out.rows a' a ha' ha) (fun a ha e => D5.out a ha e) D6.out)
    have HY := hid (bytes_any hdk)
    obtain ⟨R, hR⟩ : ∃ R, R = (wr { S' with dn := false, arm := 0 } mm l).1 := ⟨_, rfl⟩
    have hRl := hdk.len
    rw [← hR] at HY hRl
    have HRL := hid hRl
    clear hdk hn hR HW D5 D6 H2 hRl
    go_wp2_with fail
    refine Calls.mono HY.out ?_
    rintro e w12 ⟨o12, c12, rfl, ho, hb⟩
    have HX11 : Hid (x < w11.heap.size ∧ (∀ a, ox6 = some a → a.block < w11.heap.size) ∧ (∀ a, o9 = some a → a.block < w11.heap.size) ∧ w.heap.size ≤ w11.heap.size) := hid ⟨HF.out.xk.at_.1, fun a ha => (HF.out.xk.own.nw a ha).2.1, fun a ha => (HF.out.own.nw a ha).2.1, HF.out.hB⟩
    have HF := hid (HF.out.keep hb)
    have HO := hid ho
    clear ho hb HY
    obtain ⟨q, hq⟩ : ∃ q, q = R.m := ⟨_, rfl⟩
    obtain ⟨ff, hff⟩ : ∃ ff, ff = R.f := ⟨_, rfl⟩
    rw [← hq] at HO HRL ⊢
    rw [← hff] at HO
    clear hq hff
    have q0 : (q : Int) ≤ 1048576 := by have := HRL.out; omega
    go_wp2_with fail
    go_loopw [19] (fun i wr => ∃ (j : Nat) (fi : Nat → Nat), j ≤ q ∧ i = .int .i64 (j : Int) ∧ Own w11.heap.size wr .u8 5 o12 q c12 fi ∧ Fin2 w wr T w.heap.size x ox6 c6 S' o9 c9) (fun i _ => q - (intOf i).toNat)
    case atStart => exact ⟨0, ff, Nat.zero_le _, rfl, HO.out, HF.out⟩
    case round =>
      obtain ⟨j, fi, hj, rfl, ho, hfin⟩ := hrel
      have HO := hid ho
      have HF := hid hfin
      by_cases hlt : j < q
      · obtain ⟨g4, rfl, hg4, _, hc4, hf4⟩ := ho.at_ (by omega)
        have cj := hc4 j hlt
        have fj := hf4 j
        have j0 : (0 : Int) ≤ (j : Int) := by omega
        have j1 : (j : Int) < (q : Int) := by omega
        have hX := HX11.out
        have HN : Hid (Fin2 w (wr.setCell ⟨g4, j, none⟩ (.int .u8 ((0 : Nat) : Int))) T w.heap.size x ox6 c6 S' o9 c9) := hid (hfin.step (X := fun j => j = g4) (ob := none) (ob' := none) (Nxt.set (X := fun j => j = g4) rfl _ _) (fun i hi => by rw [hi]; omega) (fun _ ha => by cases ha) (by omega) (fun _ ha => by cases ha) (fun a ha e => by have := hX.2.1 a ha; omega) (fun _ _ _ ha => by cases ha) (fun a ha e => by have := hX.2.2.1 a ha; omega) (fun _ _ _ ha => by cases ha))
        have HO2 := hid (ho.stored j 0)
        clear ho hfin hc4 hf4 hX hg4
        go_wp2_with fail
        go_roundw
        case rel => exact ⟨j + 1, _, by omega, by go_num, HO2.out, HN.out⟩
        case measure => simp [intOf]; omega
      · obtain rfl : j = q := by omega
        have HY := hid (bytes_any hfin.xk)
        clear ho hfin
        go_wp2_with fail
        refine Calls.mono HY.out ?_
        rintro e w13 ⟨o13, c13, rfl, ho, hb⟩
        have HF := hid (HF.out.keep hb)
        have HQ := hid (sameb_any HF.out.own.sl ho.sl (fun _ _ => rfl))
        clear ho hb HY
        go_wp2_with fail
        refine Calls.mono HQ.out ?_
        rintro e w' ⟨rfl, rfl⟩
        have HK := hid (known_any HF.out.tab)
        go_wp2_with fail
        refine Calls.mono HK.out ?_
        rintro e w14 ⟨rfl, hb⟩
        have HBE := hid (HF.out.bel.trans (hb.mono HF.out.hB))
        clear hb
        go_wp2_with fail
        go_ret
        exact ⟨rfl, HBE.out⟩

end Go.Proofs.Ytkkcaicihhkahaa
