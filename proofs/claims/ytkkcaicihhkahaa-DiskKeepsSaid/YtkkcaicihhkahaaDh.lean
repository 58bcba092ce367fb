/-
  The walk of disk's Record.
-/
import Derived.Test.YtkkcaicihhkahaaDg
import Derived.Test.YtkkcaicihhkahaaJrn
namespace Go.Proofs.Ytkkcaicihhkahaa
open Go.RowKit

/-- The sixteen bytes of a serial and a time. -/
def body (s : Nat) (t : Int) : Nat → Nat := fun i => if i < 8 then by8 s i else by8 (uns t) (i - 8)

theorem body_lt (s : Nat) (t : Int) (i : Nat) : body s t i < 256 := by
  unfold body
  split <;> exact by8_lt _ _

/-- A record's digest. -/
def hd (T : Nat → Nat) (s : Nat) (t : Int) : Nat → Nat := dig T (body s t)

theorem rc_cat {T : Nat → Nat} {s : Nat} {t : Int} (i : Nat) : cat (body s t) 16 (hd T s t) i = rc (hd T) s t i := by
  unfold rc
  by_cases h : i < 16
  · rw [cat_left h, body]
    by_cases h8 : i < 8
    · rw [if_pos h8, if_pos h8]
    · rw [if_neg h8, if_neg h8, if_pos h]
  · rw [cat_right (by omega), if_neg (by omega), if_neg h]

theorem rc_lt (T : Nat → Nat) (s : Nat) (t : Int) (i : Nat) : rc (hd T) s t i < 256 := by
  rw [← rc_cat]
  unfold cat
  split
  · exact body_lt _ _ _
  · exact dig_lt _ _ _

/-- A byte as the walk meets it. -/
theorem by8_int {N j k : Nat} (hk : k + j = 7) : ((N : Int) / 2 ^ (8 * k) % 256) = ((by8 N j : Nat) : Int) := by
  unfold by8
  rw [show 7 - j = k from by omega, show (256 : Nat) = 2 ^ 8 from rfl, ← Nat.pow_mul]
  simp

theorem upd_body {f : Nat → Nat} {j v : Nat} (_ : 0 ≤ j) (h : f j = v) (i : Nat) : upd f j v i = f i := by
  rw [← h]
  exact upd_self f j i

theorem uns_int (t : Int) : t % 18446744073709551616 = ((uns t : Nat) : Int) := by unfold uns; omega

set_option maxRecDepth 100000 in
set_option maxHeartbeats 1600000 in
theorem record_any {w : World} {N : Nat} {t : Int} {T : Nat → Nat} (ht : Ar w .u64 0 80 T) (htl : ∀ j, j < 80 → T j < 18446744073709551616) :
    Calls Try.prog 29 #[.int .u64 (N : Nat), .int .i64 t] w fun e w' => ∃ o c, e = .returned (.slice o 24 c) ∧ Own w.heap.size w' .u8 5 o 24 c (rc (hd T) N t) ∧ Below w.heap.size w w' := by
  have HT := hid ht
  have HTL := hid htl
  clear ht htl
  go_enter Try.func29, Try.ntmps29
  go_wp2_with fail
  go_loopw [5, 6] (fun e k wr => ∃ (j cj : Nat) (oj : Option Addr), j ≤ 8 ∧ e = .slice oj j cj ∧ k = .int .i64 (56 - 8 * (j : Int)) ∧ Own w.heap.size wr .u8 5 oj j cj (body N t) ∧ Below w.heap.size w wr) (fun e _ _ => 8 - lenV e)
  case atStart => exact ⟨0, 0, none, by decide, rfl, rfl, Own.nil _ _ _ _ _, Below.refl _ _⟩
  case round =>
    obtain ⟨j, cj, oj, hj, rfl, rfl, hoj, hbl⟩ := hrel
    have HO := hid hoj
    have HB := hid hbl
    have hz := hbl.size
    clear hoj hbl
    by_cases hlt : j < 8
    · obtain ⟨k, hk⟩ : ∃ k, k + j = 7 := ⟨7 - j, by omega⟩
      have ek : (56 : Int) - 8 * (j : Int) = ((8 * k : Nat) : Int) := by omega
      rw [ek]
      have k7 : (k : Int) < 8 := by omega
      have HJ := hid hk
      have HPV := hid (by8_int (N := N) hk)
      clear ek hk
      go_wp2_with (at_builtin; rw [HPV.out]; refine wpList_app1 (w0 := wr) (v := by8 N j) rfl _ _ k8 rfl w.heap.size j oj cj (body N t) rfl rfl HO.out (by omega) hz ?_)
      intro oa' c' w' h1 h2 h3
      have HO2 := hid (h1.congr (g := body N t) fun i _ => upd_body (by omega) (by unfold body; rw [if_pos hlt]) i)
      have HB2 := hid (HB.out.trans (h3))
      clear h1 h2 h3
      go_wp2_with fail
      go_roundw
      case rel => exact ⟨j + 1, c', oa', by omega, rfl, by have := HJ.out; go_num, HO2.out, HB2.out⟩
      case measure => simp [lenV]; omega
    · obtain rfl : j = 8 := by omega
      go_wp2_with fail
      rw [show (56 : Int) - 8 * ((8 : Nat) : Int) = -8 from rfl]
      go_loopw [5, 7] (fun e k wr => ∃ (j cj : Nat) (oj : Option Addr), j ≤ 8 ∧ e = .slice oj (8 + j) cj ∧ k = .int .i64 (56 - 8 * (j : Int)) ∧ Own w.heap.size wr .u8 5 oj (8 + j) cj (body N t) ∧ Below w.heap.size w wr) (fun e _ _ => 16 - lenV e)
      case atStart => exact ⟨0, cj, oj, by decide, rfl, rfl, HO.out, HB.out⟩
      case round =>
        obtain ⟨j, cj, oj, hj, rfl, rfl, hoj, hbl⟩ := hrel
        have HO := hid hoj
        have HB := hid hbl
        have hz := hbl.size
        clear hoj hbl
        by_cases hlt : j < 8
        · obtain ⟨k, hk⟩ : ∃ k, k + j = 7 := ⟨7 - j, by omega⟩
          have ek : (56 : Int) - 8 * (j : Int) = ((8 * k : Nat) : Int) := by omega
          rw [ek]
          have k7 : (k : Int) < 8 := by omega
          have HJ := hid hk
          have HPV : Hid (IntKind.u64.wrap t / 2 ^ (8 * k) % 256 = ((by8 (uns t) j : Nat) : Int)) := by
            rw [IntKind.wrap_u64, uns_int t]
            exact hid (by8_int (N := uns t) hk)
          clear ek hk
          go_wp2_with (at_builtin; rw [HPV.out]; refine wpList_app1 (w0 := wr) (v := by8 (uns t) j) rfl _ _ k8 rfl w.heap.size (8 + j) oj cj (body N t) rfl rfl HO.out (by omega) hz ?_)
          intro oa' c' w' h1 h2 h3
          have HO2 := hid (h1.congr (g := body N t) fun i _ => upd_body (j := 8 + j) (by omega) (by unfold body; rw [if_neg (by omega)]; congr 1; omega) i)
          have HB2 := hid (HB.out.trans (h3))
          clear h1 h2 h3
          go_wp2_with fail
          go_roundw
          case rel => exact ⟨j + 1, c', oa', by omega, rfl, by have := HJ.out; go_num, HO2.out, HB2.out⟩
          case measure => simp [lenV]; omega
        · obtain rfl : j = 8 := by omega
          have HDG := hid (digest_any (w := wr) (T := T) (f := body N t) (HO.out.sl) (HT.out.below HB.out) (body_lt N t) HTL.out)
          go_wp2_with fail
          refine Calls.mono HDG.out ?_
          rintro e w2 ⟨o, c2, rfl, hs2, hb2⟩
          have HS2 := hid (hs2.take (m := 8) (by decide))
          have HO2 := hid (HO.out.below hb2)
          have HB2 : Hid (Below w.heap.size w w2) := hid (HB.out.trans (hb2.mono hz))
          have hz2 : w.heap.size ≤ w2.heap.size := HB2.out.size
          have hsl : ∀ w : World, (Instr.slice 27 (.slice o 32 c2) none (some (.int .i64 8)) none).run Try.prog w = .ok (.slice o 8 c2) w := by
            obtain ⟨i8, hi, _⟩ := k8.hi
            exact run_upto (P := Try.prog) 27 5 i8 Try.underlying27 hi o 32 c2 8 (Nat.le_trans (by decide) hs2.len_le)
          clear hs2 hb2 HDG
          go_wp2_with (at_builtin; refine wpList_app rfl _ _ k8 rfl w.heap.size 16 8 oj o cj c2 (body N t) (hd T N t) rfl rfl HO2.out HS2.out (by decide) hz2 ?_)
          intro oa' c' w' h1 h2 h3
          have HO3 := hid (h1.congr (g := rc (hd T) N t) fun i _ => rc_cat i)
          have HB3 := hid (HB2.out.trans h3)
          clear h1 h2 h3 hsl
          go_wp2_with fail
          go_ret
          exact ⟨oa', c', rfl, HO3.out, HB3.out⟩

end Go.Proofs.Ytkkcaicihhkahaa
