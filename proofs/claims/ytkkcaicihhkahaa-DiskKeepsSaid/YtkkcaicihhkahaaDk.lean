/-
  The walks of bytes.Equal and of disk's record.
-/
import Derived.Test.YtkkcaicihhkahaaDj
import Derived.Laws.BytesArg
namespace Go.Proofs.Ytkkcaicihhkahaa
open Go.RowKit

/-- The text that n bytes make. -/
def txt (g : Nat → Nat) (n : Nat) : ByteArray := strOfNums ((List.range n).map fun j => ((g j : Nat) : Int))

/-- 'string(b)' of a slice that reads as bytes. -/
theorem txt_convert {w : World} {oa : Option Addr} {n c : Nat} {g : Nat → Nat} (hs : Sl w .u8 oa n c g) : (convert 27 9 (.slice oa n c)).run Try.prog w = .ok (.string (txt g n)) w := by
  rcases Nat.eq_zero_or_pos n with hn | hn
  · subst hn
    rw [run_convert_bytes_string (P := Try.prog) w 27 9 5 oa 0 c Try.underlying27 Try.underlying5 Try.underlying9]
    cases oa <;> simp [Conv.bytesToString, loadCells]
    all_goals rfl
  · obtain ⟨b, off, rfl, hlt, hc⟩ := hs.at_ hn
    exact run_convert_bytes_arg (P := Try.prog) w 27 5 Try.underlying27 Try.underlying5 b off n c _ (by simp) (fun i hi => by rw [hc i hi]; simp [hi]) 9 Try.underlying9

theorem txt_congr {f g : Nat → Nat} {n : Nat} (h : ∀ j, j < n → f j = g j) : txt f n = txt g n := by
  unfold txt
  congr 1
  exact List.map_congr_left fun j hj => by rw [h j (List.mem_range.1 hj)]

theorem txt_inj {f g : Nat → Nat} {n : Nat} (hf : ∀ j, f j < 256) (hg : ∀ j, g j < 256) (h : (txt f n).toList = (txt g n).toList) : ∀ j, j < n → f j = g j := by
  intro j hj
  have h1 : (txt f n).data.toList = (txt g n).data.toList := by rw [← ByteArray.toList_eq, ← ByteArray.toList_eq, h]
  unfold txt at h1
  rw [strOfNums_data, strOfNums_data] at h1
  have h2 := congrArg (fun l : List UInt8 => l[j]?) h1
  simp [hj] at h2
  have h3 := congrArg UInt8.toNat h2
  simp at h3
  have a := hf j
  have b := hg j
  omega

/-- Whether two rows of bytes of one length are the same. -/
theorem equal_any {w : World} {oa ob : Option Addr} {n c d : Nat} {f g : Nat → Nat} (ha : Sl w .u8 oa n c f) (hb : Sl w .u8 ob n d g) :
    Calls Try.prog 32 #[.slice oa n c, .slice ob n d] w fun e w' => e = .returned (.bool ((txt f n).toList == (txt g n).toList)) ∧ w = w' := by
  have h1 := txt_convert ha
  have h2 := txt_convert hb
  clear ha hb
  generalize txt g n = t at *
  generalize txt f n = s at *
  go_enter Try.func32, Try.ntmps32
  go_wp2_with fail
  go_ret
  exact ⟨rfl, rfl⟩

theorem sameb_any {w : World} {oa ob : Option Addr} {n c d : Nat} {f g : Nat → Nat} (ha : Sl w .u8 oa n c f) (hb : Sl w .u8 ob n d g) (hfg : ∀ j, j < n → f j = g j) :
    Calls Try.prog 21 #[.slice oa n c, .slice ob n d] w fun e w' => e = .returned (.bool true) ∧ w = w' := by
  have h1 := txt_convert ha
  have h2 := txt_convert hb
  rw [txt_congr hfg] at h1
  clear ha hb hfg
  generalize txt g n = t at *
  go_enter Try.func21, Try.ntmps21
  go_wp2_with fail
  go_ret
  exact ⟨rfl, rfl⟩

theorem recordB_any {w : World} {oa : Option Addr} {c : Nat} {f T : Nat → Nat} (hs : Sl w .u8 oa 24 c f) (hf : ∀ i, f i < 256) (ht : Ar w .u64 0 80 T) (htl : ∀ j, j < 80 → T j < 18446744073709551616) :
    Calls Try.prog 27 #[.slice oa 24 c] w fun e w' => e = .returned (.bool (isRcB (hd T) f 0)) ∧ Below w.heap.size w w' := by
  have HN := hid (numbers_any hs hf)
  have HR := hid (record_any (N := num8 f 0) (t := sgn (num8 f 8)) ht htl)
  have HS := hid hs
  have HF := hid hf
  clear hs hf ht htl
  have HE : Hid (((txt f 24).toList == (txt (rc (hd T) (num8 f 0) (sgn (num8 f 8))) 24).toList) = isRcB (hd T) f 0) := by
    refine hid ?_
    rw [Bool.eq_iff_iff, isRcB_iff]
    constructor
    · intro h i hi
      rw [Nat.zero_add]
      exact txt_inj HF.out (rc_lt T _ _) (eq_of_beq h) i hi
    · intro h
      rw [txt_congr (f := f) (g := rc (hd T) (num8 f 0) (sgn (num8 f 8))) (fun j hj => by have := h j hj; rw [Nat.zero_add] at this; exact this)]
      exact beq_self_eq_true _
  go_enter Try.func27, Try.ntmps27
  go_wp2_with fail
  refine Calls.mono HN.out ?_
  rintro e w' ⟨rfl, rfl⟩
  go_wp2_with fail
  refine Calls.mono HR.out ?_
  rintro e w1 ⟨o, c1, rfl, ho, hb⟩
  have HQ := hid (equal_any (HS.out.below hb) ho.sl)
  have HB := hid hb
  clear ho hb HN HR
  go_wp2_with fail
  refine Calls.mono HQ.out ?_
  rintro e w' ⟨rfl, rfl⟩
  rw [HE.out]
  go_wp2_with fail
  go_ret
  exact ⟨rfl, HB.out⟩

end Go.Proofs.Ytkkcaicihhkahaa
