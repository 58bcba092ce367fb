/-
  The walk of DiskNil.
-/
import Derived.Test.YtkkcaicihhkahaaDu
namespace Go.Proofs.Ytkkcaicihhkahaa
open Go.RowKit

theorem nilOpen (w : World) : Calls Try.prog 10 #[.pointer none] w fun e w' => e = .returned (.tuple #[.pointer none, .int .i64 3]) ∧ w = w' := by
  go_enter Try.func10, Try.ntmps10
  go_wp2_with fail
  go_ret2
  exact ⟨rfl, rfl⟩

theorem nilLast (w : World) : Calls Try.prog 16 #[.pointer none] w fun e w' => e = .returned (.tuple #[.int .u64 0, .int .i64 0]) ∧ w = w' := by
  go_enter Try.func16, Try.ntmps16
  go_wp2_with fail
  go_ret2
  exact ⟨rfl, rfl⟩

theorem nilFail (w : World) : Calls Try.prog 17 #[.pointer none] w fun e w' => e = .returned (.int .i64 3) ∧ w = w' := by
  go_enter Try.func17, Try.ntmps17
  go_wp2_with fail
  go_ret
  exact ⟨rfl, rfl⟩

theorem nilCut (n : Int) (w : World) : Calls Try.prog 18 #[.pointer none, .int .i64 n] w fun e w' => e = .returned (.int .i64 3) ∧ w = w' := by
  go_enter Try.func18, Try.ntmps18
  go_wp2_with fail
  go_ret
  exact ⟨rfl, rfl⟩

theorem nilWrite (v : Value) (w : World) : Calls Try.prog 13 #[.pointer none, v] w fun e w' => e = .returned (.int .i64 3) ∧ w = w' := by
  go_enter Try.func13, Try.ntmps13
  go_wp2_with fail
  go_ret
  exact ⟨rfl, rfl⟩

theorem nilStart (w : World) : Calls Try.prog 19 #[.pointer none] w fun e w' => e = .returned (.int .i64 3) ∧ w = w' := by
  go_enter Try.func19, Try.ntmps19
  go_wp2_with fail
  go_ret
  exact ⟨rfl, rfl⟩

theorem nilUp (w : World) : Calls Try.prog 22 #[.pointer none] w fun e w' => e = .returned (.bool false) ∧ w = w' := by
  go_enter Try.func22, Try.ntmps22
  go_wp2_with fail
  go_ret
  exact ⟨rfl, rfl⟩

theorem nilBytes (w : World) : Calls Try.prog 14 #[.pointer none] w fun e w' => e = .returned (.slice none 0 0) ∧ w = w' := by
  go_enter Try.func14, Try.ntmps14
  go_wp2_with fail
  go_ret
  exact ⟨rfl, rfl⟩

theorem nilCopy (w : World) : Calls Try.prog 23 #[.pointer none] w fun e w' => e = .returned (.pointer none) ∧ w = w' := by
  go_enter Try.func23, Try.ntmps23
  go_wp2_with fail
  go_ret
  exact ⟨rfl, rfl⟩

theorem nilAdd (s t : Int) (w : World) : Calls Try.prog 11 #[.pointer none, .int .u64 s, .int .i64 t] w fun e w' => e = .returned (.int .i64 3) ∧ w = w' := by
  go_enter Try.func11, Try.ntmps11
  go_wp2_with fail
  go_ret
  exact ⟨rfl, rfl⟩

set_option maxRecDepth 100000 in
set_option maxHeartbeats 3200000 in
theorem diskNil_any {w : World} {T : Nat → Nat} (hT : Tab w T) (oa : Option Addr) (m c : Nat) (n t : Int) : Calls Try.prog 7 #[.slice oa m c, .int .i64 n, .int .i64 t] w fun e w' => e = .returned (.bool true) ∧ Below w.heap.size w w' := by
  have HK := hid (known_any hT)
  clear hT
  go_enter Try.func7, Try.ntmps7
  go_wp2_with (first
    | (go_at_call 10; refine Calls.mono (nilOpen _) ?_; rintro e w' ⟨rfl, rfl⟩)
    | (go_at_call 16; refine Calls.mono (nilLast _) ?_; rintro e w' ⟨rfl, rfl⟩)
    | (go_at_call 17; refine Calls.mono (nilFail _) ?_; rintro e w' ⟨rfl, rfl⟩)
    | (go_at_call 18; refine Calls.mono (nilCut _ _) ?_; rintro e w' ⟨rfl, rfl⟩)
    | (go_at_call 13; refine Calls.mono (nilWrite _ _) ?_; rintro e w' ⟨rfl, rfl⟩)
    | (go_at_call 19; refine Calls.mono (nilStart _) ?_; rintro e w' ⟨rfl, rfl⟩)
    | (go_at_call 22; refine Calls.mono (nilUp _) ?_; rintro e w' ⟨rfl, rfl⟩)
    | (go_at_call 14; refine Calls.mono (nilBytes _) ?_; rintro e w' ⟨rfl, rfl⟩)
    | (go_at_call 23; refine Calls.mono (nilCopy _) ?_; rintro e w' ⟨rfl, rfl⟩)
    | (go_at_call 11; refine Calls.mono (nilAdd _ _ _) ?_; rintro e w' ⟨rfl, rfl⟩)
    | (go_at_call 15; refine Calls.mono HK.out ?_; rintro e w' ⟨rfl, hb⟩))
  go_ret
  exact ⟨rfl, hb⟩

end Go.Proofs.Ytkkcaicihhkahaa
