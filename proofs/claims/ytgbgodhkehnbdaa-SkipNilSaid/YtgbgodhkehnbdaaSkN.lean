/- SkipNil: the law's walk: no tx. -/
import Derived.Test.YtgbgodhkehnbdaaSkK
namespace Go.Proofs.Ytgbgodhkehnbdaa
open Go.RowKit
set_option maxHeartbeats 2000000
set_option linter.unusedVariables false
set_option linter.unusedSimpArgs false

theorem search_nil (a x : Int) (p : Bool) (w : World) : Calls Try.prog 27 #[.nilIface, .int .u64 a, .int .u64 x, .bool p] w fun e w' => e = .returned (.tuple #[.pointer none, .int .i64 1]) ∧ w = w' := by
  go_enter Try.func27, Try.ntmps27
  go_wp2
  go_step3
  go_wp2
  rw [Exit.noGoto_ret]
  go_ret2
  exact ⟨rfl, rfl⟩
def Nl (r : Ending) (B : Nat) (w : World) (e : Ending) (w' : World) : Prop := e = r ∧ Below B w w'
theorem insert_nil (r a x l : Int) (w : World) {B : Nat} (hB : B ≤ w.heap.size) : Calls Try.prog 24 #[.nilIface, .int .u64 r, .int .u64 a, .int .u64 x, .int .i64 l] w (Nl (.returned (.tuple #[.bool false, .int .i64 1])) B w) := by
  go_enter Try.func24, Try.ntmps24
  go_wp2_with (go_at_call 27; refine (search_nil _ _ _ _).mono ?_; rintro e _ ⟨rfl, rfl⟩)
  go_quiet (fail)
  go_wp2
  go_ret2
  exact ⟨rfl, below_drewNs (((Below.refl _ _).alloc hB _).alloc (by simp; omega) _) _⟩
theorem remove_nil (r a x : Int) (w : World) : Calls Try.prog 15 #[.nilIface, .int .u64 r, .int .u64 a, .int .u64 x] w fun e w' => e = .returned (.tuple #[.bool false, .int .i64 1]) ∧ w = w' := by
  go_enter Try.func15, Try.ntmps15
  go_wp2_with (go_at_call 27; refine (search_nil _ _ _ _).mono ?_; rintro e _ ⟨rfl, rfl⟩)
  go_ret2
  exact ⟨rfl, rfl⟩
theorem has_nil (a x : Int) (w : World) : Calls Try.prog 14 #[.nilIface, .int .u64 a, .int .u64 x] w fun e w' => e = .returned (.tuple #[.bool false, .int .i64 1]) ∧ w = w' := by
  go_enter Try.func14, Try.ntmps14
  go_wp2_with (go_at_call 27; refine (search_nil _ _ _ _).mono ?_; rintro e _ ⟨rfl, rfl⟩)
  go_ret2
  exact ⟨rfl, rfl⟩
theorem after_nil (a x : Int) (w : World) : Calls Try.prog 26 #[.nilIface, .int .u64 a, .int .u64 x] w fun e w' => e = .returned (.tuple #[.int .u64 0, .bool false, .int .i64 1]) ∧ w = w' := by
  go_enter Try.func26, Try.ntmps26
  go_wp2_with (go_at_call 27; refine (search_nil _ _ _ _).mono ?_; rintro e _ ⟨rfl, rfl⟩)
  go_ret3
  exact ⟨rfl, rfl⟩
theorem keys_nil (a : Int) (w : World) : Calls Try.prog 12 #[.nilIface, .int .u64 a] w fun e w' => e = .returned (.tuple #[.slice none 0 0, .int .i64 1]) ∧ w = w' := by
  go_enter Try.func12, Try.ntmps12
  go_wp2
  go_ret2
  exact ⟨rfl, rfl⟩

theorem first_nil (a : Int) (w : World) : Calls Try.prog 25 #[.nilIface, .int .u64 a] w fun e w' => e = .returned (.tuple #[.int .u64 0, .bool false, .int .i64 1]) ∧ w = w' := by
  go_enter Try.func25, Try.ntmps25
  go_wp2
  go_ret3
  exact ⟨rfl, rfl⟩
theorem new_nil (a : Int) (w : World) : Calls Try.prog 23 #[.nilIface, .int .u64 a] w fun e w' => e = .returned (.tuple #[.int .u64 0, .int .i64 1]) ∧ w = w' := by
  go_enter Try.func23, Try.ntmps23
  go_wp2
  go_ret2
  exact ⟨rfl, rfl⟩
theorem len_nil (a : Int) (w : World) : Calls Try.prog 13 #[.nilIface, .int .u64 a] w fun e w' => e = .returned (.tuple #[.int .i64 0, .int .i64 1]) ∧ w = w' := by
  go_enter Try.func13, Try.ntmps13
  go_wp2_with (go_at_call 12; refine (keys_nil _ _).mono ?_; rintro e _ ⟨rfl, rfl⟩)
  go_ret2
  exact ⟨rfl, rfl⟩
theorem lay_nil (a : Int) (w : World) : Calls Try.prog 18 #[.nilIface, .int .u64 a] w fun e w' => e = .returned (.int .i64 1) ∧ w = w' := by
  go_enter Try.func18, Try.ntmps18
  go_wp2
  go_ret
  exact ⟨rfl, rfl⟩
set_option maxRecDepth 100000 in
theorem skipNil_walk (W : World) : Calls Try.prog 6 #[] W fun e w' => e = .returned (.bool true) ∧ Below W.heap.size W w' := by
  go_enter Try.func6, Try.ntmps6
  go_wp2_with (first
    | (go_at_call 24; refine (insert_nil _ _ _ _ _ (B := W.heap.size) (Nat.le_refl _)).mono ?_; rintro e w1 ⟨rfl, hb1⟩)
    | (go_at_call 15; refine (remove_nil _ _ _ _).mono ?_; rintro e _ ⟨rfl, rfl⟩)
    | (go_at_call 14; refine (has_nil _ _ _).mono ?_; rintro e _ ⟨rfl, rfl⟩)
    | (go_at_call 26; refine (after_nil _ _ _).mono ?_; rintro e _ ⟨rfl, rfl⟩)
    | (go_at_call 12; refine (keys_nil _ _).mono ?_; rintro e _ ⟨rfl, rfl⟩)
    | (go_at_call 11; refine (known_b _).mono ?_; rintro e w2 ⟨rfl, hb2⟩)
    | (go_at_call 16; refine (num_b _ _).mono ?_; rintro e _ ⟨rfl, rfl⟩)
    | (go_at_call 25; refine (first_nil _ _).mono ?_; rintro e _ ⟨rfl, rfl⟩)
    | (go_at_call 23; refine (new_nil _ _).mono ?_; rintro e _ ⟨rfl, rfl⟩)
    | (go_at_call 13; refine (len_nil _ _).mono ?_; rintro e _ ⟨rfl, rfl⟩)
    | (go_at_call 18; refine (lay_nil _ _).mono ?_; rintro e _ ⟨rfl, rfl⟩))
  go_ret
  exact ⟨rfl, hb1.trans (hb2.mono hb1.size)⟩
end Go.Proofs.Ytgbgodhkehnbdaa
