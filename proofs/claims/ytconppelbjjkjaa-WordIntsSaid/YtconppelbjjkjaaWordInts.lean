/- The law WordInts: its walk. -/
import Derived.Test.YtconppelbjjkjaaWordBack
namespace Go.Proofs.Ytconppelbjjkjaa
open Go.RowKit
set_option maxHeartbeats 400000

theorem wordInts_walk (a0 : Int) (w0 : (Lit.int .i64 a0).wf = true) (a1 : Int) (w1 : (Lit.int .u64 a1).wf = true) (a2 : Int) (w2 : (Lit.int .u64 a2).wf = true) (w : World) :
    Calls Try.prog 6 #[.int .i64 a0, .int .u64 a1, .int .u64 a2] w fun e w' => e = .returned (.bool true) ∧ Below w.heap.size w w' := by
  obtain ⟨h0, h1⟩ := bd_i64 w0
  obtain ⟨h2, h3⟩ := bd_u64 w1
  obtain ⟨h4, h5⟩ := bd_u64 w2
  clear w0 w1 w2
  obtain ⟨p0, p1⟩ := wrap32_bd a0
  have g : ofPair (a1 / 4294967296 - 2147483648) (a1 % 4294967296 - 2147483648) = a1 := by unfold ofPair; omega
  go_enter Try.func6, Try.ntmps6
  go_wp2_with fail
  refine (pair_any _ h2 h3 _).mono ?_
  rintro e w' ⟨rfl, rfl⟩
  go_wp2_with fail
  refine (ofInt_any _ h0 h1 _).mono ?_
  rintro e w' ⟨rfl, rfl⟩
  go_wp2_with fail
  refine (ofInt_ref _ h0 h1 _).mono ?_
  rintro e w' ⟨rfl, rfl⟩
  go_wp2_with fail
  refine (int_any _ h2 h3 _).mono ?_
  rintro e w' ⟨rfl, rfl⟩
  go_wp2_with fail
  refine (int_ref _ h2 h3 _).mono ?_
  rintro e w' ⟨rfl, rfl⟩
  go_wp2_with fail
  refine (ofPair_any _ _ (by omega) (by omega) (by omega) (by omega) _).mono ?_
  rintro e w' ⟨rfl, rfl⟩
  go_wp2_with fail
  refine (ofPair_any _ _ (by omega) (by omega) (by omega) (by omega) _).mono ?_
  rintro e w' ⟨rfl, rfl⟩
  go_wp2_with fail
  refine (ofPair_ref _ _ (by omega) (by omega) (by omega) (by omega) _).mono ?_
  rintro e w' ⟨rfl, rfl⟩
  go_wp2_with fail
  refine (middle_any _ _ h2 h3 h4 h5 _).mono ?_
  rintro e w' ⟨rfl, rfl⟩
  go_wp2_with fail
  refine (middle_ref _ _ h2 h3 h4 h5 _).mono ?_
  rintro e w' ⟨rfl, rfl⟩
  go_wp2_with fail
  refine (known_any _).mono ?_
  rintro e w' ⟨rfl, rfl⟩
  go_wp2_with fail
  go_ret
  exact ⟨rfl, Below.refl _ _⟩
end Go.Proofs.Ytconppelbjjkjaa
