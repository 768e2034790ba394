/- (*events.look).wrong by contract, whatever the event. -/
import Derived.Test.YtloiadhdkgkjkaaEvE
import Derived.Test.YtloiadhdkgkjkaaEvF
import Derived.Test.YtloiadhdkgkjkaaEvG
import Derived.Test.YtloiadhdkgkjkaaEvH
namespace Go.Proofs.Ytloiadhdkgkjkaa
open Go.RowKit
theorem wrong_b {B b n : Nat} {w : World} {s : St} {m : Nat → Option Nat} {tv : Value} (h : LookW B w b s n m tv) (hs : StBd s n) (hn : n ≤ 1152921504606846976) (e : Ev) (he : EvWf e) :
    Calls Try.prog 73 #[.pointer (some ⟨b, 0, none⟩), evV e] w fun x w' => x = .returned (.int .i64 (wrong s e)) ∧ Below w.heap.size w w' := by
  cases hf : fmd e with
  | false =>
    have e1 : wrong s e = 201 := by unfold wrong wrg; rw [hf]; rfl
    rw [e1]
    exact wrong_form e he hf
  | true =>
    obtain ⟨⟨h0, h8⟩, k1, k12⟩ := fmd_bd hf
    obtain ⟨th, kd, ad, wd, ow, er⟩ := e
    dsimp only at h0 h8 k1 k12
    obtain ⟨t, rfl⟩ := Int.eq_ofNat_of_zero_le h0
    obtain ⟨k, rfl⟩ := Int.eq_ofNat_of_zero_le (show 0 ≤ kd by omega)
    have ht : t < 8 := by omega
    have hk : k < 13 := by omega
    by_cases htb : tb (s.th t).how k = 0
    · have e1 : wrong s ⟨t, k, ad, wd, ow, er⟩ = 230 := by
        unfold wrong wrg
        dsimp only
        rw [hf, Int.toNat_natCast, if_neg (by simp), if_pos (.inl htb)]
      rw [e1]
      exact wrong_turn h ht hk (hs.how t) he hf htb
    · have hh := hs.how t
      have hc : ((s.th t).how = 0 ∧ (k = 1 ∨ k = 9 ∨ k = 10 ∨ k = 11 ∨ k = 12)) ∨ ((s.th t).how = 1 ∧ (k = 2 ∨ k = 3 ∨ k = 4 ∨ k = 5 ∨ k = 6 ∨ k = 7 ∨ k = 8 ∨ k = 9)) ∨ ((s.th t).how = 2 ∧ k = 6) := by
        unfold tb at htb
        repeat' split at htb
        all_goals omega
      rcases hc with ⟨hw, rfl | rfl | rfl | rfl | rfl⟩ | ⟨hw, rfl | rfl | rfl | rfl | rfl | rfl | rfl | rfl⟩ | ⟨hw, rfl⟩
      · exact wrong_begin h hs hn ht hw he hf
      · exact wrong_fail0 h hs hn ht hw he hf
      · exact wrong_loaded h hs hn ht hw he hf
      · exact wrong_stored h hs hn ht hw he hf
      · exact wrong_halted h hs hn ht hw he hf
      · exact wrong_read h hs hn ht hw he hf
      · exact wrong_write h hs hn ht hw he hf
      · exact wrong_moved h hs hn ht hw he hf
      · exact wrong_locked h hs hn ht hw he hf
      · exact wrong_commit1 h hs hn ht hw he hf
      · exact wrong_stale h hs hn ht hw he hf
      · exact wrong_abort h hs hn ht hw he hf
      · exact wrong_fail1 h hs hn ht hw he hf
      · exact wrong_commit2 h hs hn ht hw he hf
end Go.Proofs.Ytloiadhdkgkjkaa
