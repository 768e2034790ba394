/- (*events.look).take by contract, whatever the event that can be. -/
import Derived.Test.YtloiadhdkgkjkaaEvK
import Derived.Test.YtloiadhdkgkjkaaEvL
import Derived.Test.YtloiadhdkgkjkaaEvM
import Derived.Test.YtloiadhdkgkjkaaEvN
import Derived.Test.YtloiadhdkgkjkaaEvO
import Derived.Test.YtloiadhdkgkjkaaEvR
import Derived.Test.YtloiadhdkgkjkaaEvI
namespace Go.Proofs.Ytloiadhdkgkjkaa
open Go.RowKit
theorem tb_ok {how k : Nat} (hh : how < 4) (hk : k < 13) (h : tb how k ≠ 0) : (how = 0 ∧ (k = 1 ∨ k = 9 ∨ k = 10 ∨ k = 11 ∨ k = 12)) ∨ (how = 1 ∧ (k = 2 ∨ k = 3 ∨ k = 4 ∨ k = 5 ∨ k = 6 ∨ k = 7 ∨ k = 8 ∨ k = 9)) ∨ (how = 2 ∧ k = 6) := by
  unfold tb at h
  repeat' split at h
  all_goals omega
theorem wrong_zero {s : St} {e : Ev} (h : wrong s e = 0) : fmd e = true ∧ tb (s.th e.th.toNat).how e.kd ≠ 0 ∧ ¬ ((s.th e.th.toNat).how = 0 ∧ e.kd = 9 ∧ e.er ≠ 4) ∧ (lockK e.kd = true → s.hold < 0) ∧ wordOk (s.th e.th.toNat) s.num e = true ∧ ownOk (s.th e.th.toNat) e = true := by
  unfold wrong wrg at h
  split at h
  · simp at h
  split at h
  · simp at h
  split at h
  · simp at h
  split at h
  · simp at h
  split at h
  · simp at h
  rename_i h1 h2 h3 h4 h5
  refine ⟨by simpa using h1, fun h0 => h2 (.inl h0), fun h0 => h2 (.inr h0), fun hl => ?_, by simpa using h4, by simpa using h5⟩
  rw [hl] at h3
  simpa using h3
theorem take_b {B b n : Nat} {w : World} {s : St} {m : Nat → Option Nat} {tv : Value} (h : LookW B w b s n m tv) (hBw : B ≤ w.heap.size) (hs : StBd s n) (hn : n ≤ 1152921504606846976) (hln : (s.tries.length + 1) * 56 ≤ 140737488355328) (e : Ev) (hwz : wrong s e = 0) (i : Nat) :
    Calls Try.prog 74 #[.pointer (some ⟨b, 0, none⟩), .int .i64 i, evV e] w fun x w' => x = .returned (.tuple #[]) ∧ Below B w w' ∧ ∃ m' tv', LookW B w' b (take s i e) (n + 1) m' tv' := by
  obtain ⟨hf, htb, -⟩ := wrong_zero hwz
  clear hwz
  obtain ⟨⟨h0, h8⟩, k1, k12⟩ := fmd_bd hf
  obtain ⟨th, kd, ad, wd, ow, er⟩ := e
  dsimp only at h0 h8 k1 k12 htb
  obtain ⟨t, rfl⟩ := Int.eq_ofNat_of_zero_le h0
  obtain ⟨k, rfl⟩ := Int.eq_ofNat_of_zero_le (show 0 ≤ kd by omega)
  rw [Int.toNat_natCast] at htb
  have ht : t < 8 := by omega
  have hk : k < 13 := by omega
  have hh := hs.how t
  obtain ⟨how, sn, ws, tr, hth⟩ : ∃ how sn ws tr, s.th t = ⟨how, sn, ws, tr⟩ := ⟨_, _, _, _, rfl⟩
  rw [hth] at htb hh
  rcases tb_ok hh hk htb with ⟨hw, rfl | rfl | rfl | rfl | rfl⟩ | ⟨hw, rfl | rfl | rfl | rfl | rfl | rfl | rfl | rfl⟩ | ⟨hw, rfl⟩
  all_goals
    dsimp only at hw
    subst hw
  · exact take_begin h hBw hs hn hln ht hth
  · exact take_fail0 h hBw hs hn ht hth
  · exact take_loaded h hBw hs hn ht hth
  · exact take_stored h hBw hs hn ht hth
  · exact take_halted h hBw hs hn ht hth
  · cases ow
    · exact take_read h hBw hs hn ht hth
    · exact take_own h hBw hs hn ht hth
  · exact take_write h hBw hs hn ht hth
  · exact take_moved h hBw hs hn ht hth
  · exact take_locked h hBw hs hn ht hth
  · exact take_commit1 h hBw hs hn ht hth
  · exact take_stale h hBw hs hn ht hth
  · exact take_abort h hBw hs hn ht hth
  · exact take_fail1 h hBw hs hn ht hth
  · exact take_commit2 h hBw hs hn ht hth
end Go.Proofs.Ytloiadhdkgkjkaa
