/- A set whose node leads to itself, on plain words. -/
import Derived.Test.YtgbgodhkehnbdaaSkC
namespace Go.Proofs.Ytgbgodhkehnbdaa
open Go.RowKit

theorem sask_ok {s : St} {a : Bool × Int × Int} (he : s.err = 0) (ha : a.2.1 < (s.W.length : Int)) : sask s a = (0, { s with log := s.log ++ [a] }) := by
  unfold sask
  rw [if_neg (fun h => h.2 he), if_neg (by omega)]
theorem sget_ok {s : St} {a : Int} (he : s.err = 0) (ha : a < (s.W.length : Int)) : sget s a = (s.W.getD a.toNat 0, 0, { s with log := s.log ++ [(false, a, 0)] }) := by
  unfold sget
  rw [sask_ok he ha]
  rfl
theorem sput_ok {s : St} {a x : Int} (he : s.err = 0) (ha : a < (s.W.length : Int)) : sput s a x = (0, { s with log := s.log ++ [(true, a, x)], W := s.W.set a.toNat x }) := by
  unfold sput
  rw [sask_ok he ha]
  rfl

def rW : List Int := ((((List.replicate 60 0).set 20 41).set 40 5).set 41 1).set 42 41
theorem rW_len : rW.length = 60 := by decide +kernel
/-- the words are these, and no call is refused -/
def RndW (W : List Int) (s : St) (n : Nat) (s' : St) : Prop := s'.W = W ∧ s'.err = 0 ∧ s'.log.length = s.log.length + n

theorem rget {s : St} {W : List Int} (hW : s.W = W) (he : s.err = 0) (hl : W.length = 60) (a : Int) (ha : a < 60) : ∃ s', sget s a = (W.getD a.toNat 0, 0, s') ∧ s'.W = W ∧ s'.err = 0 ∧ s'.log.length = s.log.length + 1 :=
  ⟨{ s with log := s.log ++ [(false, a, 0)] }, by rw [sget_ok he (by rw [hW, hl]; omega), hW], hW, he, by simp⟩

theorem rkeys : ∀ (n : Nat) (l : List Int) (s : St), s.W = rW → s.err = 0 → ∃ s', skKeysGo n 42 l s = ([], 320, s') ∧ s'.W = rW ∧ s'.err = 0 ∧ s'.log.length = s.log.length + 2 * n + 1
  | 0, l, s, hW, he => by
    obtain ⟨s1, q, h1, h2, h3⟩ := rget hW he rW_len 42 (by omega)
    exact ⟨s1, by rw [skKeys_long q rfl (by decide +kernel)], h1, h2, by omega⟩
  | n + 1, l, s, hW, he => by
    obtain ⟨s1, q, h1, h2, h3⟩ := rget hW he rW_len 42 (by omega)
    obtain ⟨s2, q2, k1, k2, k3⟩ := rget h1 h2 rW_len 40 (by omega)
    have e1 : rW.getD (42 : Int).toNat 0 = 41 := by decide +kernel
    rw [e1] at q
    obtain ⟨s3, q3, j1, j2, j3⟩ := rkeys n (l ++ [rW.getD (40 : Int).toNat 0]) s2 k1 k2
    exact ⟨s3, by rw [skKeys_more q rfl (by decide) (show sget s1 (IntKind.u64.wrap (41 - 1)) = _ from q2) rfl]; exact q3, j1, j2, by omega⟩
theorem rkeys_all (s : St) (hW : s.W = rW) (he : s.err = 0) : ∃ s', skKeys s 20 = ([], 320, s') ∧ s'.W = rW ∧ s'.err = 0 ∧ s'.log.length = s.log.length + 131073 := by
  obtain ⟨s1, q, h1, h2, h3⟩ := rget hW he rW_len 20 (by omega)
  obtain ⟨s2, q2, k1, k2, k3⟩ := rget h1 h2 rW_len 40 (by omega)
  have e1 : rW.getD (20 : Int).toNat 0 = 41 := by decide +kernel
  rw [e1] at q
  obtain ⟨s3, q3, j1, j2, j3⟩ := rkeys 65535 ([] ++ [rW.getD (40 : Int).toNat 0]) s2 k1 k2
  exact ⟨s3, by unfold skKeys; rw [show (65536 : Nat) = 65535 + 1 from rfl, skKeys_more (show sget s 20 = _ from q) rfl (by decide) (show sget s1 (IntKind.u64.wrap (41 - 1)) = _ from q2) rfl]; exact q3, j1, j2, by omega⟩

theorem rdown {W : List Int} (hl : W.length = 60) (hz : ∀ k, k < 7 → W.getD (21 + k) 0 = 0) (x : Int) (n : Nat) : ∀ (k : Nat), k ≤ 7 → ∀ (f : Found) (s : St), s.W = W → s.err = 0 →
    ∃ f' s', skGo x false (n + k) 20 k 0 f s = skGo x false n 20 0 0 f' s' ∧ s'.W = W ∧ s'.err = 0 ∧ s'.log.length = s.log.length + k ∧ f'.link.length = f.link.length
  | 0, _, f, s, hW, he => ⟨f, s, rfl, hW, he, rfl, rfl⟩
  | k + 1, hk, f, s, hW, he => by
    have e : uAdd 20 ((k + 1 : Nat) : Int) = ((21 + k : Nat) : Int) := by unfold uAdd; rw [wrap_u64_mod]; omega
    obtain ⟨s1, q, h1, h2, h3⟩ := rget hW he hl ((21 + k : Nat) : Int) (by omega)
    rw [Int.toNat_natCast, hz k (by omega)] at q
    obtain ⟨f', s', j0, j1, j2, j3, j4⟩ := rdown hl hz x n k (by omega) { f with cell := f.cell.set (k + 1) (uAdd 20 ((k + 1 : Nat) : Int)), link := f.link.set (k + 1) 0 } s1 h1 h2
    exact ⟨f', s', by rw [← Nat.add_assoc, skGo_zero (by rw [e]; exact q) rfl (by omega)]; exact j0, j1, j2, by omega, by simpa using j4⟩

theorem rsearch : ∀ (n words : Nat) (f : Found) (s : St), s.W = rW → s.err = 0 → words ≤ 65536 → 65537 - words ≤ n →
    ∃ f' s', skGo 9 false n 42 0 words f s = (f', 320, s') ∧ s'.W = rW ∧ s'.err = 0 ∧ s'.log.length ≤ s.log.length + 2 * n
  | 0, words, f, s, hW, he, hw, hn => by omega
  | n + 1, words, f, s, hW, he, hw, hn => by
    obtain ⟨s1, q, h1, h2, h3⟩ := rget hW he rW_len 42 (by omega)
    have e1 : rW.getD (42 : Int).toNat 0 = 41 := by decide +kernel
    rw [e1] at q
    have e : uAdd 42 ((0 : Nat) : Int) = 42 := by decide
    by_cases h : words = 65536
    · exact ⟨_, s1, by rw [skGo_long (by rw [e]; exact q) (by decide) (by omega)], h1, h2, by omega⟩
    · obtain ⟨s2, q2, k1, k2, k3⟩ := rget h1 h2 rW_len 40 (by omega)
      have e2 : rW.getD (40 : Int).toNat 0 = 5 := by decide +kernel
      rw [e2] at q2
      obtain ⟨f', s', j0, j1, j2, j3⟩ := rsearch n (words + 1) { f with cell := f.cell.set 0 (uAdd 42 ((0 : Nat) : Int)), link := f.link.set 0 41, word := 5 } s2 k1 k2 (by omega) (by omega)
      exact ⟨f', s', by rw [skGo_next (by rw [e]; exact q) (by decide) (by omega) (show sget s1 (IntKind.u64.wrap (41 - 1)) = _ from q2) (.inl (by decide))]; exact j0, j1, j2, by omega⟩
theorem rhas (s : St) (hW : s.W = rW) (he : s.err = 0) : ∃ s', skHas s 20 9 = (false, 320, s') ∧ s'.W = rW ∧ s'.err = 0 := by
  obtain ⟨f1, s1, q1, h1, h2, h3, h4⟩ := rdown rW_len (by decide +kernel) 9 65538 7 (by omega) noFound s hW he
  obtain ⟨s2, q, k1, k2, k3⟩ := rget h1 h2 rW_len 20 (by omega)
  have e1 : rW.getD (20 : Int).toNat 0 = 41 := by decide +kernel
  rw [e1] at q
  have e : uAdd 20 ((0 : Nat) : Int) = 20 := by decide
  obtain ⟨s3, q3, j1, j2, j3⟩ := rget k1 k2 rW_len 40 (by omega)
  have e2 : rW.getD (40 : Int).toNat 0 = 5 := by decide +kernel
  rw [e2] at q3
  obtain ⟨f', s', i0, i1, i2, i3⟩ := rsearch 65537 1 { f1 with cell := f1.cell.set 0 (uAdd 20 ((0 : Nat) : Int)), link := f1.link.set 0 41, word := 5 } s3 j1 j2 (by omega) (by omega)
  refine ⟨s', ?_, i1, i2⟩
  have hs : skSearch s 20 9 false = (f', 320, s') := by
    unfold skSearch
    rw [show (65545 : Nat) = 65538 + 7 from rfl]
    have := q1
    rw [show ((7 : Nat)) = 7 from rfl] at this
    rw [this, show (65538 : Nat) = 65537 + 1 from rfl, skGo_next (by rw [e]; exact q) (by decide) (by omega) (show sget s2 (IntKind.u64.wrap (41 - 1)) = _ from q3) (.inl (by decide))]
    exact i0
  unfold skHas
  rw [hs]
  rfl
def rW1 : List Int := rW.set 41 9
theorem rremove (s : St) (hW : s.W = rW1) (he : s.err = 0) : ∃ s', skRemove s 0 20 5 = (false, 320, s') := by
  have hl : rW1.length = 60 := by decide +kernel
  obtain ⟨f1, s1, q1, h1, h2, h3, h4⟩ := rdown hl (by decide +kernel) 5 65538 7 (by omega) noFound s hW he
  obtain ⟨s2, q, k1, k2, k3⟩ := rget h1 h2 hl 20 (by omega)
  have e1 : rW1.getD (20 : Int).toNat 0 = 41 := by decide +kernel
  rw [e1] at q
  have e : uAdd 20 ((0 : Nat) : Int) = 20 := by decide
  obtain ⟨s3, q3, j1, j2, j3⟩ := rget k1 k2 hl 40 (by omega)
  have e2 : rW1.getD (40 : Int).toNat 0 = 5 := by decide +kernel
  rw [e2] at q3
  obtain ⟨s4, q4, i1, i2, i3⟩ := rget j1 j2 hl 41 (by omega)
  have e3 : rW1.getD (41 : Int).toNat 0 = 9 := by decide +kernel
  rw [e3] at q4
  have hs : ∃ f2, skSearch s 20 5 false = (f2, 0, s3) ∧ f2.link.getD 0 0 = 41 ∧ f2.word = 5 := by
    have hlk : ({ f1 with cell := f1.cell.set 0 (uAdd 20 ((0 : Nat) : Int)), link := f1.link.set 0 41, word := 5 } : Found).link.getD 0 0 = 41 := by
      have : 0 < f1.link.length := by rw [h4]; decide
      simp [List.getD_eq_getElem?_getD, this]
    refine ⟨_, ?_, hlk, rfl⟩
    unfold skSearch
    rw [show (65545 : Nat) = 65538 + 7 from rfl]
    have := q1
    rw [show ((7 : Nat)) = 7 from rfl] at this
    rw [this, show (65538 : Nat) = 65537 + 1 from rfl, skGo_end (by rw [e]; exact q) (by decide) (by omega) (show sget s2 (IntKind.u64.wrap (41 - 1)) = _ from q3) (by decide) rfl]
  obtain ⟨f2, hs, hl2, hw2⟩ := hs
  refine ⟨s4, ?_⟩
  unfold skRemove
  rw [hs]
  simp only
  rw [if_neg (by unfold Found.has; rw [hl2, hw2]; decide), hl2, show uAdd (IntKind.u64.wrap (41 - 1)) 1 = 41 by decide, q4]
  simp only
  rw [if_pos (by decide)]
  unfold skRem
  rw [if_pos (by decide)]
end Go.Proofs.Ytgbgodhkehnbdaa
