/- opaque: Sights, Check, Behind by contract, over any cells and history in memory. -/
import Derived.Test.YtloiadhdkgkjkaaOpE
import Derived.Test.YtloiadhdkgkjkaaOpP1
import Derived.Test.YtloiadhdkgkjkaaOpK
namespace Go.Proofs.Ytloiadhdkgkjkaa
open Go.RowKit
set_option maxHeartbeats 4000000
set_option linter.unusedVariables false
set_option linter.unusedSimpArgs false
theorem see_b {w : World} {Af A : Option Addr} {first : List Int} {l : List Ev} {cf cp : Nat} (hF : Lies w (.slice Af first.length cf) first) (hL : LiesV w (.slice A l.length cp) l) (hsz : l.length * 48 + 480 ≤ 140737488355328) (hfl : first.length ≤ 9223372036854775807) (hfb : ∀ x ∈ first, 0 ≤ x ∧ x ≤ 18446744073709551615) :
    Calls Try.prog 26 #[.slice Af first.length cf, .slice A l.length cp] w (SeeP w first l) := by
  by_cases hn : first.length = 0 ∨ 65536 < first.length
  · refine (see_len hn hfl).mono ?_
    rintro x w' ⟨hb, rfl⟩
    have h : seeOdd first.length l = (-1, 2) := by unfold seeOdd; rw [if_pos hn]
    exact ⟨hb, .inl ⟨by rw [h]; simp, by rw [h]⟩⟩
  · exact see_main hF hL hsz (by omega) (by omega) hfb
theorem sights_s {w : World} {Fv Hv : Value} {first : List Int} {l : List Ev} (h0 : OpIn w Fv Hv first l) : Calls Try.prog 8 #[Fv, Hv] w (SigP w (seeOdd first.length l) (sightsOf (vAll first l))) := by
  obtain ⟨hF, hL, hwf, hsz, hfl, hfb⟩ := h0
  obtain ⟨Af, cf, rfl, _⟩ := (show ∃ A cp, Fv = .slice A first.length cp ∧ True from by obtain ⟨A, cp, h1, _⟩ := hF; exact ⟨A, cp, h1, trivial⟩)
  obtain ⟨A, cp, rfl, _⟩ := hL.shape
  unfold vAll
  by_cases h : seeOdd first.length l = (-1, 0)
  · obtain ⟨-, -, hp, hf⟩ := seeOdd_ok h
    refine (sights_b (fun W hb => see_b (hF.below hb) (hL.below hb (Nat.le_refl _)) hsz hfl hfb) (fun _ => VJ.vn hwf hf (Nat.le_refl _)) hsz (fun _ hok => sights_bound hwf hok hp hf hsz)).mono ?_
    rintro x w' ⟨hb, ⟨h1, rfl⟩ | ⟨h1, hok, ov, rfl, hS, ho⟩⟩
    · exact ⟨hb, .inl ⟨h1, rfl⟩⟩
    · exact ⟨hb, .inr ⟨h1, ov, rfl, hS, ho⟩⟩
  · refine (sights_b (fun W hb => see_b (hF.below hb) (hL.below hb (Nat.le_refl _)) hsz hfl hfb) (fun e => absurd e h) hsz (fun e => absurd e h)).mono ?_
    rintro x w' ⟨hb, ⟨h1, rfl⟩ | ⟨h1, hok, ov, rfl, hS, ho⟩⟩
    · exact ⟨hb, .inl ⟨h1, rfl⟩⟩
    · exact absurd h1 h
theorem sights_c : SightsC := fun w Fv Hv first l h0 => sights_c' (sights_s h0)
theorem check_c : CheckC := fun w Fv Hv first l h0 => by
  refine (check_b (fun W hb => sights_s (h0.below hb)) ?_).mono ?_
  · unfold sightsOf
    rw [List.length_map]
    have h1 := vn_len first (rn l l.length).tries l l.length
    have h2 := h0.sz
    unfold vAll
    omega
  · rintro x w' ⟨rfl, hb⟩
    exact ⟨hb, rfl⟩
theorem behind_c : BehindC := fun w Fv Hv first l n h0 => by
  obtain ⟨hF, hL, hwf, hsz, hfl, hfb⟩ := h0
  obtain ⟨Af, cf, rfl, _⟩ := (show ∃ A cp, Fv = .slice A first.length cp ∧ True from by obtain ⟨A, cp, h1, _⟩ := hF; exact ⟨A, cp, h1, trivial⟩)
  obtain ⟨A, cp, rfl, _⟩ := hL.shape
  refine (behind_b n (fun W hb => see_b (hF.below hb) (hL.below hb (Nat.le_refl _)) hsz hfl hfb) (fun h => VJ.vn hwf (seeOdd_ok h).2.2.2 (Nat.le_refl _)) hsz).mono ?_
  rintro x w' ⟨hb, ⟨h1, rfl⟩ | ⟨h1, hok, ⟨h2, rfl⟩ | ⟨h2, h3, ov, rfl, hW, ho⟩⟩⟩
  · refine ⟨hb, _, ?_, ?_, fun q hq => absurd hq (no_own_nil q)⟩
    · unfold behA; rw [if_pos h1]
    · unfold behA; rw [if_pos h1]; exact Wl.nil _
  · have h4 : ¬ (seeOdd first.length l).2 ≠ 0 := by rw [h1]; simp
    refine ⟨hb, _, ?_, ?_, fun q hq => absurd hq (no_own_nil q)⟩
    · unfold behA vAll; rw [if_neg h4, if_pos h2]
    · unfold behA vAll; rw [if_neg h4, if_pos h2]; exact Wl.nil _
  · have h4 : ¬ (seeOdd first.length l).2 ≠ 0 := by rw [h1]; simp
    have h5 : ¬ (n < 0 ∨ ((vn first (rn l l.length).tries l l.length).commits : Int) < n) := by omega
    refine ⟨hb, ov, ?_, ?_, ho⟩
    · unfold behA vAll; rw [if_neg h4, if_neg h5]
    · unfold behA vAll; rw [if_neg h4, if_neg h5]; exact hW
end Go.Proofs.Ytloiadhdkgkjkaa
