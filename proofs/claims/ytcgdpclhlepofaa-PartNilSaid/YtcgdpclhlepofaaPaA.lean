/- A part's nodes gone over, by contract. -/
import Derived.Test.YtcgdpclhlepofaaPaFn
import Derived.Test.YtcgdpclhlepofaaQuD
import Derived.Test.YtcgdpclhlepofaaFam
namespace Go.Proofs.Ytcgdpclhlepofaa
open Go.RowKit
set_option maxHeartbeats 4000000
set_option linter.unusedVariables false
set_option linter.unusedSimpArgs false

/-- What stands beside the tx while a part is gone over: J, of its blocks and of the words that were gathered. -/
structure JLaw (t : Nat) (step : Int → Int → List Int → St → Int × List Int × St) (J : World → (Nat → Prop) → (Nat → Prop) → List Int → Prop) (gf : Nat) (av : Int → Int → Array Value) : Prop where
  ent : ∀ (args : Array Value) (w : World), (callFunc gf args).run Try.prog w = .ok (.enter gf args) w
  keep : ∀ {w w' : World} {F F' G : Nat → Prop} {l : List Int}, (∀ k, F k → k < w.heap.size) → Fr F w F' w' → J w F G l → J w' F' G l
  call : ∀ {w : World} {F G : Nat → Prop} {s : St} {l : List Int} {n : Nat} {nd wd : Int}, Txw w t F s → Fits s → Bud s (n + 1) → l.length ≤ 65537 → 0 ≤ nd → nd ≤ 18446744073709551615 → 0 ≤ wd → wd ≤ 18446744073709551615 → J w F G l →
    Calls Try.prog gf (av nd wd) w fun e w' => ∃ er l' s', Hid (step nd wd l s = (er, l', s')) ∧ e = .returned (.int .i64 er) ∧ l'.length ≤ l.length + 1 ∧ Fits s' ∧ Bud s' n ∧ ∃ F' G', Txw w' t F' s' ∧ J w' F' G' l' ∧ Fr (fun k => F k ∨ G k) w (fun k => F' k ∨ G' k) w'

theorem pEach_end {step : Int → Int → List Int → St → Int × List Int × St} {count next n : Int} {k : Nat} {l : List Int} {s : St} (h : next = 0) : pEach step count k next n l s = (0, l, s) := by
  cases k
  · rfl
  · rw [pEach, if_pos (by simpa using h)]
section
variable {step : Int → Int → List Int → St → Int × List Int × St} {count next n w e e2 nx e3 : Int} {k : Nat} {l l2 : List Int} {s s1 s2 s3 : St}
theorem pEach_e1 (h : next ≠ 0) (h1 : sget s (IntKind.u64.wrap (next - 1)) = (w, e, s1)) (he : e ≠ 0) : pEach step count (k + 1) next n l s = (e, l, s1) := by
  rw [pEach, if_neg (by simpa using h)]; simp only [h1]; rw [if_pos (by simpa using he)]
theorem pEach_e2 (h : next ≠ 0) (h1 : sget s (IntKind.u64.wrap (next - 1)) = (w, 0, s1)) (h2 : step (IntKind.u64.wrap (next - 1)) w l s1 = (e2, l2, s2)) (he : e2 ≠ 0) : pEach step count (k + 1) next n l s = (e2, l2, s2) := by
  rw [pEach, if_neg (by simpa using h)]; simp only [h1]; rw [if_neg (by decide)]; simp only [h2]; rw [if_pos (by simpa using he)]
theorem pEach_e3 (h : next ≠ 0) (h1 : sget s (IntKind.u64.wrap (next - 1)) = (w, 0, s1)) (h2 : step (IntKind.u64.wrap (next - 1)) w l s1 = (0, l2, s2)) (h3 : sget s2 (uAdd (IntKind.u64.wrap (next - 1)) 1) = (nx, e3, s3)) (he : e3 ≠ 0) : pEach step count (k + 1) next n l s = (e3, l2, s3) := by
  rw [pEach, if_neg (by simpa using h)]; simp only [h1]; rw [if_neg (by decide)]; simp only [h2]; rw [if_neg (by decide)]; simp only [h3]; rw [if_pos (by simpa using he)]
theorem pEach_4 (h : next ≠ 0) (h1 : sget s (IntKind.u64.wrap (next - 1)) = (w, 0, s1)) (h2 : step (IntKind.u64.wrap (next - 1)) w l s1 = (0, l2, s2)) (h3 : sget s2 (uAdd (IntKind.u64.wrap (next - 1)) 1) = (nx, 0, s3)) : pEach step count (k + 1) next n l s = if ((nx == 0) == (n + 1 == count)) = true then pEach step count k nx (n + 1) l2 s3 else (360, l2, s3) := by
  rw [pEach, if_neg (by simpa using h)]; simp only [h1]; rw [if_neg (by decide)]; simp only [h2]; rw [if_neg (by decide)]; simp only [h3]; rw [if_neg (by decide)]
end

/-- What is left behind, with what was gathered. -/
def LftJ (t n : Nat) (F0 : Nat → Prop) (w0 : World) (J : World → (Nat → Prop) → (Nat → Prop) → List Int → Prop) (s' : St) (l : List Int) (w' : World) : Prop := l.length ≤ 65537 ∧ Fits s' ∧ Bud s' n ∧ ∃ F' G', Txw w' t F' s' ∧ J w' F' G' l ∧ Fr F0 w0 (fun k => F' k ∨ G' k) w'

end Go.Proofs.Ytcgdpclhlepofaa
