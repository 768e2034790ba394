/- Two keys put into a list over 60 words: what the plain functions answer. No program in sight. -/
import Derived.Test.YtcohopobjppmaaaLiFn
namespace Go.Proofs.Ytcohopobjppmaaa
open Go.RowKit
set_option linter.unusedVariables false

def kS0 : St := ⟨List.replicate 60 0, 0, 0, -1, 0⟩
def kSA : St := (rLay kS0 0 18 60).2
theorem kA : rLay kS0 0 18 60 = (0, kSA) := Prod.ext (by decide +kernel) rfl
def kSB : St := (lNew kSA 0).2.2
theorem kB : lNew kSA 0 = (18, 0, kSB) := Prod.ext (by decide +kernel) (Prod.ext (by decide +kernel) rfl)
/-- a key put in: the search's end and the answer -/
def kIns (s : St) (key : Int) : Option ((Pl × List Int × Int × St) × Bool × Int × St) :=
  match hfind (fun x => decide (x < key)) 61 s 0 18 with
  | some (p, ks, e, s1) => some ((p, ks, e, s1), lInsR p e s1 0 18 key)
  | none => none
def kNext (s : St) (key : Int) (is : Bool) : Option St :=
  match kIns s key with
  | some (_, b, e, s2) => if b = is ∧ e = 0 then some s2 else none
  | none => none
theorem kNext_ {s s2 : St} {key : Int} {is : Bool} (h : kNext s key is = some s2) : ∃ p ks e s1, hfind (fun x => decide (x < key)) 61 s 0 18 = some (p, ks, e, s1) ∧ lInsR p e s1 0 18 key = (is, 0, s2) := by
  unfold kNext kIns at h
  cases hc : hfind (fun x => decide (x < key)) 61 s 0 18 with
  | none => rw [hc] at h; simp at h
  | some y =>
    obtain ⟨p, ks, e, s1⟩ := y
    rw [hc] at h
    simp only at h
    split at h
    · rename_i hh
      obtain ⟨h1, h2⟩ := hh
      refine ⟨p, ks, e, s1, rfl, ?_⟩
      have h3 : (lInsR p e s1 0 18 key).2.2 = s2 := by simpa using h
      exact Prod.ext h1 (Prod.ext h2 h3)
    · simp at h
def kKeys (s : St) : Option (List Int) :=
  match hfind (fun _ => true) 61 s 0 18 with
  | some (p, ks, e, s1) => if e ≠ 0 ∨ p.next = 0 then (if e = 0 then some ks else none) else none
  | none => none
theorem kAll : ∃ s3 s4 s5, kNext kSB 5 true = some s3 ∧ kNext s3 2 true = some s4 ∧ kNext s4 5 false = some s5 ∧ kKeys s5 = some [2, 5] := by
  have h : ((kNext kSB 5 true).bind fun s3 => (kNext s3 2 true).bind fun s4 => (kNext s4 5 false).bind fun s5 => kKeys s5) = some [2, 5] := by decide +kernel
  cases h3 : kNext kSB 5 true with
  | none => rw [h3] at h; simp at h
  | some s3 =>
    rw [h3] at h
    simp only [Option.bind_some] at h
    cases h4 : kNext s3 2 true with
    | none => rw [h4] at h; simp at h
    | some s4 =>
      rw [h4] at h
      simp only [Option.bind_some] at h
      cases h5 : kNext s4 5 false with
      | none => rw [h5] at h; simp at h
      | some s5 =>
        rw [h5] at h
        simp only [Option.bind_some] at h
        exact ⟨s3, s4, s5, rfl, h4, h5, h⟩
end Go.Proofs.Ytcohopobjppmaaa
