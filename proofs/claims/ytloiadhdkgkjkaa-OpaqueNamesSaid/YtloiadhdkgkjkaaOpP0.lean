/- opaque, plain: what holds at the end of a history that see does not refuse. -/
import Derived.Test.YtloiadhdkgkjkaaOpK0
namespace Go.Proofs.Ytloiadhdkgkjkaa
set_option maxHeartbeats 1000000
set_option linter.unusedVariables false
set_option linter.unusedSimpArgs false
theorem seeOdd_ok {n : Nat} {l : List Ev} (h : seeOdd n l = (-1, 0)) : (n ≠ 0 ∧ n ≤ 65536) ∧ (odd l).2 = 0 ∧ idxE plainE l < 0 ∧ idxE (farE n) l < 0 := by
  unfold seeOdd at h
  split at h
  · simp at h
  · rename_i h0
    split at h
    · rename_i h1
      rw [h] at h1
      simp at h1
    · rename_i h1
      split at h
      · simp at h
      · rename_i h2
        split at h
        · simp at h
        · rename_i h3
          exact ⟨by omega, by simpa using h1, by omega, by omega⟩
theorem VI.vn {first : List Int} {T : List Tr} {l : List Ev} (hl : ∀ e ∈ l, EvWf e) (hok : okTo l l.length) (hp : idxE plainE l < 0) (hf : idxE (farE first.length) l < 0) : ∀ {k : Nat}, k ≤ l.length → VI (vn first T l k) (rn l k) k first.length
  | 0, _ => VI.start _ _
  | k + 1, hk => by
    have hk' : k < l.length := by omega
    have he : evAt l k = l[k] := by unfold evAt; rw [List.getD_eq_getElem?_getD, List.getElem?_eq_getElem hk']; rfl
    have hI := inv_rn hl (show k ≤ l.length by omega) (fun j hj => hok j (by omega))
    refine VI.tail (VI.ev (VI.vn hl hok hp hf (by omega)) (hok k hk') hI ?_ ?_ ?_) _ _
    · rw [he]; exact idxE_neg hp hk'
    · rw [he]; exact idxE_neg hf hk'
    · rw [he]; exact hl _ (List.getElem_mem hk')
theorem sights_bound {first : List Int} {T : List Tr} {l : List Ev} (hl : ∀ e ∈ l, EvWf e) (hok : okTo l l.length) (hp : idxE plainE l < 0) (hf : idxE (farE first.length) l < 0) (hsz : l.length * 48 + 480 ≤ 140737488355328) : ((vn first T l l.length).sights.length + 1) * 96 ≤ 140737488355328 := by
  have hV := VI.vn (T := T) hl hok hp hf (Nat.le_refl _)
  have h1 := (inv_rn hl (Nat.le_refl _) (fun j hj => hok j hj)).two
  have h2 := lives_le (rn l l.length)
  rw [hV.sl, hV.nx]
  omega
end Go.Proofs.Ytloiadhdkgkjkaa
