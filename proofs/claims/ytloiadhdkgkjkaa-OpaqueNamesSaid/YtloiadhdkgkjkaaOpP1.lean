/- opaque: what Check and Behind answer, plain; their contracts' sentences. -/
import Derived.Test.YtloiadhdkgkjkaaOpP0
import Derived.Test.YtloiadhdkgkjkaaOpM
import Derived.Test.YtloiadhdkgkjkaaOpN
namespace Go.Proofs.Ytloiadhdkgkjkaa
open Go.RowKit
set_option maxHeartbeats 4000000
set_option linter.unusedVariables false
set_option linter.unusedSimpArgs false
/-- What see gathers of a whole history. -/
def vAll (first : List Int) (l : List Ev) : Vw := vn first (rn l l.length).tries l l.length
/-- What Sights answers, behind its error. -/
def sigA (first : List Int) (l : List Ev) : List (Sg × Int) := if (seeOdd first.length l).2 ≠ 0 then [] else sightsOf (vAll first l)
/-- What Check answers, ahead of its error. -/
def chkA (first : List Int) (l : List Ev) : Int := if (seeOdd first.length l).2 ≠ 0 then 0 else idxG (sightsOf (vAll first l))
/-- What Behind answers: its error, its cells. -/
def behA (first : List Int) (l : List Ev) (n : Int) : (Int × Int) × List Int :=
  if (seeOdd first.length l).2 ≠ 0 then (seeOdd first.length l, [])
  else if n < 0 ∨ ((vAll first l).commits : Int) < n then ((-1, 2), [])
  else ((-1, 0), behindL (vAll first l).cells n.toNat first.length)
/-- What a call over cells and a history asks of them. -/
structure OpIn (w : World) (Fv Hv : Value) (first : List Int) (l : List Ev) : Prop where
  fi : Lies w Fv first
  hi : LiesV w Hv l
  wf : ∀ e ∈ l, EvWf e
  sz : l.length * 48 + 480 ≤ 140737488355328
  fl : first.length ≤ 9223372036854775807
  fb : ∀ x ∈ first, 0 ≤ x ∧ x ≤ 18446744073709551615
theorem OpIn.below {w w' : World} {Fv Hv : Value} {first : List Int} {l : List Ev} (h : OpIn w Fv Hv first l) (hb : Below w.heap.size w w') : OpIn w' Fv Hv first l :=
  ⟨h.fi.below hb, h.hi.below hb (Nat.le_refl _), h.wf, h.sz, h.fl, h.fb⟩
def SightsC : Prop := ∀ (w : World) (Fv Hv : Value) (first : List Int) (l : List Ev), OpIn w Fv Hv first l → Calls Try.prog 8 #[Fv, Hv] w fun x w' => Below w.heap.size w w' ∧ ∃ ov, x = .returned (.tuple #[ov, .agg #[.int .i64 (seeOdd first.length l).1, .int .i64 (seeOdd first.length l).2]]) ∧ Sl 40 10 encG w' ov (sigA first l) ∧ ∀ q, own ov q → w.heap.size ≤ q
def CheckC : Prop := ∀ (w : World) (Fv Hv : Value) (first : List Int) (l : List Ev), OpIn w Fv Hv first l → Calls Try.prog 9 #[Fv, Hv] w fun x w' => Below w.heap.size w w' ∧ x = .returned (.tuple #[.int .i64 (chkA first l), .agg #[.int .i64 (seeOdd first.length l).1, .int .i64 (seeOdd first.length l).2]])
def BehindC : Prop := ∀ (w : World) (Fv Hv : Value) (first : List Int) (l : List Ev) (n : Int), OpIn w Fv Hv first l → Calls Try.prog 15 #[Fv, Hv, .int .i64 n] w fun x w' => Below w.heap.size w w' ∧ ∃ ov, x = .returned (.tuple #[ov, .agg #[.int .i64 (behA first l n).1.1, .int .i64 (behA first l n).1.2]]) ∧ Wl w' ov (behA first l n).2 ∧ ∀ q, own ov q → w.heap.size ≤ q
theorem no_own_nil (q : Nat) : ¬ own (.slice none 0 0) q := by simp [own, Value.ownBlock]
theorem sights_c' {w : World} {Fv Hv : Value} {first : List Int} {l : List Ev} (h : Calls Try.prog 8 #[Fv, Hv] w (SigP w (seeOdd first.length l) (sightsOf (vAll first l)))) :
    Calls Try.prog 8 #[Fv, Hv] w fun x w' => Below w.heap.size w w' ∧ ∃ ov, x = .returned (.tuple #[ov, .agg #[.int .i64 (seeOdd first.length l).1, .int .i64 (seeOdd first.length l).2]]) ∧ Sl 40 10 encG w' ov (sigA first l) ∧ ∀ q, own ov q → w.heap.size ≤ q := by
  refine h.mono ?_
  rintro x w' ⟨hb, ⟨h1, rfl⟩ | ⟨h1, ov, rfl, hS, ho⟩⟩
  · refine ⟨hb, _, rfl, ?_, fun q hq => absurd hq (no_own_nil q)⟩
    unfold sigA
    rw [if_pos h1]
    exact Sl.nil _
  · refine ⟨hb, ov, by rw [h1], ?_, ho⟩
    unfold sigA
    rw [if_neg (by rw [h1]; simp)]
    exact hS
theorem vEv_len (T : List Tr) (v : Vw) (e : Ev) : (vEv T v e).sights.length ≤ v.sights.length + 1 := by
  unfold vEv
  dsimp only
  repeat' split
  all_goals simp
theorem vTl_len (v : Vw) (i : Nat) (e : Ev) : (vTl v i e).sights.length = v.sights.length := by
  unfold vTl
  dsimp only
  split
  · simp
  · rfl
theorem vn_len (first : List Int) (T : List Tr) (l : List Ev) : ∀ k, (vn first T l k).sights.length ≤ k
  | 0 => by simp [vn, vw0]
  | k + 1 => by
    unfold vn
    rw [vTl_len]
    have := vEv_len T (vn first T l k) (evAt l k)
    have := vn_len first T l k
    omega
end Go.Proofs.Ytloiadhdkgkjkaa
