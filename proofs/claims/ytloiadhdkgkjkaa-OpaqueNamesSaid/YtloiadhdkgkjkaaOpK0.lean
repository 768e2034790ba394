/- opaque: what see answers. -/
import Derived.Test.YtloiadhdkgkjkaaOpJ
namespace Go.Proofs.Ytloiadhdkgkjkaa
open Go.RowKit
/-- What see answers. -/
def SeeP (w : World) (first : List Int) (l : List Ev) (x : Ending) (w' : World) : Prop :=
  Below w.heap.size w w' ∧ (((seeOdd first.length l).2 ≠ 0 ∧ x = .returned (.tuple #[.pointer none, .agg #[.int .i64 (seeOdd first.length l).1, .int .i64 (seeOdd first.length l).2]])) ∨
    (seeOdd first.length l = (-1, 0) ∧ okTo l l.length ∧ ∃ B vb nb mb fv cv sv, w.heap.size ≤ B ∧ x = .returned (.tuple #[.pointer (some ⟨vb, 0, none⟩), .agg #[.int .i64 (-1), .int .i64 0]]) ∧ VwW B w' vb nb mb (vn first (rn l l.length).tries l l.length) first.length fv cv sv ∧ VI (vn first (rn l l.length).tries l l.length) (rn l l.length) l.length first.length))
end Go.Proofs.Ytloiadhdkgkjkaa
