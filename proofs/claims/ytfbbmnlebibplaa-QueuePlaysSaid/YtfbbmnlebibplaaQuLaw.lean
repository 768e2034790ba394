/- QueuePlays: the law's walk. -/
import Derived.Test.YtfbbmnlebibplaaQuS2
import Derived.Test.YtfbbmnlebibplaaQuS3
import Derived.Test.YtfbbmnlebibplaaQuS4
import Derived.Test.YtfbbmnlebibplaaQuS5
import Derived.Test.YtfbbmnlebibplaaQuS6
import Derived.Test.YtfbbmnlebibplaaQuS7
import Derived.Test.YtfbbmnlebibplaaQuZ
import Derived.Test.YtfbbmnlebibplaaOpen
import Derived.Test.YtfbbmnlebibplaaIn
namespace Go.Proofs.Ytfbbmnlebibplaa
open Go.RowKit
set_option maxHeartbeats 4000000
set_option linter.unusedVariables false
set_option linter.unusedSimpArgs false

/-- Any call, from between two calls to between two. -/
theorem step_b {B xb t b m L : Nat} {W0 w : World} {c kind on word : Int} (h : StepP B W0 xb t b c (m + 400000) L w) (hLb : L + 1 ≤ 5900000000000) (hc : c ≤ 1000) (ho : -9223372036854775808 ≤ on ∧ on ≤ 9223372036854775807) (hwd : 0 ≤ word ∧ word ≤ 18446744073709551615) :
    Calls Try.prog 6 #[.pointer (some ⟨xb, 0, none⟩), .agg #[.int .i64 kind, .int .i64 on, .int .u64 word]] w (StepE B W0 xb t b c m (L + 1)) := by
  obtain ⟨v, ps, X, s, r, qs, back, hQ, hfs, hfr, hs, hr, hi, hl, hlw'⟩ := h
  by_cases k0 : kind = 0
  · subst k0
    exact step0_b hQ hfs hfr hs hr hi (by omega) (by omega) hlw'
  have e0 : (kind == 0) = false := by simpa using k0
  by_cases hq : qs = []
  · subst hq
    exact (stepn_b (L := L + 1) hQ hfs hfr hs hr hi e0 hlw')
  have hq0 : 0 < qs.length := List.length_pos_iff.2 hq
  by_cases k1 : kind = 1
  · subst k1
    exact step1_b hQ hfs hfr hs hr hi (by omega) (by omega) hlw' (by omega) hq0 ho hwd
  by_cases k2 : kind = 2
  · subst k2
    exact step2_b hQ hfs hfr hs hr hi (by omega) (by omega) hlw' (by omega) hq0 ho
  by_cases k3 : kind = 3
  · subst k3
    exact step3_b hQ hfs hfr hs hr hi (by omega) (by omega) hlw' (by omega) hq0 ho
  by_cases k4 : kind = 4
  · subst k4
    exact step4_b hQ hfs hfr hs hr hi (by omega) (by omega) hlw' (by omega) hq0 ho
  by_cases k5 : kind = 5
  · subst k5
    exact step5_b hQ hfs hfr hs hr hi (by omega) (by omega) hlw' (by omega) hq0 ho
  by_cases k6 : kind = 6
  · subst k6
    exact step6_b hQ hfs hfr hs hr hi (by omega) (by omega) hlw' (by omega) hq0 ho (by omega)
  exact step7_b hQ hfs hfr hs hr hi (by omega) (by omega) hlw' (by omega) hq0 ho ⟨by simpa using k1, by simpa using k2, by simpa using k3, by simpa using k4, by simpa using k5, by simpa using k6⟩ e0
end Go.Proofs.Ytfbbmnlebibplaa
