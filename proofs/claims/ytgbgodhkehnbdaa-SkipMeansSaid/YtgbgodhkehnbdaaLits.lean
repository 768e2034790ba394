/- The slots of a frame that nothing is known of, as one list. -/
import Derived.Test.YtgbgodhkehnbdaaRows
namespace Go.Proofs.Ytgbgodhkehnbdaa
theorem eq_map_range (us : List Value) : us = (List.range us.length).map fun i => us.getD i undef := by
  apply List.ext_getElem
  · simp
  · intro i h1 h2
    simp [h1]
end Go.Proofs.Ytgbgodhkehnbdaa
