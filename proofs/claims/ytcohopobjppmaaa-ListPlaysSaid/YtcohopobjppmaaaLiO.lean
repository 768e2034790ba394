/- Cells laid over words, by contract. -/
import Derived.Test.YtcohopobjppmaaaTxC
namespace Go.Proofs.Ytcohopobjppmaaa
open Go.RowKit
set_option maxHeartbeats 4000000
set_option linter.unusedVariables false
theorem over_b {v : Value} {l : List Int} {w : World} (hL : Lies w v l) (hlen : l.length * 8 ≤ 140737488355328) :
    Calls Try.prog 8 #[v] w fun en w' => ∃ t F', en = .returned (.pointer (some ⟨t, 0, none⟩)) ∧ Txw w' t F' ⟨l, 0, 0, -1, 0⟩ ∧ Fr (fun _ => False) w F' w' := by
  go_enter Try.func8, Try.ntmps8
  go_wp2_with (at_builtin; refine wpList_words w rfl (.const (.slice none 0 0)) (.tmp 3) rfl (.slice none 0 0) v [] l rfl (Wl.nil w) rfl hL (by simpa using hlen) ?_; intro A2 c2 w2 hc2 hv2 hm2)
  simp only [List.nil_append, List.length_nil, Nat.zero_add] at hv2 hm2 hc2 ⊢
  have hfin : Hid (∃ F', Txw (w2.alloc (.cells #[.slice A2 l.length c2, .int .i64 0, .int .i64 0, .int .i64 (-1), .int .i64 0] 51)) w2.heap.size F' ⟨l, 0, 0, -1, 0⟩ ∧ Fr (fun _ => False) w F' (w2.alloc (.cells #[.slice A2 l.length c2, .int .i64 0, .int .i64 0, .int .i64 (-1), .int .i64 0] 51))) := by
    refine Lib.hid ⟨fun k => k = w2.heap.size ∨ own (.slice A2 l.length c2) k, ⟨_, Blk.new w2 _ _, hv2.alloc _, fun k => Iff.rfl⟩, ?_⟩
    have h1 : Fr (fun _ => False) w (own (.slice A2 l.length c2)) w2 := hm2.wide fun k hk => nomatch hk
    exact (h1.alloc _).into fun k hk => hk.elim (fun c => .inr (.inr (by rw [c]; exact h1.size))) .inl
  obtain ⟨F', h1, h2⟩ := hfin.out
  have h1 := Lib.hid h1
  have h2 := Lib.hid h2
  clear hv2 hm2 hfin hL
  go_wp2_with fail
  go_ret
  exact ⟨_, F', rfl, h1.out, h2.out⟩
end Go.Proofs.Ytcohopobjppmaaa
