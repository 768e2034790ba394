/- slices.Clone of a list of words, by contract. -/
import Derived.Test.YtkjeobcfaolcaaaDoorIxK0
namespace Go.Proofs.YtkjeobcfaolcaaaDoor
open Go.RowKit
set_option maxHeartbeats 4000000
set_option linter.unusedVariables false
set_option linter.unusedSimpArgs false

theorem ownsRow_made {w : World} {B : Nat} {e : TypeId} {size : Nat} {v : Value} {n : Nat} {xs : List Value} (h : w.ownsRow B e size v n xs) (h0 : 0 < n) :
    ∃ g cap cur, v = .slice (some ⟨g, 0, none⟩) n cap ∧ B ≤ g ∧ w.heap[g]? = some (.cells cur e (0, 0)) ∧ n * size ≤ cur.size ∧ cur.toList.take (n * size) = xs := by
  obtain ⟨_, (⟨_, h⟩ | ⟨g', cap, cur, h1, h2, h3, h4, _, h6, h7⟩)⟩ := h
  · omega
  · exact ⟨g', cap, cur, h1, h2, h3, by rw [h6]; exact Nat.mul_le_mul_right _ h4, h7⟩
theorem Wl.frs {F F' : Nat → Prop} {w w' : World} {v : Value} {l : List Int} (h : Wl w v l) (hf : Fr F w F' w') (hF : ∀ k, own v k → ¬ F k) : Wl w' v l := h.keep fun k hk => hf.block k (h.lt k hk) (hF k hk)
theorem own_nil (n c : Nat) (k : Nat) : ¬ own (.slice none n c) k := fun h => by simp [own, Value.ownBlock] at h
theorem run_eql_slice_nil {P : Program} (t e : TypeId) (a : Option Addr) (l c : Nat) (w : World) (h : P.underlying t = some (.slice e)) : (binOp .eql t (.slice a l c) (.slice none 0 0)).run P w = .ok (.bool a.isNone) w := by
  have h1 : (Op.equal t (.slice a l c) (.slice none 0 0)).run P w = .ok a.isNone w := by
    show (Op.equalIn (9999 + 1) t (.slice a l c) (.slice none 0 0)).run P w = _
    generalize 9999 = d
    cases a <;> simp [Op.equalIn, run_underlying h]
  simp only [binOp]
  simp [h1]
theorem eqlw (a : Option Addr) (l c : Nat) (w : World) : (binOp .eql 31 (.slice a l c) (.slice none 0 0)).run Tryd.prog w = .ok (.bool a.isNone) w := run_eql_slice_nil 31 _ a l c w Tryd.underlying31
set_option maxRecDepth 100000 in
theorem clone_b {A : Option Addr} {cp : Nat} {l : List Int} {w : World} (h : Lies w (.slice A l.length cp) l) (hlen : l.length * 8 ≤ 140737488355328) :
    Calls Tryd.prog 54 #[.slice A l.length cp] w fun e w' => ∃ A' cp', e = .returned (.slice A' l.length cp') ∧ Wl w' (.slice A' l.length cp') l ∧ Fr (fun _ => False) w (own (.slice A' l.length cp')) w' := by
  cases A with
  | none =>
    obtain ⟨hl0, hc0⟩ : l.length = 0 ∧ cp = 0 := by
      rcases h.src with ⟨e, _, _⟩ | ⟨ad, c, e, _⟩
      · injection e with _ e2 e3; exact ⟨e2, e3⟩
      · injection e with e1; cases e1
    obtain rfl : l = [] := List.eq_nil_of_length_eq_zero hl0
    subst hc0
    clear h
    have eq1 := eqlw
    go_enter Tryd.func54, Tryd.ntmps54
    go_wp2
    go_ret
    exact ⟨_, _, rfl, Wl.nil _, (Fr.refl _ _).into fun k hk => (own_nil _ _ _ hk).elim⟩
  | some ad =>
    have hL := Lib.hid (h.alloc (.cells #[] 22))
    have hN : Hid (Wl (w.alloc (.cells #[] 22)) (.slice (some ⟨w.heap.size, 0, none⟩) 0 0) []) := Lib.hid (Wl.new w [] (by simp))
    clear h
    have eq1 := eqlw
    go_enter Tryd.func54, Tryd.ntmps54
    have hlm : (0 + l.length) * 8 ≤ 140737488355328 := by omega
    go_wp2_with (at_builtin; refine wpList_words _ rfl (.tmp 5) (.tmp 6) rfl (.slice (some ⟨w.heap.size, 0, none⟩) 0 0) (.slice (some ad) l.length cp) [] l rfl hN.out rfl hL.out hlm ?_; intro A' c' w' hc hv hm; simp only [List.nil_append, List.length_nil, Nat.zero_add] at hv hm ⊢; have hv := Lib.hid hv; have hm := Lib.hid hm)
    go_ret
    refine ⟨_, _, rfl, hv.out, ?_⟩
    have e1 : Fr (fun _ => False) w (fun _ => False) (w.alloc (.cells #[] 22)) := (Fr.refl _ w).alloc _
    have e2 : ∀ k, own (.slice (some ⟨w.heap.size, 0, none⟩) 0 0) k → k = w.heap.size := fun k hk => by simp [own, Value.ownBlock] at hk; exact hk.symm
    refine (e1.beside hm.out fun k hk => by rw [e2 k hk]; exact Nat.le_refl _).into fun k hk => .inr (.inr ?_)
    rcases hm.out.new k hk with h1 | h1
    · rw [e2 k h1]; exact Nat.le_refl _
    · simp at h1; omega
end Go.Proofs.YtkjeobcfaolcaaaDoor
