/- A region that draws its order within a round of a range over a function: the one walk of XMix serves there too. -/
import Derived.Test.YtloiadhdkgkjkaaMix
import Derived.OrdersIn
import Derived.TacticsIn
import Derived.RangeFuncCalls
namespace Go.Proofs.Ytloiadhdkgkjkaa
set_option linter.unusedVariables false
set_option linter.unusedSimpArgs false
section
variable {P : Program} {ops : Array Oper} {md : Region.Mode} {Q : Exit → Act → World → Prop} {n r : Nat}

def plainOp (o : Oper) : Bool := match o.op with
  | .defer _ => false
  | _ => true
theorem plainOp_spec {o : Oper} (h : plainOp o = true) : ∀ c, o.op ≠ .defer c := fun c e => by
  unfold plainOp at h
  rw [e] at h
  cases h
/-- no row of the library's among what it may do -/
theorem wpIn_of_wp {o : Oper} {a : Act} {w : World} {K : Act → World → Prop} (ho : plainOp o = true) (hL : ¬ LetsOut Q) (h : o.wp P a w K Q) : o.wpIn (Fence.wide.inRound r) n P a w K Q := by
  refine ⟨fun _ _ => trivial, ?_⟩
  rw [Oper.semAt_eq _ _ _ (plainOp_spec ho)]
  unfold Oper.wp at h
  generalize (execOp a.eval o).run P w = x at *
  cases x with
  | ok x w' =>
    cases x <;> simp only [Oper.upon] at h <;> simp only [Oper.uponIn] <;> try exact h
    case enter f args =>
      refine ⟨(fun h => (by cases h)), CallsIn.inRound r (callsIn_wide.2 (Calls.mono h fun e w'' he => ?_))⟩
      cases e <;> exact he
    case row row args => exact ⟨(fun h => (by cases h)), fun c cs _ => let ⟨v, w', q, s⟩ := h c cs; ⟨v, w', q, stepsIn_wide.2 s⟩⟩
  | halt x w' =>
    cases x <;> simp only [Oper.upon] at h <;> simp only [Oper.uponIn] <;> exact h
theorem wpAnyIn_of_any (hd : ∀ (i : Nat) (o : Oper), ops[i]? = some o → plainOp o = true) (hL : ¬ LetsOut Q) : ∀ (fuel : Nat) (listed : Array Bool) (a : Act) (w : World), wpAny P md ops Q fuel listed a w → wpAnyIn (Fence.wide.inRound r) n P md ops Q fuel listed a w
  | 0, _, _, _, h => h
  | fuel + 1, listed, a, w, h => ⟨h.1, fun i hi => by
      have h1 := h.2 i hi
      unfold wpOp at h1
      unfold wpOpIn
      split
      · rename_i hn
        simp only [hn] at h1
        exact wpAnyIn_of_any hd hL fuel _ _ _ h1
      · rename_i o ho
        simp only [ho] at h1
        split
        · rename_i hw
          rw [if_pos hw] at h1
          rcases h1 with h1 | h1
          · exact Oper.wpIn_mono (fun a w h => wpAnyIn_of_any hd hL fuel _ a w h) (wpIn_of_wp (hd i o ho) hL h1)
          · exact (hL h1.2).elim
        · rename_i hw
          rw [if_neg hw] at h1
          exact ⟨fun _ _ => trivial, wpAnyIn_of_any hd hL fuel _ _ _ h1⟩⟩
theorem wpIn_region_mix {id : Nat} {a : Act} {w : World} {l : List Oper} (S : World → Prop) (ms ord : List Nat) (hm : P.follows .mixedOrders = true) (hB : mixB .any l.toArray ms ord = true) (hdf : l.all plainOp = true) (hL : ¬ LetsOut Q) (hS : ∀ w n, S w → S (w.drewN n)) (hs : S w.drew)
    (h : wpMix P l.toArray S Q (fun i => ms.getD i 2) ord a w.drew) : (Code.region id l.toArray true).wpIn (Fence.wide.inRound r) n P Q a w := by
  simp only [mixB, Bool.and_eq_true, decide_eq_true_eq] at hB
  obtain ⟨⟨hsel, hlen⟩, hord⟩ := hB
  refine wpIn_region_any hm (wpAnyIn_of_any (fun i o ho => ?_) hL _ _ _ _ ?_)
  · have : o ∈ l := List.mem_of_getElem? (by simpa using ho)
    exact List.all_eq_true.1 hdf o this
  have hcl : Closed .any l.toArray (Array.replicate l.toArray.size false) := fun j oj _ hl => by
    rcases Nat.lt_or_ge j l.toArray.size with h | h
    · simp at h hl; simp [h] at hl
    · simp at h hl; simp [h] at hl
  have := mixAny_sound hS _ _ _ _ hcl (fun _ => hs) (mixAny_of_mix hsel ord _ a w.drew hcl hord h) 0
  rw [hlen] at this
  exact this
end
end Go.Proofs.Ytloiadhdkgkjkaa
