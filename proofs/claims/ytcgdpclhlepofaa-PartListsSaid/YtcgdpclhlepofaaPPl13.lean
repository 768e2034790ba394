/- The one walk of a region that draws its order, behind a structure: no tactic looks through what is still to come (many operations that are not wanted, one behind the other, hang otherwise). -/
import Derived.Lib.Hide
import Derived.Test.YtcgdpclhlepofaaPPl12
namespace Go.Proofs.Ytcgdpclhlepofaa
set_option linter.unusedVariables false
set_option linter.unusedSimpArgs false
open Go.RowKit
/-- what no tactic looks through ('Hid' is a definition: weak head normal form unfolds it) -/
structure Shut (p : Prop) : Prop where
  out : p
section
variable {P : Program} {ops : Array Oper} {S : World → Prop} {Q : Exit → Act → World → Prop} {mk : Nat → Nat} {r n : Nat}
theorem wpMixH_nil {a : Act} {w : World} (h : ∀ n, Q .normal a (w.drewN n)) : Shut (wpMix P ops S Q mk [] a w) := Shut.mk (wpMix_nil h)
theorem wpMixH_any {i : Nat} {rest : List Nat} {a : Act} {w : World} {o : Oper} (ho : ops[i]? = some o) (hm : mk i = 0)
    (h : ∀ K : Act → World → Prop, (∀ a w, Shut (wpMix P ops S Q mk rest a w) → K a w) → if Region.wanted o (yielded ops a.tmps) then ∃ v, (∀ w', S w' → o.quietAt P a (fun w'' => w'' = w') w' v) ∧ K (a.put o.dst v) w else K (a.put o.dst undef) w) : Shut (wpMix P ops S Q mk (i :: rest) a w) :=
  Shut.mk (wpMix_any ho hm fun K hK => h K fun a w hh => hK a w hh.out)
theorem wpMixH_pure {i : Nat} {rest : List Nat} {a : Act} {w : World} {o : Oper} (ho : ops[i]? = some o) (hm : mk i = 3)
    (h : ∀ K : Act → World → Prop, (∀ a w, Shut (wpMix P ops S Q mk rest a w) → K a w) → if Region.wanted o (yielded ops a.tmps) then ∃ v, (∀ w', o.quietAt P a (fun w'' => w'' = w') w' v) ∧ K (a.put o.dst v) w else K (a.put o.dst undef) w) : Shut (wpMix P ops S Q mk (i :: rest) a w) :=
  Shut.mk (wpMix_pure ho hm fun K hK => h K fun a w hh => hK a w hh.out)
theorem wpMixH_loc {i : Nat} {rest : List Nat} {a : Act} {w : World} {o : Oper} (ho : ops[i]? = some o) (hm : mk i = 1)
    (h : ∀ K : Act → World → Prop, (∀ a w, Shut (wpMix P ops S Q mk rest a w) → K a w) → if Region.wanted o (yielded ops a.tmps) then ∃ v, (∀ n, o.quietAt P a (fun w' => ∃ n, w' = w.drewN n) (w.drewN n) v) ∧ K (a.put o.dst v) w else K (a.put o.dst undef) w) : Shut (wpMix P ops S Q mk (i :: rest) a w) :=
  Shut.mk (wpMix_loc ho hm fun K hK => h K fun a w hh => hK a w hh.out)
theorem wpMixH_loud {i : Nat} {rest : List Nat} {a : Act} {w : World} {o : Oper} (ho : ops[i]? = some o) (hm : mk i = 2)
    (h : ∀ n (K : Act → World → Prop), (∀ a w, (needB ops mk i = true → S w) → Shut (wpMix P ops S Q mk rest a w) → K a w) → wpList P ops (Exit.then K (noPan Q)) [o] a (w.drewN n)) : Shut (wpMix P ops S Q mk (i :: rest) a w) :=
  Shut.mk (wpMix_loud ho hm fun n K hK => h n K fun a w hs hh => hK a w hs hh.out)
theorem wpMixH_skip {i : Nat} {rest : List Nat} {a : Act} {w : World} {o : Oper} (ho : ops[i]? = some o) (hw : Region.wanted o (yielded ops a.tmps) = false)
    (h : ∀ K : Act → World → Prop, (∀ a w, Shut (wpMix P ops S Q mk rest a w) → K a w) → K (a.put o.dst undef) w) : Shut (wpMix P ops S Q mk (i :: rest) a w) := Shut.mk (by
  unfold wpMix mixAt mixOp
  simp only [ho]
  rw [if_neg (by rw [hw]; exact Bool.false_ne_true)]
  exact h (fun a' w' => wpMix P ops S Q mk rest a' w') fun a' w' hh => hh.out)
theorem wp_region_mixH {id : Nat} {a : Act} {w : World} {l : List Oper} (S : World → Prop) (ms ord : List Nat) (hm : P.follows .mixedOrders = true) (hB : mixB .any l.toArray ms ord = true) (hS : ∀ w n, S w → S (w.drewN n)) (hs : S w.drew)
    (h : Shut (wpMix P l.toArray S Q (fun i => ms.getD i 2) ord a w.drew)) : (Code.region id l.toArray true).wp P Q a w := wp_region_mix S ms ord hm hB hS hs h.out
theorem wpIn_region_mixH {id : Nat} {a : Act} {w : World} {l : List Oper} (S : World → Prop) (ms ord : List Nat) (hm : P.follows .mixedOrders = true) (hB : mixB .any l.toArray ms ord = true) (hdf : l.all plainOp = true) (hL : ¬ LetsOut Q) (hS : ∀ w n, S w → S (w.drewN n)) (hs : S w.drew)
    (h : Shut (wpMix P l.toArray S Q (fun i => ms.getD i 2) ord a w.drew)) : (Code.region id l.toArray true).wpIn (Fence.wide.inRound r) n P Q a w := wpIn_region_mix S ms ord hm hB hdf hL hS hs h.out
end
end Go.Proofs.Ytcgdpclhlepofaa
