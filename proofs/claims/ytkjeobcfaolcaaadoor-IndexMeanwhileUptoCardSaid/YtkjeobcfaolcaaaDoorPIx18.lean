/- A region that draws its order within a round of a range over a function: the one walk of XMix serves there too. -/
import Derived.OrdersIn
import Derived.TacticsIn
import Derived.RangeFuncCalls
import Derived.Lib.Hide
import Derived.Test.YtkjeobcfaolcaaaDoorPIx3
import Derived.Test.YtkjeobcfaolcaaaDoorPIx15
namespace Go.Proofs.YtkjeobcfaolcaaaDoor
set_option linter.unusedVariables false
set_option linter.unusedSimpArgs false
section
variable {P : Program} {ops : Array Oper} {md : Region.Mode} {Q : Exit → Act → World → Prop} {n r : Nat}

def plainOp (o : Oper) : Bool := match o.op with
  | .defer _ => false
  | _ => true
theorem plainOp_spec {o : Oper} (h : plainOp o = true) : ∀ c, o.op ≠ .defer c := fun c e => by
  unfold plainOp at h
  rw [e] at h
  cases h
/-- no row of the library's among what it may do -/
theorem wpIn_of_wp {o : Oper} {a : Act} {w : World} {K : Act → World → Prop} (ho : plainOp o = true) (hL : ¬ LetsOut Q) (h : o.wp P a w K Q) : o.wpIn (Fence.wide.inRound r) n P a w K Q := by
  refine ⟨fun _ _ => trivial, ?_⟩
  rw [Oper.semAt_eq _ _ _ (plainOp_spec ho)]
  unfold Oper.wp at h
  generalize (execOp a.eval o).run P w = x at *
  cases x with
  | ok x w' =>
    cases x <;> simp only [Oper.upon] at h <;> simp only [Oper.uponIn] <;> try exact h
    case enter f args =>
      refine ⟨(fun h => (by cases h)), CallsIn.inRound r (callsIn_wide.2 (Calls.mono h fun e w'' he => ?_))⟩
      cases e <;> exact he
    case row row args => exact ⟨(fun h => (by cases h)), fun c cs _ => let ⟨v, w', q, s⟩ := h c cs; ⟨v, w', q, stepsIn_wide.2 s⟩⟩
  | halt x w' =>
    cases x <;> simp only [Oper.upon] at h <;> simp only [Oper.uponIn] <;> exact h
theorem wpAnyIn_of_any (hd : ∀ (i : Nat) (o : Oper), ops[i]? = some o → plainOp o = true) (hL : ¬ LetsOut Q) : ∀ (fuel : Nat) (listed : Array Bool) (a : Act) (w : World), wpAny P md ops Q fuel listed a w → wpAnyIn (Fence.wide.inRound r) n P md ops Q fuel listed a w
  | 0, _, _, _, h => h
  | fuel + 1, listed, a, w, h => ⟨h.1, fun i hi => by
      have h1 := h.2 i hi
      unfold wpOp at h1
      unfold wpOpIn
      split
      · rename_i hn
        simp only [hn] at h1
        exact wpAnyIn_of_any hd hL fuel _ _ _ h1
      · rename_i o ho
        simp only [ho] at h1
        split
        · rename_i hw
          rw [if_pos hw] at h1
          rcases h1 with h1 | h1
          · exact Oper.wpIn_mono (fun a w h => wpAnyIn_of_any hd hL fuel _ a w h) (wpIn_of_wp (hd i o ho) hL h1)
          · exact (hL h1.2).elim
        · rename_i hw
          rw [if_neg hw] at h1
          exact ⟨fun _ _ => trivial, wpAnyIn_of_any hd hL fuel _ _ _ h1⟩⟩
theorem wpIn_region_mix {id : Nat} {a : Act} {w : World} {l : List Oper} (S : World → Prop) (ms ord : List Nat) (hm : P.follows .mixedOrders = true) (hB : mixB .any l.toArray ms ord = true) (hdf : l.all plainOp = true) (hL : ¬ LetsOut Q) (hS : ∀ w n, S w → S (w.drewN n)) (hs : S w.drew)
    (h : wpMix P l.toArray S Q (fun i => ms.getD i 2) ord a w.drew) : (Code.region id l.toArray true).wpIn (Fence.wide.inRound r) n P Q a w := by
  simp only [mixB, Bool.and_eq_true, decide_eq_true_eq] at hB
  obtain ⟨⟨hsel, hlen⟩, hord⟩ := hB
  refine wpIn_region_any hm (wpAnyIn_of_any (fun i o ho => ?_) hL _ _ _ _ ?_)
  · have : o ∈ l := List.mem_of_getElem? (by simpa using ho)
    exact List.all_eq_true.1 hdf o this
  have hcl : Closed .any l.toArray (Array.replicate l.toArray.size false) := fun j oj _ hl => by
    rcases Nat.lt_or_ge j l.toArray.size with h | h
    · simp at h hl; simp [h] at hl
    · simp at h hl; simp [h] at hl
  have := mixAny_sound hS _ _ _ _ hcl (fun _ => hs) (mixAny_of_mix hsel ord _ a w.drew hcl hord h) 0
  rw [hlen] at this
  exact this
end
end Go.Proofs.YtkjeobcfaolcaaaDoor
/- The one walk of a region that draws its order, behind a structure: no tactic looks through what is still to come (many operations that are not wanted, one behind the other, hang otherwise). -/
namespace Go.Proofs.YtkjeobcfaolcaaaDoor
set_option linter.unusedVariables false
set_option linter.unusedSimpArgs false
open Go.RowKit
/-- what no tactic looks through ('Hid' is a definition: weak head normal form unfolds it) -/
structure Shut (p : Prop) : Prop where
  out : p
section
variable {P : Program} {ops : Array Oper} {S : World → Prop} {Q : Exit → Act → World → Prop} {mk : Nat → Nat} {r n : Nat}
theorem wpMixH_nil {a : Act} {w : World} (h : ∀ n, Q .normal a (w.drewN n)) : Shut (wpMix P ops S Q mk [] a w) := Shut.mk (wpMix_nil h)
theorem wpMixH_any {i : Nat} {rest : List Nat} {a : Act} {w : World} {o : Oper} (ho : ops[i]? = some o) (hm : mk i = 0)
    (h : ∀ K : Act → World → Prop, (∀ a w, Shut (wpMix P ops S Q mk rest a w) → K a w) → if Region.wanted o (yielded ops a.tmps) then ∃ v, (∀ w', S w' → o.quietAt P a (fun w'' => w'' = w') w' v) ∧ K (a.put o.dst v) w else K (a.put o.dst undef) w) : Shut (wpMix P ops S Q mk (i :: rest) a w) :=
  Shut.mk (wpMix_any ho hm fun K hK => h K fun a w hh => hK a w hh.out)
theorem wpMixH_pure {i : Nat} {rest : List Nat} {a : Act} {w : World} {o : Oper} (ho : ops[i]? = some o) (hm : mk i = 3)
    (h : ∀ K : Act → World → Prop, (∀ a w, Shut (wpMix P ops S Q mk rest a w) → K a w) → if Region.wanted o (yielded ops a.tmps) then ∃ v, (∀ w', o.quietAt P a (fun w'' => w'' = w') w' v) ∧ K (a.put o.dst v) w else K (a.put o.dst undef) w) : Shut (wpMix P ops S Q mk (i :: rest) a w) :=
  Shut.mk (wpMix_pure ho hm fun K hK => h K fun a w hh => hK a w hh.out)
theorem wpMixH_loc {i : Nat} {rest : List Nat} {a : Act} {w : World} {o : Oper} (ho : ops[i]? = some o) (hm : mk i = 1)
    (h : ∀ K : Act → World → Prop, (∀ a w, Shut (wpMix P ops S Q mk rest a w) → K a w) → if Region.wanted o (yielded ops a.tmps) then ∃ v, (∀ n, o.quietAt P a (fun w' => ∃ n, w' = w.drewN n) (w.drewN n) v) ∧ K (a.put o.dst v) w else K (a.put o.dst undef) w) : Shut (wpMix P ops S Q mk (i :: rest) a w) :=
  Shut.mk (wpMix_loc ho hm fun K hK => h K fun a w hh => hK a w hh.out)
theorem wpMixH_loud {i : Nat} {rest : List Nat} {a : Act} {w : World} {o : Oper} (ho : ops[i]? = some o) (hm : mk i = 2)
    (h : ∀ n (K : Act → World → Prop), (∀ a w, (needB ops mk i = true → S w) → Shut (wpMix P ops S Q mk rest a w) → K a w) → wpList P ops (Exit.then K (noPan Q)) [o] a (w.drewN n)) : Shut (wpMix P ops S Q mk (i :: rest) a w) :=
  Shut.mk (wpMix_loud ho hm fun n K hK => h n K fun a w hs hh => hK a w hs hh.out)
theorem wpMixH_skip {i : Nat} {rest : List Nat} {a : Act} {w : World} {o : Oper} (ho : ops[i]? = some o) (hw : Region.wanted o (yielded ops a.tmps) = false)
    (h : ∀ K : Act → World → Prop, (∀ a w, Shut (wpMix P ops S Q mk rest a w) → K a w) → K (a.put o.dst undef) w) : Shut (wpMix P ops S Q mk (i :: rest) a w) := Shut.mk (by
  unfold wpMix mixAt mixOp
  simp only [ho]
  rw [if_neg (by rw [hw]; exact Bool.false_ne_true)]
  exact h (fun a' w' => wpMix P ops S Q mk rest a' w') fun a' w' hh => hh.out)
theorem wp_region_mixH {id : Nat} {a : Act} {w : World} {l : List Oper} (S : World → Prop) (ms ord : List Nat) (hm : P.follows .mixedOrders = true) (hB : mixB .any l.toArray ms ord = true) (hS : ∀ w n, S w → S (w.drewN n)) (hs : S w.drew)
    (h : Shut (wpMix P l.toArray S Q (fun i => ms.getD i 2) ord a w.drew)) : (Code.region id l.toArray true).wp P Q a w := wp_region_mix S ms ord hm hB hS hs h.out
theorem wpIn_region_mixH {id : Nat} {a : Act} {w : World} {l : List Oper} (S : World → Prop) (ms ord : List Nat) (hm : P.follows .mixedOrders = true) (hB : mixB .any l.toArray ms ord = true) (hdf : l.all plainOp = true) (hL : ¬ LetsOut Q) (hS : ∀ w n, S w → S (w.drewN n)) (hs : S w.drew)
    (h : Shut (wpMix P l.toArray S Q (fun i => ms.getD i 2) ord a w.drew)) : (Code.region id l.toArray true).wpIn (Fence.wide.inRound r) n P Q a w := wpIn_region_mix S ms ord hm hB hdf hL hS hs h.out
end
end Go.Proofs.YtkjeobcfaolcaaaDoor
/- IndexMeanwhile: two tables beside boxes, a copy of the document's, a counter. -/
namespace Go.Proofs.YtkjeobcfaolcaaaDoor
open Go.RowKit Go.Shelf
set_option maxHeartbeats 4000000
set_option linter.unusedVariables false
set_option linter.unusedSimpArgs false

theorem lies_cell {w wr : World} {A : Option Addr} {cp : Nat} {l : List Int} (h : Lies w (.slice A l.length cp) l) (hb : Below w.heap.size w wr) {i : Nat} (hi : i < l.length) : ∃ g off, A = some ⟨g, off, none⟩ ∧ wr.cell? ⟨g, off + i, none⟩ = some (.int .u64 (l[i]'hi)) := by
  obtain ⟨A', cp', e, _, _, hc⟩ := h.below hb
  obtain ⟨g, off, e1, e2⟩ := hc i hi
  injection e with ea eb ec
  refine ⟨g, off, ea.trans e1, ?_⟩
  rw [e2]
  simp [List.getD_eq_getElem?_getD, hi]
/-- the two tables at t and r, of blocks X; Bs: boxes beside them -/
structure MW (w W : World) (X : Nat → Prop) (t r a : Nat) (T : Tbl Int) (Bs : List (Nat × TypeId × Array Value)) : Prop where
  pj : PJ W X t r a a T T
  cl : T.s.Clean 0
  bx : ∀ x ∈ Bs, Blk W x.1 x.2.1 x.2.2
  dis : ∀ b, X b → w.heap.size ≤ b ∧ ∀ x ∈ Bs, b ≠ x.1
  fr : Fr (fun _ => False) w (fun _ => False) W
  bge : ∀ x ∈ Bs, w.heap.size ≤ x.1
  one : 1 < w.heap.size
section
variable {w W W' : World} {X X' : Nat → Prop} {t r a a' : Nat} {T T' : Tbl Int} {Bs : List (Nat × TypeId × Array Value)}
theorem MW.below (h : MW w W X t r a T Bs) : Below w.heap.size w W := h.fr.below (fun _ h => h.elim) (Nat.le_refl _)
theorem MW.step (h : MW w W X t r a T Bs) (hp : PJ W' X' t r a' a' T' T') (hc : T'.s.Clean 0) (hf : Fr X W X' W') : MW w W' X' t r a' T' Bs :=
  ⟨hp, hc, fun x hx => hf.blk (h.bx x hx) fun hh => (h.dis _ hh).2 x hx rfl, fun b hb => (hf.new b hb).elim (h.dis b) fun h1 => ⟨Nat.le_trans h.fr.size h1, fun x hx e => by have := (h.bx x hx).lt; omega⟩,
    h.fr.beside hf fun b hb => (h.dis b hb).1, h.bge, h.one⟩
theorem MW.new_ (h : MW w W X t r a T Bs) {F : Nat → Prop} (hf : Fr (fun _ => False) W F W') : MW w W' X t r a T Bs :=
  ⟨h.pj.new_ hf, h.cl, fun x hx => hf.blk (h.bx x hx) fun hh => hh, h.dis, h.fr.beside hf fun _ h => h.elim, h.bge, h.one⟩
theorem MW.drewN (h : MW w W X t r a T Bs) (n : Nat) : MW w (W.drewN n) X t r a T Bs := h.new_ ((Fr.refl (fun _ => False) W).drewN n)
theorem MW.box (h : MW w W X t r a T Bs) (ty : TypeId) (cs : Array Value) : MW w (W.alloc (.cells cs ty)) X t r a T ((W.heap.size, ty, cs) :: Bs) := by
  have h1 := h.new_ ((Fr.refl (fun _ => False) W).alloc (.cells cs ty))
  refine ⟨h1.pj, h1.cl, fun x hx => ?_, fun b hb => ⟨(h1.dis b hb).1, fun x hx => ?_⟩, h1.fr, fun x hx => ?_, h.one⟩
  · rcases List.mem_cons.1 hx with rfl | hx
    · exact Blk.new _ _ _
    · exact h1.bx x hx
  · rcases List.mem_cons.1 hx with rfl | hx
    · have := h.pj.lt b hb; show b ≠ W.heap.size; omega
    · exact (h1.dis b hb).2 x hx
  · rcases List.mem_cons.1 hx with rfl | hx
    · exact h.fr.size
    · exact h1.bge x hx
/-- What lies apart from the tables and the boxes turns. -/
theorem MW.far (h : MW w W X t r a T Bs) {F F' : Nat → Prop} (hf : Fr F W F' W') (h1 : ∀ b, F b → w.heap.size ≤ b ∧ ¬ X b ∧ ∀ x ∈ Bs, b ≠ x.1) : MW w W' X t r a T Bs :=
  ⟨h.pj.fr hf (fun j hj hF => (h1 j hF).2.1 hj) (fun hF => by have := (h1 1 hF).1; have := h.one; omega), h.cl, fun x hx => hf.blk (h.bx x hx) fun hh => (h1 _ hh).2.2 x hx rfl, h.dis, h.fr.beside hf fun b hb => (h1 b hb).1, h.bge, h.one⟩
theorem MW.own (h : MW w W X t r a T Bs) {row : Option Nat} {B : Nat} (hB : w.heap.size ≤ B) (hg : W.grownBy W' row) (hr : ∀ r, row = some r → B ≤ r ∧ ∃ o : Obj, W.heap[r]? = some o ∧ o.isCells = false) : MW w W' X t r a T Bs :=
  ⟨h.pj.ownFrom hg hr, h.cl, fun x hx => (h.bx x hx).ownFrom hg hr, h.dis, h.fr.ownFrom hB hg hr, h.bge, h.one⟩
theorem TbW.cells {w : World} {t : Nat} {F : Nat → Prop} {T : Tbl Int} (h : TbW w t F T) {k : Nat} {o : Obj} (hk : F k) (ho : w.heap[k]? = some o) : o.isCells = true := by
  obtain ⟨g, cz, A, cp, rfl, hb, ⟨cs, hs, hc⟩, hv, hok⟩ := h
  rcases hk with rfl | rfl | hk
  · exact Blk.isCells hb ho
  · exact Blk.isCells hs ho
  · rcases hv.2 with ⟨h1, h2⟩ | ⟨gg, off, cap, cur, h1, h2, h3, h4⟩
    · rw [h1] at hk; simp [own, Value.ownBlock] at hk
    · have e : gg = k := by simpa [own, h1, Value.ownBlock] using hk
      subst e
      rw [h3] at ho
      cases ho
      rfl
theorem TbR.cells {w : World} {t : Nat} {F : Nat → Prop} {T : Tbl Int} (h : TbR w t F T) {k : Nat} {o : Obj} (hk : F k) (ho : w.heap[k]? = some o) : o.isCells = true := by
  obtain ⟨g, cz, A, cp, rfl, hb, ⟨cs, hs, hc⟩, hv, hok⟩ := h
  rcases hk with rfl | rfl | hk
  · exact Blk.isCells hb ho
  · exact Blk.isCells hs ho
  · rcases hv.2 with ⟨h1, h2⟩ | ⟨gg, off, cap, cur, h1, h2, h3, h4⟩
    · rw [h1] at hk; simp [own, Value.ownBlock] at hk
    · have e : gg = k := by simpa [own, h1, Value.ownBlock] using hk
      subst e
      rw [h3] at ho
      cases ho
      rfl
theorem PJ.cells {a b : Nat} {T U : Tbl Int} (h : PJ W X t r a b T U) {k : Nat} {o : Obj} (hk : X k) (ho : W.heap[k]? = some o) : o.isCells = true := by
  obtain ⟨F, G, rfl, h1, h2, _⟩ := h.tb
  exact hk.elim (fun h => h1.cells h ho) fun h => h2.cells h ho
/-- .. and a copy of the document's, T0, at s, and a counter at bn. -/
structure MB (w W : World) (X : Nat → Prop) (t r a : Nat) (T : Tbl Int) (Bs : List (Nat × TypeId × Array Value)) (s : Nat) (G : Nat → Prop) (T0 : Tbl Int) (bn : Nat) (k : Int) : Prop where
  mw : MW w W X t r a T Bs
  ws : TbR W s G T0
  xg : ∀ b, X b → ¬ G b
  gb : ∀ b, G b → b ≠ bn
  nb : Blk W bn 3 #[.int .i64 k]
  xn : ∀ b, X b → b ≠ bn
  nbs : w.heap.size ≤ bn ∧ ∀ x ∈ Bs, bn ≠ x.1
variable {s bn : Nat} {G : Nat → Prop} {T0 : Tbl Int} {k : Int}
theorem MB.new_ (h : MB w W X t r a T Bs s G T0 bn k) {F : Nat → Prop} (hf : Fr (fun _ => False) W F W') : MB w W' X t r a T Bs s G T0 bn k :=
  ⟨h.mw.new_ hf, h.ws.fr hf fun _ _ h => h, h.xg, h.gb, hf.blk h.nb fun h => h, h.xn, h.nbs⟩
theorem MB.drewN (h : MB w W X t r a T Bs s G T0 bn k) (n : Nat) : MB w (W.drewN n) X t r a T Bs s G T0 bn k := h.new_ ((Fr.refl (fun _ => False) W).drewN n)
theorem MB.step (h : MB w W X t r a T Bs s G T0 bn k) (hp : PJ W' X' t r a' a' T' T') (hc : T'.s.Clean 0) (hf : Fr X W X' W') : MB w W' X' t r a' T' Bs s G T0 bn k :=
  ⟨h.mw.step hp hc hf, h.ws.fr hf fun b hb hx => h.xg b hx hb, fun b hb hg => (hf.new b hb).elim (fun h1 => h.xg b h1 hg) fun h1 => by have := h.ws.lt b hg; omega, h.gb, hf.blk h.nb fun hx => h.xn bn hx rfl,
    fun b hb => (hf.new b hb).elim (h.xn b) fun h1 => by have := h.nb.lt; omega, h.nbs⟩
theorem MB.setN (h : MB w W X t r a T Bs s G T0 bn k) (k' : Int) : MB w (W.setCell ⟨bn, 0, none⟩ (.int .i64 k')) X t r a T Bs s G T0 bn k' := by
  have hf : Fr (fun b => b = bn) W (fun b => b = bn) (W.setCell ⟨bn, 0, none⟩ (.int .i64 k')) := (Fr.refl (fun b => b = bn) W).set (p := ⟨bn, 0, none⟩) (.inl rfl) _
  refine ⟨h.mw.far hf fun b hb => ?_, h.ws.fr hf fun b hb e => h.gb b hb e, h.xg, h.gb, ?_, h.xn, h.nbs⟩
  · subst hb
    exact ⟨h.nbs.1, fun hx => h.xn _ hx rfl, h.nbs.2⟩
  · simpa using h.nb.set_ 0 (.int .i64 k')
theorem MB.own (h : MB w W X t r a T Bs s G T0 bn k) {row : Option Nat} {B : Nat} (hB : w.heap.size ≤ B) (hg : W.grownBy W' row) (hr : ∀ r, row = some r → B ≤ r ∧ ∃ o : Obj, W.heap[r]? = some o ∧ o.isCells = false) : MB w W' X t r a T Bs s G T0 bn k :=
  ⟨h.mw.own hB hg hr, h.ws.ownFrom hg hr, h.xg, h.gb, h.nb.ownFrom hg hr, h.xn, h.nbs⟩
/-- The blocks that the body of the range may turn. -/
def RM (t r bn : Nat) : World → Nat → Prop := fun W j => ((Own2 W t j ∨ Own2 W r j) ∧ j ≠ 1) ∨ j = bn
theorem own2_same {W W' : World} {t : Nat} (h : W'.heap[t]? = W.heap[t]?) : Own2 W' t = Own2 W t := by
  have e : ∀ i, W'.cell? ⟨t, i, none⟩ = W.cell? ⟨t, i, none⟩ := fun i => by unfold World.cell?; rw [h]
  funext b
  unfold Own2
  rw [e, e]
theorem RM.same {W W' : World} {t r bn : Nat} (h1 : W'.heap[t]? = W.heap[t]?) (h2 : W'.heap[r]? = W.heap[r]?) : RM t r bn W' = RM t r bn W := by
  funext j
  unfold RM
  rw [own2_same h1, own2_same h2]
theorem MB.kp (h : MB w W X t r a T Bs s G T0 bn k) {F F' : Nat → Prop} (hf : Fr F W F' W') (hF : ∀ b, F b → X b ∨ b = bn) {k' : Int} (h' : MB w W' X' t r a' T' Bs s G T0 bn k') (hX : ∀ b, X' b → X b ∨ W.heap.size ≤ b) : KpR (RM t r bn) W W' := by
  have e1 := h.mw.pj.own2
  have e2 := h'.mw.pj.own2
  refine KpR.of_fr hf (fun b hb => ?_) fun b hb => ?_
  · rcases hF b hb with hb | hb
    · refine .inl ⟨by rw [e1] at hb; exact hb, fun e => ?_⟩
      have := (h.mw.dis b hb).1
      have := h.mw.one
      omega
    · exact .inr hb
  · rcases hb with ⟨hb, h1⟩ | hb
    · have hx : X' b := by rw [e2]; exact hb
      rcases hX b hx with h2 | h2
      · exact .inl (.inl ⟨by rw [e1] at h2; exact h2, h1⟩)
      · exact .inr h2
    · exact .inl (.inr hb)
/-- what a round keeps, by the blocks that it has turned -/
theorem MB.fin (h : MB w W X t r a T Bs s G T0 bn k) {W4 : World} {B : Nat} {k' : Int} (h' : MB w W4 X' t r a' T' Bs s G T0 bn k) (hf : Fr X W X' W4) : KeepsFrom B W (W4.setCell ⟨bn, 0, none⟩ (.int .i64 k')) ∧ KpR (RM t r bn) W (W4.setCell ⟨bn, 0, none⟩ (.int .i64 k')) := by
  have h5 := h'.setN k'
  have f5 : Fr (fun b => X b ∨ b = bn) W (fun b => X' b ∨ b = bn) (W4.setCell ⟨bn, 0, none⟩ (.int .i64 k')) := by
    have g1 : Fr (fun b => X b ∨ b = bn) W (fun b => X' b ∨ b = bn) W4 := (hf.wide fun b hb => .inl hb).into fun b hb => hb.elim .inl fun hb => .inr (.inl (.inr hb))
    exact g1.set (p := ⟨bn, 0, none⟩) (.inl (.inr rfl)) _
  refine ⟨KeepsOthers.from (f5.others fun j o hj ho => ?_) B, h.kp f5 (fun b hb => hb) h5 fun b hb => hf.new b hb⟩
  rcases hj with hj | rfl
  · exact h.mw.pj.cells hj ho
  · exact Blk.isCells h.nb ho
end
end Go.Proofs.YtkjeobcfaolcaaaDoor
