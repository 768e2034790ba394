/- A range over a function, in a walk without a fence. -/
import Derived.RangeFuncNested
import Derived.RangeFuncBound
import Derived.RangeFuncCalls
import Derived.RangeFuncLeaves
import Derived.RangeFuncWrites
import Derived.Shelf.Abstract
import Derived.Shelf.RegionOpen
import Derived.WalkKit
import Derived.OwnWalkIn
import Derived.TacticsInMore
import Derived.LoopNIn
import Derived.LoopIn
import Derived.Test.YtkjeobcfaolcaaaDoorPIx1
import Derived.Test.YtkjeobcfaolcaaaDoorPIx3
import Derived.Test.YtkjeobcfaolcaaaDoorPIx4
namespace Go.Proofs.YtkjeobcfaolcaaaDoor
open Go.RowKit
set_option linter.unusedVariables false

theorem wp_rangeFunc_ {P : Program} {α : Type} {g : Operand} {ps : Array Tmp} {assign body : Code} {Q : Exit → Act → World → Prop} {a : Act} {w : World}
    {gf : Nat} {lb : Array Value} (hg : a.eval g = .func (.func gf) #[] lb) (eg : ∀ args w, (callFunc gf args).run P w = .ok (.enter gf args) w)
    {encs : α → Array Value} {Kp : World → World → Prop} {S Sp : List α → Prop} {N : Nat} {w0 : World} (hseq : SeqStopsK Fence.wide 2 P gf lb encs Kp S Sp N w0)
    (hKt : ∀ {A B C : World}, Kp A B → Kp B C → Kp A C) (hKb : ∀ (W : World) (l : Nat) (o o' : Obj), w.heap.size ≤ l → W.heap[l]? = some o → o.isCells = false → o.isWalk = false → Kp W (W.putObj l o')) (hb0 : Below w0.heap.size w0 w) (hps : ∀ x, (encs x).size = ps.size)
    (I : List α → World → Prop) (Ix : Code → List α → World → Prop) (hI : OwnFrom w.heap.size I) (hIx : ∀ c, OwnFrom w.heap.size (Ix c)) (h0 : I [] w) (Ax : α → Act → World → Prop) (hAx : ∀ x a', OwnFrom w.heap.size (fun (_ : Unit) W => Ax x a' W))
    (hassign : ∀ (l : Nat) (pre : List α) (x : α) (W : World) (K : Act → World → Prop), I pre W → (∀ a' W', KeepsFrom w.heap.size W W' → Kp W W' → I pre W' → Ax x a' W' → K a' W') →
      assign.wpIn (Fence.wide.inRound l) 1 P (Exit.then K (fun _ _ _ => False)) { tmps := (ps.zip (encs x)).foldl (fun t (p, v) => t.setIfInBounds p v) a.tmps, defers := [] } W)
    (hbody : ∀ (l : Nat) (pre : List α) (x : α) (a' : Act) (W : World), w.heap.size ≤ l → (∃ r, W.heap[l]? = some (.loop r)) → I pre W → Ax x a' W → pre.length < N → body.wpIn (Fence.wide.inRound l) 1 P (ownPostG w.heap.size Kp I Ix (pre ++ [x]) W) a' W)
    (hdone : ∀ (D : Nat) (xs : List α) (W : World), w.heap.size ≤ D → S xs → I xs W → W.heap[D]? = some (.deferred (some [])) → Q .normal { a with defers := { target := .collected D, args := #[] } :: a.defers } W)
    (hstop : ∀ (D : Nat) (c : Code) (pre : List α) (W : World), w.heap.size ≤ D → Sp pre → Ix c pre W → W.heap[D]? = some (.deferred (some [])) → c.wp P Q { a with defers := { target := .collected D, args := #[] } :: a.defers } W) :
    (Code.rangeFunc g ps assign body).wp P Q a w :=
  wpIn_wide.1 (wpIn_rangeFunc_ownH (F := Fence.wide) (n := 3) rfl (by decide) hg trivial eg hseq (fun h k => hKt h k) hKb hb0 hps I Ix hI hIx h0 Ax hAx hassign hbody hdone fun D c pre W h1 h2 h3 h4 => wpIn_wide.2 (hstop D c pre W h1 h2 h3 h4))
/-- .. where the assignment lays no block: `fin` says what it sets. -/
theorem wp_rangeFunc_P {P : Program} {α : Type} {g : Operand} {ps : Array Tmp} {assign body : Code} {Q : Exit → Act → World → Prop} {a : Act} {w : World}
    {gf : Nat} {lb : Array Value} (hg : a.eval g = .func (.func gf) #[] lb) (eg : ∀ args w, (callFunc gf args).run P w = .ok (.enter gf args) w)
    {encs : α → Array Value} {Kp : World → World → Prop} {S Sp : List α → Prop} {N : Nat} {w0 : World} (hseq : SeqStopsK Fence.wide 2 P gf lb encs Kp S Sp N w0)
    (hKt : ∀ {A B C : World}, Kp A B → Kp B C → Kp A C) (hKb : ∀ (W : World) (l : Nat) (o o' : Obj), w.heap.size ≤ l → W.heap[l]? = some o → o.isCells = false → o.isWalk = false → Kp W (W.putObj l o')) (hKr : ∀ W, Kp W W) (hb0 : Below w0.heap.size w0 w) (hps : ∀ x, (encs x).size = ps.size)
    (fin : α → Array Value → Array Value) (I : List α → World → Prop) (Ix : Code → List α → World → Prop) (hI : OwnFrom w.heap.size I) (hIx : ∀ c, OwnFrom w.heap.size (Ix c)) (h0 : I [] w)
    (hassign : ∀ (l : Nat) (x : α) (W : World) (K : Act → World → Prop), (∀ a', a' = { tmps := fin x ((ps.zip (encs x)).foldl (fun t (p, v) => t.setIfInBounds p v) a.tmps), defers := [] } → K a' W) →
      assign.wpIn (Fence.wide.inRound l) 1 P (Exit.then K (fun _ _ _ => False)) { tmps := (ps.zip (encs x)).foldl (fun t (p, v) => t.setIfInBounds p v) a.tmps, defers := [] } W)
    (hbody : ∀ (l : Nat) (pre : List α) (x : α) (W : World), w.heap.size ≤ l → (∃ r, W.heap[l]? = some (.loop r)) → I pre W → pre.length < N → body.wpIn (Fence.wide.inRound l) 1 P (ownPostG w.heap.size Kp I Ix (pre ++ [x]) W) { tmps := fin x ((ps.zip (encs x)).foldl (fun t (p, v) => t.setIfInBounds p v) a.tmps), defers := [] } W)
    (hdone : ∀ (D : Nat) (xs : List α) (W : World), w.heap.size ≤ D → S xs → I xs W → W.heap[D]? = some (.deferred (some [])) → Q .normal { a with defers := { target := .collected D, args := #[] } :: a.defers } W)
    (hstop : ∀ (D : Nat) (c : Code) (pre : List α) (W : World), w.heap.size ≤ D → Sp pre → Ix c pre W → W.heap[D]? = some (.deferred (some [])) → c.wp P Q { a with defers := { target := .collected D, args := #[] } :: a.defers } W) :
    (Code.rangeFunc g ps assign body).wp P Q a w :=
  wp_rangeFunc_ hg eg hseq (fun h k => hKt h k) hKb hb0 hps I Ix hI hIx h0
    (fun x a' _ => a' = { tmps := fin x ((ps.zip (encs x)).foldl (fun t (p, v) => t.setIfInBounds p v) a.tmps), defers := [] }) (fun _ _ _ _ _ _ hs _ _ => hs)
    (fun l pre x W K hi hK => hassign l x W K fun a' e => hK a' W (KeepsFrom.refl _ _) (hKr W) hi e)
    (fun l pre x a' W hl hr hi e hlen => by subst e; exact hbody l pre x W hl hr hi hlen) hdone hstop
theorem calls_marks {P : Program} {f : FuncId} {fn : Func} {c : Code} {args : Array Value} {w : World} {R : Ending → World → Prop}
    (hf : P.funcs[f]? = some fn) (hb : fn.body = some c)
    (h : c.wp P (bodyPostM Fence.wide 3 P fn R) { tmps := args ++ Array.replicate (fn.ntmps - args.size) undef, defers := [] } w) : Calls P f args w R :=
  callsIn_wide.1 (callsIn_of_wp_marks (F := Fence.wide) (n := 3) hf hb trivial (wpIn_wide.2 h) rfl)
/-- Blocks of F are cells: what is no cells lies as it lay. -/
theorem Fr.others {F F' : Nat → Prop} {w w' : World} (h : Fr F w F' w') (hc : ∀ k o, F k → w.heap[k]? = some o → o.isCells = true) : KeepsOthers w w' :=
  ⟨h.size, fun k o hk ho => by
    by_cases e : F k
    · have := hc k o e hk
      rw [ho] at this
      cases this
    · exact (h.block k (Array.getElem?_eq_some_iff.1 hk).1 e).trans hk⟩
theorem Blk.isCells {w : World} {g : Nat} {t : TypeId} {cs : Array Value} (h : Blk w g t cs) {o : Obj} (ho : w.heap[g]? = some o) : o.isCells = true := by
  unfold Blk at h
  rw [h] at ho
  cases ho
  rfl
/-- A block of cells is not touched by the turn of one that is none. -/
theorem Blk.own {W W' : World} {row : Option Nat} {g : Nat} {t : TypeId} {cs : Array Value} (h : Blk W g t cs) (hg : W.grownBy W' row) (hr : ∀ r, row = some r → ∃ o : Obj, W.heap[r]? = some o ∧ o.isCells = false) : Blk W' g t cs :=
  h.grown hg fun e => by
    obtain ⟨o, ho, hc⟩ := hr g e.symm
    have := Blk.isCells h ho
    rw [hc] at this
    cases this
theorem Blk.ownFrom {W W' : World} {row : Option Nat} {B g : Nat} {t : TypeId} {cs : Array Value} (h : Blk W g t cs) (hg : W.grownBy W' row) (hr : ∀ r, row = some r → B ≤ r ∧ ∃ o : Obj, W.heap[r]? = some o ∧ o.isCells = false) : Blk W' g t cs :=
  h.own hg fun r e => (hr r e).2
theorem Fr.ownFrom {F F' : Nat → Prop} {w W W' : World} {row : Option Nat} {B : Nat} (h : Fr F w F' W) (hB : w.heap.size ≤ B) (hg : W.grownBy W' row) (hr : ∀ r, row = some r → B ≤ r ∧ ∃ o : Obj, W.heap[r]? = some o ∧ o.isCells = false) : Fr F w F' W' :=
  h.grown hg fun k e => .inr (.inr (by have := (hr k e).1; omega))
/-- The block of the deferred calls is shut. -/
theorem Blk.shut {W : World} {g D : Nat} {t : TypeId} {cs : Array Value} {o : Obj} {c : Option (List Deferred)} (h : Blk W g t cs) (hK : W.heap[D]? = some (.deferred c)) : Blk (W.putObj D o) g t cs :=
  h.grown (grownBy_putObj' W D o) fun e => by
    cases e
    unfold Blk at h
    rw [h] at hK
    cases hK
theorem Fr.shut {F F' : Nat → Prop} {w W : World} {D : Nat} (h : Fr F w F' W) (hD : w.heap.size ≤ D) (o : Obj) : Fr F w F' (W.putObj D o) :=
  h.grown (grownBy_putObj' W D o) fun k e => by cases e; exact .inr (.inr hD)
end Go.Proofs.YtkjeobcfaolcaaaDoor
/- Open addressing, plain: the walk of a look ends; what put, growing and taking leave. -/
namespace Go.Proofs.YtkjeobcfaolcaaaDoor
set_option linter.unusedVariables false

/-- e lies on the way from h to j, j itself not counted (in a circle) -/
def onp (h j e : Nat) : Prop := if h ≤ j then h ≤ e ∧ e < j else h ≤ e ∨ e < j
def dst (n i j : Nat) : Nat := if i ≤ j then j - i else j + n - i
theorem nx {n i : Nat} (hi : i < n) : (i + 1) % n = if i + 1 = n then 0 else i + 1 := by
  split
  · subst_vars; simp
  · exact Nat.mod_eq_of_lt (by omega)
theorem sub_len {α : Type} [DecidableEq α] : ∀ (a b : List α), a.Nodup → (∀ x ∈ a, x ∈ b) → a.length ≤ b.length
  | [], _, _, _ => by simp
  | x :: a, b, h, hs => by
    rw [List.nodup_cons] at h
    have hx := hs x (by simp)
    have hp := List.length_pos_of_mem hx
    have := sub_len a (b.erase x) h.2 fun y hy => (List.mem_erase_of_ne (by rintro rfl; exact h.1 hy)).2 (hs y (by simp [hy]))
    rw [List.length_erase_of_mem hx] at this
    simp
    omega
theorem nodup_of_inj {α : Type} (f : Nat → α) : ∀ (d : Nat), (∀ a b, a < d → b < d → f a = f b → a = b) → ((List.range d).map f).Nodup := fun d h => by
  rw [List.Nodup, List.pairwise_map]
  refine List.Pairwise.imp_of_mem ?_ (List.nodup_range (n := d))
  intro a b ha hb hab e
  exact hab (h a b (List.mem_range.1 ha) (List.mem_range.1 hb) e)

/-- A table: slots, their keys, the keys in the order of coming. -/
structure TInv (n : Nat) (hm : Int → Nat) (U : Nat → Bool) (K : Nat → Int) (l : List Int) : Prop where
  path : ∀ j, j < n → U j = true → ∀ e, e < n → onp (hm (K j)) j e → U e = true
  uniq : ∀ i j, i < n → j < n → U i = true → U j = true → K i = K j → i = j
  keys : ∀ x, x ∈ l ↔ ∃ j, j < n ∧ U j = true ∧ K j = x
  nodup : l.Nodup
  room : l.length < n
section
variable {n : Nat} {hm : Int → Nat} {U : Nat → Bool} {K : Nat → Int} {l : List Int}
theorem TInv.free (h : TInv n hm U K l) : ∃ z, z < n ∧ U z = false := by
  apply Classical.byContradiction
  intro hn
  have hall : ∀ z, z < n → U z = true := fun z hz => by
    cases hu : U z with
    | true => rfl
    | false => exact (hn ⟨z, hz, hu⟩).elim
  have h1 := nodup_of_inj K n fun a b ha hb e => h.uniq a b ha hb (hall a ha) (hall b hb) e
  have h2 := sub_len _ l h1 fun x hx => by
    obtain ⟨j, hj, rfl⟩ := List.mem_map.1 hx
    exact (h.keys _).2 ⟨j, List.mem_range.1 hj, hall j (List.mem_range.1 hj), rfl⟩
  simp at h2
  have := h.room
  omega
/-- The first slot from i on that is free. -/
theorem first_free {U : Nat → Bool} {n : Nat} : ∀ (d i z : Nat), i < n → z < n → dst n i z = d → U z = false → ∃ j, j < n ∧ U j = false ∧ ∀ e, e < n → onp i j e → U e = true
  | 0, i, z, hi, hz, hd, hu => ⟨i, hi, by obtain rfl : i = z := by unfold dst at hd; split at hd <;> omega
                                          exact hu, fun e he hp => by unfold onp at hp; simp at hp; omega⟩
  | d + 1, i, z, hi, hz, hd, hu => by
    cases hui : U i with
    | false => exact ⟨i, hi, hui, fun e he hp => by unfold onp at hp; simp at hp; omega⟩
    | true =>
      obtain ⟨j, hj, huj, hp⟩ := first_free d ((i + 1) % n) z (Nat.mod_lt _ (by omega)) hz (by rw [nx hi]; unfold dst at *; split <;> (split at hd <;> split <;> omega)) hu
      refine ⟨j, hj, huj, fun e he hpe => ?_⟩
      by_cases hei : e = i
      · rw [hei]; exact hui
      · refine hp e he ?_
        have hij : i ≠ j := by rintro rfl; rw [hui] at huj; cases huj
        rw [nx hi]
        unfold onp at *
        split at hpe <;> (split <;> (split <;> omega))
theorem lgo_ends {key : Int} : ∀ (d i j fuel m : Nat), i < n → j < n → dst n i j = d → d < fuel → (∀ e, e < n → onp i j e → U e = true ∧ K e ≠ key) → (U j = false ∨ K j = key) → lgo U K key n fuel i m = some (j, m + d)
  | 0, i, j, 0, m, _, _, _, h, _, _ => by omega
  | 0, i, j, fuel + 1, m, hi, hj, hd, _, hp, hs => by
    obtain rfl : i = j := by unfold dst at hd; split at hd <;> omega
    rw [lgo, if_neg]
    · rfl
    · rcases hs with hs | hs <;> simp [hs]
  | d + 1, i, j, 0, m, _, _, _, h, _, _ => by omega
  | d + 1, i, j, fuel + 1, m, hi, hj, hd, hf, hp, hs => by
    have hij : i ≠ j := by rintro rfl; unfold dst at hd; simp at hd
    obtain ⟨h1, h2⟩ := hp i hi (by unfold onp; split <;> omega)
    rw [lgo, if_pos (by simp [h1, h2]), lgo_ends d ((i + 1) % n) j fuel (m + 1) (Nat.mod_lt _ (by omega)) hj (by rw [nx hi]; unfold dst at *; split <;> (split at hd <;> split <;> omega)) (by omega) ?_ hs]
    · rw [show m + 1 + d = m + (d + 1) by omega]
    · intro e he hpe
      refine hp e he ?_
      rw [nx hi] at hpe
      unfold onp at *
      split at hpe <;> (split at hpe <;> (split <;> omega))
theorem dst_lt {i j : Nat} (hi : i < n) (hj : j < n) : dst n i j < n := by unfold dst; split <;> omega
/-- The slots on a way are as many as it is long: no more than there are keys. -/
theorem TInv.short (h : TInv n hm U K l) {i j : Nat} (hi : i < n) (hj : j < n) (hp : ∀ e, e < n → onp i j e → U e = true) : dst n i j ≤ l.length := by
  have hn : 0 < n := by omega
  have hs : ∀ a, a < dst n i j → (i + a) % n = if i + a < n then i + a else i + a - n := fun a ha => by
    have := dst_lt hi hj
    split
    · exact Nat.mod_eq_of_lt ‹_›
    · rw [Nat.mod_eq_sub_mod (by omega), Nat.mod_eq_of_lt (by omega)]
  have hu : ∀ a, a < dst n i j → U ((i + a) % n) = true := fun a ha => by
    refine hp _ (Nat.mod_lt _ hn) ?_
    rw [hs a ha]
    unfold onp
    unfold dst at ha
    split at ha <;> (split <;> (split <;> omega))
  have h1 := nodup_of_inj (fun a => K ((i + a) % n)) (dst n i j) fun a b ha hb e => by
    have e := h.uniq _ _ (Nat.mod_lt _ hn) (Nat.mod_lt _ hn) (hu a ha) (hu b hb) e
    rw [hs a ha, hs b hb] at e
    have := dst_lt hi hj
    split at e <;> (split at e <;> omega)
  have h2 := sub_len _ l h1 fun x hx => by
    obtain ⟨a, ha, rfl⟩ := List.mem_map.1 hx
    exact (h.keys _).2 ⟨_, Nat.mod_lt _ hn, hu a (List.mem_range.1 ha), rfl⟩
  simpa using h2
theorem TInv.look_in (h : TInv n hm U K l) (hb : ∀ x, hm x < n) {key : Int} (hk : key ∈ l) {fuel : Nat} (hf : n ≤ fuel) :
    ∃ j, j < n ∧ U j = true ∧ K j = key ∧ ∃ d, d < l.length + 1 ∧ lgo U K key n fuel (hm key) 1 = some (j, 1 + d) := by
  obtain ⟨j, hj, hu, hkj⟩ := (h.keys key).1 hk
  have hp : ∀ e, e < n → onp (hm key) j e → U e = true := fun e he ho => h.path j hj hu e he (by rw [hkj]; exact ho)
  refine ⟨j, hj, hu, hkj, dst n (hm key) j, by have := h.short (hb key) hj hp; omega, lgo_ends _ _ j fuel 1 (hb key) hj rfl (by have := dst_lt (hb key) hj; omega) (fun e he ho => ⟨hp e he ho, fun e1 => ?_⟩) (.inr hkj)⟩
  have := h.uniq e j he hj (hp e he ho) hu (e1.trans hkj.symm)
  subst this
  unfold onp at ho
  split at ho <;> omega
theorem TInv.look_out (h : TInv n hm U K l) (hb : ∀ x, hm x < n) {key : Int} (hk : key ∉ l) {fuel : Nat} (hf : n ≤ fuel) :
    ∃ j, j < n ∧ U j = false ∧ (∀ e, e < n → onp (hm key) j e → U e = true) ∧ ∃ d, d < l.length + 1 ∧ lgo U K key n fuel (hm key) 1 = some (j, 1 + d) := by
  obtain ⟨z, hz, huz⟩ := h.free
  obtain ⟨j, hj, hu, hp⟩ := first_free _ (hm key) z (hb key) hz rfl huz
  refine ⟨j, hj, hu, hp, dst n (hm key) j, by have := h.short (hb key) hj hp; omega, lgo_ends _ _ j fuel 1 (hb key) hj rfl (by have := dst_lt (hb key) hj; omega) (fun e he ho => ⟨hp e he ho, fun e1 => ?_⟩) (.inl hu)⟩
  exact hk ((h.keys key).2 ⟨e, he, hp e he ho, e1⟩)
theorem TInv.put (h : TInv n hm U K l) {key : Int} (hk : key ∉ l) {j : Nat} (hj : j < n) (hu : U j = false) (hp : ∀ e, e < n → onp (hm key) j e → U e = true) (hr : l.length + 1 < n) :
    TInv n hm (fun i => if i = j then true else U i) (fun i => if i = j then key else K i) (l ++ [key]) where
  path := fun i hi hui e he ho => by
    by_cases hej : e = j
    · simp [hej]
    · simp only [if_neg hej]
      by_cases hij : i = j
      · subst hij
        simp only [if_true] at ho
        exact hp e he ho
      · simp only [if_neg hij] at hui ho
        exact h.path i hi hui e he ho
  uniq := fun a b ha hb hua hub e => by
    by_cases haj : a = j <;> by_cases hbj : b = j
    · omega
    · simp only [if_pos haj, if_neg hbj] at e hub
      exact (hk ((h.keys key).2 ⟨b, hb, hub, e.symm⟩)).elim
    · simp only [if_pos hbj, if_neg haj] at e hua
      exact (hk ((h.keys key).2 ⟨a, ha, hua, e⟩)).elim
    · simp only [if_neg hbj, if_neg haj] at e hua hub
      exact h.uniq a b ha hb hua hub e
  keys := fun x => by
    rw [List.mem_append, List.mem_singleton, h.keys]
    constructor
    · rintro (⟨i, hi, hui, rfl⟩ | rfl)
      · have hij : i ≠ j := by rintro rfl; rw [hu] at hui; cases hui
        exact ⟨i, hi, by simp [hij, hui], by simp [hij]⟩
      · exact ⟨j, hj, by simp, by simp⟩
    · rintro ⟨i, hi, hui, rfl⟩
      by_cases hij : i = j
      · right; simp [hij]
      · left; simp only [if_neg hij] at hui ⊢; exact ⟨i, hi, hui, rfl⟩
  nodup := by
    rw [List.nodup_append]
    refine ⟨h.nodup, by simp, ?_⟩
    intro a ha b hb e
    rw [List.mem_singleton] at hb
    exact hk (by rw [← hb, ← e]; exact ha)
  room := by simpa using hr
end
end Go.Proofs.YtkjeobcfaolcaaaDoor
/- What a round keeps: beside what the loop's body may reach no cells turn. -/
namespace Go.Proofs.YtkjeobcfaolcaaaDoor
open Go.RowKit
set_option linter.unusedVariables false

/-- Beside R's blocks no block of cells turns; what R has besides is new. -/
structure KpR (R : World → Nat → Prop) (A B : World) : Prop where
  size : A.heap.size ≤ B.heap.size
  cells : ∀ k o, A.heap[k]? = some o → o.isCells = true → ¬ R A k → B.heap[k]? = A.heap[k]?
  new : ∀ k, R B k → R A k ∨ A.heap.size ≤ k
theorem KpR.refl (R : World → Nat → Prop) (W : World) : KpR R W W := ⟨Nat.le_refl _, fun _ _ _ _ _ => rfl, fun _ h => .inl h⟩
theorem KpR.trans {R : World → Nat → Prop} {A B C : World} (h : KpR R A B) (g : KpR R B C) : KpR R A C where
  size := Nat.le_trans h.size g.size
  cells := fun k o hk ho hR => by
    have h1 := h.cells k o hk ho hR
    have hlt := (Array.getElem?_eq_some_iff.1 hk).1
    exact (g.cells k o (h1.trans hk) ho fun hr => (h.new k hr).elim hR fun h2 => by omega).trans h1
  new := fun k hk => (g.new k hk).elim (h.new k) fun h2 => .inr (Nat.le_trans h.size h2)
theorem KpR.turn {R : World → Nat → Prop} {W : World} {l : Nat} {o o' : Obj} (hl : W.heap[l]? = some o) (ho : o.isCells = false) (hR : ∀ k, R (W.putObj l o') k → R W k) : KpR R W (W.putObj l o') where
  size := by simp
  cells := fun k o1 hk ho1 _ => World.putObj_heap_other fun e => by
    subst e
    rw [hl] at hk
    cases hk
    rw [ho] at ho1
    cases ho1
  new := fun k hk => .inl (hR k hk)
theorem KpR.of_fr {R : World → Nat → Prop} {A B : World} {F F' : Nat → Prop} (h : Fr F A F' B) (h1 : ∀ k, F k → R A k) (h2 : ∀ k, R B k → R A k ∨ A.heap.size ≤ k) : KpR R A B where
  size := h.size
  cells := fun k o hk _ hR => h.block k (Array.getElem?_eq_some_iff.1 hk).1 fun hf => hR (h1 k hf)
  new := h2
theorem KpR.blk {R : World → Nat → Prop} {A B : World} (h : KpR R A B) {g : Nat} {t : TypeId} {cs : Array Value} (hb : Blk A g t cs) (hR : ¬ R A g) : Blk B g t cs := (h.cells g _ hb rfl hR).trans hb
theorem KpR.wl {R : World → Nat → Prop} {A B : World} (h : KpR R A B) {v : Value} {l : List Int} (hb : Wl A v l) (hR : ∀ k, own v k → ¬ R A k) : Wl B v l := by
  rcases hb.2 with ⟨h1, h2⟩ | ⟨g, off, cap, cur, h1, h2, h3, h4⟩
  · exact ⟨hb.1, .inl ⟨h1, h2⟩⟩
  · refine hb.keep fun k hk => ?_
    have e : g = k := by simpa [own, h1, Value.ownBlock] using hk
    subst e
    exact h.cells g _ h3 rfl (hR g hk)
theorem KpR.tab {R : World → Nat → Prop} {A B : World} (h : KpR R A B) (hT : Tab A) (hR : ¬ R A 1) : Tab B := by
  have h0 := hT 0 (by decide)
  obtain ⟨o, ho, hc⟩ := cells_of_cell h0
  exact hT.keep (h.cells 1 o ho hc hR)
theorem Fr.grownBy {F : Nat → Prop} {A B : World} (h : Fr (fun _ => False) A F B) : A.grownBy B none := ⟨h.os, h.tape, h.output, h.size, fun k hk _ => h.block k hk fun h => h⟩
theorem Fr.abides {β : Type} {B0 : Nat} {J : β → World → Prop} (hJ : AbidesFrom B0 J) {F : Nat → Prop} {A B : World} (h : Fr (fun _ => False) A F B) {s : β} (hs : J s A) : J s B :=
  hJ s A B none hs h.grownBy fun r e => by cases e
/-- a cell of a list -/
theorem Wl.cell {w : World} {A : Option Addr} {cp : Nat} {l : List Int} (h : Wl w (.slice A l.length cp) l) {i : Nat} (hi : i < l.length) : ∃ g off, A = some ⟨g, off, none⟩ ∧ ∀ j (hj : j < l.length), w.cell? ⟨g, off + j, none⟩ = some (.int .u64 (l[j]'hj)) := by
  obtain ⟨g, off, cap, e, _, _, _, hc⟩ := Rowv.at_ h (by omega)
  injection e with e1
  refine ⟨g, off, e1, fun j hj => ?_⟩
  have := (hc j (by omega)).1
  rw [this]
  simp [u64s, hj]
end Go.Proofs.YtkjeobcfaolcaaaDoor
/- A key's slot, as a function; homes. -/
namespace Go.Proofs.YtkjeobcfaolcaaaDoor
set_option linter.unusedVariables false

def hmk (k : Nat) (key : Int) : Nat := (homeOf key k).toNat
theorem hmk_lt {k : Nat} (h1 : 1 ≤ k) (h2 : k ≤ 62) (x : Int) : hmk k x < 2 ^ k := by
  have h := homeOf_bd x h1 h2
  have : ((2 ^ k : Nat) : Int) = (2 : Int) ^ k := by simp
  unfold hmk
  omega
def slotOf (U : Nat → Bool) (K : Nat → Int) (n : Nat) (h : Nat) (key : Int) : Nat := ((lgo U K key n n h 1).getD (0, 0)).1
def askedOf (U : Nat → Bool) (K : Nat → Int) (n : Nat) (h : Nat) (key : Int) : Nat := ((lgo U K key n n h 1).getD (0, 0)).2
section
variable {n : Nat} {hm : Int → Nat} {U : Nat → Bool} {K : Nat → Int} {l : List Int}
theorem TInv.look (h : TInv n hm U K l) (hb : ∀ x, hm x < n) (key : Int) :
    lgo U K key n n (hm key) 1 = some (slotOf U K n (hm key) key, askedOf U K n (hm key) key) ∧ slotOf U K n (hm key) key < n ∧ 1 ≤ askedOf U K n (hm key) key ∧ askedOf U K n (hm key) key ≤ l.length + 1 ∧
      ((key ∈ l ∧ U (slotOf U K n (hm key) key) = true ∧ K (slotOf U K n (hm key) key) = key) ∨
       (key ∉ l ∧ U (slotOf U K n (hm key) key) = false ∧ ∀ e, e < n → onp (hm key) (slotOf U K n (hm key) key) e → U e = true)) := by
  by_cases hk : key ∈ l
  · obtain ⟨j, hj, hu, hkj, d, hd, hl⟩ := h.look_in hb hk (Nat.le_refl n)
    have e1 : slotOf U K n (hm key) key = j := by unfold slotOf; rw [hl]; rfl
    have e2 : askedOf U K n (hm key) key = 1 + d := by unfold askedOf; rw [hl]; rfl
    rw [e1, e2]
    exact ⟨hl, hj, by omega, by omega, .inl ⟨hk, hu, hkj⟩⟩
  · obtain ⟨j, hj, hu, hp, d, hd, hl⟩ := h.look_out hb hk (Nat.le_refl n)
    have e1 : slotOf U K n (hm key) key = j := by unfold slotOf; rw [hl]; rfl
    have e2 : askedOf U K n (hm key) key = 1 + d := by unfold askedOf; rw [hl]; rfl
    rw [e1, e2]
    exact ⟨hl, hj, by omega, by omega, .inr ⟨hk, hu, hp⟩⟩
end
end Go.Proofs.YtkjeobcfaolcaaaDoor
/- All, by contract (a table of uint64). -/
namespace Go.Proofs.YtkjeobcfaolcaaaDoor
open Go.RowKit Go.Shelf
set_option maxHeartbeats 4000000
set_option linter.unusedVariables false
set_option linter.unusedSimpArgs false
attribute [local go_sem] Oper.semAt_some

def pairsW (k : Nat) (U : Nat → Bool) (K : Nat → Int) (X : Nat → Int) (l : List Int) : List (Int × Int) := l.map fun key => (key, X (slotOf U K (2 ^ k) (hmk k key) key))
def encW (x : Int × Int) : Array Value := #[.int .u64 x.1, .int .u64 x.2]
theorem pairsW_take {k : Nat} {U : Nat → Bool} {K : Nat → Int} {X : Nat → Int} {l : List Int} {i : Nat} (hi : i < l.length) :
    (pairsW k U K X l).take (i + 1) = (pairsW k U K X l).take i ++ [(l[i], X (slotOf U K (2 ^ k) (hmk k l[i]) l[i]))] := by
  rw [List.take_add_one]
  congr 1
  simp [pairsW, hi]
set_option maxRecDepth 100000 in
theorem allW_seq {t b g k cz n : Nat} {U : Nat → Bool} {K : Nat → Int} {X : Nat → Int} {A : Option Addr} {cp : Nat} {l : List Int} {w : World} (hb : Blk w b 49 #[.pointer (some ⟨t, 0, none⟩)])
    (ht : Blk w t 96 #[.slice (some ⟨g, 0, none⟩) (2 ^ k : Nat) cz, .slice A l.length cp]) (hS : SltW w g (2 ^ k) U K (fun i => .int .u64 (X i))) (hv : Wl w (.slice A l.length cp) l) (hT : Tab w)
    (hI : TInv (2 ^ k) (hmk k) U K l) (h1 : 1 ≤ k) (h2 : k ≤ 62) (hlen : 2 ^ k * 24 ≤ 140737488355328) (hl8 : l.length * 8 ≤ 140737488355328)
    (R : World → Nat → Prop) (hR0 : ∀ W, Below w.heap.size w W → ∀ j, R W j → j < W.heap.size) (hRs : ∀ W W' F, w.heap.size ≤ W.heap.size → Fr (fun _ => False) W F W' → ∀ j, R W' j → R W j) (hRt : ∀ W, ¬ R W 1) :
    SeqStopsK Fence.wide n Tryd.prog 72 #[.pointer (some ⟨b, 0, none⟩)] encW (KpR R) (fun xs => xs = pairsW k U K X l) (fun pre => ∃ m, m ≤ l.length ∧ pre = (pairsW k U K X l).take m) l.length w := fun y J Jx W hW hJ hJx hY h0 => by
  have d0 : W.cell? ⟨b, 0, none⟩ = some (.pointer (some ⟨t, 0, none⟩)) := (hb.below hW hb.lt).cell 0
  have hS' : SltW W g (2 ^ k) U K (fun i => .int .u64 (X i)) := by obtain ⟨cs, hc, hh⟩ := hS; exact ⟨cs, hc.below hW hc.lt, hh⟩
  have C1 := Lib.hid (copyW_b (ht.below hW ht.lt) hS' (hv.keep fun j hj => hW.block j (hv.lt j hj)) (fun i _ => rfl) (Nat.two_pow_pos k) hlen hl8)
  have hT0 := Lib.hid (hT.keep (hW.block 1 hT.lt))
  have hI := Lib.hid hI
  have hR1 := Lib.hid (hR0 W hW)
  have hRs := Lib.hid hRs
  have hWs := hW.size
  have h0 := Lib.hid h0
  have hY := Lib.hid hY
  have hJ := Lib.hid hJ
  have hnb : l.length < 9223372036854775808 := by omega
  clear hb ht hS hv hT hW hS' hR0 hJx
  refine callsIn_of_wp Tryd.func72 rfl trivial ?_ rfl
  simp only [Tryd.ntmps72, List.size_toArray, List.length_cons, List.length_nil, Nat.reduceAdd, Nat.reduceSub, Array.replicate_succ, Array.replicate_zero, List.push_toArray, List.append_toArray, List.nil_append, List.cons_append]
  gi_wp2_with fail
  refine ⟨trivial, fun h => (by cases h), (callsIn_wide.2 C1.out).mono ?_⟩
  rintro _ w1 ⟨t1, g1, z1, A1, c1, rfl, b1, s1, v1, m1⟩
  have hlen1 := m1.size
  have ht1 : W.heap.size ≤ t1 := (m1.new t1 (.inl rfl)).elim (fun h => h.elim) id
  have hg1 : W.heap.size ≤ g1 := (m1.new g1 (.inr (.inl rfl))).elim (fun h => h.elim) id
  have J1 := Lib.hid (m1.abides hJ.out h0.out)
  have T1 := Lib.hid (hT0.out.keep (m1.block 1 hT0.out.lt fun h => h))
  have R1 : Hid (∀ j, R w1 j → j < W.heap.size) := Lib.hid fun j hj => hR1.out j (hRs.out W w1 _ hWs m1 j hj)
  have B1 := Lib.hid b1
  have S1 := Lib.hid s1
  have V1 := Lib.hid v1
  clear b1 s1 v1 m1 C1 hR1 hT0 h0 d0
  have C2 := Lib.hid (keysW_b B1.out V1.out hl8)
  gi_wp2_with fail
  refine ⟨trivial, fun h => (by cases h), (callsIn_wide.2 C2.out).mono ?_⟩
  rintro _ w2 ⟨A2, c2, rfl, v2, m2⟩
  have ho2 : Hid (∀ j, own (.slice A2 l.length c2) j → W.heap.size ≤ j) := Lib.hid fun j hj => (m2.new j hj).elim (fun h => h.elim) fun h => by omega
  have J2 := Lib.hid (m2.abides hJ.out J1.out)
  have T2 := Lib.hid (T1.out.keep (m2.block 1 T1.out.lt fun h => h))
  have R2 : Hid (∀ j, R w2 j → j < W.heap.size) := Lib.hid fun j hj => R1.out j (hRs.out w1 w2 _ (by omega) m2 j hj)
  have B2 := Lib.hid (m2.blk B1.out fun h => h)
  have S2 := Lib.hid (S1.out.fr m2 fun h => h)
  have V2 := Lib.hid v2
  have hlen2 := m2.size
  clear v2 m2 C2 J1 T1 R1 B1 S1 V1
  gi_wp2
  gi_loopw [13] (fun i wr => ∃ m : Nat, m ≤ l.length ∧ i = .int .i64 m ∧ W.heap.size ≤ wr.heap.size ∧ w2.heap.size ≤ wr.heap.size ∧ Hid (J ((pairsW k U K X l).take m) wr ∧ Tab wr ∧ (∀ j, W.heap.size ≤ j → j < w2.heap.size → ¬ R wr j) ∧ Blk wr t1 96 #[.slice (some ⟨g1, 0, none⟩) (2 ^ k : Nat) z1, .slice A1 l.length c1] ∧ SltW wr g1 (2 ^ k) U K (fun i => .int .u64 (X i)) ∧ Wl wr (.slice A2 l.length c2) l))
    (fun i _ => l.length - (intOf i).toNat)
  case atStart => exact ⟨0, Nat.zero_le _, rfl, by omega, Nat.le_refl _, Lib.hid ⟨J2.out, T2.out, fun j h1 h2 h3 => by have := R2.out j h3; omega, B2.out, S2.out, V2.out⟩⟩
  case round =>
    obtain ⟨m, hm, rfl, hwr, hsw2, HH⟩ := hrel
    obtain ⟨JJ, TT, RR, BB, SS, VW⟩ := HH.out
    by_cases hlt : m < l.length
    · obtain ⟨ga, off, rfl, hc⟩ := VW.cell hlt
      have hcm := hc m hlt
      have htk := pairsW_take (k := k) (U := U) (K := K) (X := X) hlt
      obtain ⟨hl, hj, _, _, ho⟩ := hI.out.look (hmk_lt h1 h2) l[m]
      have C3 := Lib.hid (getW_b TT BB SS h1 h2 (Nat.le_trans (Nat.pow_le_pow_right (by omega) h2) (by decide)) hl hj)
      generalize hkey : l[m] = key at *
      generalize slotOf U K (2 ^ k) (hmk k key) key = j at *
      generalize hpre : (pairsW k U K X l).take m = pre at *
      have hpl : pre.length = m := by rw [← hpre]; simp [pairsW]; omega
      clear hl ho hc TT BB SS VW
      have htk := Lib.hid htk
      have hkey := Lib.hid hkey
      have hpre := Lib.hid hpre
      have JJ := Lib.hid JJ
      have RR := Lib.hid RR
      gi_wp2_with fail
      refine ⟨trivial, fun h => (by cases h), (callsIn_wide.2 C3.out).mono ?_⟩
      rintro _ w4 ⟨rfl, n4, rfl⟩
      have m4 : Fr (fun _ => False) wr (fun _ => False) (wr.drewN n4) := (Fr.refl _ _).drewN n4
      have J4 := m4.abides hJ.out JJ.out
      have R4 : Hid (∀ j, R (wr.drewN n4) j → R wr j) := Lib.hid fun j hj => hRs.out wr _ _ (by omega) m4 j hj
      obtain ⟨fn, tmps, assign, body, hy, hR⟩ := hY.out pre (key, X j) (wr.drewN n4) J4 (by omega)
      unfold encW at hy
      dsimp only at hy
      have m4 := Lib.hid m4
      have J4 := Lib.hid J4
      gi_wp2
      refine ⟨fun h => (by cases h), hR.mono ?_⟩
      rintro e W3 (⟨rfl, hJ3, hk3⟩ | ⟨rfl, hJx3⟩)
      · have hk3 := Lib.hid hk3
        have hJ3 := Lib.hid hJ3
        gi_wp2
        go_roundw
        case rel => 
          obtain ⟨_, TT, RR, BB, SS, VW⟩ := HH.out
          have hs3 := hk3.out.size
          have hs3 : wr.heap.size ≤ W3.heap.size := hs3
          have hd : ∀ j, W.heap.size ≤ j → j < w2.heap.size → ¬ R (wr.drewN n4) j := fun j a1 a2 a3 => RR j a1 a2 (R4.out j a3)
          have q1 : ¬ R (wr.drewN n4) t1 := hd t1 ht1 B2.out.lt
          have q2 : ¬ R (wr.drewN n4) g1 := hd g1 hg1 S2.out.lt
          have q3 : ∀ j, own (.slice (some ⟨ga, off, none⟩) l.length c2) j → ¬ R (wr.drewN n4) j := fun j hj => hd j (ho2.out j hj) (V2.out.lt j hj)
          refine ⟨m + 1, by omega, by simp, by omega, by omega, Lib.hid ⟨by rw [htk.out]; exact hJ3.out, hk3.out.tab TT (hRt _), fun j a1 a2 a3 => ?_, hk3.out.blk BB q1, ?_, hk3.out.wl VW q3⟩⟩
          · rcases hk3.out.new j a3 with h | h
            · exact hd j a1 a2 h
            · have : wr.heap.size ≤ j := h
              omega
          · obtain ⟨cs, hb, hc⟩ := SS
            exact ⟨cs, hk3.out.blk hb q2, hc⟩
        case measure => simp [intOf]; omega
      · have hJx3 := Lib.hid hJx3
        gi_wp2
        refine bodyPost_ret (results_none rfl _ _ _) rfl ?_
        exact ⟨⟨_, rfl⟩, .inr ⟨_, ⟨m + 1, by omega, htk.out.symm⟩, hJx3.out⟩⟩
    · obtain rfl : m = l.length := by omega
      have JJ := Lib.hid JJ
      clear TT RR BB SS VW
      gi_wp2
      go_end0
      refine ⟨⟨_, rfl⟩, .inl ⟨_, rfl, ?_⟩⟩
      have := JJ.out
      rwa [List.take_of_length_le (by simp [pairsW])] at this
end Go.Proofs.YtkjeobcfaolcaaaDoor
/- The calls of a table of uint64 that is not there, or zero, by contract. -/
namespace Go.Proofs.YtkjeobcfaolcaaaDoor
open Go.RowKit
set_option maxHeartbeats 4000000
set_option linter.unusedVariables false
set_option linter.unusedSimpArgs false

/-- not there, or zero -/
def NzW (w : World) (p : Option Addr) : Prop := p = none ∨ ∃ t, p = some ⟨t, 0, none⟩ ∧ Blk w t 96 #[.slice none 0 0, .slice none 0 0]
theorem NzW.alloc {w : World} {p : Option Addr} (h : NzW w p) (o : Obj) : NzW (w.alloc o) p := h.imp id fun ⟨t, e, b⟩ => ⟨t, e, b.alloc o⟩
theorem nilmadeW_b {p : Option Addr} {w : World} (h : NzW w p) :
    Calls Tryd.prog 55 #[.pointer p] w fun e w' => e = .returned (.bool false) ∧ w = w' := by
  rcases h with rfl | ⟨t, rfl, ht⟩
  · go_enter Tryd.func55, Tryd.ntmps55
    go_wp2
    go_ret
    exact ⟨rfl, rfl⟩
  · have d0 : w.cell? ⟨t, 0, none⟩ = some (.slice none 0 0) := by rw [Blk.cell ht]; rfl
    clear ht
    go_enter Tryd.func55, Tryd.ntmps55
    go_wp2
    go_ret
    exact ⟨rfl, rfl⟩
theorem nilGetW_b {p : Option Addr} {key : Int} {w : World} (h : NzW w p) :
    Calls Tryd.prog 61 #[.pointer p, .int .u64 key] w fun e w' => e = .returned (.tuple #[.int .u64 0, .bool false]) ∧ w = w' := by
  have M := Lib.hid (nilmadeW_b h)
  clear h
  go_enter Tryd.func61, Tryd.ntmps61
  go_wp2_with fail
  refine M.out.mono ?_
  rintro _ w2 ⟨rfl, rfl⟩
  go_wp2
  go_ret2
  exact ⟨rfl, rfl⟩
theorem nilTakeW_b {p : Option Addr} {key : Int} {w : World} (h : NzW w p) :
    Calls Tryd.prog 62 #[.pointer p, .int .u64 key] w fun e w' => e = .returned (.tuple #[.int .u64 0, .bool false]) ∧ w = w' := by
  have M := Lib.hid (nilGetW_b (key := key) h)
  clear h
  go_enter Tryd.func62, Tryd.ntmps62
  go_wp2_with fail
  refine M.out.mono ?_
  rintro _ w2 ⟨rfl, rfl⟩
  go_wp2
  go_ret2
  exact ⟨rfl, rfl⟩
theorem nilLenW_b {p : Option Addr} {w : World} (h : NzW w p) :
    Calls Tryd.prog 69 #[.pointer p] w fun e w' => e = .returned (.int .i64 0) ∧ w = w' := by
  have M := Lib.hid (nilmadeW_b h)
  clear h
  go_enter Tryd.func69, Tryd.ntmps69
  go_wp2_with fail
  refine M.out.mono ?_
  rintro _ w2 ⟨rfl, rfl⟩
  go_wp2
  go_ret
  exact ⟨rfl, rfl⟩
theorem nilSlotsW_b {p : Option Addr} {w : World} (h : NzW w p) :
    Calls Tryd.prog 59 #[.pointer p] w fun e w' => e = .returned (.int .i64 0) ∧ w = w' := by
  have M := Lib.hid (nilmadeW_b h)
  clear h
  go_enter Tryd.func59, Tryd.ntmps59
  go_wp2_with fail
  refine M.out.mono ?_
  rintro _ w2 ⟨rfl, rfl⟩
  go_wp2
  go_ret
  exact ⟨rfl, rfl⟩
theorem nilAskedW_b {p : Option Addr} {key : Int} {w : World} (h : NzW w p) :
    Calls Tryd.prog 36 #[.pointer p, .int .u64 key] w fun e w' => e = .returned (.int .i64 0) ∧ w = w' := by
  have M := Lib.hid (nilmadeW_b h)
  clear h
  go_enter Tryd.func36, Tryd.ntmps36
  go_wp2_with fail
  refine M.out.mono ?_
  rintro _ w2 ⟨rfl, rfl⟩
  go_wp2
  go_ret
  exact ⟨rfl, rfl⟩
theorem nilKeysW_b {p : Option Addr} {w : World} (h : NzW w p) :
    Calls Tryd.prog 67 #[.pointer p] w fun e w' => e = .returned (.slice none 0 0) ∧ w = w' := by
  have M := Lib.hid (nilmadeW_b h)
  clear h
  go_enter Tryd.func67, Tryd.ntmps67
  go_wp2_with fail
  refine M.out.mono ?_
  rintro _ w2 ⟨rfl, rfl⟩
  go_wp2
  go_ret
  exact ⟨rfl, rfl⟩
theorem nilCopyW_b {p : Option Addr} {w : World} (h : NzW w p) :
    Calls Tryd.prog 32 #[.pointer p] w fun e w' => e = .returned (.pointer none) ∧ w = w' := by
  have M := Lib.hid (nilmadeW_b h)
  clear h
  go_enter Tryd.func32, Tryd.ntmps32
  go_wp2_with fail
  refine M.out.mono ?_
  rintro _ w2 ⟨rfl, rfl⟩
  go_wp2
  go_ret
  exact ⟨rfl, rfl⟩
theorem nilClearW_b {p : Option Addr} {w : World} (h : NzW w p) :
    Calls Tryd.prog 65 #[.pointer p] w fun e w' => (∃ v, e = .returned v) ∧ w = w' := by
  have M := Lib.hid (nilmadeW_b h)
  clear h
  go_enter Tryd.func65, Tryd.ntmps65
  go_wp2_with fail
  refine M.out.mono ?_
  rintro _ w2 ⟨rfl, rfl⟩
  go_wp2
  go_end0
  exact ⟨⟨_, rfl⟩, rfl⟩
theorem nilPutW_b {p : Option Addr} {key : Int} {v : Int} {w : World} (h : NzW w p) :
    Calls Tryd.prog 57 #[.pointer p, .int .u64 key, .int .u64 v] w fun e w' => e = .returned (.tuple #[.int .u64 0, .bool false, .int .i64 1]) ∧ w' = w.alloc (.cells #[.pointer p] 49) := by
  have M := Lib.hid (nilmadeW_b (h.alloc (.cells #[.pointer p] 49)))
  have p0 := (Blk.new w 49 #[.pointer p]).cell 0
  have p0 : (w.alloc (.cells #[.pointer p] 49)).cell? ⟨w.heap.size, 0, none⟩ = some (.pointer p) := p0
  clear h
  go_enter Tryd.func57, Tryd.ntmps57
  go_wp2_with fail
  refine M.out.mono ?_
  rintro _ w2 ⟨rfl, rfl⟩
  go_wp2
  go_ret3
  exact ⟨rfl, rfl⟩
theorem allW_b {p : Option Addr} {w : World} :
    Calls Tryd.prog 38 #[.pointer p] w fun e w' => e = .returned (.func (.func 72) #[] #[.pointer (some ⟨w.heap.size, 0, none⟩)]) ∧ w' = w.alloc (.cells #[.pointer p] 49) := by
  go_enter Tryd.func38, Tryd.ntmps38
  go_wp2
  go_ret
  exact ⟨rfl, rfl⟩
end Go.Proofs.YtkjeobcfaolcaaaDoor
/- What a table holds, as a value: a put, a table filled with pairs, a table grown. -/
namespace Go.Proofs.YtkjeobcfaolcaaaDoor
set_option linter.unusedVariables false

theorem snoc_ind {α : Type} {P : List α → Prop} (h0 : P []) (h1 : ∀ l x, P l → P (l ++ [x])) (l : List α) : P l := by
  have h : ∀ r : List α, P r.reverse := fun r => by
    induction r with
    | nil => exact h0
    | cons x r ih => rw [List.reverse_cons]; exact h1 _ x ih
  have := h l.reverse
  rwa [List.reverse_reverse] at this
structure St (β : Type) where
  U : Nat → Bool
  K : Nat → Int
  X : Nat → β
section
variable {β : Type}
def St.zero (z : β) : St β := ⟨fun _ => false, fun _ => 0, fun _ => z⟩
def St.slot (s : St β) (k : Nat) (key : Int) : Nat := slotOf s.U s.K (2 ^ k) (hmk k key) key
def St.asked (s : St β) (k : Nat) (key : Int) : Nat := askedOf s.U s.K (2 ^ k) (hmk k key) key
def St.set (s : St β) (j : Nat) (key : Int) (x : β) : St β := ⟨fun i => if i = j then true else s.U i, fun i => if i = j then key else s.K i, fun i => if i = j then x else s.X i⟩
def St.put (k : Nat) (s : St β) (key : Int) (x : β) : St β := s.set (s.slot k key) key x
def St.fill (k : Nat) (z : β) (pre : List (Int × β)) : St β := pre.foldl (fun s p => s.put k p.1 p.2) (St.zero z)
def St.Inv (s : St β) (k : Nat) (l : List Int) : Prop := TInv (2 ^ k) (hmk k) s.U s.K l
def kadd (l : List Int) (key : Int) : List Int := if key ∈ l then l else l ++ [key]
def kfold (l : List Int) : List Int := l.foldl kadd []
theorem kadd_len (l : List Int) (key : Int) : (kadd l key).length ≤ l.length + 1 := by unfold kadd; split <;> simp
theorem kfold_snoc (l : List Int) (key : Int) : kfold (l ++ [key]) = kadd (kfold l) key := by simp [kfold]
theorem kfold_len : ∀ (l : List Int), (kfold l).length ≤ l.length := fun l => by
  refine snoc_ind (P := fun l => (kfold l).length ≤ l.length) ?_ ?_ l
  · simp [kfold]
  · intro l x ih; rw [kfold_snoc]; have := kadd_len (kfold l) x; simp; omega
theorem kfold_nodup : ∀ (l : List Int), l.Nodup → kfold l = l := fun l => by
  refine snoc_ind (P := fun l => l.Nodup → kfold l = l) ?_ ?_ l
  · intro _; rfl
  · intro l x ih h
    rw [List.nodup_append] at h
    rw [kfold_snoc, ih h.1, kadd, if_neg fun hx => h.2.2 x hx x (by simp) rfl]
theorem St.fill_snoc (k : Nat) (z : β) (pre : List (Int × β)) (p : Int × β) : St.fill k z (pre ++ [p]) = (St.fill k z pre).put k p.1 p.2 := by simp [St.fill]
theorem St.zero_inv (z : β) (k : Nat) : (St.zero z).Inv k [] where
  path := fun j _ hu => by simp [St.zero] at hu
  uniq := fun i j _ _ hu => by simp [St.zero] at hu
  keys := fun x => by simp [St.zero]
  nodup := List.nodup_nil
  room := Nat.two_pow_pos k
/-- A put, over a key that is there or not. -/
theorem St.Inv.put {s : St β} {k : Nat} {l : List Int} (h : s.Inv k l) (h1 : 1 ≤ k) (h2 : k ≤ 62) (key : Int) (x : β) (hr : l.length + 1 < 2 ^ k) : (s.put k key x).Inv k (kadd l key) := by
  obtain ⟨_, hj, _, _, (⟨hk, hu, hkj⟩ | ⟨hk, hu, hp⟩)⟩ := TInv.look h (hmk_lt h1 h2) key
  · rw [kadd, if_pos hk]
    have e1 : (s.put k key x).U = s.U := by
      funext i
      show (if i = s.slot k key then true else s.U i) = s.U i
      split
      · subst_vars; exact hu.symm
      · rfl
    have e2 : (s.put k key x).K = s.K := by
      funext i
      show (if i = s.slot k key then key else s.K i) = s.K i
      split
      · subst_vars; exact hkj.symm
      · rfl
    unfold St.Inv
    rw [e1, e2]
    exact h
  · rw [kadd, if_neg hk]
    exact TInv.put h hk hj hu hp hr
theorem St.fill_inv {k : Nat} (z : β) (h1 : 1 ≤ k) (h2 : k ≤ 62) : ∀ (pre : List (Int × β)), pre.length < 2 ^ k → (St.fill k z pre).Inv k (kfold (pre.map (·.1))) := fun pre => by
  refine snoc_ind (P := fun pre => pre.length < 2 ^ k → (St.fill k z pre).Inv k (kfold (pre.map (·.1)))) ?_ ?_ pre
  · intro _; exact St.zero_inv z k
  · intro pre p ih h
    rw [List.length_append, List.length_singleton] at h
    rw [St.fill_snoc, List.map_append, List.map_cons, List.map_nil, kfold_snoc]
    refine (ih (by omega)).put h1 h2 p.1 p.2 ?_
    have := kfold_len (pre.map (·.1))
    rw [List.length_map] at this
    omega
/-- The pairs that All tells. -/
def St.pairs (s : St β) (k : Nat) (l : List Int) : List (Int × β) := l.map fun key => (key, s.X (s.slot k key))
def St.grown (s : St β) (k : Nat) (z : β) (l : List Int) : St β := St.fill (k + 1) z (s.pairs k l)
theorem St.grown_inv {s : St β} {k : Nat} {l : List Int} (h : s.Inv k l) (z : β) (h2 : k + 1 ≤ 62) : (s.grown k z l).Inv (k + 1) l := by
  have hr := h.room
  have e : (s.pairs k l).map (·.1) = l := by simp [St.pairs, Function.comp_def]
  have := St.fill_inv (k := k + 1) z (by omega) h2 (s.pairs k l) (by rw [St.pairs, List.length_map]; rw [Nat.pow_succ]; omega)
  rw [e, kfold_nodup l h.nodup] at this
  exact this
end
end Go.Proofs.YtkjeobcfaolcaaaDoor
