/- A region that draws its order, whose writing operations stand in one order with each other: one walk serves every order. -/
import Derived.Test.YteoebfjhadmnbaaRows
import Derived.WalkKit
import Derived.Deep.Quiet
import Derived.Deep.QuietTactic
import Derived.OrdersIn
import Derived.TacticsIn
import Derived.RangeFuncCalls
import Derived.Lib.Hide
import Derived.Test.YteoebfjhadmnbaaPSt2
namespace Go.Proofs.Yteoebfjhadmnbaa
section
variable {P : Program} {ops : Array Oper} {md : Region.Mode} {S : World → Prop} {Q : Exit → Act → World → Prop} {mk : Nat → Nat}

/-- Q, but never at a panic. -/
def noPan (Q : Exit → Act → World → Prop) : Exit → Act → World → Prop
  | .panic _, _, _ => False
  | e, a, w => Q e a w
theorem noPan.imp : ∀ (e : Exit) (a : Act) (w : World), noPan Q e a w → Q e a w := fun e a w h => by
  cases e <;> first | exact h | exact (h : False).elim
theorem noPan.lets (h : LetsOut (noPan Q)) : LetsOut Q := let ⟨a, w, h⟩ := h; ⟨a, w, h⟩

/-- w, some draws later. -/
def Later (w : World) : World → Prop := fun w' => ∃ n, w' = w.drewN n

/-- Kind 0: one value in every world of S; kind 3: one value in every world; kind 1: one value in this world, however often was drawn. -/
def mixQ (P : Program) (S : World → Prop) (m : Nat) (o : Oper) (a : Act) (w : World) (v : Value) : Prop :=
  if m = 0 then ∀ w', S w' → o.quietAt P a (fun w'' => w'' = w') w' v else if m = 3 then ∀ w', o.quietAt P a (fun w'' => w'' = w') w' v else ∀ n, o.quietAt P a (Later w) (w.drewN n) v

/-- Kind 2: whatever it does. need: does an operation that asks for S, and may come up later, need S behind it? -/
def mixOp (P : Program) (ops : Array Oper) (S : World → Prop) (Q : Exit → Act → World → Prop) (m : Nat) (need : Prop) (o : Oper) (K : Act → World → Prop) (a : Act) (w : World) : Prop :=
  if Region.wanted o (yielded ops a.tmps) then
    if m = 2 then ∀ n, o.wp P a (w.drewN n) (fun a' w' => (need → S w') ∧ K a' w') (noPan Q) ∨ (o.asks P a (w.drewN n) ∧ LetsOut (noPan Q))
    else ∃ v, mixQ P S m o a w v ∧ K (a.put o.dst v) w
  else K (a.put o.dst undef) w

/-- j waits for i, at some remove. -/
inductive Waits (md : Region.Mode) (ops : Array Oper) (i : Nat) : Nat → Prop
  | one {j : Nat} {oj : Oper} {e : Edge} : ops[j]? = some oj → e ∈ oj.after → Region.binds md e = true → e.on = i → Waits md ops i j
  | more {j : Nat} {oj : Oper} {e : Edge} : ops[j]? = some oj → e ∈ oj.after → Region.binds md e = true → Waits md ops i e.on → Waits md ops i j

/-- An operation of kind 0 may come up behind j. -/
def needs (md : Region.Mode) (ops : Array Oper) (mk : Nat → Nat) (j : Nat) : Prop := ∃ i, i < ops.size ∧ i ≠ j ∧ mk i = 0 ∧ ¬ Waits md ops i j

def mixAt (P : Program) (md : Region.Mode) (ops : Array Oper) (S : World → Prop) (Q : Exit → Act → World → Prop) (mk : Nat → Nat) (i : Nat) (K : Act → World → Prop) (a : Act) (w : World) : Prop :=
  match ops[i]? with
  | none => K a w
  | some o => mixOp P ops S Q (mk i) (needs md ops mk i) o K a w

theorem mixOp_mono {m : Nat} {need : Prop} {o : Oper} {a : Act} {w : World} {K K' : Act → World → Prop} (h1 : ∀ a w', (need → S w') → K a w' → K' a w') (h2 : ∀ a, K a w → K' a w) (hh : mixOp P ops S Q m need o K a w) : mixOp P ops S Q m need o K' a w := by
  unfold mixOp at *
  split
  · rename_i hw
    rw [if_pos hw] at hh
    split
    · rename_i hm
      rw [if_pos hm] at hh
      exact fun n => (hh n).imp (Oper.wp_mono fun a w ⟨g1, g2⟩ => ⟨g1, h1 a w g1 g2⟩) id
    · rename_i hm
      rw [if_neg hm] at hh
      obtain ⟨v, g1, g2⟩ := hh
      exact ⟨v, g1, h2 _ g2⟩
  · rename_i hw
    rw [if_neg hw] at hh
    exact h2 _ hh

theorem mixAt_mono {i : Nat} {a : Act} {w : World} {K K' : Act → World → Prop} (h1 : ∀ a w', (needs md ops mk i → S w') → K a w' → K' a w') (h2 : ∀ a, K a w → K' a w) (hh : mixAt P md ops S Q mk i K a w) : mixAt P md ops S Q mk i K' a w := by
  unfold mixAt at *
  split
  · exact h2 _ (by simpa [*] using hh)
  · rename_i o ho
    simp only [ho] at hh
    exact mixOp_mono h1 h2 hh

/-- Whatever order is picked from here on. -/
def mixAny (P : Program) (md : Region.Mode) (ops : Array Oper) (S : World → Prop) (Q : Exit → Act → World → Prop) (mk : Nat → Nat) : Nat → Array Bool → Act → World → Prop
  | 0, listed, a, w => Region.ready md ops listed = [] ∧ ∀ n, Q .normal a (w.drewN n)
  | fuel + 1, listed, a, w =>
    (Region.ready md ops listed = [] → ∀ n, Q .normal a (w.drewN n)) ∧
    ∀ i ∈ Region.ready md ops listed, mixAt P md ops S Q mk i (mixAny P md ops S Q mk fuel (listed.setIfInBounds i true)) a w

/-- There is an operation of kind 0 still to come. -/
def pends (ops : Array Oper) (mk : Nat → Nat) (listed : Array Bool) : Prop := ∃ i, i < ops.size ∧ mk i = 0 ∧ listed.getD i true = false
theorem pends.of_set {j : Nat} {listed : Array Bool} (h : pends ops mk (listed.setIfInBounds j true)) : pends ops mk listed := by
  obtain ⟨i, h1, h2, h3⟩ := h
  refine ⟨i, h1, h2, ?_⟩
  by_cases hij : j = i
  · subst hij
    rcases Nat.lt_or_ge j listed.size with h' | h'
    · simp [h'] at h3
    · simp at h3
  · rw [getD_set_ne true hij] at h3; exact h3
theorem getD_falses {listed : Array Bool} {i : Nat} (h : listed.getD i true = false) : listed.getD i false = false := by
  rcases Nat.lt_or_ge i listed.size with h' | h'
  · simp [h'] at h ⊢; exact h
  · simp [Array.getElem?_eq_none h'] at h

def Closed (md : Region.Mode) (ops : Array Oper) (listed : Array Bool) : Prop := ∀ j oj, ops[j]? = some oj → listed.getD j false = true → ∀ e ∈ oj.after, Region.binds md e = true → listed.getD e.on false = true

theorem Closed.set {i : Nat} {listed : Array Bool} (inv : Closed md ops listed) (hi : i ∈ Region.ready md ops listed) : Closed md ops (listed.setIfInBounds i true) := by
  obtain ⟨_, oi, hoi, hall⟩ := mem_ready.1 hi
  intro j oj hj hl e he hb
  by_cases hij : i = j
  · subst hij
    have : oj = oi := Option.some.inj (hj.symm.trans hoi)
    subst this
    exact getD_set_true (hall e he hb)
  · rw [getD_set_ne false hij] at hl
    exact getD_set_true (inv j oj hj hl e he hb)

theorem Waits.listed {i j : Nat} {listed : Array Bool} (inv : Closed md ops listed) (h : Waits md ops i j) : (∀ oj, ops[j]? = some oj → ∀ e ∈ oj.after, Region.binds md e = true → listed.getD e.on false = true) → listed.getD i false = true := by
  induction h with
  | one hj he hb hon => intro h; rw [← hon]; exact h _ hj _ he hb
  | more hj he hb _ ih =>
    intro h
    have h1 := h _ hj _ he hb
    exact ih fun ok hk => inv _ ok hk h1

theorem needs_of {j : Nat} {listed : Array Bool} (hcl : Closed md ops listed) (hj : j ∈ Region.ready md ops listed) (h : pends ops mk (listed.setIfInBounds j true)) : needs md ops mk j := by
  obtain ⟨i, h1, h2, h3⟩ := h
  have hij : i ≠ j := by
    rintro rfl
    have h0 := (mem_ready.1 hj).1
    rcases Nat.lt_or_ge i listed.size with h' | h'
    · simp [h'] at h3
    · simp [Array.getElem?_eq_none h'] at h0
  rw [getD_set_ne true (Ne.symm hij)] at h3
  refine ⟨i, h1, hij, h2, fun hw => ?_⟩
  obtain ⟨_, oj, hoj, hall⟩ := mem_ready.1 hj
  have := hw.listed hcl (fun ok hk => by
    have : ok = oj := Option.some.inj (hk.symm.trans hoj)
    subst this
    exact hall)
  rw [getD_falses h3] at this
  cases this

theorem mixOp_sound {m i : Nat} {need : Prop} {o : Oper} {a : Act} {w : World} {K K' : Act → World → Prop} (hi : ops[i]? = some o) (hS : ∀ w n, S w → S (w.drewN n)) (hs : m = 0 → S w)
    (h1 : ∀ a w', (need → S w') → K a w' → ∀ n, K' a (w'.drewN n)) (h2 : ∀ a, K a w → ∀ n, K' a (w.drewN n)) (hh : mixOp P ops S Q m need o K a w) (n : Nat) : wpOp P ops Q i K' a (w.drewN n) := by
  unfold wpOp mixOp at *
  simp only [hi]
  split
  · rename_i hw
    rw [if_pos hw] at hh
    split at hh
    · rcases hh n with g1 | g1
      · left
        have g2 := Oper.wp_mono (K' := K') (fun a w ⟨g1, g2⟩ => h1 a w g1 g2 0) g1
        unfold Oper.wp at *
        generalize (execOp a.eval o).run P (w.drewN n) = r at *
        cases r with
        | ok x w' =>
          cases x <;> simp only [Oper.upon] at g2 ⊢ <;> try exact g2
          case enter f args =>
            refine Calls.mono g2 fun e w'' he => ?_
            cases e with
            | returned u => exact he
            | panicked c => exact (he : False).elim
            | outgrown => exact noPan.lets he
        | halt x w' =>
          cases x <;> simp only [Oper.upon] at g2 ⊢ <;> first | exact (g2 : False).elim | exact g2
      · exact .inr ⟨g1.1, noPan.lets g1.2⟩
    · left
      obtain ⟨v, g1, g2⟩ := hh
      unfold mixQ at g1
      have key : ∃ C : World → Prop, (∀ w', C w' → ∃ k, w' = w.drewN k) ∧ o.quietAt P a C (w.drewN n) v := by
        split at g1
        · rename_i hm0
          exact ⟨_, fun w' e => ⟨n, e⟩, g1 _ (hS _ n (hs hm0))⟩
        · split at g1
          · exact ⟨_, fun w' e => ⟨n, e⟩, g1 _⟩
          · exact ⟨_, fun w' e => e, g1 n⟩
      obtain ⟨C, hC, h3⟩ := key
      unfold Oper.quietAt at h3
      unfold Oper.wp
      generalize (execOp a.eval o).run P (w.drewN n) = r at *
      cases r with
      | ok x w' =>
        cases x <;> simp only [Oper.quietUpon] at h3 <;> simp only [Oper.upon]
        case value u =>
          obtain ⟨rfl, rfl⟩ := h3
          exact h2 _ g2 n
        case skip =>
          obtain ⟨rfl, rfl⟩ := h3
          exact h2 _ g2 n
        case enter f args =>
          obtain ⟨rfl, hc⟩ := h3
          refine hc.mono fun e w'' ⟨he, hw''⟩ => ?_
          subst he
          obtain ⟨k, rfl⟩ := hC _ hw''
          exact h2 _ g2 k
      | halt x w' => simp only [Oper.quietUpon] at h3
  · rename_i hw
    rw [if_neg hw] at hh
    exact h2 _ hh n

theorem mixAny_sound (hS : ∀ w n, S w → S (w.drewN n)) : ∀ (fuel : Nat) (listed : Array Bool) (a : Act) (w : World), Closed md ops listed → (pends ops mk listed → S w) → mixAny P md ops S Q mk fuel listed a w → ∀ n, wpAny P md ops Q fuel listed a (w.drewN n)
  | 0, _, _, _, _, _, h, n => ⟨h.1, h.2 n⟩
  | fuel + 1, listed, a, w, hcl, hs, h, n => ⟨fun h0 => h.1 h0 n, fun i hi => by
      obtain ⟨hun, o, ho, _⟩ := mem_ready.1 hi
      have g1 := h.2 i hi
      unfold mixAt at g1
      simp only [ho] at g1
      exact mixOp_sound ho hS (fun hm => hs ⟨i, (Array.getElem?_eq_some_iff.1 ho).1, hm, hun⟩) (fun a w' hs' h => mixAny_sound hS fuel _ a w' (hcl.set hi) (fun hp => hs' (needs_of hcl hi hp)) h)
        (fun a h => mixAny_sound hS fuel _ a w (hcl.set hi) (fun hp => hs hp.of_set) h) g1 n⟩

def MixYields (P : Program) (ops : Array Oper) (S : World → Prop) (m : Nat) (o : Oper) (v : Value) (a : Act) (w : World) : Prop :=
  (Region.wanted o (yielded ops a.tmps) = true ∧ mixQ P S m o a w v) ∨ (Region.wanted o (yielded ops a.tmps) = false ∧ v = undef)

theorem MixYields.of_same {m : Nat} {o : Oper} {v : Value} {a a' : Act} {w w' : World} (hy : MixYields P ops S m o v a w) (he : execOp a'.eval o = execOp a.eval o)
    (hw : Region.wanted o (yielded ops a'.tmps) = Region.wanted o (yielded ops a.tmps)) (hww : (m = 0 ∨ m = 3) ∨ w = w') : MixYields P ops S m o v a' w' := by
  unfold MixYields mixQ Oper.quietAt at *
  rw [he, hw]
  rcases hww with (rfl | rfl) | rfl
  · simpa using hy
  · simpa using hy
  · exact hy

theorem MixYields.run_ {m i : Nat} {o : Oper} {v : Value} {a : Act} {w : World} (hi : ops[i]? = some o) (hm : mk i = m) (hm2 : m ≠ 2) (hy : MixYields P ops S m o v a w) {K : Act → World → Prop} (h : K (a.put o.dst v) w) : mixAt P md ops S Q mk i K a w := by
  unfold mixAt mixOp
  simp only [hi, hm, if_neg hm2]
  rcases hy with ⟨hw, hv⟩ | ⟨hw, rfl⟩
  · rw [if_pos hw]; exact ⟨v, hv, h⟩
  · rw [if_neg (by simp [hw])]; exact h

theorem mixYields_of {m : Nat} {o : Oper} {a : Act} {w : World} {K : Act → World → Prop} {need : Prop} (hm2 : m ≠ 2) (h : mixOp P ops S Q m need o K a w) : ∃ v, MixYields P ops S m o v a w ∧ K (a.put o.dst v) w := by
  unfold mixOp at h
  rw [if_neg hm2] at h
  by_cases hw : Region.wanted o (yielded ops a.tmps) = true
  · rw [if_pos hw] at h
    obtain ⟨v, h1, h2⟩ := h
    exact ⟨v, .inl ⟨hw, h1⟩, h2⟩
  · rw [if_neg hw] at h
    exact ⟨undef, .inr ⟨by simpa using hw, rfl⟩, h⟩

theorem mixAt_put {j mi : Nat} {oi oj : Oper} {v : Value} (hj : ops[j]? = some oj) (hap : oi.apart ops oj = true)
    (hsi : ∀ cs b, oi.op ≠ .select cs b) (hsj : ∀ cs b, oj.op ≠ .select cs b) (hl : mk j = 2 → mi = 0 ∨ mi = 3) {K : Act → World → Prop} {a : Act} {w : World}
    (hy : MixYields P ops S mi oi v a w) (h : mixAt P md ops S Q mk j K (a.put oi.dst v) w) :
    mixAt P md ops S Q mk j (fun a' w' => MixYields P ops S mi oi v a' w' ∧ K (a'.put oi.dst v) w') a w := by
  obtain ⟨h1, h2, h3⟩ := Oper.apart_spec hap
  have keep : ∀ (w w' : World), ((mi = 0 ∨ mi = 3) ∨ w = w') → ∀ (a : Act), MixYields P ops S mi oi v a w → ∀ u, MixYields P ops S mi oi v (a.put oj.dst u) w' := fun w w' hww a hy u =>
    hy.of_same (execOp_put oi hsi a oj.dst u h3) (wanted_put oi a oj.dst u h3) hww
  have keepD : ∀ d, MixYields P ops S mi oi v { a with defers := d :: a.defers } w := fun d => hy.of_same rfl rfl (.inr rfl)
  unfold mixAt mixOp at *
  simp only [hj] at *
  rw [wanted_put oj a oi.dst v h1] at h
  split
  · rename_i hw
    rw [if_pos hw] at h
    split
    · rename_i hm
      rw [if_pos hm] at h
      intro n
      rcases h n with h | ⟨hasks, hlets⟩
      case inr => exact .inr ⟨by unfold Oper.asks at *; rw [execOp_put oj hsj a oi.dst v h1] at hasks; exact hasks, hlets⟩
      refine .inl ?_
      unfold Oper.wp at *
      rw [execOp_put oj hsj a oi.dst v h1] at h
      generalize (execOp a.eval oj).run P (w.drewN n) = r at *
      cases r with
      | ok n w' =>
        cases n <;> simp only [Oper.upon] at h ⊢
        case value u => exact ⟨h.1, keep _ _ (.inl (hl hm)) a hy u, by rw [← Act.put_comm a v u h2]; exact h.2⟩
        case skip => exact ⟨h.1, keep _ _ (.inl (hl hm)) a hy _, by rw [← Act.put_comm a v undef h2]; exact h.2⟩
        case defer d =>
          refine ⟨h.1, keep _ _ (.inl (hl hm)) _ (keepD d) _, ?_⟩
          rw [← Act.put_comm _ v undef h2, ← Act.put_defers]
          exact h.2
        case enter f args =>
          refine Calls.mono h fun e w'' he => ?_
          cases e with
          | returned u => exact ⟨he.1, keep _ _ (.inl (hl hm)) a hy u, by rw [← Act.put_comm a v u h2]; exact he.2⟩
          | panicked c => exact he
          | outgrown => exact he
        case row row args => exact Rows.mono h fun u w'' he => ⟨he.1, keep _ _ (.inl (hl hm)) a hy u, by rw [← Act.put_comm a v u h2]; exact he.2⟩
      | halt x w' =>
        cases x <;> simp only [Oper.upon] at h ⊢
        case panic u => exact h
    · rename_i hm
      rw [if_neg hm] at h
      obtain ⟨u, hu, hn⟩ := h
      refine ⟨u, ?_, keep _ _ (.inr rfl) a hy u, by rw [← Act.put_comm a v u h2]; exact hn⟩
      unfold mixQ Oper.quietAt at *
      rw [execOp_put oj hsj a oi.dst v h1] at hu
      exact hu
  · rename_i hw
    rw [if_neg hw] at h
    exact ⟨keep _ _ (.inr rfl) a hy _, by rw [← Act.put_comm a v undef h2]; exact h⟩

theorem mixAny_first {i mi : Nat} {oi : Oper} {v : Value} (hi : ops[i]? = some oi) (hmi : mk i = mi) (hm2 : mi ≠ 2) (hsel : ∀ (j : Nat) (o : Oper) cs b, ops[j]? = some o → o.op ≠ .select cs b) :
    ∀ (fuel : Nat) (listed : Array Bool) (a : Act) (w : World), Closed md ops listed →
      (mi ≠ 0 → mi ≠ 3 → ∀ j, j < ops.size → mk j = 2 → listed.getD j true = false → Waits md ops i j) →
      (∀ j oj, ops[j]? = some oj → j ≠ i → listed.getD j true = false → (∀ e ∈ oj.after, Region.binds md e = true → e.on ≠ i) → oi.apart ops oj = true) →
      i ∈ Region.ready md ops listed → MixYields P ops S mi oi v a w →
      mixAny P md ops S Q mk fuel (listed.setIfInBounds i true) (a.put oi.dst v) w → mixAny P md ops S Q mk (fuel + 1) listed a w := by
  intro fuel
  induction fuel with
  | zero =>
    intro listed a w _ _ _ hr hy H
    refine ⟨fun h => (by rw [h] at hr; cases hr), fun j hj => ?_⟩
    by_cases hji : j = i
    · subst hji; exact hy.run_ hi hmi hm2 H
    · have := ready_mono hj hji
      rw [H.1] at this
      cases this
  | succ fuel ih =>
    intro listed a w hcl hwt hfree hr hy H
    refine ⟨fun h => (by rw [h] at hr; cases hr), fun j hj => ?_⟩
    by_cases hji : j = i
    · subst hji; exact hy.run_ hi hmi hm2 H
    · have h1 := H.2 j (ready_mono hj hji)
      obtain ⟨hjun, oj, hoj, hall⟩ := mem_ready.1 hj
      have h0 := (mem_ready.1 hr).1
      have hnot : ∀ e ∈ oj.after, Region.binds md e = true → e.on ≠ i := fun e he hb heq => by
        have h1 := hall e he hb
        rw [heq, getD_falses h0] at h1
        cases h1
      have hl : mk j = 2 → mi = 0 ∨ mi = 3 := fun hm => by
        by_cases m0 : mi = 0
        · exact .inl m0
        · by_cases m3 : mi = 3
          · exact .inr m3
          · have hjs : j < ops.size := (Array.getElem?_eq_some_iff.1 hoj).1
            have := (hwt m0 m3 j hjs hm hjun).listed hcl (fun ok hk => by
              have : ok = oj := Option.some.inj (hk.symm.trans hoj)
              subst this
              exact hall)
            rw [getD_falses h0] at this
            cases this
      have h2 := mixAt_put hoj (hfree j oj hoj hji hjun hnot) (fun cs b => hsel i oi cs b hi) (fun cs b => hsel j oj cs b hoj) hl hy h1
      have hfree' : ∀ k ok, ops[k]? = some ok → k ≠ i → (listed.setIfInBounds j true).getD k true = false →
          (∀ e ∈ ok.after, Region.binds md e = true → e.on ≠ i) → oi.apart ops ok = true := fun k ok hk hki hun hno => by
        refine hfree k ok hk hki ?_ hno
        by_cases hjk : j = k
        · subst hjk; exact hjun
        · rw [getD_set_ne true hjk] at hun; exact hun
      have hwt' : mi ≠ 0 → mi ≠ 3 → ∀ k, k < ops.size → mk k = 2 → (listed.setIfInBounds j true).getD k true = false → Waits md ops i k := fun m0 m3 k hk hm hun => by
        refine hwt m0 m3 k hk hm ?_
        by_cases hjk : j = k
        · subst hjk; exact hjun
        · rw [getD_set_ne true hjk] at hun; exact hun
      have step : ∀ a' w', (MixYields P ops S mi oi v a' w' ∧ mixAny P md ops S Q mk fuel ((listed.setIfInBounds i true).setIfInBounds j true) (a'.put oi.dst v) w') → mixAny P md ops S Q mk (fuel + 1) (listed.setIfInBounds j true) a' w' := fun a' w' h3 => by
        refine ih (listed.setIfInBounds j true) a' w' (hcl.set hj) hwt' hfree' (ready_mono hr (Ne.symm hji)) h3.1 ?_
        rw [Array.setIfInBounds_comm _ _ hji]
        exact h3.2
      exact mixAt_mono (fun a' w' _ h3 => step a' w' h3) (fun a' h3 => step a' w h3) h2

/-- Those that wait for i. -/
def waitList (md : Region.Mode) (ops : Array Oper) (i : Nat) : Nat → List Nat
  | 0 => []
  | n + 1 => let acc := waitList md ops i n
    match ops[n]? with
    | some o => if o.after.any (fun e => Region.binds md e && (e.on == i || acc.contains e.on)) then n :: acc else acc
    | none => acc
theorem waitList_spec {i : Nat} : ∀ (n j : Nat), j ∈ waitList md ops i n → Waits md ops i j
  | 0, j, h => by cases h
  | n + 1, j, h => by
    rw [waitList] at h
    split at h
    · rename_i o ho
      split at h
      · rename_i hany
        rcases List.mem_cons.1 h with rfl | h
        · obtain ⟨e, he, hb⟩ := Array.any_eq_true'.1 hany
          simp only [Bool.and_eq_true, Bool.or_eq_true, beq_iff_eq, List.contains_iff_mem] at hb
          rcases hb.2 with h1 | h1
          · exact .one ho he hb.1 h1
          · exact .more ho he hb.1 (waitList_spec _ _ h1)
        · exact waitList_spec _ _ h
      · exact waitList_spec _ _ h
    · exact waitList_spec _ _ h

def loudsWait (md : Region.Mode) (ops : Array Oper) (mk : Nat → Nat) (i : Nat) (listed : Array Bool) : Bool :=
  let l := waitList md ops i ops.size
  (List.range ops.size).all fun j => mk j != 2 || listed.getD j true || l.contains j
theorem loudsWait_spec {i : Nat} {listed : Array Bool} (h : loudsWait md ops mk i listed = true) (j : Nat) (hj : j < ops.size) (hm : mk j = 2) (hun : listed.getD j true = false) : Waits md ops i j := by
  unfold loudsWait at h
  have h1 := List.all_eq_true.1 h j (List.mem_range.2 hj)
  simp only [hm, hun, bne_self_eq_false, Bool.false_or, List.contains_iff_mem] at h1
  exact waitList_spec _ _ h1

def mixOrd (md : Region.Mode) (ops : Array Oper) (mk : Nat → Nat) : List Nat → Array Bool → Bool
  | [], listed => (Region.ready md ops listed).isEmpty
  | i :: rest, listed => (if mk i = 2 then decide (Region.ready md ops listed = [i]) else (Region.ready md ops listed).contains i && Region.free md ops listed i && (mk i == 0 || mk i == 3 || loudsWait md ops mk i listed)) && mixOrd md ops mk rest (listed.setIfInBounds i true)

/-- The one walk, in the order that is given. -/
def wpMix (P : Program) (ops : Array Oper) (S : World → Prop) (Q : Exit → Act → World → Prop) (mk : Nat → Nat) : List Nat → Act → World → Prop
  | [], a, w => ∀ n, Q .normal a (w.drewN n)
  | i :: rest, a, w => mixAt P .any ops S Q mk i (wpMix P ops S Q mk rest) a w

theorem mixAny_of_mix (hsel : Region.noSelect ops = true) : ∀ (ord : List Nat) (listed : Array Bool) (a : Act) (w : World), Closed .any ops listed → mixOrd .any ops mk ord listed = true →
    wpMix P ops S Q mk ord a w → mixAny P .any ops S Q mk ord.length listed a w
  | [], listed, a, w, _, hB, h => ⟨by simpa [mixOrd] using hB, h⟩
  | i :: rest, listed, a, w, hcl, hB, h => by
    rw [mixOrd, Bool.and_eq_true] at hB
    obtain ⟨hB1, hB2⟩ := hB
    unfold wpMix at h
    by_cases hm : mk i = 2
    · rw [if_pos hm] at hB1
      have hr : Region.ready .any ops listed = [i] := of_decide_eq_true hB1
      refine ⟨fun h0 => (by rw [h0] at hr; cases hr), fun j hj => ?_⟩
      rw [hr] at hj
      obtain rfl : j = i := by simpa using hj
      have hcl' := hcl.set (i := j) (by rw [hr]; simp)
      exact mixAt_mono (fun a' w' _ h' => mixAny_of_mix hsel rest _ a' w' hcl' hB2 h') (fun a' h' => mixAny_of_mix hsel rest _ a' w hcl' hB2 h') h
    · rw [if_neg hm] at hB1
      simp only [Bool.and_eq_true, Bool.or_eq_true, beq_iff_eq] at hB1
      obtain ⟨⟨hr, hf⟩, hl⟩ := hB1
      have hr' : i ∈ Region.ready .any ops listed := by simpa using hr
      obtain ⟨_, oi, hoi, _⟩ := mem_ready.1 hr'
      unfold mixAt at h
      simp only [hoi] at h
      obtain ⟨v, hy, hK⟩ := mixYields_of hm h
      exact mixAny_first hoi rfl hm (Region.noSelect_spec hsel) rest.length listed a w hcl (fun h0 h3 j hj hj2 hun => loudsWait_spec (hl.resolve_left (fun h => h.elim h0 h3)) j hj hj2 hun) (Region.free_spec hoi hf) hr' hy
        (mixAny_of_mix hsel rest _ _ w (hcl.set hr') hB2 hK)

/-- What 'needs' says, reckoned. -/
def needB (ops : Array Oper) (mk : Nat → Nat) (j : Nat) : Bool := (List.range ops.size).any fun i => i != j && mk i == 0 && !(waitList .any ops i ops.size).contains j
theorem needB_of {j : Nat} (h : needs .any ops mk j) : needB ops mk j = true := by
  obtain ⟨i, h1, h2, h3, h4⟩ := h
  refine List.any_eq_true.2 ⟨i, List.mem_range.2 h1, ?_⟩
  simp only [Bool.and_eq_true, bne_iff_ne, ne_eq, beq_iff_eq, Bool.not_eq_true', List.contains_eq_mem, decide_eq_false_iff_not]
  exact ⟨⟨h2, h3⟩, fun hm => h4 (waitList_spec _ _ hm)⟩

def mixB (md : Region.Mode) (ops : Array Oper) (ms ord : List Nat) : Bool :=
  Region.noSelect ops && decide (ord.length = ops.size) && mixOrd md ops (fun i => ms.getD i 2) ord (Array.replicate ops.size false)

theorem wp_region_mix {id : Nat} {a : Act} {w : World} {l : List Oper} (S : World → Prop) (ms ord : List Nat) (hm : P.follows .mixedOrders = true) (hB : mixB .any l.toArray ms ord = true) (hS : ∀ w n, S w → S (w.drewN n)) (hs : S w.drew)
    (h : wpMix P l.toArray S Q (fun i => ms.getD i 2) ord a w.drew) : (Code.region id l.toArray true).wp P Q a w := by
  simp only [mixB, Bool.and_eq_true, decide_eq_true_eq] at hB
  obtain ⟨⟨hsel, hlen⟩, hord⟩ := hB
  refine wp_region_any hm ?_
  have hcl : Closed .any l.toArray (Array.replicate l.toArray.size false) := fun j oj _ hl => by
    rcases Nat.lt_or_ge j l.toArray.size with h | h
    · simp at h hl; simp [h] at hl
    · simp at h hl; simp [h] at hl
  have := mixAny_sound hS _ _ _ _ hcl (fun _ => hs) (mixAny_of_mix hsel ord _ a w.drew hcl hord h) 0
  rw [hlen] at this
  exact this

theorem wpMix_nil {a : Act} {w : World} (h : ∀ n, Q .normal a (w.drewN n)) : wpMix P ops S Q mk [] a w := h
theorem wpMix_any {i : Nat} {rest : List Nat} {a : Act} {w : World} {o : Oper} (ho : ops[i]? = some o) (hm : mk i = 0)
    (h : ∀ K : Act → World → Prop, (∀ a w, wpMix P ops S Q mk rest a w → K a w) → if Region.wanted o (yielded ops a.tmps) then ∃ v, (∀ w', S w' → o.quietAt P a (fun w'' => w'' = w') w' v) ∧ K (a.put o.dst v) w else K (a.put o.dst undef) w) : wpMix P ops S Q mk (i :: rest) a w := by
  unfold wpMix mixAt mixOp mixQ
  simp only [ho, hm]
  exact h _ fun _ _ h => h
theorem wpMix_pure {i : Nat} {rest : List Nat} {a : Act} {w : World} {o : Oper} (ho : ops[i]? = some o) (hm : mk i = 3)
    (h : ∀ K : Act → World → Prop, (∀ a w, wpMix P ops S Q mk rest a w → K a w) → if Region.wanted o (yielded ops a.tmps) then ∃ v, (∀ w', o.quietAt P a (fun w'' => w'' = w') w' v) ∧ K (a.put o.dst v) w else K (a.put o.dst undef) w) : wpMix P ops S Q mk (i :: rest) a w := by
  unfold wpMix mixAt mixOp mixQ
  simp only [ho, hm]
  exact h _ fun _ _ h => h
theorem wpMix_loc {i : Nat} {rest : List Nat} {a : Act} {w : World} {o : Oper} (ho : ops[i]? = some o) (hm : mk i = 1)
    (h : ∀ K : Act → World → Prop, (∀ a w, wpMix P ops S Q mk rest a w → K a w) → if Region.wanted o (yielded ops a.tmps) then ∃ v, (∀ n, o.quietAt P a (fun w' => ∃ n, w' = w.drewN n) (w.drewN n) v) ∧ K (a.put o.dst v) w else K (a.put o.dst undef) w) : wpMix P ops S Q mk (i :: rest) a w := by
  unfold wpMix mixAt mixOp mixQ
  simp only [ho, hm]
  exact h _ fun _ _ h => h
theorem wpMix_loud {i : Nat} {rest : List Nat} {a : Act} {w : World} {o : Oper} (ho : ops[i]? = some o) (hm : mk i = 2)
    (h : ∀ n (K : Act → World → Prop), (∀ a w, (needB ops mk i = true → S w) → wpMix P ops S Q mk rest a w → K a w) → wpList P ops (Exit.then K (noPan Q)) [o] a (w.drewN n)) : wpMix P ops S Q mk (i :: rest) a w := by
  unfold wpMix mixAt mixOp
  simp only [ho, hm, if_true]
  split
  · rename_i hw
    intro n
    have h1 := h n (fun a w => (needs .any ops mk i → S w) ∧ wpMix P ops S Q mk rest a w) (fun _ _ h1 h2 => ⟨fun hn => h1 (needB_of hn), h2⟩)
    unfold wpList at h1
    rw [if_pos hw] at h1
    rcases h1 with h1 | ⟨h1, a', w', h2⟩
    · refine .inl ?_
      have h1' := Oper.wp_mono (K' := fun a' w' => (needs .any ops mk i → S w') ∧ wpMix P ops S Q mk rest a' w') (fun a w h => h) h1
      unfold Oper.wp at *
      generalize (execOp a.eval o).run P (w.drewN n) = r at *
      cases r with
      | ok x w' =>
        cases x <;> simp only [Oper.upon] at h1' ⊢ <;> exact h1'
      | halt x w' =>
        cases x <;> simp only [Oper.upon] at h1' ⊢ <;> exact h1'
    · exact .inr ⟨h1, a', w', h2⟩
  · rename_i hw
    have h1 := h 0 (fun a w' => wpMix P ops S Q mk rest a w') (fun _ _ _ h2 => h2)
    unfold wpList at h1
    rw [if_neg hw] at h1
    exact h1
end
end Go.Proofs.Yteoebfjhadmnbaa
/- A region that draws its order, two of whose writing operations may change places: a walk of what comes ahead, and two walks from there on. -/
namespace Go.Proofs.Yteoebfjhadmnbaa
section
variable {P : Program} {ops : Array Oper} {S : World → Prop} {Q : Exit → Act → World → Prop} {mk : Nat → Nat} {E : Act → World → Prop}

/-- The walk of a prefix; E: what must hold behind it. -/
def wpMixE (P : Program) (ops : Array Oper) (S : World → Prop) (Q : Exit → Act → World → Prop) (mk : Nat → Nat) (E : Act → World → Prop) : List Nat → Act → World → Prop
  | [], a, w => E a w
  | i :: rest, a, w => mixAt P .any ops S Q mk i (wpMixE P ops S Q mk E rest) a w
/-- The order of a prefix. -/
def mixOrdP (md : Region.Mode) (ops : Array Oper) (mk : Nat → Nat) : List Nat → Array Bool → Bool
  | [], _ => true
  | i :: rest, listed => (if mk i = 2 then decide (Region.ready md ops listed = [i]) else (Region.ready md ops listed).contains i && Region.free md ops listed i && (mk i == 0 || mk i == 3 || loudsWait md ops mk i listed)) && mixOrdP md ops mk rest (listed.setIfInBounds i true)
def listedBy : List Nat → Array Bool → Array Bool
  | [], l => l
  | i :: rest, l => listedBy rest (l.setIfInBounds i true)

theorem mixAny_of_mixE (hsel : Region.noSelect ops = true) (f : Nat) : ∀ (ord : List Nat) (listed : Array Bool) (a : Act) (w : World), Closed .any ops listed → mixOrdP .any ops mk ord listed = true →
    (∀ a w, Closed .any ops (listedBy ord listed) → E a w → mixAny P .any ops S Q mk f (listedBy ord listed) a w) → wpMixE P ops S Q mk E ord a w → mixAny P .any ops S Q mk (ord.length + f) listed a w
  | [], listed, a, w, hcl, _, hE, h => by
    have := hE a w hcl h
    rw [List.length_nil, Nat.zero_add]
    exact this
  | i :: rest, listed, a, w, hcl, hB, hE, h => by
    rw [mixOrdP, Bool.and_eq_true] at hB
    obtain ⟨hB1, hB2⟩ := hB
    unfold wpMixE at h
    have e : (i :: rest).length + f = (rest.length + f) + 1 := by simp; omega
    rw [e]
    by_cases hm : mk i = 2
    · rw [if_pos hm] at hB1
      have hr : Region.ready .any ops listed = [i] := of_decide_eq_true hB1
      refine ⟨fun h0 => (by rw [h0] at hr; cases hr), fun j hj => ?_⟩
      rw [hr] at hj
      obtain rfl : j = i := by simpa using hj
      have hcl' := hcl.set (i := j) (by rw [hr]; simp)
      exact mixAt_mono (fun a' w' _ h' => mixAny_of_mixE hsel f rest _ a' w' hcl' hB2 hE h') (fun a' h' => mixAny_of_mixE hsel f rest _ a' w hcl' hB2 hE h') h
    · rw [if_neg hm] at hB1
      simp only [Bool.and_eq_true, Bool.or_eq_true, beq_iff_eq] at hB1
      obtain ⟨⟨hr, hf⟩, hl⟩ := hB1
      have hr' : i ∈ Region.ready .any ops listed := by simpa using hr
      obtain ⟨_, oi, hoi, _⟩ := mem_ready.1 hr'
      unfold mixAt at h
      simp only [hoi] at h
      obtain ⟨v, hy, hK⟩ := mixYields_of hm h
      exact mixAny_first hoi rfl hm (Region.noSelect_spec hsel) (rest.length + f) listed a w hcl (fun h0 h3 j hj hj2 hun => loudsWait_spec (hl.resolve_left (fun h => h.elim h0 h3)) j hj hj2 hun) (Region.free_spec hoi hf) hr' hy
        (mixAny_of_mixE hsel f rest _ _ w (hcl.set hr') hB2 hE hK)

def mixB2 (ops : Array Oper) (ms pre : List Nat) (i j : Nat) (t1 t2 : List Nat) : Bool :=
  Region.noSelect ops && decide (pre.length + (t1.length + 1) = ops.size) && decide (t1.length = t2.length) && mixOrdP .any ops (fun i => ms.getD i 2) pre (Array.replicate ops.size false) &&
  decide (Region.ready .any ops (listedBy pre (Array.replicate ops.size false)) = [i, j]) &&
  mixOrd .any ops (fun i => ms.getD i 2) t1 ((listedBy pre (Array.replicate ops.size false)).setIfInBounds i true) && mixOrd .any ops (fun i => ms.getD i 2) t2 ((listedBy pre (Array.replicate ops.size false)).setIfInBounds j true)

theorem wp_region_mix2 {id : Nat} {a : Act} {w : World} {l : List Oper} (S : World → Prop) (ms pre : List Nat) (i j : Nat) (t1 t2 : List Nat) (hm : P.follows .mixedOrders = true) (hB : mixB2 l.toArray ms pre i j t1 t2 = true) (hS : ∀ w n, S w → S (w.drewN n)) (hs : S w.drew)
    (h : wpMixE P l.toArray S Q (fun i => ms.getD i 2) (fun a w => wpMix P l.toArray S Q (fun i => ms.getD i 2) (i :: t1) a w ∧ wpMix P l.toArray S Q (fun i => ms.getD i 2) (j :: t2) a w) pre a w.drew) : (Code.region id l.toArray true).wp P Q a w := by
  simp only [mixB2, Bool.and_eq_true, decide_eq_true_eq] at hB
  obtain ⟨⟨⟨⟨⟨⟨hsel, hlen⟩, hl12⟩, hord⟩, hrd⟩, ho1⟩, ho2⟩ := hB
  refine wp_region_any hm ?_
  have hcl : Closed .any l.toArray (Array.replicate l.toArray.size false) := fun j oj _ hl => by
    rcases Nat.lt_or_ge j l.toArray.size with h | h
    · simp at h hl; simp [h] at hl
    · simp at h hl; simp [h] at hl
  have key := mixAny_sound hS _ _ _ _ hcl (fun _ => hs) (mixAny_of_mixE hsel (t1.length + 1) pre _ a w.drew hcl hord (fun a w hcl' ⟨h1, h2⟩ => by
    refine ⟨fun h0 => (by rw [h0] at hrd; cases hrd), fun k hk => ?_⟩
    rw [hrd] at hk
    have hc1 := hcl'.set (i := i) (by rw [hrd]; simp)
    have hc2 := hcl'.set (i := j) (by rw [hrd]; simp)
    rcases List.mem_cons.1 hk with rfl | hk
    · unfold wpMix at h1
      exact mixAt_mono (fun a' w' _ h' => mixAny_of_mix hsel t1 _ a' w' hc1 ho1 h') (fun a' h' => mixAny_of_mix hsel t1 _ a' w hc1 ho1 h') h1
    · obtain rfl : k = j := by simpa using hk
      unfold wpMix at h2
      rw [hl12]
      exact mixAt_mono (fun a' w' _ h' => mixAny_of_mix hsel t2 _ a' w' hc2 ho2 h') (fun a' h' => mixAny_of_mix hsel t2 _ a' w hc2 ho2 h') h2) h) 0
  rw [hlen] at key
  exact key

theorem wpMixE_nil {a : Act} {w : World} (h : E a w) : wpMixE P ops S Q mk E [] a w := h
theorem wpMixE_any {i : Nat} {rest : List Nat} {a : Act} {w : World} {o : Oper} (ho : ops[i]? = some o) (hm : mk i = 0)
    (h : ∀ K : Act → World → Prop, (∀ a w, wpMixE P ops S Q mk E rest a w → K a w) → if Region.wanted o (yielded ops a.tmps) then ∃ v, (∀ w', S w' → o.quietAt P a (fun w'' => w'' = w') w' v) ∧ K (a.put o.dst v) w else K (a.put o.dst undef) w) : wpMixE P ops S Q mk E (i :: rest) a w := by
  unfold wpMixE mixAt mixOp mixQ
  simp only [ho, hm]
  exact h _ fun _ _ h => h
theorem wpMixE_pure {i : Nat} {rest : List Nat} {a : Act} {w : World} {o : Oper} (ho : ops[i]? = some o) (hm : mk i = 3)
    (h : ∀ K : Act → World → Prop, (∀ a w, wpMixE P ops S Q mk E rest a w → K a w) → if Region.wanted o (yielded ops a.tmps) then ∃ v, (∀ w', o.quietAt P a (fun w'' => w'' = w') w' v) ∧ K (a.put o.dst v) w else K (a.put o.dst undef) w) : wpMixE P ops S Q mk E (i :: rest) a w := by
  unfold wpMixE mixAt mixOp mixQ
  simp only [ho, hm]
  exact h _ fun _ _ h => h
end
end Go.Proofs.Yteoebfjhadmnbaa
/- A region that draws its order within a round of a range over a function: the one walk of XMix serves there too. -/
namespace Go.Proofs.Yteoebfjhadmnbaa
set_option linter.unusedVariables false
set_option linter.unusedSimpArgs false
section
variable {P : Program} {ops : Array Oper} {md : Region.Mode} {Q : Exit → Act → World → Prop} {n r : Nat}

def plainOp (o : Oper) : Bool := match o.op with
  | .defer _ => false
  | _ => true
theorem plainOp_spec {o : Oper} (h : plainOp o = true) : ∀ c, o.op ≠ .defer c := fun c e => by
  unfold plainOp at h
  rw [e] at h
  cases h
/-- no row of the library's among what it may do -/
theorem wpIn_of_wp {o : Oper} {a : Act} {w : World} {K : Act → World → Prop} (ho : plainOp o = true) (hL : ¬ LetsOut Q) (h : o.wp P a w K Q) : o.wpIn (Fence.wide.inRound r) n P a w K Q := by
  refine ⟨fun _ _ => trivial, ?_⟩
  rw [Oper.semAt_eq _ _ _ (plainOp_spec ho)]
  unfold Oper.wp at h
  generalize (execOp a.eval o).run P w = x at *
  cases x with
  | ok x w' =>
    cases x <;> simp only [Oper.upon] at h <;> simp only [Oper.uponIn] <;> try exact h
    case enter f args =>
      refine ⟨(fun h => (by cases h)), CallsIn.inRound r (callsIn_wide.2 (Calls.mono h fun e w'' he => ?_))⟩
      cases e <;> exact he
    case row row args => exact ⟨(fun h => (by cases h)), fun c cs _ => let ⟨v, w', q, s⟩ := h c cs; ⟨v, w', q, stepsIn_wide.2 s⟩⟩
  | halt x w' =>
    cases x <;> simp only [Oper.upon] at h <;> simp only [Oper.uponIn] <;> exact h
theorem wpAnyIn_of_any (hd : ∀ (i : Nat) (o : Oper), ops[i]? = some o → plainOp o = true) (hL : ¬ LetsOut Q) : ∀ (fuel : Nat) (listed : Array Bool) (a : Act) (w : World), wpAny P md ops Q fuel listed a w → wpAnyIn (Fence.wide.inRound r) n P md ops Q fuel listed a w
  | 0, _, _, _, h => h
  | fuel + 1, listed, a, w, h => ⟨h.1, fun i hi => by
      have h1 := h.2 i hi
      unfold wpOp at h1
      unfold wpOpIn
      split
      · rename_i hn
        simp only [hn] at h1
        exact wpAnyIn_of_any hd hL fuel _ _ _ h1
      · rename_i o ho
        simp only [ho] at h1
        split
        · rename_i hw
          rw [if_pos hw] at h1
          rcases h1 with h1 | h1
          · exact Oper.wpIn_mono (fun a w h => wpAnyIn_of_any hd hL fuel _ a w h) (wpIn_of_wp (hd i o ho) hL h1)
          · exact (hL h1.2).elim
        · rename_i hw
          rw [if_neg hw] at h1
          exact ⟨fun _ _ => trivial, wpAnyIn_of_any hd hL fuel _ _ _ h1⟩⟩
theorem wpIn_region_mix {id : Nat} {a : Act} {w : World} {l : List Oper} (S : World → Prop) (ms ord : List Nat) (hm : P.follows .mixedOrders = true) (hB : mixB .any l.toArray ms ord = true) (hdf : l.all plainOp = true) (hL : ¬ LetsOut Q) (hS : ∀ w n, S w → S (w.drewN n)) (hs : S w.drew)
    (h : wpMix P l.toArray S Q (fun i => ms.getD i 2) ord a w.drew) : (Code.region id l.toArray true).wpIn (Fence.wide.inRound r) n P Q a w := by
  simp only [mixB, Bool.and_eq_true, decide_eq_true_eq] at hB
  obtain ⟨⟨hsel, hlen⟩, hord⟩ := hB
  refine wpIn_region_any hm (wpAnyIn_of_any (fun i o ho => ?_) hL _ _ _ _ ?_)
  · have : o ∈ l := List.mem_of_getElem? (by simpa using ho)
    exact List.all_eq_true.1 hdf o this
  have hcl : Closed .any l.toArray (Array.replicate l.toArray.size false) := fun j oj _ hl => by
    rcases Nat.lt_or_ge j l.toArray.size with h | h
    · simp at h hl; simp [h] at hl
    · simp at h hl; simp [h] at hl
  have := mixAny_sound hS _ _ _ _ hcl (fun _ => hs) (mixAny_of_mix hsel ord _ a w.drew hcl hord h) 0
  rw [hlen] at this
  exact this
end
end Go.Proofs.Yteoebfjhadmnbaa
/- The one walk of a region that draws its order, behind a structure: no tactic looks through what is still to come (many operations that are not wanted, one behind the other, hang otherwise). -/
namespace Go.Proofs.Yteoebfjhadmnbaa
set_option linter.unusedVariables false
set_option linter.unusedSimpArgs false
open Go.RowKit
/-- what no tactic looks through ('Hid' is a definition: weak head normal form unfolds it) -/
structure Shut (p : Prop) : Prop where
  out : p
section
variable {P : Program} {ops : Array Oper} {S : World → Prop} {Q : Exit → Act → World → Prop} {mk : Nat → Nat} {r n : Nat}
theorem wpMixH_nil {a : Act} {w : World} (h : ∀ n, Q .normal a (w.drewN n)) : Shut (wpMix P ops S Q mk [] a w) := Shut.mk (wpMix_nil h)
theorem wpMixH_any {i : Nat} {rest : List Nat} {a : Act} {w : World} {o : Oper} (ho : ops[i]? = some o) (hm : mk i = 0)
    (h : ∀ K : Act → World → Prop, (∀ a w, Shut (wpMix P ops S Q mk rest a w) → K a w) → if Region.wanted o (yielded ops a.tmps) then ∃ v, (∀ w', S w' → o.quietAt P a (fun w'' => w'' = w') w' v) ∧ K (a.put o.dst v) w else K (a.put o.dst undef) w) : Shut (wpMix P ops S Q mk (i :: rest) a w) :=
  Shut.mk (wpMix_any ho hm fun K hK => h K fun a w hh => hK a w hh.out)
theorem wpMixH_pure {i : Nat} {rest : List Nat} {a : Act} {w : World} {o : Oper} (ho : ops[i]? = some o) (hm : mk i = 3)
    (h : ∀ K : Act → World → Prop, (∀ a w, Shut (wpMix P ops S Q mk rest a w) → K a w) → if Region.wanted o (yielded ops a.tmps) then ∃ v, (∀ w', o.quietAt P a (fun w'' => w'' = w') w' v) ∧ K (a.put o.dst v) w else K (a.put o.dst undef) w) : Shut (wpMix P ops S Q mk (i :: rest) a w) :=
  Shut.mk (wpMix_pure ho hm fun K hK => h K fun a w hh => hK a w hh.out)
theorem wpMixH_loc {i : Nat} {rest : List Nat} {a : Act} {w : World} {o : Oper} (ho : ops[i]? = some o) (hm : mk i = 1)
    (h : ∀ K : Act → World → Prop, (∀ a w, Shut (wpMix P ops S Q mk rest a w) → K a w) → if Region.wanted o (yielded ops a.tmps) then ∃ v, (∀ n, o.quietAt P a (fun w' => ∃ n, w' = w.drewN n) (w.drewN n) v) ∧ K (a.put o.dst v) w else K (a.put o.dst undef) w) : Shut (wpMix P ops S Q mk (i :: rest) a w) :=
  Shut.mk (wpMix_loc ho hm fun K hK => h K fun a w hh => hK a w hh.out)
theorem wpMixH_loud {i : Nat} {rest : List Nat} {a : Act} {w : World} {o : Oper} (ho : ops[i]? = some o) (hm : mk i = 2)
    (h : ∀ n (K : Act → World → Prop), (∀ a w, (needB ops mk i = true → S w) → Shut (wpMix P ops S Q mk rest a w) → K a w) → wpList P ops (Exit.then K (noPan Q)) [o] a (w.drewN n)) : Shut (wpMix P ops S Q mk (i :: rest) a w) :=
  Shut.mk (wpMix_loud ho hm fun n K hK => h n K fun a w hs hh => hK a w hs hh.out)
theorem wpMixH_skip {i : Nat} {rest : List Nat} {a : Act} {w : World} {o : Oper} (ho : ops[i]? = some o) (hw : Region.wanted o (yielded ops a.tmps) = false)
    (h : ∀ K : Act → World → Prop, (∀ a w, Shut (wpMix P ops S Q mk rest a w) → K a w) → K (a.put o.dst undef) w) : Shut (wpMix P ops S Q mk (i :: rest) a w) := Shut.mk (by
  unfold wpMix mixAt mixOp
  simp only [ho]
  rw [if_neg (by rw [hw]; exact Bool.false_ne_true)]
  exact h (fun a' w' => wpMix P ops S Q mk rest a' w') fun a' w' hh => hh.out)
theorem wp_region_mixH {id : Nat} {a : Act} {w : World} {l : List Oper} (S : World → Prop) (ms ord : List Nat) (hm : P.follows .mixedOrders = true) (hB : mixB .any l.toArray ms ord = true) (hS : ∀ w n, S w → S (w.drewN n)) (hs : S w.drew)
    (h : Shut (wpMix P l.toArray S Q (fun i => ms.getD i 2) ord a w.drew)) : (Code.region id l.toArray true).wp P Q a w := wp_region_mix S ms ord hm hB hS hs h.out
theorem wpIn_region_mixH {id : Nat} {a : Act} {w : World} {l : List Oper} (S : World → Prop) (ms ord : List Nat) (hm : P.follows .mixedOrders = true) (hB : mixB .any l.toArray ms ord = true) (hdf : l.all plainOp = true) (hL : ¬ LetsOut Q) (hS : ∀ w n, S w → S (w.drewN n)) (hs : S w.drew)
    (h : Shut (wpMix P l.toArray S Q (fun i => ms.getD i 2) ord a w.drew)) : (Code.region id l.toArray true).wpIn (Fence.wide.inRound r) n P Q a w := wpIn_region_mix S ms ord hm hB hdf hL hS hs h.out
end
end Go.Proofs.Yteoebfjhadmnbaa
/- stats: the lists of products by contract (the program's and the document's). -/
namespace Go.Proofs.Yteoebfjhadmnbaa
open Go.RowKit Ieee
set_option maxHeartbeats 4000000
set_option linter.unusedVariables false
set_option linter.unusedSimpArgs false
def encFl (x : Nat) : List Value := [.float .f64 x]
theorem encFl_len (x : Nat) : (encFl x).length = 1 := rfl
theorem encFl_one (x : Nat) : ∀ u ∈ encFl x, u.oneCell' = true := by
  intro u hu
  obtain rfl : u = .float .f64 x := by simpa [encFl] using hu
  rfl
abbrev Fl (w : World) (v : Value) (l : List Nat) : Prop := Sl 36 1 encFl w v l
theorem f64_info : (Try.prog.info? 36).map (fun i => (i.zero, i.size, i.bytes)) = some (some (.float .f64 0), 1, 8) := by kernel_rfl
theorem Fl.lies {w : World} {v : Value} {l : List Nat} (h : Fl w v l) (hb : ∀ x ∈ l, x < 18446744073709551616) : LiesF w v l := by
  obtain ⟨A, cp, rfl, hc⟩ := h.shape
  refine ⟨A, cp, rfl, hc, fun e => ?_, hb, fun j hj => ?_⟩
  · obtain ⟨A', c', e1, _, e3⟩ := Rowv.shape h
    injection e1 with e1 _ e2
    subst e1 e2
    exact (e3 e).2
  · obtain ⟨g, o, e, _, hcell⟩ := Sl.cell encFl_len (by decide) h hj
    refine ⟨g, o, e, ?_⟩
    have := (hcell j hj 0 (by decide)).1
    rw [show j * 1 + 0 = j by omega] at this
    rw [this, List.getD_eq_getElem?_getD, List.getElem?_eq_getElem hj]
    rfl
/-- 'make([]float64, n)' -/
theorem wpList_zerosF {ops : Array Oper} {rest : List Oper} {o : Oper} {a : Act} {Q : Exit → Act → World → Prop} (wr : World) (hgd : o.guard = none) (l c : Operand) (ho : o.op = Op.makeSlice 48 l c)
    (kl kc : IntKind) (L C : Int) (n : Nat) (hl : a.eval l = .int kl L) (hc : a.eval c = .int kc C) (hL : L = (n : Int)) (hC : C = (n : Int)) (hn : n * 8 ≤ 140737488355328)
    (h : ∀ w', Fl w' (.slice (some ⟨wr.heap.size, 0, none⟩) n n) (List.replicate n 0) → Below wr.heap.size wr w' → wpList Try.prog ops Q rest (a.put o.dst (.slice (some ⟨wr.heap.size, 0, none⟩) n n)) w') :
    wpList Try.prog ops Q (o :: rest) a wr := by
  obtain ⟨i0, hi, hz0, hz1, hz2⟩ := info_parts f64_info
  refine wpList_make_full wr hgd l c 48 ho wr.heap.size 36 i0 (.float .f64 0) 1 Try.underlying48 hi hz0 hz1 kl kc L C n hl hc hL hC (by rw [hz2]; omega) (by unfold maxLen; omega) (Nat.le_refl _) ?_
  intro w' hr hg
  refine h w' ?_ ((Below.refl wr.heap.size wr).grown hg (Nat.le_refl _) (by intro k hk; cases hk))
  have e : (madeCells (Value.cells (.float .f64 0)) (n * 1)).toList = (List.replicate n (0 : Nat)).flatMap encFl := by
    have e2 : (List.replicate n (0 : Nat)).flatMap encFl = List.replicate n (Value.float .f64 0) := by
      clear hl hc hL hC hn h hr hg
      induction n with
      | zero => rfl
      | succ n ih => rw [List.replicate_succ, List.replicate_succ, List.flatMap_cons, ih]; rfl
    rw [e2]
    simp only [Value.cells, Nat.mul_one]
    apply List.ext_getElem
    · simp [size_madeCells]
    · intro i h1 h2
      simp [madeCells, Nat.mod_one]
  rw [e] at hr
  have hr' := Rowv.of_own hr
  unfold Fl Sl
  simpa using hr'.base (B' := 0) (fun _ _ => Nat.zero_le _)
/-- the products' classes -/
def pPr (a b : Option Nat) (x y : Option Nat) : Option Nat := fop .mul (fop .sub x a) (fop .sub y b)
def pProd (x y : List (Option Nat)) (a b : Option Nat) : List (Option Nat) := List.zipWith (pPr a b) x y
theorem pProd_one {x y : List Nat} {a b : Option Nat} {j : Nat} (h1 : j < x.length) (h2 : j < y.length) :
    pProd ((x.take (j + 1)).map cl) ((y.take (j + 1)).map cl) a b = pProd ((x.take j).map cl) ((y.take j).map cl) a b ++ [pPr a b (cl (x.getD j 0)) (cl (y.getD j 0))] := by
  rw [List.take_add_one, List.getElem?_eq_getElem h1, List.getD_eq_getElem?_getD, List.getElem?_eq_getElem h1, List.take_add_one, List.getElem?_eq_getElem h2, List.getD_eq_getElem?_getD, List.getElem?_eq_getElem h2]
  simp only [pProd, List.map_append, Option.toList_some, List.map_cons, List.map_nil, Option.getD_some]
  rw [List.zipWith_append (by simp; omega)]
  rfl
theorem take_set_one {o : List Nat} {j z : Nat} (h : j < o.length) : (o.set j z).take (j + 1) = o.take j ++ [z] := by
  rw [List.take_add_one, List.getElem?_set_self h, List.take_set, List.set_eq_of_length_le (by rw [List.length_take]; omega)]
  rfl
set_option maxRecDepth 100000 in
theorem products_b {w : World} {Ax Ay : Option Addr} {cx cy : Nat} {x y : List Nat} {a b : Nat} (hx : LiesF w (.slice Ax x.length cx) x) (hy : LiesF w (.slice Ay y.length cy) y) (hxy : x.length = y.length) (hn : x.length * 8 ≤ 140737488355328) :
    Calls Try.prog 39 #[.slice Ax x.length cx, .slice Ay y.length cy, .float .f64 a, .float .f64 b] w fun e w' =>
      ∃ v o, e = .returned v ∧ Fl w' v o ∧ o.map cl = pProd (x.map cl) (y.map cl) (cl a) (cl b) ∧ (∀ z ∈ o, z < 18446744073709551616) ∧ Below w.heap.size w w' := by
  replace hx := Lib.hid hx
  replace hy := Lib.hid hy
  have hni : (x.length : Int) ≤ 9223372036854775807 := by omega
  replace hn := Lib.hid hn
  replace hxy := Lib.hid hxy
  go_enter Try.func39, Try.ntmps39
  go_wp2_with (refine wpList_zerosF w rfl _ _ rfl .i64 .i64 (x.length : Int) (x.length : Int) x.length rfl rfl rfl rfl hn.out ?_; intro w1 hv1 hb1)
  replace hv1 := Lib.hid hv1
  replace hb1 := Lib.hid hb1
  go_loopg [16] x.length (fun gk c16 wr => ∃ (j : Nat) (o : List Nat), gk + j = x.length ∧ c16 = .int .i64 (j : Int) ∧ Hid (o.length = x.length) ∧ Hid (Fl wr (.slice (some ⟨w.heap.size, 0, none⟩) x.length x.length) o) ∧ Hid ((o.take j).map cl = pProd ((x.take j).map cl) ((y.take j).map cl) (cl a) (cl b)) ∧ Hid (∀ z ∈ o, z < 18446744073709551616) ∧ Hid (Below w.heap.size w wr))
  case atStart => exact ⟨0, List.replicate x.length 0, rfl, rfl, Lib.hid (by simp), hv1, Lib.hid rfl, Lib.hid (fun z hz => by rw [List.eq_of_mem_replicate hz]; omega), hb1⟩
  case round =>
    obtain ⟨j, o, hgk, rfl, HO, HV, HP, HB, HW⟩ := hrel
    have HG := Lib.hid hgk
    clear hgk hv1 hb1
    by_cases hj : j < x.length
    · obtain ⟨g, rfl⟩ : ∃ g, gk = g + 1 := ⟨gk - 1, by have := HG.out; omega⟩
      obtain ⟨A2, c2, ev, _, _, hbx, hcs⟩ := hx.out.below HW.out
      rw [Value.slice.injEq] at ev
      obtain ⟨rfl, -, rfl⟩ := ev
      obtain ⟨gz, oz, rfl, hcl⟩ := hcs j hj
      have hjy : j < y.length := by have := hxy.out; omega
      obtain ⟨A3, c3, ev, _, _, hby, hcs3⟩ := hy.out.below HW.out
      rw [Value.slice.injEq] at ev
      obtain ⟨rfl, -, rfl⟩ := ev
      obtain ⟨gy, oy, rfl, hcl3⟩ := hcs3 j hjy
      have hji : (j : Int) < x.length := by omega
      have hjyi : (j : Int) < y.length := by omega
      have HN := Lib.hid (pProd_one (a := cl a) (b := cl b) hj hjy)
      have hjo : j < o.length := by have := HO.out; omega
      obtain ⟨gv, ov, ev, hgl, hcv⟩ := Sl.cell encFl_len (by decide) HV.out hjo
      injection ev with ev
      injection ev with ev1 ev2
      subst ev1 ev2
      have hfz : wr.frozen? ⟨w.heap.size, j, none⟩ = false := by have := (hcv j hjo 0 (by decide)).2; rw [show 0 + (j * 1 + 0) = j by omega] at this; exact this
      have hcc : wr.cell? ⟨w.heap.size, j, none⟩ = some (.float .f64 o[j]) := by have := (hcv j hjo 0 (by decide)).1; rw [show 0 + (j * 1 + 0) = j by omega] at this; exact this
      clear hcs hcs3 hbx hby hcv
      generalize x.getD j 0 = xv at *
      generalize y.getD j 0 = yv at *
      go_upto_region 5 with (fail)
      refine wp_region_mix2 (fun W' => W'.cell? ⟨gz, oz + j, none⟩ = some (.float .f64 xv) ∧ W'.cell? ⟨gy, oy + j, none⟩ = some (.float .f64 yv)) [3, 3, 3, 3, 3, 0, 3, 2, 3, 3, 3, 0, 3, 2, 2, 3, 2] [0, 1, 2, 3, 4, 5, 6, 8, 9, 10, 11, 12] 7 13 [13, 14, 15, 16] [7, 14, 15, 16] (by kernel_rfl) (by kernel_rfl) (fun _ _ h => h) ⟨hcl, hcl3⟩ ?_
      (repeat (first | ((first | refine wpMixE_pure rfl rfl (fun K hK => ?_) | refine wpMixE_any rfl rfl (fun K hK => ?_)); go_simp; refine hK _ _ ?_; clear hK K) | (refine wpMixE_any rfl rfl (fun K hK => ?_); rw [if_pos (by go_simp)]; apply Exists.intro; refine And.intro (fun w2 hS2 => ?_) (hK _ _ ?_); (focus (obtain ⟨hs1, hs2⟩ := hS2; go_simp; rfl)); clear hK K)))
      refine wpMixE_nil ⟨wpMix_loud rfl rfl (fun n1 K hK => ?_), wpMix_loud rfl rfl (fun n1 K hK => ?_)⟩
      · go_wp2_with fail
        have hp1 := Lib.hid (cl_fres .sub xv a (wr.drewN (1 + n1)))
        have hlp1 := Lib.hid (fres_lt .sub xv a (wr.drewN (1 + n1)))
        generalize fres BinOp.sub xv a (wr.drewN (1 + n1)) = p1 at *
        generalize fdr BinOp.sub xv a = d1 at *
        refine hK _ _ (fun _ => ⟨hcl, hcl3⟩) ?_; clear hK K
        refine wpMix_loud rfl rfl (fun n2 K hK => ?_)
        go_wp2_with fail
        have hp2 := Lib.hid (cl_fres .sub yv b (wr.drewN (1 + n1 + d1 + n2)))
        have hlp2 := Lib.hid (fres_lt .sub yv b (wr.drewN (1 + n1 + d1 + n2)))
        generalize fres BinOp.sub yv b (wr.drewN (1 + n1 + d1 + n2)) = p2 at *
        generalize fdr BinOp.sub yv b = d2 at *
        refine hK _ _ (fun _ => ⟨hcl, hcl3⟩) ?_; clear hK K
        refine wpMix_loud rfl rfl (fun n3 K hK => ?_)
        go_wp2_with fail
        have hp3 := Lib.hid (cl_fres .mul p1 p2 (wr.drewN (1 + n1 + d1 + n2 + d2 + n3)))
        have hlp3 := Lib.hid (fres_lt .mul p1 p2 (wr.drewN (1 + n1 + d1 + n2 + d2 + n3)))
        generalize fres BinOp.mul p1 p2 (wr.drewN (1 + n1 + d1 + n2 + d2 + n3)) = p3 at *
        generalize fdr BinOp.mul p1 p2 = d3 at *
        refine hK _ _ (fun _ => ⟨hcl, hcl3⟩) ?_; clear hK K
        have hp4 : Hid (cl p3 = pPr (cl a) (cl b) (cl xv) (cl yv)) := Lib.hid (by rw [hp3.out, hp1.out, hp2.out]; rfl)
        ((first | refine wpMix_pure rfl rfl (fun K hK => ?_) | refine wpMix_loc rfl rfl (fun K hK => ?_) | refine wpMix_any rfl rfl (fun K hK => ?_)); go_simp; refine hK _ _ ?_; clear hK K)
        refine wpMix_loud rfl rfl (fun n4 K hK => ?_)
        have hfz4 : (wr.drewN (1 + n1 + d1 + n2 + d2 + n3 + d3 + n4)).frozen? ⟨w.heap.size, j, none⟩ = false := hfz
        have hcc4 : (wr.drewN (1 + n1 + d1 + n2 + d2 + n3 + d3 + n4)).cell? ⟨w.heap.size, j, none⟩ = some (.float .f64 o[j]) := hcc
        have HV4 : Hid (Fl (wr.drewN (1 + n1 + d1 + n2 + d2 + n3 + d3 + n4)) (.slice (some ⟨w.heap.size, 0, none⟩) x.length x.length) o) := Lib.hid (HV.out.drewN _)
        have HW4 := Lib.hid (below_drewNs HW.out (1 + n1 + d1 + n2 + d2 + n3 + d3 + n4))
        rw [show ∀ A B, (wr.drewN A).drewN B = wr.drewN (A + B) from fun A B => drewN_drewN wr A B]
        generalize wr.drewN (1 + n1 + d1 + n2 + d2 + n3 + d3 + n4) = wz at *
        go_wp2_with fail
        refine hK _ _ (fun h => (Bool.false_ne_true ((Eq.symm (by kernel_rfl)).trans h)).elim) ?_; clear hK K
        refine wpMix_nil (fun n5 => ?_)
        have HV5 : Hid (Fl (wz.setCell ⟨w.heap.size, j, none⟩ (.float .f64 p3)) (.slice (some ⟨w.heap.size, 0, none⟩) x.length x.length) (o.set j p3)) := Lib.hid (by have := Sl.upd encFl_len HV4.out hjo (j := 0) (by decide) (.float .f64 p3) p3 rfl; rw [show 0 + (j * 1 + 0) = j by omega] at this; exact this)
        have HW5 : Hid (Below w.heap.size w (wz.setCell ⟨w.heap.size, j, none⟩ (.float .f64 p3))) := Lib.hid (HW4.out.setCell (Nat.le_refl _) _)
        generalize wz.setCell ⟨w.heap.size, j, none⟩ (.float .f64 p3) = wy at *
        go_wp2
        go_roundg g
        case measure => omega
        case rel =>
          refine ⟨j + 1, o.set j p3, ?_, by go_num, Lib.hid (by rw [List.length_set]; exact HO.out), Lib.hid (HV5.out.drewN _), Lib.hid ?_, Lib.hid fun z hz => ?_, Lib.hid (below_drewNs HW5.out _)⟩
          · have := HG.out; omega
          · rw [HN.out, ← HP.out, ← hp4.out, take_set_one hjo, List.map_append]; rfl
          · rcases List.mem_or_eq_of_mem_set hz with h | rfl
            · exact HB.out z h
            · exact hlp3.out
      · go_wp2_with fail
        have hp1 := Lib.hid (cl_fres .sub yv b (wr.drewN (1 + n1)))
        have hlp1 := Lib.hid (fres_lt .sub yv b (wr.drewN (1 + n1)))
        generalize fres BinOp.sub yv b (wr.drewN (1 + n1)) = p1 at *
        generalize fdr BinOp.sub yv b = d1 at *
        refine hK _ _ (fun _ => ⟨hcl, hcl3⟩) ?_; clear hK K
        refine wpMix_loud rfl rfl (fun n2 K hK => ?_)
        go_wp2_with fail
        have hp2 := Lib.hid (cl_fres .sub xv a (wr.drewN (1 + n1 + d1 + n2)))
        have hlp2 := Lib.hid (fres_lt .sub xv a (wr.drewN (1 + n1 + d1 + n2)))
        generalize fres BinOp.sub xv a (wr.drewN (1 + n1 + d1 + n2)) = p2 at *
        generalize fdr BinOp.sub xv a = d2 at *
        refine hK _ _ (fun _ => ⟨hcl, hcl3⟩) ?_; clear hK K
        refine wpMix_loud rfl rfl (fun n3 K hK => ?_)
        go_wp2_with fail
        have hp3 := Lib.hid (cl_fres .mul p2 p1 (wr.drewN (1 + n1 + d1 + n2 + d2 + n3)))
        have hlp3 := Lib.hid (fres_lt .mul p2 p1 (wr.drewN (1 + n1 + d1 + n2 + d2 + n3)))
        generalize fres BinOp.mul p2 p1 (wr.drewN (1 + n1 + d1 + n2 + d2 + n3)) = p3 at *
        generalize fdr BinOp.mul p2 p1 = d3 at *
        refine hK _ _ (fun _ => ⟨hcl, hcl3⟩) ?_; clear hK K
        have hp4 : Hid (cl p3 = pPr (cl a) (cl b) (cl xv) (cl yv)) := Lib.hid (by rw [hp3.out, hp1.out, hp2.out]; rfl)
        ((first | refine wpMix_pure rfl rfl (fun K hK => ?_) | refine wpMix_loc rfl rfl (fun K hK => ?_) | refine wpMix_any rfl rfl (fun K hK => ?_)); go_simp; refine hK _ _ ?_; clear hK K)
        refine wpMix_loud rfl rfl (fun n4 K hK => ?_)
        have hfz4 : (wr.drewN (1 + n1 + d1 + n2 + d2 + n3 + d3 + n4)).frozen? ⟨w.heap.size, j, none⟩ = false := hfz
        have hcc4 : (wr.drewN (1 + n1 + d1 + n2 + d2 + n3 + d3 + n4)).cell? ⟨w.heap.size, j, none⟩ = some (.float .f64 o[j]) := hcc
        have HV4 : Hid (Fl (wr.drewN (1 + n1 + d1 + n2 + d2 + n3 + d3 + n4)) (.slice (some ⟨w.heap.size, 0, none⟩) x.length x.length) o) := Lib.hid (HV.out.drewN _)
        have HW4 := Lib.hid (below_drewNs HW.out (1 + n1 + d1 + n2 + d2 + n3 + d3 + n4))
        rw [show ∀ A B, (wr.drewN A).drewN B = wr.drewN (A + B) from fun A B => drewN_drewN wr A B]
        generalize wr.drewN (1 + n1 + d1 + n2 + d2 + n3 + d3 + n4) = wz at *
        go_wp2_with fail
        refine hK _ _ (fun h => (Bool.false_ne_true ((Eq.symm (by kernel_rfl)).trans h)).elim) ?_; clear hK K
        refine wpMix_nil (fun n5 => ?_)
        have HV5 : Hid (Fl (wz.setCell ⟨w.heap.size, j, none⟩ (.float .f64 p3)) (.slice (some ⟨w.heap.size, 0, none⟩) x.length x.length) (o.set j p3)) := Lib.hid (by have := Sl.upd encFl_len HV4.out hjo (j := 0) (by decide) (.float .f64 p3) p3 rfl; rw [show 0 + (j * 1 + 0) = j by omega] at this; exact this)
        have HW5 : Hid (Below w.heap.size w (wz.setCell ⟨w.heap.size, j, none⟩ (.float .f64 p3))) := Lib.hid (HW4.out.setCell (Nat.le_refl _) _)
        generalize wz.setCell ⟨w.heap.size, j, none⟩ (.float .f64 p3) = wy at *
        go_wp2
        go_roundg g
        case measure => omega
        case rel =>
          refine ⟨j + 1, o.set j p3, ?_, by go_num, Lib.hid (by rw [List.length_set]; exact HO.out), Lib.hid (HV5.out.drewN _), Lib.hid ?_, Lib.hid fun z hz => ?_, Lib.hid (below_drewNs HW5.out _)⟩
          · have := HG.out; omega
          · rw [HN.out, ← HP.out, ← hp4.out, take_set_one hjo, List.map_append]; rfl
          · rcases List.mem_or_eq_of_mem_set hz with h | rfl
            · exact HB.out z h
            · exact hlp3.out
    · obtain rfl : j = x.length := by have := HG.out; omega
      have e1 := HP.out
      rw [List.take_of_length_le (by rw [HO.out]; omega), List.take_of_length_le (Nat.le_refl _), List.take_of_length_le (by rw [hxy.out]; omega)] at e1
      have HP2 := Lib.hid e1
      clear e1 hj
      go_wp2
      go_ret
      exact ⟨_, o, rfl, HV.out, HP2.out, HB.out, HW.out⟩
end Go.Proofs.Yteoebfjhadmnbaa
