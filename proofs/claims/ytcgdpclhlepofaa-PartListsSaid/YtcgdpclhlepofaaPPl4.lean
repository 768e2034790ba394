/- A region that draws its order, whose writing operations stand in one order with each other: one walk serves every order. -/
import Derived.Test.YtcgdpclhlepofaaRows
import Derived.WalkKit
import Derived.Deep.Quiet
import Derived.Deep.QuietTactic
import Derived.BigQuiet
import Derived.Deep.LoopGhost
import Derived.WalkMore
import Derived.IntWalk
import Derived.Test.YtcgdpclhlepofaaPPl1
namespace Go.Proofs.Ytcgdpclhlepofaa
section
variable {P : Program} {ops : Array Oper} {md : Region.Mode} {S : World → Prop} {Q : Exit → Act → World → Prop} {mk : Nat → Nat}

/-- Q, but never at a panic. -/
def noPan (Q : Exit → Act → World → Prop) : Exit → Act → World → Prop
  | .panic _, _, _ => False
  | e, a, w => Q e a w
theorem noPan.imp : ∀ (e : Exit) (a : Act) (w : World), noPan Q e a w → Q e a w := fun e a w h => by
  cases e <;> first | exact h | exact (h : False).elim
theorem noPan.lets (h : LetsOut (noPan Q)) : LetsOut Q := let ⟨a, w, h⟩ := h; ⟨a, w, h⟩

/-- w, some draws later. -/
def Later (w : World) : World → Prop := fun w' => ∃ n, w' = w.drewN n

/-- Kind 0: one value in every world of S; kind 3: one value in every world; kind 1: one value in this world, however often was drawn. -/
def mixQ (P : Program) (S : World → Prop) (m : Nat) (o : Oper) (a : Act) (w : World) (v : Value) : Prop :=
  if m = 0 then ∀ w', S w' → o.quietAt P a (fun w'' => w'' = w') w' v else if m = 3 then ∀ w', o.quietAt P a (fun w'' => w'' = w') w' v else ∀ n, o.quietAt P a (Later w) (w.drewN n) v

/-- Kind 2: whatever it does. need: does an operation that asks for S, and may come up later, need S behind it? -/
def mixOp (P : Program) (ops : Array Oper) (S : World → Prop) (Q : Exit → Act → World → Prop) (m : Nat) (need : Prop) (o : Oper) (K : Act → World → Prop) (a : Act) (w : World) : Prop :=
  if Region.wanted o (yielded ops a.tmps) then
    if m = 2 then ∀ n, o.wp P a (w.drewN n) (fun a' w' => (need → S w') ∧ K a' w') (noPan Q) ∨ (o.asks P a (w.drewN n) ∧ LetsOut (noPan Q))
    else ∃ v, mixQ P S m o a w v ∧ K (a.put o.dst v) w
  else K (a.put o.dst undef) w

/-- j waits for i, at some remove. -/
inductive Waits (md : Region.Mode) (ops : Array Oper) (i : Nat) : Nat → Prop
  | one {j : Nat} {oj : Oper} {e : Edge} : ops[j]? = some oj → e ∈ oj.after → Region.binds md e = true → e.on = i → Waits md ops i j
  | more {j : Nat} {oj : Oper} {e : Edge} : ops[j]? = some oj → e ∈ oj.after → Region.binds md e = true → Waits md ops i e.on → Waits md ops i j

/-- An operation of kind 0 may come up behind j. -/
def needs (md : Region.Mode) (ops : Array Oper) (mk : Nat → Nat) (j : Nat) : Prop := ∃ i, i < ops.size ∧ i ≠ j ∧ mk i = 0 ∧ ¬ Waits md ops i j

def mixAt (P : Program) (md : Region.Mode) (ops : Array Oper) (S : World → Prop) (Q : Exit → Act → World → Prop) (mk : Nat → Nat) (i : Nat) (K : Act → World → Prop) (a : Act) (w : World) : Prop :=
  match ops[i]? with
  | none => K a w
  | some o => mixOp P ops S Q (mk i) (needs md ops mk i) o K a w

theorem mixOp_mono {m : Nat} {need : Prop} {o : Oper} {a : Act} {w : World} {K K' : Act → World → Prop} (h1 : ∀ a w', (need → S w') → K a w' → K' a w') (h2 : ∀ a, K a w → K' a w) (hh : mixOp P ops S Q m need o K a w) : mixOp P ops S Q m need o K' a w := by
  unfold mixOp at *
  split
  · rename_i hw
    rw [if_pos hw] at hh
    split
    · rename_i hm
      rw [if_pos hm] at hh
      exact fun n => (hh n).imp (Oper.wp_mono fun a w ⟨g1, g2⟩ => ⟨g1, h1 a w g1 g2⟩) id
    · rename_i hm
      rw [if_neg hm] at hh
      obtain ⟨v, g1, g2⟩ := hh
      exact ⟨v, g1, h2 _ g2⟩
  · rename_i hw
    rw [if_neg hw] at hh
    exact h2 _ hh

theorem mixAt_mono {i : Nat} {a : Act} {w : World} {K K' : Act → World → Prop} (h1 : ∀ a w', (needs md ops mk i → S w') → K a w' → K' a w') (h2 : ∀ a, K a w → K' a w) (hh : mixAt P md ops S Q mk i K a w) : mixAt P md ops S Q mk i K' a w := by
  unfold mixAt at *
  split
  · exact h2 _ (by simpa [*] using hh)
  · rename_i o ho
    simp only [ho] at hh
    exact mixOp_mono h1 h2 hh

/-- Whatever order is picked from here on. -/
def mixAny (P : Program) (md : Region.Mode) (ops : Array Oper) (S : World → Prop) (Q : Exit → Act → World → Prop) (mk : Nat → Nat) : Nat → Array Bool → Act → World → Prop
  | 0, listed, a, w => Region.ready md ops listed = [] ∧ ∀ n, Q .normal a (w.drewN n)
  | fuel + 1, listed, a, w =>
    (Region.ready md ops listed = [] → ∀ n, Q .normal a (w.drewN n)) ∧
    ∀ i ∈ Region.ready md ops listed, mixAt P md ops S Q mk i (mixAny P md ops S Q mk fuel (listed.setIfInBounds i true)) a w

/-- There is an operation of kind 0 still to come. -/
def pends (ops : Array Oper) (mk : Nat → Nat) (listed : Array Bool) : Prop := ∃ i, i < ops.size ∧ mk i = 0 ∧ listed.getD i true = false
theorem pends.of_set {j : Nat} {listed : Array Bool} (h : pends ops mk (listed.setIfInBounds j true)) : pends ops mk listed := by
  obtain ⟨i, h1, h2, h3⟩ := h
  refine ⟨i, h1, h2, ?_⟩
  by_cases hij : j = i
  · subst hij
    rcases Nat.lt_or_ge j listed.size with h' | h'
    · simp [h'] at h3
    · simp at h3
  · rw [getD_set_ne true hij] at h3; exact h3
theorem getD_falses {listed : Array Bool} {i : Nat} (h : listed.getD i true = false) : listed.getD i false = false := by
  rcases Nat.lt_or_ge i listed.size with h' | h'
  · simp [h'] at h ⊢; exact h
  · simp [Array.getElem?_eq_none h'] at h

def Closed (md : Region.Mode) (ops : Array Oper) (listed : Array Bool) : Prop := ∀ j oj, ops[j]? = some oj → listed.getD j false = true → ∀ e ∈ oj.after, Region.binds md e = true → listed.getD e.on false = true

theorem Closed.set {i : Nat} {listed : Array Bool} (inv : Closed md ops listed) (hi : i ∈ Region.ready md ops listed) : Closed md ops (listed.setIfInBounds i true) := by
  obtain ⟨_, oi, hoi, hall⟩ := mem_ready.1 hi
  intro j oj hj hl e he hb
  by_cases hij : i = j
  · subst hij
    have : oj = oi := Option.some.inj (hj.symm.trans hoi)
    subst this
    exact getD_set_true (hall e he hb)
  · rw [getD_set_ne false hij] at hl
    exact getD_set_true (inv j oj hj hl e he hb)

theorem Waits.listed {i j : Nat} {listed : Array Bool} (inv : Closed md ops listed) (h : Waits md ops i j) : (∀ oj, ops[j]? = some oj → ∀ e ∈ oj.after, Region.binds md e = true → listed.getD e.on false = true) → listed.getD i false = true := by
  induction h with
  | one hj he hb hon => intro h; rw [← hon]; exact h _ hj _ he hb
  | more hj he hb _ ih =>
    intro h
    have h1 := h _ hj _ he hb
    exact ih fun ok hk => inv _ ok hk h1

theorem needs_of {j : Nat} {listed : Array Bool} (hcl : Closed md ops listed) (hj : j ∈ Region.ready md ops listed) (h : pends ops mk (listed.setIfInBounds j true)) : needs md ops mk j := by
  obtain ⟨i, h1, h2, h3⟩ := h
  have hij : i ≠ j := by
    rintro rfl
    have h0 := (mem_ready.1 hj).1
    rcases Nat.lt_or_ge i listed.size with h' | h'
    · simp [h'] at h3
    · simp [Array.getElem?_eq_none h'] at h0
  rw [getD_set_ne true (Ne.symm hij)] at h3
  refine ⟨i, h1, hij, h2, fun hw => ?_⟩
  obtain ⟨_, oj, hoj, hall⟩ := mem_ready.1 hj
  have := hw.listed hcl (fun ok hk => by
    have : ok = oj := Option.some.inj (hk.symm.trans hoj)
    subst this
    exact hall)
  rw [getD_falses h3] at this
  cases this

theorem mixOp_sound {m i : Nat} {need : Prop} {o : Oper} {a : Act} {w : World} {K K' : Act → World → Prop} (hi : ops[i]? = some o) (hS : ∀ w n, S w → S (w.drewN n)) (hs : m = 0 → S w)
    (h1 : ∀ a w', (need → S w') → K a w' → ∀ n, K' a (w'.drewN n)) (h2 : ∀ a, K a w → ∀ n, K' a (w.drewN n)) (hh : mixOp P ops S Q m need o K a w) (n : Nat) : wpOp P ops Q i K' a (w.drewN n) := by
  unfold wpOp mixOp at *
  simp only [hi]
  split
  · rename_i hw
    rw [if_pos hw] at hh
    split at hh
    · rcases hh n with g1 | g1
      · left
        have g2 := Oper.wp_mono (K' := K') (fun a w ⟨g1, g2⟩ => h1 a w g1 g2 0) g1
        unfold Oper.wp at *
        generalize (execOp a.eval o).run P (w.drewN n) = r at *
        cases r with
        | ok x w' =>
          cases x <;> simp only [Oper.upon] at g2 ⊢ <;> try exact g2
          case enter f args =>
            refine Calls.mono g2 fun e w'' he => ?_
            cases e with
            | returned u => exact he
            | panicked c => exact (he : False).elim
            | outgrown => exact noPan.lets he
        | halt x w' =>
          cases x <;> simp only [Oper.upon] at g2 ⊢ <;> first | exact (g2 : False).elim | exact g2
      · exact .inr ⟨g1.1, noPan.lets g1.2⟩
    · left
      obtain ⟨v, g1, g2⟩ := hh
      unfold mixQ at g1
      have key : ∃ C : World → Prop, (∀ w', C w' → ∃ k, w' = w.drewN k) ∧ o.quietAt P a C (w.drewN n) v := by
        split at g1
        · rename_i hm0
          exact ⟨_, fun w' e => ⟨n, e⟩, g1 _ (hS _ n (hs hm0))⟩
        · split at g1
          · exact ⟨_, fun w' e => ⟨n, e⟩, g1 _⟩
          · exact ⟨_, fun w' e => e, g1 n⟩
      obtain ⟨C, hC, h3⟩ := key
      unfold Oper.quietAt at h3
      unfold Oper.wp
      generalize (execOp a.eval o).run P (w.drewN n) = r at *
      cases r with
      | ok x w' =>
        cases x <;> simp only [Oper.quietUpon] at h3 <;> simp only [Oper.upon]
        case value u =>
          obtain ⟨rfl, rfl⟩ := h3
          exact h2 _ g2 n
        case skip =>
          obtain ⟨rfl, rfl⟩ := h3
          exact h2 _ g2 n
        case enter f args =>
          obtain ⟨rfl, hc⟩ := h3
          refine hc.mono fun e w'' ⟨he, hw''⟩ => ?_
          subst he
          obtain ⟨k, rfl⟩ := hC _ hw''
          exact h2 _ g2 k
      | halt x w' => simp only [Oper.quietUpon] at h3
  · rename_i hw
    rw [if_neg hw] at hh
    exact h2 _ hh n

theorem mixAny_sound (hS : ∀ w n, S w → S (w.drewN n)) : ∀ (fuel : Nat) (listed : Array Bool) (a : Act) (w : World), Closed md ops listed → (pends ops mk listed → S w) → mixAny P md ops S Q mk fuel listed a w → ∀ n, wpAny P md ops Q fuel listed a (w.drewN n)
  | 0, _, _, _, _, _, h, n => ⟨h.1, h.2 n⟩
  | fuel + 1, listed, a, w, hcl, hs, h, n => ⟨fun h0 => h.1 h0 n, fun i hi => by
      obtain ⟨hun, o, ho, _⟩ := mem_ready.1 hi
      have g1 := h.2 i hi
      unfold mixAt at g1
      simp only [ho] at g1
      exact mixOp_sound ho hS (fun hm => hs ⟨i, (Array.getElem?_eq_some_iff.1 ho).1, hm, hun⟩) (fun a w' hs' h => mixAny_sound hS fuel _ a w' (hcl.set hi) (fun hp => hs' (needs_of hcl hi hp)) h)
        (fun a h => mixAny_sound hS fuel _ a w (hcl.set hi) (fun hp => hs hp.of_set) h) g1 n⟩

def MixYields (P : Program) (ops : Array Oper) (S : World → Prop) (m : Nat) (o : Oper) (v : Value) (a : Act) (w : World) : Prop :=
  (Region.wanted o (yielded ops a.tmps) = true ∧ mixQ P S m o a w v) ∨ (Region.wanted o (yielded ops a.tmps) = false ∧ v = undef)

theorem MixYields.of_same {m : Nat} {o : Oper} {v : Value} {a a' : Act} {w w' : World} (hy : MixYields P ops S m o v a w) (he : execOp a'.eval o = execOp a.eval o)
    (hw : Region.wanted o (yielded ops a'.tmps) = Region.wanted o (yielded ops a.tmps)) (hww : (m = 0 ∨ m = 3) ∨ w = w') : MixYields P ops S m o v a' w' := by
  unfold MixYields mixQ Oper.quietAt at *
  rw [he, hw]
  rcases hww with (rfl | rfl) | rfl
  · simpa using hy
  · simpa using hy
  · exact hy

theorem MixYields.run_ {m i : Nat} {o : Oper} {v : Value} {a : Act} {w : World} (hi : ops[i]? = some o) (hm : mk i = m) (hm2 : m ≠ 2) (hy : MixYields P ops S m o v a w) {K : Act → World → Prop} (h : K (a.put o.dst v) w) : mixAt P md ops S Q mk i K a w := by
  unfold mixAt mixOp
  simp only [hi, hm, if_neg hm2]
  rcases hy with ⟨hw, hv⟩ | ⟨hw, rfl⟩
  · rw [if_pos hw]; exact ⟨v, hv, h⟩
  · rw [if_neg (by simp [hw])]; exact h

theorem mixYields_of {m : Nat} {o : Oper} {a : Act} {w : World} {K : Act → World → Prop} {need : Prop} (hm2 : m ≠ 2) (h : mixOp P ops S Q m need o K a w) : ∃ v, MixYields P ops S m o v a w ∧ K (a.put o.dst v) w := by
  unfold mixOp at h
  rw [if_neg hm2] at h
  by_cases hw : Region.wanted o (yielded ops a.tmps) = true
  · rw [if_pos hw] at h
    obtain ⟨v, h1, h2⟩ := h
    exact ⟨v, .inl ⟨hw, h1⟩, h2⟩
  · rw [if_neg hw] at h
    exact ⟨undef, .inr ⟨by simpa using hw, rfl⟩, h⟩

theorem mixAt_put {j mi : Nat} {oi oj : Oper} {v : Value} (hj : ops[j]? = some oj) (hap : oi.apart ops oj = true)
    (hsi : ∀ cs b, oi.op ≠ .select cs b) (hsj : ∀ cs b, oj.op ≠ .select cs b) (hl : mk j = 2 → mi = 0 ∨ mi = 3) {K : Act → World → Prop} {a : Act} {w : World}
    (hy : MixYields P ops S mi oi v a w) (h : mixAt P md ops S Q mk j K (a.put oi.dst v) w) :
    mixAt P md ops S Q mk j (fun a' w' => MixYields P ops S mi oi v a' w' ∧ K (a'.put oi.dst v) w') a w := by
  obtain ⟨h1, h2, h3⟩ := Oper.apart_spec hap
  have keep : ∀ (w w' : World), ((mi = 0 ∨ mi = 3) ∨ w = w') → ∀ (a : Act), MixYields P ops S mi oi v a w → ∀ u, MixYields P ops S mi oi v (a.put oj.dst u) w' := fun w w' hww a hy u =>
    hy.of_same (execOp_put oi hsi a oj.dst u h3) (wanted_put oi a oj.dst u h3) hww
  have keepD : ∀ d, MixYields P ops S mi oi v { a with defers := d :: a.defers } w := fun d => hy.of_same rfl rfl (.inr rfl)
  unfold mixAt mixOp at *
  simp only [hj] at *
  rw [wanted_put oj a oi.dst v h1] at h
  split
  · rename_i hw
    rw [if_pos hw] at h
    split
    · rename_i hm
      rw [if_pos hm] at h
      intro n
      rcases h n with h | ⟨hasks, hlets⟩
      case inr => exact .inr ⟨by unfold Oper.asks at *; rw [execOp_put oj hsj a oi.dst v h1] at hasks; exact hasks, hlets⟩
      refine .inl ?_
      unfold Oper.wp at *
      rw [execOp_put oj hsj a oi.dst v h1] at h
      generalize (execOp a.eval oj).run P (w.drewN n) = r at *
      cases r with
      | ok n w' =>
        cases n <;> simp only [Oper.upon] at h ⊢
        case value u => exact ⟨h.1, keep _ _ (.inl (hl hm)) a hy u, by rw [← Act.put_comm a v u h2]; exact h.2⟩
        case skip => exact ⟨h.1, keep _ _ (.inl (hl hm)) a hy _, by rw [← Act.put_comm a v undef h2]; exact h.2⟩
        case defer d =>
          refine ⟨h.1, keep _ _ (.inl (hl hm)) _ (keepD d) _, ?_⟩
          rw [← Act.put_comm _ v undef h2, ← Act.put_defers]
          exact h.2
        case enter f args =>
          refine Calls.mono h fun e w'' he => ?_
          cases e with
          | returned u => exact ⟨he.1, keep _ _ (.inl (hl hm)) a hy u, by rw [← Act.put_comm a v u h2]; exact he.2⟩
          | panicked c => exact he
          | outgrown => exact he
        case row row args => exact Rows.mono h fun u w'' he => ⟨he.1, keep _ _ (.inl (hl hm)) a hy u, by rw [← Act.put_comm a v u h2]; exact he.2⟩
      | halt x w' =>
        cases x <;> simp only [Oper.upon] at h ⊢
        case panic u => exact h
    · rename_i hm
      rw [if_neg hm] at h
      obtain ⟨u, hu, hn⟩ := h
      refine ⟨u, ?_, keep _ _ (.inr rfl) a hy u, by rw [← Act.put_comm a v u h2]; exact hn⟩
      unfold mixQ Oper.quietAt at *
      rw [execOp_put oj hsj a oi.dst v h1] at hu
      exact hu
  · rename_i hw
    rw [if_neg hw] at h
    exact ⟨keep _ _ (.inr rfl) a hy _, by rw [← Act.put_comm a v undef h2]; exact h⟩

theorem mixAny_first {i mi : Nat} {oi : Oper} {v : Value} (hi : ops[i]? = some oi) (hmi : mk i = mi) (hm2 : mi ≠ 2) (hsel : ∀ (j : Nat) (o : Oper) cs b, ops[j]? = some o → o.op ≠ .select cs b) :
    ∀ (fuel : Nat) (listed : Array Bool) (a : Act) (w : World), Closed md ops listed →
      (mi ≠ 0 → mi ≠ 3 → ∀ j, j < ops.size → mk j = 2 → listed.getD j true = false → Waits md ops i j) →
      (∀ j oj, ops[j]? = some oj → j ≠ i → listed.getD j true = false → (∀ e ∈ oj.after, Region.binds md e = true → e.on ≠ i) → oi.apart ops oj = true) →
      i ∈ Region.ready md ops listed → MixYields P ops S mi oi v a w →
      mixAny P md ops S Q mk fuel (listed.setIfInBounds i true) (a.put oi.dst v) w → mixAny P md ops S Q mk (fuel + 1) listed a w := by
  intro fuel
  induction fuel with
  | zero =>
    intro listed a w _ _ _ hr hy H
    refine ⟨fun h => (by rw [h] at hr; cases hr), fun j hj => ?_⟩
    by_cases hji : j = i
    · subst hji; exact hy.run_ hi hmi hm2 H
    · have := ready_mono hj hji
      rw [H.1] at this
      cases this
  | succ fuel ih =>
    intro listed a w hcl hwt hfree hr hy H
    refine ⟨fun h => (by rw [h] at hr; cases hr), fun j hj => ?_⟩
    by_cases hji : j = i
    · subst hji; exact hy.run_ hi hmi hm2 H
    · have h1 := H.2 j (ready_mono hj hji)
      obtain ⟨hjun, oj, hoj, hall⟩ := mem_ready.1 hj
      have h0 := (mem_ready.1 hr).1
      have hnot : ∀ e ∈ oj.after, Region.binds md e = true → e.on ≠ i := fun e he hb heq => by
        have h1 := hall e he hb
        rw [heq, getD_falses h0] at h1
        cases h1
      have hl : mk j = 2 → mi = 0 ∨ mi = 3 := fun hm => by
        by_cases m0 : mi = 0
        · exact .inl m0
        · by_cases m3 : mi = 3
          · exact .inr m3
          · have hjs : j < ops.size := (Array.getElem?_eq_some_iff.1 hoj).1
            have := (hwt m0 m3 j hjs hm hjun).listed hcl (fun ok hk => by
              have : ok = oj := Option.some.inj (hk.symm.trans hoj)
              subst this
              exact hall)
            rw [getD_falses h0] at this
            cases this
      have h2 := mixAt_put hoj (hfree j oj hoj hji hjun hnot) (fun cs b => hsel i oi cs b hi) (fun cs b => hsel j oj cs b hoj) hl hy h1
      have hfree' : ∀ k ok, ops[k]? = some ok → k ≠ i → (listed.setIfInBounds j true).getD k true = false →
          (∀ e ∈ ok.after, Region.binds md e = true → e.on ≠ i) → oi.apart ops ok = true := fun k ok hk hki hun hno => by
        refine hfree k ok hk hki ?_ hno
        by_cases hjk : j = k
        · subst hjk; exact hjun
        · rw [getD_set_ne true hjk] at hun; exact hun
      have hwt' : mi ≠ 0 → mi ≠ 3 → ∀ k, k < ops.size → mk k = 2 → (listed.setIfInBounds j true).getD k true = false → Waits md ops i k := fun m0 m3 k hk hm hun => by
        refine hwt m0 m3 k hk hm ?_
        by_cases hjk : j = k
        · subst hjk; exact hjun
        · rw [getD_set_ne true hjk] at hun; exact hun
      have step : ∀ a' w', (MixYields P ops S mi oi v a' w' ∧ mixAny P md ops S Q mk fuel ((listed.setIfInBounds i true).setIfInBounds j true) (a'.put oi.dst v) w') → mixAny P md ops S Q mk (fuel + 1) (listed.setIfInBounds j true) a' w' := fun a' w' h3 => by
        refine ih (listed.setIfInBounds j true) a' w' (hcl.set hj) hwt' hfree' (ready_mono hr (Ne.symm hji)) h3.1 ?_
        rw [Array.setIfInBounds_comm _ _ hji]
        exact h3.2
      exact mixAt_mono (fun a' w' _ h3 => step a' w' h3) (fun a' h3 => step a' w h3) h2

/-- Those that wait for i. -/
def waitList (md : Region.Mode) (ops : Array Oper) (i : Nat) : Nat → List Nat
  | 0 => []
  | n + 1 => let acc := waitList md ops i n
    match ops[n]? with
    | some o => if o.after.any (fun e => Region.binds md e && (e.on == i || acc.contains e.on)) then n :: acc else acc
    | none => acc
theorem waitList_spec {i : Nat} : ∀ (n j : Nat), j ∈ waitList md ops i n → Waits md ops i j
  | 0, j, h => by cases h
  | n + 1, j, h => by
    rw [waitList] at h
    split at h
    · rename_i o ho
      split at h
      · rename_i hany
        rcases List.mem_cons.1 h with rfl | h
        · obtain ⟨e, he, hb⟩ := Array.any_eq_true'.1 hany
          simp only [Bool.and_eq_true, Bool.or_eq_true, beq_iff_eq, List.contains_iff_mem] at hb
          rcases hb.2 with h1 | h1
          · exact .one ho he hb.1 h1
          · exact .more ho he hb.1 (waitList_spec _ _ h1)
        · exact waitList_spec _ _ h
      · exact waitList_spec _ _ h
    · exact waitList_spec _ _ h

def loudsWait (md : Region.Mode) (ops : Array Oper) (mk : Nat → Nat) (i : Nat) (listed : Array Bool) : Bool :=
  let l := waitList md ops i ops.size
  (List.range ops.size).all fun j => mk j != 2 || listed.getD j true || l.contains j
theorem loudsWait_spec {i : Nat} {listed : Array Bool} (h : loudsWait md ops mk i listed = true) (j : Nat) (hj : j < ops.size) (hm : mk j = 2) (hun : listed.getD j true = false) : Waits md ops i j := by
  unfold loudsWait at h
  have h1 := List.all_eq_true.1 h j (List.mem_range.2 hj)
  simp only [hm, hun, bne_self_eq_false, Bool.false_or, List.contains_iff_mem] at h1
  exact waitList_spec _ _ h1

def mixOrd (md : Region.Mode) (ops : Array Oper) (mk : Nat → Nat) : List Nat → Array Bool → Bool
  | [], listed => (Region.ready md ops listed).isEmpty
  | i :: rest, listed => (if mk i = 2 then decide (Region.ready md ops listed = [i]) else (Region.ready md ops listed).contains i && Region.free md ops listed i && (mk i == 0 || mk i == 3 || loudsWait md ops mk i listed)) && mixOrd md ops mk rest (listed.setIfInBounds i true)

/-- The one walk, in the order that is given. -/
def wpMix (P : Program) (ops : Array Oper) (S : World → Prop) (Q : Exit → Act → World → Prop) (mk : Nat → Nat) : List Nat → Act → World → Prop
  | [], a, w => ∀ n, Q .normal a (w.drewN n)
  | i :: rest, a, w => mixAt P .any ops S Q mk i (wpMix P ops S Q mk rest) a w

theorem mixAny_of_mix (hsel : Region.noSelect ops = true) : ∀ (ord : List Nat) (listed : Array Bool) (a : Act) (w : World), Closed .any ops listed → mixOrd .any ops mk ord listed = true →
    wpMix P ops S Q mk ord a w → mixAny P .any ops S Q mk ord.length listed a w
  | [], listed, a, w, _, hB, h => ⟨by simpa [mixOrd] using hB, h⟩
  | i :: rest, listed, a, w, hcl, hB, h => by
    rw [mixOrd, Bool.and_eq_true] at hB
    obtain ⟨hB1, hB2⟩ := hB
    unfold wpMix at h
    by_cases hm : mk i = 2
    · rw [if_pos hm] at hB1
      have hr : Region.ready .any ops listed = [i] := of_decide_eq_true hB1
      refine ⟨fun h0 => (by rw [h0] at hr; cases hr), fun j hj => ?_⟩
      rw [hr] at hj
      obtain rfl : j = i := by simpa using hj
      have hcl' := hcl.set (i := j) (by rw [hr]; simp)
      exact mixAt_mono (fun a' w' _ h' => mixAny_of_mix hsel rest _ a' w' hcl' hB2 h') (fun a' h' => mixAny_of_mix hsel rest _ a' w hcl' hB2 h') h
    · rw [if_neg hm] at hB1
      simp only [Bool.and_eq_true, Bool.or_eq_true, beq_iff_eq] at hB1
      obtain ⟨⟨hr, hf⟩, hl⟩ := hB1
      have hr' : i ∈ Region.ready .any ops listed := by simpa using hr
      obtain ⟨_, oi, hoi, _⟩ := mem_ready.1 hr'
      unfold mixAt at h
      simp only [hoi] at h
      obtain ⟨v, hy, hK⟩ := mixYields_of hm h
      exact mixAny_first hoi rfl hm (Region.noSelect_spec hsel) rest.length listed a w hcl (fun h0 h3 j hj hj2 hun => loudsWait_spec (hl.resolve_left (fun h => h.elim h0 h3)) j hj hj2 hun) (Region.free_spec hoi hf) hr' hy
        (mixAny_of_mix hsel rest _ _ w (hcl.set hr') hB2 hK)

/-- What 'needs' says, reckoned. -/
def needB (ops : Array Oper) (mk : Nat → Nat) (j : Nat) : Bool := (List.range ops.size).any fun i => i != j && mk i == 0 && !(waitList .any ops i ops.size).contains j
theorem needB_of {j : Nat} (h : needs .any ops mk j) : needB ops mk j = true := by
  obtain ⟨i, h1, h2, h3, h4⟩ := h
  refine List.any_eq_true.2 ⟨i, List.mem_range.2 h1, ?_⟩
  simp only [Bool.and_eq_true, bne_iff_ne, ne_eq, beq_iff_eq, Bool.not_eq_true', List.contains_eq_mem, decide_eq_false_iff_not]
  exact ⟨⟨h2, h3⟩, fun hm => h4 (waitList_spec _ _ hm)⟩

def mixB (md : Region.Mode) (ops : Array Oper) (ms ord : List Nat) : Bool :=
  Region.noSelect ops && decide (ord.length = ops.size) && mixOrd md ops (fun i => ms.getD i 2) ord (Array.replicate ops.size false)

theorem wp_region_mix {id : Nat} {a : Act} {w : World} {l : List Oper} (S : World → Prop) (ms ord : List Nat) (hm : P.follows .mixedOrders = true) (hB : mixB .any l.toArray ms ord = true) (hS : ∀ w n, S w → S (w.drewN n)) (hs : S w.drew)
    (h : wpMix P l.toArray S Q (fun i => ms.getD i 2) ord a w.drew) : (Code.region id l.toArray true).wp P Q a w := by
  simp only [mixB, Bool.and_eq_true, decide_eq_true_eq] at hB
  obtain ⟨⟨hsel, hlen⟩, hord⟩ := hB
  refine wp_region_any hm ?_
  have hcl : Closed .any l.toArray (Array.replicate l.toArray.size false) := fun j oj _ hl => by
    rcases Nat.lt_or_ge j l.toArray.size with h | h
    · simp at h hl; simp [h] at hl
    · simp at h hl; simp [h] at hl
  have := mixAny_sound hS _ _ _ _ hcl (fun _ => hs) (mixAny_of_mix hsel ord _ a w.drew hcl hord h) 0
  rw [hlen] at this
  exact this

theorem wpMix_nil {a : Act} {w : World} (h : ∀ n, Q .normal a (w.drewN n)) : wpMix P ops S Q mk [] a w := h
theorem wpMix_any {i : Nat} {rest : List Nat} {a : Act} {w : World} {o : Oper} (ho : ops[i]? = some o) (hm : mk i = 0)
    (h : ∀ K : Act → World → Prop, (∀ a w, wpMix P ops S Q mk rest a w → K a w) → if Region.wanted o (yielded ops a.tmps) then ∃ v, (∀ w', S w' → o.quietAt P a (fun w'' => w'' = w') w' v) ∧ K (a.put o.dst v) w else K (a.put o.dst undef) w) : wpMix P ops S Q mk (i :: rest) a w := by
  unfold wpMix mixAt mixOp mixQ
  simp only [ho, hm]
  exact h _ fun _ _ h => h
theorem wpMix_pure {i : Nat} {rest : List Nat} {a : Act} {w : World} {o : Oper} (ho : ops[i]? = some o) (hm : mk i = 3)
    (h : ∀ K : Act → World → Prop, (∀ a w, wpMix P ops S Q mk rest a w → K a w) → if Region.wanted o (yielded ops a.tmps) then ∃ v, (∀ w', o.quietAt P a (fun w'' => w'' = w') w' v) ∧ K (a.put o.dst v) w else K (a.put o.dst undef) w) : wpMix P ops S Q mk (i :: rest) a w := by
  unfold wpMix mixAt mixOp mixQ
  simp only [ho, hm]
  exact h _ fun _ _ h => h
theorem wpMix_loc {i : Nat} {rest : List Nat} {a : Act} {w : World} {o : Oper} (ho : ops[i]? = some o) (hm : mk i = 1)
    (h : ∀ K : Act → World → Prop, (∀ a w, wpMix P ops S Q mk rest a w → K a w) → if Region.wanted o (yielded ops a.tmps) then ∃ v, (∀ n, o.quietAt P a (fun w' => ∃ n, w' = w.drewN n) (w.drewN n) v) ∧ K (a.put o.dst v) w else K (a.put o.dst undef) w) : wpMix P ops S Q mk (i :: rest) a w := by
  unfold wpMix mixAt mixOp mixQ
  simp only [ho, hm]
  exact h _ fun _ _ h => h
theorem wpMix_loud {i : Nat} {rest : List Nat} {a : Act} {w : World} {o : Oper} (ho : ops[i]? = some o) (hm : mk i = 2)
    (h : ∀ n (K : Act → World → Prop), (∀ a w, (needB ops mk i = true → S w) → wpMix P ops S Q mk rest a w → K a w) → wpList P ops (Exit.then K (noPan Q)) [o] a (w.drewN n)) : wpMix P ops S Q mk (i :: rest) a w := by
  unfold wpMix mixAt mixOp
  simp only [ho, hm, if_true]
  split
  · rename_i hw
    intro n
    have h1 := h n (fun a w => (needs .any ops mk i → S w) ∧ wpMix P ops S Q mk rest a w) (fun _ _ h1 h2 => ⟨fun hn => h1 (needB_of hn), h2⟩)
    unfold wpList at h1
    rw [if_pos hw] at h1
    rcases h1 with h1 | ⟨h1, a', w', h2⟩
    · refine .inl ?_
      have h1' := Oper.wp_mono (K' := fun a' w' => (needs .any ops mk i → S w') ∧ wpMix P ops S Q mk rest a' w') (fun a w h => h) h1
      unfold Oper.wp at *
      generalize (execOp a.eval o).run P (w.drewN n) = r at *
      cases r with
      | ok x w' =>
        cases x <;> simp only [Oper.upon] at h1' ⊢ <;> exact h1'
      | halt x w' =>
        cases x <;> simp only [Oper.upon] at h1' ⊢ <;> exact h1'
    · exact .inr ⟨h1, a', w', h2⟩
  · rename_i hw
    have h1 := h 0 (fun a w' => wpMix P ops S Q mk rest a w') (fun _ _ _ h2 => h2)
    unfold wpList at h1
    rw [if_neg hw] at h1
    exact h1
end
end Go.Proofs.Ytcgdpclhlepofaa
/- Lists of words that a call has made: kept, one word more; two lists compared. -/
namespace Go.Proofs.Ytcgdpclhlepofaa
open Go.RowKit
set_option maxHeartbeats 2000000
set_option linter.unusedVariables false

/-- the block of a slice -/
def own (v : Value) : Nat → Prop := fun k => v.ownBlock = some k
theorem own_len {A : Option Addr} {n c n' c' k : Nat} (h : own (.slice A n c) k) : own (.slice A n' c') k := by cases A <;> exact h
theorem u64_info : (Try.prog.info? 23).map (fun i => (i.zero, i.size, i.bytes)) = some (some (.int .u64 0), 1, 8) := by kernel_rfl
def u64s (l : List Int) : List Value := l.map (Value.int .u64)
theorem u64s_one (l : List Int) : ∀ u ∈ u64s l, u.oneCell' = true := by
  intro u hu
  obtain ⟨y, _, rfl⟩ := List.mem_map.1 hu
  rfl
/-- The slice v has the words l, in a block of its own. -/
def Wl (w : World) (v : Value) (l : List Int) : Prop := Rowv w 0 23 1 v l.length (u64s l)
section
variable {w w' : World} {v : Value} {l : List Int} {G G' : Nat → Prop}
theorem Wl.nil (w : World) : Wl w (.slice none 0 0) [] := Rowv.nil _ _ _ _
theorem Wl.shape (h : Wl w v l) : ∃ A cap, v = .slice A l.length cap ∧ l.length ≤ cap := by
  obtain ⟨A, cap, h1, h2, _⟩ := Rowv.shape h
  exact ⟨A, cap, h1, h2⟩
theorem Wl.lt (h : Wl w v l) : ∀ k, own v k → k < w.heap.size := fun k hk => (Rowv.lt h hk).2
theorem Wl.keep (h : Wl w v l) (hk : ∀ k, own v k → w'.heap[k]? = w.heap[k]?) : Wl w' v l := Rowv.keep h hk
theorem Wl.fr (h : Wl w v l) (hf : Fr G w G' w') (hG : ∀ k, own v k → ¬ G k) : Wl w' v l := h.keep fun k hk => hf.block k (h.lt k hk) (hG k hk)
theorem Wl.alloc (h : Wl w v l) (o : Obj) : Wl (w.alloc o) v l := Rowv.alloc h o
theorem Wl.drewN (h : Wl w v l) (n : Nat) : Wl (w.drewN n) v l := h
theorem Wl.set (h : Wl w v l) {p : Addr} (hp : ¬ own v p.block) (u : Value) : Wl (w.setCell p u) v l := Rowv.far h hp u
theorem Wl.new (w : World) (l : List Int) (hl : l.length ≤ 9223372036854775807) : Wl (w.alloc (.cells (u64s l).toArray 23)) (.slice (some ⟨w.heap.size, 0, none⟩) l.length l.length) l :=
  ⟨by simp [u64s], .inr ⟨w.heap.size, 0, l.length, _, rfl, Nat.zero_le _, heap_alloc_new w _, Nat.le_refl _, by unfold maxLen; omega, by simp [u64s], by
    simp only [List.drop_zero]
    exact List.take_of_length_le (by simp [u64s])⟩⟩
end

/-- One word more: 'append(out, x)'. -/
theorem wpList_word {ops : Array Oper} {rest : List Oper} {o : Oper} {a : Act} {Q : Exit → Act → World → Prop} (wr : World) (hgd : o.guard = none) (s x : Operand)
    (ho : o.op = .call { callee := .builtin .append, args := #[s, x], argTypes := #[32, 32] })
    (v : Value) (l : List Int) (y : Int) (hs : a.eval s = v) (hl : Wl wr v l)
    (hx : a.eval x = .slice (some ⟨wr.heap.size, 0, none⟩) 1 1) (hlen : (l.length + 1) * 8 ≤ 140737488355328)
    (h : ∀ A cap w', l.length + 1 ≤ cap → Wl w' (.slice A (l.length + 1) cap) (l ++ [y]) → Fr (own v) wr (own (.slice A (l.length + 1) cap)) w' → wpList Try.prog ops Q rest (a.put o.dst (.slice A (l.length + 1) cap)) w') :
    wpList Try.prog ops Q (o :: rest) a (wr.alloc (.cells #[.int .u64 y] 23)) := by
  obtain ⟨i0, hi, hz0, hz1, hz2⟩ := info_parts u64_info
  refine wpList_app _ hgd s x 32 ho 23 i0 (.int .u64 0) 1 8 Try.underlying32 hi hz0 hz1 hz2 rfl (by decide) 0 v l.length (u64s l) hs (Rowv.alloc hl _) _ 1 [.int .u64 y] hx
    (Src.lit wr (vs := [.int .u64 y]) rfl (by simp [Value.oneCell']) 1) (by unfold maxLen; omega) (by omega) (Nat.zero_le _) ?_
  intro v' w' hrow hgr hown
  obtain ⟨A, cap, rfl, hc, _⟩ := hrow.shape
  refine h A cap w' hc ?_ ?_
  · unfold Wl
    rw [show (l ++ [y]).length = l.length + 1 by simp, show u64s (l ++ [y]) = u64s l ++ [.int .u64 y] by simp [u64s]]
    exact hrow
  · refine ((((Fr.refl (own v) wr).alloc _).grown hgr (fun k hk => .inl hk))).into fun k hk => ?_
    rcases hown with e | ⟨k', e, hk'⟩
    · exact .inl (by unfold own at *; rw [← e]; exact hk)
    · unfold own at hk
      rw [hk] at e
      injection e with e
      subst e
      exact .inr (.inr (by simp at hk'; omega))

/-- 'make([]uint64, n)' -/
theorem wpList_zeros {ops : Array Oper} {rest : List Oper} {o : Oper} {a : Act} {Q : Exit → Act → World → Prop} (wr : World) (hgd : o.guard = none) (l c : Operand) (ho : o.op = Op.makeSlice 32 l c)
    (kl kc : IntKind) (L C : Int) (n : Nat) (hl : a.eval l = .int kl L) (hc : a.eval c = .int kc C) (hL : L = (n : Int)) (hC : C = (n : Int)) (hn : n ≤ 1099511627776)
    (h : ∀ w', Wl w' (.slice (some ⟨wr.heap.size, 0, none⟩) n n) (List.replicate n 0) → Below wr.heap.size wr w' → wpList Try.prog ops Q rest (a.put o.dst (.slice (some ⟨wr.heap.size, 0, none⟩) n n)) w') :
    wpList Try.prog ops Q (o :: rest) a wr := by
  obtain ⟨i0, hi, hz0, hz1, hz2⟩ := info_parts u64_info
  refine wpList_make_full wr hgd l c 32 ho wr.heap.size 23 i0 (.int .u64 0) 1 Try.underlying32 hi hz0 hz1 kl kc L C n hl hc hL hC (by rw [hz2]; omega) (by unfold maxLen; omega) (Nat.le_refl _) ?_
  intro w' hr hg
  refine h w' ?_ ((Below.refl wr.heap.size wr).grown hg (Nat.le_refl _) (by intro k hk; cases hk))
  have e : (madeCells (Value.cells (.int .u64 0)) (n * 1)).toList = u64s (List.replicate n (0 : Int)) := by
    unfold u64s
    simp only [Value.cells, Nat.mul_one]
    apply List.ext_getElem
    · simp [size_madeCells]
    · intro i h1 h2
      simp [madeCells, Nat.mod_one]
  rw [e] at hr
  have hr' := Rowv.of_own hr
  unfold Wl
  simpa using hr'.base (B' := 0) (fun _ _ => Nat.zero_le _)
/-- the block of a list that begins at its block's head -/
theorem Wl.blk {w : World} {g cp : Nat} {l : List Int} (h : Wl w (.slice (some ⟨g, 0, none⟩) l.length cp) l) : ∃ cur, Blk w g 23 cur ∧ ∀ i, i < l.length → cur[i]? = some (.int .u64 (l.getD i 0)) := by
  obtain ⟨h0, h⟩ := h
  rcases h with ⟨h1, _⟩ | ⟨g', off, cap, cur, h1, h2, h3, h4, _, _, h7⟩
  · cases h1
  · injection h1 with h1a h1b h1c
    simp only [Option.some.injEq, Addr.mk.injEq, and_true] at h1a
    obtain ⟨rfl, rfl⟩ := h1a
    refine ⟨cur, h3, fun i hi => ?_⟩
    have e : ((cur.toList.drop 0).take (l.length * 1))[i]? = (u64s l)[i]? := by rw [h7]
    rw [List.drop_zero, List.getElem?_take, if_pos (by omega), Array.getElem?_toList] at e
    rw [e]
    unfold u64s
    rw [List.getElem?_map, List.getElem?_eq_getElem hi, List.getD_eq_getElem?_getD, List.getElem?_eq_getElem hi]
    rfl

/-- The slice v reads as the words l. -/
def Lies (w : World) (v : Value) (l : List Int) : Prop := ∃ A cp, v = .slice A l.length cp ∧ l.length ≤ cp ∧ (A = none → cp = 0) ∧ ∀ j, j < l.length → ∃ g o, A = some ⟨g, o, none⟩ ∧ w.cell? ⟨g, o + j, none⟩ = some (.int .u64 (l.getD j 0))
theorem Lies.drewN {w : World} {v : Value} {l : List Int} (h : Lies w v l) (n : Nat) : Lies (w.drewN n) v l := h
theorem Lies.alloc {w : World} {v : Value} {l : List Int} (h : Lies w v l) (o : Obj) : Lies (w.alloc o) v l := by
  obtain ⟨A, cp, rfl, hc, h0, h⟩ := h
  refine ⟨A, cp, rfl, hc, h0, fun j hj => ?_⟩
  obtain ⟨g, of, rfl, hcell⟩ := h j hj
  exact ⟨g, of, rfl, cell_alloc_ hcell⟩
theorem Lies.new (w : World) (l : List Int) (hl : l.length ≤ 9223372036854775807) : Lies (w.alloc (.cells (u64s l).toArray 23)) (.slice (some ⟨w.heap.size, 0, none⟩) l.length l.length) l := by
  refine ⟨_, _, rfl, Nat.le_refl _, (fun h => nomatch h), fun j hj => ⟨_, 0, rfl, ?_⟩⟩
  rw [(Blk.new w _ _).cell, List.getElem?_toArray]
  unfold u64s
  rw [Nat.zero_add, List.getElem?_map, List.getElem?_eq_getElem hj, List.getD_eq_getElem?_getD, List.getElem?_eq_getElem hj]
  rfl
theorem Wl.lies {w : World} {v : Value} {l : List Int} (h : Wl w v l) : Lies w v l := by
  obtain ⟨A, cap, rfl, hc, h0⟩ := Rowv.shape h
  refine ⟨A, cap, rfl, hc, fun h => (h0 h).2, fun j hj => ?_⟩
  obtain ⟨g, off, cap', hv, _, _, _, hcell⟩ := Rowv.at_ h (by omega)
  injection hv with h1 _ _
  obtain ⟨k1, _⟩ := hcell j (by omega)
  refine ⟨g, off, h1, k1.trans ?_⟩
  simp [u64s, List.getD_eq_getElem?_getD, hj]

theorem words_b {va vb : Value} {l1 l2 : List Int} {w : World} (h1 : Lies w va l1) (h2 : Lies w vb l2) (hn : (l1.length : Int) ≤ 9223372036854775807) :
    Calls Try.prog 22 #[va, vb] w fun e w' => (∃ n, w' = w.drewN n) ∧ e = .returned (.bool (decide (l1 = l2))) := by
  obtain ⟨A1, c1, rfl, hc1, _, k1⟩ := h1
  obtain ⟨A2, c2, rfl, hc2, _, k2⟩ := h2
  by_cases hl : l1.length = l2.length
  · go_enter Try.func22, Try.ntmps22
    go_wp2
    go_loopg [5] l1.length (fun gk c5 wr => ∃ j nd : Nat, gk + j = l1.length ∧ c5 = .int .i64 (j : Int) ∧ wr = w.drewN nd ∧ ∀ i, i < j → l1.getD i 0 = l2.getD i 0)
    case atStart => exact ⟨0, 0, rfl, rfl, rfl, fun i hi => by omega⟩
    case round =>
      obtain ⟨j, nd, hj, rfl, rfl, hall⟩ := hrel
      rcases Nat.lt_or_ge j l1.length with hlt | hge
      · obtain ⟨g1, o1, rfl, d1⟩ := k1 j hlt
        obtain ⟨g2, o2, rfl, d2⟩ := k2 j (by omega)
        generalize hy1 : l1.getD j 0 = y1 at d1
        generalize hy2 : l2.getD j 0 = y2 at d2
        have b1 : (j : Int) < l1.length := by omega
        have b2 : (j : Int) < l2.length := by omega
        go_wp2
        go_quiet (fail)
        go_wp2
        · have hne : (y1 != y2) = true := by assumption
          go_ret
          refine ⟨⟨nd + nq, drewN_drewN _ _ _⟩, ?_⟩
          have e : decide (l1 = l2) = false := decide_eq_false fun h => by rw [h, hy2] at hy1; rw [hy1] at hne; simp at hne
          rw [e]; rfl
        · have heq : (y1 != y2) = false := by assumption
          have heq : y1 = y2 := by simpa using heq
          obtain ⟨k, rfl⟩ : ∃ k, gk = k + 1 := ⟨gk - 1, by omega⟩
          go_roundg k
          case measure => omega
          case rel => exact ⟨j + 1, nd + nq, by omega, by simp, rfl, fun i hi => by
            rcases Nat.lt_or_ge i j with h | h
            · exact hall i h
            · obtain rfl : i = j := by omega
              rw [hy1, hy2, heq]⟩
      · go_wp2
        go_ret
        refine ⟨⟨nd, rfl⟩, ?_⟩
        have : l1 = l2 := List.ext_getElem hl fun i h1 h2 => by
          have := hall i (by omega)
          rw [List.getD_eq_getElem?_getD, List.getElem?_eq_getElem h1, List.getD_eq_getElem?_getD, List.getElem?_eq_getElem h2] at this
          exact this
        rw [decide_eq_true this]; rfl
  · go_enter Try.func22, Try.ntmps22
    go_wp2
    go_ret
    have e : decide (l1 = l2) = false := decide_eq_false fun h => hl (by rw [h])
    exact ⟨⟨0, rfl⟩, by rw [e]; rfl⟩

theorem Lies.src {w : World} {v : Value} {l : List Int} (h : Lies w v l) : Src w v l.length 1 (u64s l) := by
  obtain ⟨A, cp, rfl, hc, h0, h⟩ := h
  cases A with
  | none =>
    obtain rfl := h0 rfl
    obtain rfl : l = [] := List.eq_nil_of_length_eq_zero (by omega)
    exact .inl ⟨rfl, rfl, rfl⟩
  | some ad =>
    refine .inr ⟨ad, cp, rfl, by simp [u64s], fun j u hj => ?_, u64s_one l⟩
    unfold u64s at hj
    rw [List.getElem?_map] at hj
    by_cases hjl : j < l.length
    · obtain ⟨g, o, e, hcell⟩ := h j hjl
      injection e with e
      subst e
      rw [Addr.add_lit, hcell]
      rw [List.getElem?_eq_getElem hjl] at hj
      injection hj with hj
      rw [← hj, List.getD_eq_getElem?_getD, List.getElem?_eq_getElem hjl]
      rfl
    · rw [List.getElem?_eq_none (by omega)] at hj; cases hj
/-- 'append(s, l...)', s the call's own. -/
theorem wpList_words {ops : Array Oper} {rest : List Oper} {o : Oper} {a : Act} {Q : Exit → Act → World → Prop} (wr : World) (hgd : o.guard = none) (s x : Operand)
    (ho : o.op = .call { callee := .builtin .append, args := #[s, x], argTypes := #[32, 32] })
    (v u : Value) (l m : List Int) (hs : a.eval s = v) (hl : Wl wr v l) (hx : a.eval x = u) (hm : Lies wr u m) (hlen : (l.length + m.length) * 8 ≤ 140737488355328)
    (h : ∀ A cap w', l.length + m.length ≤ cap → Wl w' (.slice A (l.length + m.length) cap) (l ++ m) → Fr (own v) wr (own (.slice A (l.length + m.length) cap)) w' → wpList Try.prog ops Q rest (a.put o.dst (.slice A (l.length + m.length) cap)) w') :
    wpList Try.prog ops Q (o :: rest) a wr := by
  obtain ⟨i0, hi, hz0, hz1, hz2⟩ := info_parts u64_info
  refine wpList_app _ hgd s x 32 ho 23 i0 (.int .u64 0) 1 8 Try.underlying32 hi hz0 hz1 hz2 rfl (by decide) 0 v l.length (u64s l) hs hl _ m.length (u64s m) hx hm.src (by unfold maxLen; omega) (by omega) (Nat.zero_le _) ?_
  intro v' w' hrow hgr hown
  obtain ⟨A, cap, rfl, hc, _⟩ := hrow.shape
  refine h A cap w' hc ?_ ?_
  · unfold Wl
    rw [show (l ++ m).length = l.length + m.length by simp, show u64s (l ++ m) = u64s l ++ u64s m by simp [u64s]]
    exact hrow
  · refine ((Fr.refl (own v) wr).grown hgr (fun k hk => .inl hk)).into fun k hk => ?_
    rcases hown with e | ⟨k', e, hk'⟩
    · exact .inl (by unfold own at *; rw [← e]; exact hk)
    · unfold own at hk
      rw [hk] at e
      injection e with e
      subst e
      exact .inr (.inr hk')
theorem Wl.cut {w : World} {A : Option Addr} {cap : Nat} {l m : List Int} (h : Wl w (.slice A (l.length + m.length) cap) (l ++ m)) (hc : l.length + m.length ≤ cap) : Wl w (.slice A l.length cap) l := by
  have h' : Rowv w 0 23 1 (.slice A (l.length + m.length) cap) (l.length + m.length) (u64s (l ++ m)) := by
    unfold Wl at h
    simpa using h
  have := h'.cut (m := l.length) (c := cap) (by omega) (by omega) (Nat.le_refl _)
  unfold Wl
  rw [show u64s l = (u64s (l ++ m)).take (l.length * 1) by simp [u64s]]
  exact this
theorem Lies.below {w w' : World} {v : Value} {l : List Int} (h : Lies w v l) (hb : Below w.heap.size w w') : Lies w' v l := by
  obtain ⟨A, cp, rfl, hc, h0, h⟩ := h
  refine ⟨A, cp, rfl, hc, h0, fun j hj => ?_⟩
  obtain ⟨g, of, rfl, hcell⟩ := h j hj
  have hlt : g < w.heap.size := Nat.lt_of_not_le fun hh => by
    unfold World.cell? at hcell
    rw [Array.getElem?_eq_none hh] at hcell
    cases hcell
  exact ⟨g, of, rfl, (hb.cell (p := ⟨g, of + j, none⟩) hlt).trans hcell⟩
theorem Wl.upd {w : World} {A : Option Addr} {cap : Nat} {l : List Int} (h : Wl w (.slice A l.length cap) l) {j : Nat} (hj : j < l.length) :
    ∃ g o, A = some ⟨g, o, none⟩ ∧ g < w.heap.size ∧ w.cell? ⟨g, o + j, none⟩ = some (.int .u64 (l.getD j 0)) ∧ w.frozen? ⟨g, o + j, none⟩ = false ∧
      ∀ x, Wl (w.setCell ⟨g, o + j, none⟩ (.int .u64 x)) (.slice A (l.set j x).length cap) (l.set j x) := by
  have hlt := h.lt
  obtain ⟨h0, h⟩ := h
  rcases h with ⟨h1, h2⟩ | ⟨g, off, cap', cur, h1, h2, h3, h4, h5, h6, h7⟩
  · omega
  · injection h1 with h1a h1b h1c
    subst h1a
    subst h1c
    have hc : w.cell? ⟨g, off + j, none⟩ = cur[off + j]? := by simp [World.cell?, h3]
    have e7 : ∀ i, i < l.length → cur[off + i]? = some (.int .u64 (l.getD i 0)) := fun i hi => by
      have e : ((cur.toList.drop off).take (l.length * 1))[i]? = (u64s l)[i]? := by rw [h7]
      rw [List.getElem?_take, if_pos (by omega), List.getElem?_drop, Array.getElem?_toList] at e
      rw [e]
      unfold u64s
      rw [List.getElem?_map, List.getElem?_eq_getElem hi, List.getD_eq_getElem?_getD, List.getElem?_eq_getElem hi]
      rfl
    refine ⟨g, off, rfl, hlt g rfl, hc.trans (e7 j hj), by simp [World.frozen?, h3], fun x => ⟨by simp [u64s], .inr ⟨g, off, cap, cur.setIfInBounds (off + j) (.int .u64 x), rfl, h2, ?_, by simpa using h4, h5, by simpa using h6, ?_⟩⟩⟩
    · exact (show Blk w g 23 cur from h3).set_ (off + j) (.int .u64 x)
    · apply List.ext_getElem?
      intro i
      rw [List.getElem?_take, List.getElem?_drop, Array.getElem?_toList]
      simp only [List.length_set, Nat.mul_one]
      by_cases hi : i < l.length
      · have hs : off + j < cur.size := by omega
        rw [if_pos hi, Array.getElem?_setIfInBounds]
        unfold u64s
        rw [List.map_set, List.getElem?_set]
        by_cases e : j = i
        · subst e
          simp [hs, hi]
        · rw [if_neg (by omega), if_neg e, e7 i hi, List.getElem?_map, List.getElem?_eq_getElem hi, List.getD_eq_getElem?_getD, List.getElem?_eq_getElem hi]
          rfl
      · rw [if_neg hi, List.getElem?_eq_none (by simp [u64s]; omega)]
end Go.Proofs.Ytcgdpclhlepofaa
