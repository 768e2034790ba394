/- A region that draws its order, two of whose writing operations may change places: a walk of what comes ahead, and two walks from there on. -/
import Derived.Test.YtcohopobjppmaaaMix
namespace Go.Proofs.Ytcohopobjppmaaa
section
variable {P : Program} {ops : Array Oper} {S : World → Prop} {Q : Exit → Act → World → Prop} {mk : Nat → Nat} {E : Act → World → Prop}

/-- The walk of a prefix; E: what must hold behind it. -/
def wpMixE (P : Program) (ops : Array Oper) (S : World → Prop) (Q : Exit → Act → World → Prop) (mk : Nat → Nat) (E : Act → World → Prop) : List Nat → Act → World → Prop
  | [], a, w => E a w
  | i :: rest, a, w => mixAt P .any ops S Q mk i (wpMixE P ops S Q mk E rest) a w
/-- The order of a prefix. -/
def mixOrdP (md : Region.Mode) (ops : Array Oper) (mk : Nat → Nat) : List Nat → Array Bool → Bool
  | [], _ => true
  | i :: rest, listed => (if mk i = 2 then decide (Region.ready md ops listed = [i]) else (Region.ready md ops listed).contains i && Region.free md ops listed i && (mk i == 0 || mk i == 3 || loudsWait md ops mk i listed)) && mixOrdP md ops mk rest (listed.setIfInBounds i true)
def listedBy : List Nat → Array Bool → Array Bool
  | [], l => l
  | i :: rest, l => listedBy rest (l.setIfInBounds i true)

theorem mixAny_of_mixE (hsel : Region.noSelect ops = true) (f : Nat) : ∀ (ord : List Nat) (listed : Array Bool) (a : Act) (w : World), Closed .any ops listed → mixOrdP .any ops mk ord listed = true →
    (∀ a w, Closed .any ops (listedBy ord listed) → E a w → mixAny P .any ops S Q mk f (listedBy ord listed) a w) → wpMixE P ops S Q mk E ord a w → mixAny P .any ops S Q mk (ord.length + f) listed a w
  | [], listed, a, w, hcl, _, hE, h => by
    have := hE a w hcl h
    rw [List.length_nil, Nat.zero_add]
    exact this
  | i :: rest, listed, a, w, hcl, hB, hE, h => by
    rw [mixOrdP, Bool.and_eq_true] at hB
    obtain ⟨hB1, hB2⟩ := hB
    unfold wpMixE at h
    have e : (i :: rest).length + f = (rest.length + f) + 1 := by simp; omega
    rw [e]
    by_cases hm : mk i = 2
    · rw [if_pos hm] at hB1
      have hr : Region.ready .any ops listed = [i] := of_decide_eq_true hB1
      refine ⟨fun h0 => (by rw [h0] at hr; cases hr), fun j hj => ?_⟩
      rw [hr] at hj
      obtain rfl : j = i := by simpa using hj
      have hcl' := hcl.set (i := j) (by rw [hr]; simp)
      exact mixAt_mono (fun a' w' _ h' => mixAny_of_mixE hsel f rest _ a' w' hcl' hB2 hE h') (fun a' h' => mixAny_of_mixE hsel f rest _ a' w hcl' hB2 hE h') h
    · rw [if_neg hm] at hB1
      simp only [Bool.and_eq_true, Bool.or_eq_true, beq_iff_eq] at hB1
      obtain ⟨⟨hr, hf⟩, hl⟩ := hB1
      have hr' : i ∈ Region.ready .any ops listed := by simpa using hr
      obtain ⟨_, oi, hoi, _⟩ := mem_ready.1 hr'
      unfold mixAt at h
      simp only [hoi] at h
      obtain ⟨v, hy, hK⟩ := mixYields_of hm h
      exact mixAny_first hoi rfl hm (Region.noSelect_spec hsel) (rest.length + f) listed a w hcl (fun h0 h3 j hj hj2 hun => loudsWait_spec (hl.resolve_left (fun h => h.elim h0 h3)) j hj hj2 hun) (Region.free_spec hoi hf) hr' hy
        (mixAny_of_mixE hsel f rest _ _ w (hcl.set hr') hB2 hE hK)

def mixB2 (ops : Array Oper) (ms pre : List Nat) (i j : Nat) (t1 t2 : List Nat) : Bool :=
  Region.noSelect ops && decide (pre.length + (t1.length + 1) = ops.size) && decide (t1.length = t2.length) && mixOrdP .any ops (fun i => ms.getD i 2) pre (Array.replicate ops.size false) &&
  decide (Region.ready .any ops (listedBy pre (Array.replicate ops.size false)) = [i, j]) &&
  mixOrd .any ops (fun i => ms.getD i 2) t1 ((listedBy pre (Array.replicate ops.size false)).setIfInBounds i true) && mixOrd .any ops (fun i => ms.getD i 2) t2 ((listedBy pre (Array.replicate ops.size false)).setIfInBounds j true)

theorem wp_region_mix2 {id : Nat} {a : Act} {w : World} {l : List Oper} (S : World → Prop) (ms pre : List Nat) (i j : Nat) (t1 t2 : List Nat) (hm : P.follows .mixedOrders = true) (hB : mixB2 l.toArray ms pre i j t1 t2 = true) (hS : ∀ w n, S w → S (w.drewN n)) (hs : S w.drew)
    (h : wpMixE P l.toArray S Q (fun i => ms.getD i 2) (fun a w => wpMix P l.toArray S Q (fun i => ms.getD i 2) (i :: t1) a w ∧ wpMix P l.toArray S Q (fun i => ms.getD i 2) (j :: t2) a w) pre a w.drew) : (Code.region id l.toArray true).wp P Q a w := by
  simp only [mixB2, Bool.and_eq_true, decide_eq_true_eq] at hB
  obtain ⟨⟨⟨⟨⟨⟨hsel, hlen⟩, hl12⟩, hord⟩, hrd⟩, ho1⟩, ho2⟩ := hB
  refine wp_region_any hm ?_
  have hcl : Closed .any l.toArray (Array.replicate l.toArray.size false) := fun j oj _ hl => by
    rcases Nat.lt_or_ge j l.toArray.size with h | h
    · simp at h hl; simp [h] at hl
    · simp at h hl; simp [h] at hl
  have key := mixAny_sound hS _ _ _ _ hcl (fun _ => hs) (mixAny_of_mixE hsel (t1.length + 1) pre _ a w.drew hcl hord (fun a w hcl' ⟨h1, h2⟩ => by
    refine ⟨fun h0 => (by rw [h0] at hrd; cases hrd), fun k hk => ?_⟩
    rw [hrd] at hk
    have hc1 := hcl'.set (i := i) (by rw [hrd]; simp)
    have hc2 := hcl'.set (i := j) (by rw [hrd]; simp)
    rcases List.mem_cons.1 hk with rfl | hk
    · unfold wpMix at h1
      exact mixAt_mono (fun a' w' _ h' => mixAny_of_mix hsel t1 _ a' w' hc1 ho1 h') (fun a' h' => mixAny_of_mix hsel t1 _ a' w hc1 ho1 h') h1
    · obtain rfl : k = j := by simpa using hk
      unfold wpMix at h2
      rw [hl12]
      exact mixAt_mono (fun a' w' _ h' => mixAny_of_mix hsel t2 _ a' w' hc2 ho2 h') (fun a' h' => mixAny_of_mix hsel t2 _ a' w hc2 ho2 h') h2) h) 0
  rw [hlen] at key
  exact key

theorem wpMixE_nil {a : Act} {w : World} (h : E a w) : wpMixE P ops S Q mk E [] a w := h
theorem wpMixE_any {i : Nat} {rest : List Nat} {a : Act} {w : World} {o : Oper} (ho : ops[i]? = some o) (hm : mk i = 0)
    (h : ∀ K : Act → World → Prop, (∀ a w, wpMixE P ops S Q mk E rest a w → K a w) → if Region.wanted o (yielded ops a.tmps) then ∃ v, (∀ w', S w' → o.quietAt P a (fun w'' => w'' = w') w' v) ∧ K (a.put o.dst v) w else K (a.put o.dst undef) w) : wpMixE P ops S Q mk E (i :: rest) a w := by
  unfold wpMixE mixAt mixOp mixQ
  simp only [ho, hm]
  exact h _ fun _ _ h => h
theorem wpMixE_pure {i : Nat} {rest : List Nat} {a : Act} {w : World} {o : Oper} (ho : ops[i]? = some o) (hm : mk i = 3)
    (h : ∀ K : Act → World → Prop, (∀ a w, wpMixE P ops S Q mk E rest a w → K a w) → if Region.wanted o (yielded ops a.tmps) then ∃ v, (∀ w', o.quietAt P a (fun w'' => w'' = w') w' v) ∧ K (a.put o.dst v) w else K (a.put o.dst undef) w) : wpMixE P ops S Q mk E (i :: rest) a w := by
  unfold wpMixE mixAt mixOp mixQ
  simp only [ho, hm]
  exact h _ fun _ _ h => h
end
end Go.Proofs.Ytcohopobjppmaaa
