/- Open addressing, plain: the walk of a look ends; what put, growing and taking leave. -/
import Derived.Test.YtkjeobcfaolcaaaDoorIxF
namespace Go.Proofs.YtkjeobcfaolcaaaDoor
set_option linter.unusedVariables false

/-- e lies on the way from h to j, j itself not counted (in a circle) -/
def onp (h j e : Nat) : Prop := if h ≤ j then h ≤ e ∧ e < j else h ≤ e ∨ e < j
def dst (n i j : Nat) : Nat := if i ≤ j then j - i else j + n - i
theorem nx {n i : Nat} (hi : i < n) : (i + 1) % n = if i + 1 = n then 0 else i + 1 := by
  split
  · subst_vars; simp
  · exact Nat.mod_eq_of_lt (by omega)
theorem sub_len {α : Type} [DecidableEq α] : ∀ (a b : List α), a.Nodup → (∀ x ∈ a, x ∈ b) → a.length ≤ b.length
  | [], _, _, _ => by simp
  | x :: a, b, h, hs => by
    rw [List.nodup_cons] at h
    have hx := hs x (by simp)
    have hp := List.length_pos_of_mem hx
    have := sub_len a (b.erase x) h.2 fun y hy => (List.mem_erase_of_ne (by rintro rfl; exact h.1 hy)).2 (hs y (by simp [hy]))
    rw [List.length_erase_of_mem hx] at this
    simp
    omega
theorem nodup_of_inj {α : Type} (f : Nat → α) : ∀ (d : Nat), (∀ a b, a < d → b < d → f a = f b → a = b) → ((List.range d).map f).Nodup := fun d h => by
  rw [List.Nodup, List.pairwise_map]
  refine List.Pairwise.imp_of_mem ?_ (List.nodup_range (n := d))
  intro a b ha hb hab e
  exact hab (h a b (List.mem_range.1 ha) (List.mem_range.1 hb) e)

/-- A table: slots, their keys, the keys in the order of coming. -/
structure TInv (n : Nat) (hm : Int → Nat) (U : Nat → Bool) (K : Nat → Int) (l : List Int) : Prop where
  path : ∀ j, j < n → U j = true → ∀ e, e < n → onp (hm (K j)) j e → U e = true
  uniq : ∀ i j, i < n → j < n → U i = true → U j = true → K i = K j → i = j
  keys : ∀ x, x ∈ l ↔ ∃ j, j < n ∧ U j = true ∧ K j = x
  nodup : l.Nodup
  room : l.length < n
section
variable {n : Nat} {hm : Int → Nat} {U : Nat → Bool} {K : Nat → Int} {l : List Int}
theorem TInv.free (h : TInv n hm U K l) : ∃ z, z < n ∧ U z = false := by
  apply Classical.byContradiction
  intro hn
  have hall : ∀ z, z < n → U z = true := fun z hz => by
    cases hu : U z with
    | true => rfl
    | false => exact (hn ⟨z, hz, hu⟩).elim
  have h1 := nodup_of_inj K n fun a b ha hb e => h.uniq a b ha hb (hall a ha) (hall b hb) e
  have h2 := sub_len _ l h1 fun x hx => by
    obtain ⟨j, hj, rfl⟩ := List.mem_map.1 hx
    exact (h.keys _).2 ⟨j, List.mem_range.1 hj, hall j (List.mem_range.1 hj), rfl⟩
  simp at h2
  have := h.room
  omega
/-- The first slot from i on that is free. -/
theorem first_free {U : Nat → Bool} {n : Nat} : ∀ (d i z : Nat), i < n → z < n → dst n i z = d → U z = false → ∃ j, j < n ∧ U j = false ∧ ∀ e, e < n → onp i j e → U e = true
  | 0, i, z, hi, hz, hd, hu => ⟨i, hi, by obtain rfl : i = z := by unfold dst at hd; split at hd <;> omega
                                          exact hu, fun e he hp => by unfold onp at hp; simp at hp; omega⟩
  | d + 1, i, z, hi, hz, hd, hu => by
    cases hui : U i with
    | false => exact ⟨i, hi, hui, fun e he hp => by unfold onp at hp; simp at hp; omega⟩
    | true =>
      obtain ⟨j, hj, huj, hp⟩ := first_free d ((i + 1) % n) z (Nat.mod_lt _ (by omega)) hz (by rw [nx hi]; unfold dst at *; split <;> (split at hd <;> split <;> omega)) hu
      refine ⟨j, hj, huj, fun e he hpe => ?_⟩
      by_cases hei : e = i
      · rw [hei]; exact hui
      · refine hp e he ?_
        have hij : i ≠ j := by rintro rfl; rw [hui] at huj; cases huj
        rw [nx hi]
        unfold onp at *
        split at hpe <;> (split <;> (split <;> omega))
theorem lgo_ends {key : Int} : ∀ (d i j fuel m : Nat), i < n → j < n → dst n i j = d → d < fuel → (∀ e, e < n → onp i j e → U e = true ∧ K e ≠ key) → (U j = false ∨ K j = key) → lgo U K key n fuel i m = some (j, m + d)
  | 0, i, j, 0, m, _, _, _, h, _, _ => by omega
  | 0, i, j, fuel + 1, m, hi, hj, hd, _, hp, hs => by
    obtain rfl : i = j := by unfold dst at hd; split at hd <;> omega
    rw [lgo, if_neg]
    · rfl
    · rcases hs with hs | hs <;> simp [hs]
  | d + 1, i, j, 0, m, _, _, _, h, _, _ => by omega
  | d + 1, i, j, fuel + 1, m, hi, hj, hd, hf, hp, hs => by
    have hij : i ≠ j := by rintro rfl; unfold dst at hd; simp at hd
    obtain ⟨h1, h2⟩ := hp i hi (by unfold onp; split <;> omega)
    rw [lgo, if_pos (by simp [h1, h2]), lgo_ends d ((i + 1) % n) j fuel (m + 1) (Nat.mod_lt _ (by omega)) hj (by rw [nx hi]; unfold dst at *; split <;> (split at hd <;> split <;> omega)) (by omega) ?_ hs]
    · rw [show m + 1 + d = m + (d + 1) by omega]
    · intro e he hpe
      refine hp e he ?_
      rw [nx hi] at hpe
      unfold onp at *
      split at hpe <;> (split at hpe <;> (split <;> omega))
theorem dst_lt {i j : Nat} (hi : i < n) (hj : j < n) : dst n i j < n := by unfold dst; split <;> omega
/-- The slots on a way are as many as it is long: no more than there are keys. -/
theorem TInv.short (h : TInv n hm U K l) {i j : Nat} (hi : i < n) (hj : j < n) (hp : ∀ e, e < n → onp i j e → U e = true) : dst n i j ≤ l.length := by
  have hn : 0 < n := by omega
  have hs : ∀ a, a < dst n i j → (i + a) % n = if i + a < n then i + a else i + a - n := fun a ha => by
    have := dst_lt hi hj
    split
    · exact Nat.mod_eq_of_lt ‹_›
    · rw [Nat.mod_eq_sub_mod (by omega), Nat.mod_eq_of_lt (by omega)]
  have hu : ∀ a, a < dst n i j → U ((i + a) % n) = true := fun a ha => by
    refine hp _ (Nat.mod_lt _ hn) ?_
    rw [hs a ha]
    unfold onp
    unfold dst at ha
    split at ha <;> (split <;> (split <;> omega))
  have h1 := nodup_of_inj (fun a => K ((i + a) % n)) (dst n i j) fun a b ha hb e => by
    have e := h.uniq _ _ (Nat.mod_lt _ hn) (Nat.mod_lt _ hn) (hu a ha) (hu b hb) e
    rw [hs a ha, hs b hb] at e
    have := dst_lt hi hj
    split at e <;> (split at e <;> omega)
  have h2 := sub_len _ l h1 fun x hx => by
    obtain ⟨a, ha, rfl⟩ := List.mem_map.1 hx
    exact (h.keys _).2 ⟨_, Nat.mod_lt _ hn, hu a (List.mem_range.1 ha), rfl⟩
  simpa using h2
theorem TInv.look_in (h : TInv n hm U K l) (hb : ∀ x, hm x < n) {key : Int} (hk : key ∈ l) {fuel : Nat} (hf : n ≤ fuel) :
    ∃ j, j < n ∧ U j = true ∧ K j = key ∧ ∃ d, d < l.length + 1 ∧ lgo U K key n fuel (hm key) 1 = some (j, 1 + d) := by
  obtain ⟨j, hj, hu, hkj⟩ := (h.keys key).1 hk
  have hp : ∀ e, e < n → onp (hm key) j e → U e = true := fun e he ho => h.path j hj hu e he (by rw [hkj]; exact ho)
  refine ⟨j, hj, hu, hkj, dst n (hm key) j, by have := h.short (hb key) hj hp; omega, lgo_ends _ _ j fuel 1 (hb key) hj rfl (by have := dst_lt (hb key) hj; omega) (fun e he ho => ⟨hp e he ho, fun e1 => ?_⟩) (.inr hkj)⟩
  have := h.uniq e j he hj (hp e he ho) hu (e1.trans hkj.symm)
  subst this
  unfold onp at ho
  split at ho <;> omega
theorem TInv.look_out (h : TInv n hm U K l) (hb : ∀ x, hm x < n) {key : Int} (hk : key ∉ l) {fuel : Nat} (hf : n ≤ fuel) :
    ∃ j, j < n ∧ U j = false ∧ (∀ e, e < n → onp (hm key) j e → U e = true) ∧ ∃ d, d < l.length + 1 ∧ lgo U K key n fuel (hm key) 1 = some (j, 1 + d) := by
  obtain ⟨z, hz, huz⟩ := h.free
  obtain ⟨j, hj, hu, hp⟩ := first_free _ (hm key) z (hb key) hz rfl huz
  refine ⟨j, hj, hu, hp, dst n (hm key) j, by have := h.short (hb key) hj hp; omega, lgo_ends _ _ j fuel 1 (hb key) hj rfl (by have := dst_lt (hb key) hj; omega) (fun e he ho => ⟨hp e he ho, fun e1 => ?_⟩) (.inl hu)⟩
  exact hk ((h.keys key).2 ⟨e, he, hp e he ho, e1⟩)
theorem TInv.put (h : TInv n hm U K l) {key : Int} (hk : key ∉ l) {j : Nat} (hj : j < n) (hu : U j = false) (hp : ∀ e, e < n → onp (hm key) j e → U e = true) (hr : l.length + 1 < n) :
    TInv n hm (fun i => if i = j then true else U i) (fun i => if i = j then key else K i) (l ++ [key]) where
  path := fun i hi hui e he ho => by
    by_cases hej : e = j
    · simp [hej]
    · simp only [if_neg hej]
      by_cases hij : i = j
      · subst hij
        simp only [if_true] at ho
        exact hp e he ho
      · simp only [if_neg hij] at hui ho
        exact h.path i hi hui e he ho
  uniq := fun a b ha hb hua hub e => by
    by_cases haj : a = j <;> by_cases hbj : b = j
    · omega
    · simp only [if_pos haj, if_neg hbj] at e hub
      exact (hk ((h.keys key).2 ⟨b, hb, hub, e.symm⟩)).elim
    · simp only [if_pos hbj, if_neg haj] at e hua
      exact (hk ((h.keys key).2 ⟨a, ha, hua, e⟩)).elim
    · simp only [if_neg hbj, if_neg haj] at e hua hub
      exact h.uniq a b ha hb hua hub e
  keys := fun x => by
    rw [List.mem_append, List.mem_singleton, h.keys]
    constructor
    · rintro (⟨i, hi, hui, rfl⟩ | rfl)
      · have hij : i ≠ j := by rintro rfl; rw [hu] at hui; cases hui
        exact ⟨i, hi, by simp [hij, hui], by simp [hij]⟩
      · exact ⟨j, hj, by simp, by simp⟩
    · rintro ⟨i, hi, hui, rfl⟩
      by_cases hij : i = j
      · right; simp [hij]
      · left; simp only [if_neg hij] at hui ⊢; exact ⟨i, hi, hui, rfl⟩
  nodup := by
    rw [List.nodup_append]
    refine ⟨h.nodup, by simp, ?_⟩
    intro a ha b hb e
    rw [List.mem_singleton] at hb
    exact hk (by rw [← hb, ← e]; exact ha)
  room := by simpa using hr
end
end Go.Proofs.YtkjeobcfaolcaaaDoor
