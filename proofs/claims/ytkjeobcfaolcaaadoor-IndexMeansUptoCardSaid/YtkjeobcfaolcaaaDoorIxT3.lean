/- Taking a key out: what lies behind moves back. Plain. -/
import Derived.Test.YtkjeobcfaolcaaaDoorIxT2
namespace Go.Proofs.YtkjeobcfaolcaaaDoor
set_option linter.unusedVariables false

theorem bit_dst {k f h : Nat} (hk : k ≤ 62) (hf : f < 2 ^ k) (hh : h < 2 ^ k) : bits .and .i64 ((f : Int) - (h : Int)) (((2 ^ k : Nat) : Int) - 1) = (dst (2 ^ k) h f : Int) := by
  have hq : 2 ^ k ≤ 2 ^ 62 := Nat.pow_le_pow_right (by omega) hk
  have h0 := Nat.two_pow_pos k
  unfold dst
  have e1 : (((2 ^ k : Nat) : Int) - 1) = ((2 ^ k - 1 : Nat) : Int) := by omega
  rw [e1]
  split
  · rename_i hle
    have h := bits_and_i64_nat (f - h) (2 ^ k - 1) (by omega) (by omega)
    rw [Nat.and_two_pow_sub_one_eq_mod, Nat.mod_eq_of_lt (by omega)] at h
    rw [← h]
    congr 1
    omega
  · rename_i hgt
    obtain ⟨d, hd⟩ : ∃ d, h = f + d := ⟨h - f, by omega⟩
    subst hd
    have h1 : (BitVec.ofInt 64 ((f : Int) - ((f + d : Nat) : Int))).toNat = 2 ^ 64 - d := by
      rw [BitVec.toNat_ofInt]
      have : ((f : Int) - ((f + d : Nat) : Int)) % ((2 ^ 64 : Nat) : Int) = ((2 ^ 64 - d : Nat) : Int) := by
        rw [show (f : Int) - ((f + d : Nat) : Int) = ((2 ^ 64 - d : Nat) : Int) + ((2 ^ 64 : Nat) : Int) * (-1) by omega, Int.add_mul_emod_self_left]
        omega
      rw [this]
      rfl
    have h2 : (BitVec.ofInt 64 ((2 ^ k - 1 : Nat) : Int)).toNat = 2 ^ k - 1 := by
      rw [BitVec.ofInt_natCast, BitVec.toNat_ofNat]; exact Nat.mod_eq_of_lt (by omega)
    show IntKind.i64.wrap ((BitVec.ofInt 64 ((f : Int) - ((f + d : Nat) : Int)) &&& BitVec.ofInt 64 ((2 ^ k - 1 : Nat) : Int)).toNat : Int) = _
    rw [BitVec.toNat_and, h1, h2, Nat.and_two_pow_sub_one_eq_mod]
    have hdv : 2 ^ 64 = 2 ^ k * 2 ^ (64 - k) := by rw [← Nat.pow_add]; congr 1; omega
    have hm : (2 ^ 64 - d) % 2 ^ k = f + 2 ^ k - (f + d) := by
      have hb : 1 ≤ 2 ^ (64 - k) := Nat.two_pow_pos _
      have e2 : 2 ^ 64 - d = (2 ^ k - d) + 2 ^ k * (2 ^ (64 - k) - 1) := by
        rw [Nat.mul_sub, Nat.mul_one, ← hdv]
        have : 2 ^ k ≤ 2 ^ 64 := Nat.pow_le_pow_right (by omega) (by omega)
        omega
      rw [e2, Nat.add_mul_mod_self_left, Nat.mod_eq_of_lt (by omega)]
      omega
    rw [hm]
    exact IntWalk.i64_in _ (by omega)

section
variable {β : Type}
def St.clear (s : St β) (j : Nat) (z : β) : St β := ⟨fun i => if i = j then false else s.U i, fun i => if i = j then 0 else s.K i, fun i => if i = j then z else s.X i⟩
def St.move (s : St β) (f k : Nat) (z : β) : St β := (s.set f (s.K k) (s.X k)).clear k z
/-- the loop: f is free, k is looked at -/
def St.shift (n : Nat) (hm : Int → Nat) (z : β) : Nat → St β → Nat → Nat → St β
  | 0, s, _, _ => s
  | r + 1, s, f, k => if s.U k = true then (if dst n (hm (s.K k)) f < dst n (hm (s.K k)) k then St.shift n hm z r (s.move f k z) k ((k + 1) % n) else St.shift n hm z r s f ((k + 1) % n)) else s
/-- strictly between f and k, in a circle -/
def btw (f k j : Nat) : Prop := if f < k then f < j ∧ j < k else f < j ∨ j < k
structure Sh (n : Nat) (hm : Int → Nat) (s : St β) (f k e : Nat) (l : List Int) : Prop where
  hf : f < n
  hk : k < n
  he : e < n
  ne : f ≠ k
  free : s.U f = false
  end_ : s.U e = false
  nee : f ≠ e
  ahead : ¬ btw f k e
  path : ∀ j, j < n → s.U j = true → ∀ i, i < n → onp (hm (s.K j)) j i → s.U i = true ∨ i = f
  beyond : ∀ j, j < n → s.U j = true → onp (hm (s.K j)) j f → ¬ btw f k j
  uniq : ∀ i j, i < n → j < n → s.U i = true → s.U j = true → s.K i = s.K j → i = j
  keys : ∀ x, x ∈ l ↔ ∃ j, j < n ∧ s.U j = true ∧ s.K j = x
theorem nxq {n k : Nat} (hk : k < n) : ∃ q, (k + 1) % n = q ∧ ((k + 1 = n ∧ q = 0) ∨ (k + 1 < n ∧ q = k + 1)) := by
  refine ⟨_, rfl, ?_⟩
  rw [nx hk]
  split <;> omega
theorem dst_onp {n h f k : Nat} (hh : h < n) (hf : f < n) (hk : k < n) (hne : f ≠ k) : dst n h f < dst n h k ↔ onp h k f := by
  unfold dst onp
  constructor
  · intro h1; split at h1 <;> (split at h1 <;> (split <;> omega))
  · intro h1; split at h1 <;> (split <;> (first | omega | (split <;> omega)))
section
variable {n : Nat} {hm : Int → Nat} {s : St β} {f k e : Nat} {l : List Int} {z : β}
theorem Sh.last (h : Sh n hm s f k e l) (hu : s.U k = false) (hn : l.Nodup) (hr : l.length < n) : TInv n hm s.U s.K l where
  path := fun j hj huj i hi hp => by
    rcases h.path j hj huj i hi hp with h1 | rfl
    · exact h1
    · exfalso
      have h2 := h.beyond j hj huj hp
      have hjf : j ≠ i := by rintro rfl; rw [h.free] at huj; cases huj
      have hjk : j ≠ k := by rintro rfl; rw [hu] at huj; cases huj
      have hk := h.hk
      have hne := h.ne
      rcases h.path j hj huj k hk (by unfold onp btw at *; split at h2 <;> (split at hp <;> (split <;> omega))) with h3 | h3
      · rw [hu] at h3; cases h3
      · exact h.ne h3.symm
  uniq := h.uniq
  keys := h.keys
  nodup := hn
  room := hr
theorem Sh.stay (h : Sh n hm s f k e l) (hb : ∀ x, hm x < n) (hu : s.U k = true) (hc : ¬ dst n (hm (s.K k)) f < dst n (hm (s.K k)) k) : Sh n hm s f ((k + 1) % n) e l := by
  have hf := h.hf
  have hk := h.hk
  have he := h.he
  have hne := h.ne
  have hke : k ≠ e := by rintro rfl; rw [h.end_] at hu; cases hu
  rw [dst_onp (hb _) hf hk hne] at hc
  have hkf : (k + 1) % n ≠ f := by
    intro e1
    have ha := h.ahead
    have hn := h.nee
    rw [nx hk] at e1
    unfold btw at ha
    split at e1 <;> (split at ha <;> omega)
  refine ⟨hf, Nat.mod_lt _ (by omega), he, hkf.symm, h.free, h.end_, h.nee, fun hb2 => ?_, h.path, fun j hj huj hp hbt => ?_, h.uniq, h.keys⟩
  · have ha := h.ahead
    obtain ⟨q, e1, e2⟩ := nxq hk
    rw [e1] at hb2 hkf
    unfold btw at hb2 ha
    split at hb2 <;> (split at ha <;> omega)
  · have h2 := h.beyond j hj huj hp
    by_cases hjk : j = k
    · subst hjk; exact hc hp
    · obtain ⟨q, e1, e2⟩ := nxq hk
      rw [e1] at hbt hkf
      unfold btw at hbt h2
      split at hbt <;> (split at h2 <;> omega)
theorem move_U (i : Nat) : (s.move f k z).U i = if i = k then false else if i = f then true else s.U i := rfl
theorem move_K (i : Nat) : (s.move f k z).K i = if i = k then 0 else if i = f then s.K k else s.K i := rfl
theorem Sh.moved (h : Sh n hm s f k e l) (hb : ∀ x, hm x < n) (hu : s.U k = true) (hc : dst n (hm (s.K k)) f < dst n (hm (s.K k)) k) : Sh n hm (s.move f k z) k ((k + 1) % n) e l := by
  have hf := h.hf
  have hk := h.hk
  have he := h.he
  have hne := h.ne
  have hke : k ≠ e := by rintro rfl; rw [h.end_] at hu; cases hu
  rw [dst_onp (hb _) hf hk hne] at hc
  have hnx : (k + 1) % n ≠ k := by rw [nx hk]; split <;> omega
  refine ⟨hk, Nat.mod_lt _ (by omega), he, hnx.symm, ?_, ?_, hke, ?_, ?_, ?_, ?_, ?_⟩
  · rw [move_U, if_pos rfl]
  · rw [move_U, if_neg hke.symm, if_neg h.nee.symm, h.end_]
  · rw [nx hk]
    unfold btw
    split <;> (split <;> omega)
  · intro j hj huj i hi hp
    rw [move_U] at huj ⊢
    rw [move_K] at hp
    by_cases hik : i = k
    · exact .inr hik
    · left
      rw [if_neg hik]
      by_cases hif : i = f
      · rw [if_pos hif]
      · rw [if_neg hif]
        by_cases hjk : j = k
        · rw [if_pos hjk] at huj; cases huj
        · rw [if_neg hjk] at huj hp
          by_cases hjf : j = f
          · subst hjf
            rw [if_pos rfl] at hp
            -- the way to f is a part of the way to k
            rcases h.path k hk hu i hi (by
              have := hb (s.K k)
              unfold onp at *
              split at hp <;> (split at hc <;> (split <;> omega))) with h1 | h1
            · exact h1
            · exact (hif h1).elim
          · rw [if_neg hjf] at huj hp
            rcases h.path j hj huj i hi hp with h1 | h1
            · exact h1
            · exact (hif h1).elim
  · intro j hj huj hp hbt
    rw [nx hk] at hbt
    unfold btw at hbt
    split at hbt <;> (split at hbt <;> omega)
  · intro a b ha hb' hua hub e1
    rw [move_U] at hua hub
    rw [move_K, move_K] at e1
    by_cases hak : a = k
    · rw [if_pos hak] at hua; cases hua
    by_cases hbk : b = k
    · rw [if_pos hbk] at hub; cases hub
    rw [if_neg hak] at hua e1
    rw [if_neg hbk] at hub e1
    by_cases haf : a = f <;> by_cases hbf : b = f
    · omega
    · rw [if_pos haf, if_neg hbf] at e1
      rw [if_neg hbf] at hub
      exact (hbk (h.uniq k b hk hb' hu hub e1).symm).elim
    · rw [if_neg haf, if_pos hbf] at e1
      rw [if_neg haf] at hua
      exact (hak (h.uniq a k ha hk hua hu e1)).elim
    · rw [if_neg haf, if_neg hbf] at e1
      rw [if_neg haf] at hua
      rw [if_neg hbf] at hub
      exact h.uniq a b ha hb' hua hub e1
  · intro x
    rw [h.keys]
    constructor
    · rintro ⟨j, hj, huj, rfl⟩
      by_cases hjk : j = k
      · subst hjk
        exact ⟨f, hf, by rw [move_U, if_neg hne, if_pos rfl], by rw [move_K, if_neg hne, if_pos rfl]⟩
      · have hjf : j ≠ f := by rintro rfl; rw [h.free] at huj; cases huj
        exact ⟨j, hj, by rw [move_U, if_neg hjk, if_neg hjf]; exact huj, by rw [move_K, if_neg hjk, if_neg hjf]⟩
    · rintro ⟨j, hj, huj, rfl⟩
      rw [move_U] at huj
      rw [move_K]
      by_cases hjk : j = k
      · rw [if_pos hjk] at huj; cases huj
      · rw [if_neg hjk] at huj ⊢
        by_cases hjf : j = f
        · rw [if_pos hjf]
          exact ⟨k, hk, hu, rfl⟩
        · rw [if_neg hjf] at huj ⊢
          exact ⟨j, hj, huj, rfl⟩
/-- The first free slot behind k, how far: what the loop's rounds are counted by. -/
theorem Sh.done (hb : ∀ x, hm x < n) (hn : l.Nodup) (hr : l.length < n) : ∀ (r : Nat) (s : St β) (f k : Nat), Sh n hm s f k e l → dst n k e < r → TInv n hm (St.shift n hm z r s f k).U (St.shift n hm z r s f k).K l
  | 0, s, f, k, h, hd => by omega
  | r + 1, s, f, k, h, hd => by
    rw [St.shift]
    by_cases hu : s.U k = true
    · rw [if_pos hu]
      have hke : k ≠ e := by rintro rfl; rw [h.end_] at hu; cases hu
      have hk := h.hk
      have he := h.he
      have hd' : dst n ((k + 1) % n) e < r := by
        rw [nx hk]
        unfold dst at *
        split <;> (split at hd <;> (split <;> omega))
      by_cases hc : dst n (hm (s.K k)) f < dst n (hm (s.K k)) k
      · rw [if_pos hc]
        exact Sh.done hb hn hr r _ _ _ (h.moved hb hu hc) hd'
      · rw [if_neg hc]
        exact Sh.done hb hn hr r _ _ _ (h.stay hb hu hc) hd'
    · rw [if_neg hu]
      exact h.last (by simpa using hu) hn hr
/-- The key's slot is cleared: so the loop begins. -/
theorem TInv.hole (h : TInv n hm s.U s.K l) {key : Int} {j : Nat} (hj : j < n) (hu : s.U j = true) (hkj : s.K j = key) (h2 : 2 ≤ n) {e : Nat} (he : e < n) (hue : s.U e = false) : Sh n hm (s.clear j z) j ((j + 1) % n) e (l.filter (· != key)) := by
  have hje : j ≠ e := by rintro rfl; rw [hue] at hu; cases hu
  have cU : ∀ i, (s.clear j z).U i = if i = j then false else s.U i := fun i => rfl
  have cK : ∀ i, (s.clear j z).K i = if i = j then 0 else s.K i := fun i => rfl
  refine ⟨hj, Nat.mod_lt _ (by omega), he, ?_, by rw [cU, if_pos rfl], by rw [cU, if_neg hje.symm]; exact hue, hje, ?_, ?_, ?_, ?_, ?_⟩
  · rw [nx hj]; split <;> omega
  · rw [nx hj]; unfold btw; split <;> (split <;> omega)
  · intro i hi hui q hq hp
    rw [cU] at hui ⊢
    rw [cK] at hp
    by_cases hij : i = j
    · rw [if_pos hij] at hui; cases hui
    · rw [if_neg hij] at hui hp
      by_cases hqj : q = j
      · exact .inr hqj
      · rw [if_neg hqj]; exact .inl (h.path i hi hui q hq hp)
  · intro i hi hui hp hbt
    rw [nx hj] at hbt
    unfold btw at hbt
    split at hbt <;> (split at hbt <;> omega)
  · intro a b ha hb hua hub e1
    rw [cU] at hua hub
    rw [cK, cK] at e1
    by_cases haj : a = j
    · rw [if_pos haj] at hua; cases hua
    by_cases hbj : b = j
    · rw [if_pos hbj] at hub; cases hub
    rw [if_neg haj] at hua e1
    rw [if_neg hbj] at hub e1
    exact h.uniq a b ha hb hua hub e1
  · intro x
    rw [List.mem_filter, h.keys]
    constructor
    · rintro ⟨⟨i, hi, hui, rfl⟩, hx⟩
      have hij : i ≠ j := by rintro rfl; simp [hkj] at hx
      exact ⟨i, hi, by rw [cU, if_neg hij]; exact hui, by rw [cK, if_neg hij]⟩
    · rintro ⟨i, hi, hui, rfl⟩
      rw [cU] at hui
      rw [cK]
      by_cases hij : i = j
      · rw [if_pos hij] at hui; cases hui
      · rw [if_neg hij] at hui ⊢
        exact ⟨⟨i, hi, hui, rfl⟩, by
          have : s.K i ≠ key := fun e2 => hij (h.uniq i j hi hj hui hu (e2.trans hkj.symm))
          simpa using this⟩
end
def St.take (s : St β) (k : Nat) (z : β) (key : Int) : St β := St.shift (2 ^ k) (hmk k) z (2 ^ k) (s.clear (s.slot k key) z) (s.slot k key) ((s.slot k key + 1) % 2 ^ k)
theorem St.Inv.take {s : St β} {k : Nat} {l : List Int} (h : s.Inv k l) (h1 : 1 ≤ k) (h2 : k ≤ 62) {key : Int} (hk : key ∈ l) (z : β) : (s.take k z key).Inv k (l.filter (· != key)) := by
  have hn : 2 ≤ 2 ^ k := Nat.le_trans (show 2 ≤ 2 ^ 1 by decide) (Nat.pow_le_pow_right (by decide) h1)
  obtain ⟨e, he, hue⟩ := TInv.free h
  obtain ⟨_, hj, _, _, (⟨_, hu, hkj⟩ | ⟨hn', _⟩)⟩ := TInv.look h (hmk_lt h1 h2) key
  · have hh := TInv.hole (z := z) (s := s) h hj hu hkj hn he hue
    refine Sh.done (hmk_lt h1 h2) (h.nodup.filter _) ?_ _ _ _ _ hh ?_
    · have := List.length_filter_le (· != key) l
      have := h.room
      omega
    · exact dst_lt (Nat.mod_lt _ (by omega)) he
  · exact (hn' hk).elim
end
end Go.Proofs.YtkjeobcfaolcaaaDoor
