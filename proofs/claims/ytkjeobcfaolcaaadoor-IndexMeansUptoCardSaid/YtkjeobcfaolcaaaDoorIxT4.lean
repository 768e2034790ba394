/- A put and a take, whole, plain. -/
import Derived.Test.YtkjeobcfaolcaaaDoorIxT3
namespace Go.Proofs.YtkjeobcfaolcaaaDoor
set_option linter.unusedVariables false

/-- what a table holds: slots 2 ^ k, keys l -/
structure Tbl (β : Type) where
  k : Nat
  l : List Int
  s : St β
section
variable {β : Type}
def Tbl.new (z : β) : Tbl β := ⟨3, [], St.zero z⟩
def Tbl.put (T : Tbl β) (z : β) (key : Int) (x : β) : Tbl β :=
  if key ∈ T.l then ⟨T.k, T.l, T.s.put T.k key x⟩
  else if 3 * 2 ^ T.k < 4 * (T.l.length + 1) then ⟨T.k + 1, T.l ++ [key], (T.s.grown T.k z T.l).put (T.k + 1) key x⟩
  else ⟨T.k, T.l ++ [key], T.s.put T.k key x⟩
def Tbl.take (T : Tbl β) (z : β) (key : Int) : Tbl β := if key ∈ T.l then ⟨T.k, T.l.filter (· != key), T.s.take T.k z key⟩ else T
def Tbl.get (T : Tbl β) (key : Int) : β := T.s.X (T.s.slot T.k key)
def Tbl.asked (T : Tbl β) (key : Int) : Nat := T.s.asked T.k key
structure Tbl.Ok (T : Tbl β) : Prop where
  inv : T.s.Inv T.k T.l
  k3 : 3 ≤ T.k
  room : 4 * T.l.length ≤ 3 * 2 ^ T.k
theorem eight {k : Nat} (h : 3 ≤ k) : 8 ≤ 2 ^ k := Nat.le_trans (show 8 ≤ 2 ^ 3 by decide) (Nat.pow_le_pow_right (by decide) h)
theorem Tbl.new_ok (z : β) : (Tbl.new z).Ok := ⟨St.zero_inv z 3, by simp [Tbl.new], by simp [Tbl.new]⟩
theorem St.Inv.new {s : St β} {k : Nat} {l : List Int} (h : s.Inv k l) (h1 : 1 ≤ k) (h2 : k ≤ 62) {key : Int} (hk : key ∉ l) (x : β) (hr : l.length + 1 < 2 ^ k) : (s.put k key x).Inv k (l ++ [key]) := by
  have := h.put h1 h2 key x hr
  rwa [kadd, if_neg hk] at this
theorem Tbl.Ok.put {T : Tbl β} (h : T.Ok) (hk : T.k ≤ 60) (z : β) (key : Int) (x : β) : (T.put z key x).Ok := by
  have h8 := eight h.k3
  have hr := h.room
  have hk3 := h.k3
  unfold Tbl.put
  split
  · rename_i hm
    have hp := h.inv.put (by omega) (by omega) key x
    rw [kadd, if_pos hm] at hp
    refine ⟨?_, h.k3, h.room⟩
    obtain ⟨_, hj, _, _, (⟨_, hu, hkj⟩ | ⟨hn, _⟩)⟩ := TInv.look h.inv (hmk_lt (by omega) (by omega)) key
    · have e1 : (T.s.put T.k key x).U = T.s.U := by
        funext i
        show (if i = T.s.slot T.k key then true else T.s.U i) = T.s.U i
        split
        · subst_vars; exact hu.symm
        · rfl
      have e2 : (T.s.put T.k key x).K = T.s.K := by
        funext i
        show (if i = T.s.slot T.k key then key else T.s.K i) = T.s.K i
        split
        · subst_vars; exact hkj.symm
        · rfl
      show (T.s.put T.k key x).Inv T.k T.l
      unfold St.Inv
      rw [e1, e2]
      exact h.inv
    · exact (hn hm).elim
  · rename_i hm
    split
    · rename_i hg
      have hp : 2 ^ (T.k + 1) = 2 * 2 ^ T.k := by rw [Nat.pow_succ]; omega
      refine ⟨St.Inv.new (St.grown_inv h.inv z (by omega)) (by omega) (by omega) hm x (by omega), by show 3 ≤ T.k + 1; omega, ?_⟩
      show 4 * (T.l ++ [key]).length ≤ 3 * 2 ^ (T.k + 1)
      simp
      omega
    · rename_i hg
      refine ⟨St.Inv.new h.inv (by omega) (by omega) hm x (by omega), h.k3, ?_⟩
      show 4 * (T.l ++ [key]).length ≤ 3 * 2 ^ T.k
      simp
      omega
theorem Tbl.Ok.take {T : Tbl β} (h : T.Ok) (hk : T.k ≤ 60) (z : β) (key : Int) : (T.take z key).Ok := by
  have hk3 := h.k3
  unfold Tbl.take
  split
  · rename_i hm
    refine ⟨h.inv.take (by omega) (by omega) hm z, h.k3, ?_⟩
    have := List.length_filter_le (· != key) T.l
    have := h.room
    show 4 * (T.l.filter (· != key)).length ≤ 3 * 2 ^ T.k
    omega
  · exact h
theorem Tbl.mem_put (T : Tbl β) (z : β) (key : Int) (x : β) : key ∈ (T.put z key x).l := by
  unfold Tbl.put
  split
  · assumption
  · split <;> simp
theorem Tbl.not_take (T : Tbl β) (z : β) (key : Int) : key ∉ (T.take z key).l := by
  unfold Tbl.take
  split
  · simp
  · assumption
theorem Tbl.put_len (T : Tbl β) (z : β) (key : Int) (x : β) : (T.put z key x).l.length ≤ T.l.length + 1 := by
  unfold Tbl.put
  split
  · simp
  · split <;> simp
theorem Tbl.take_len (T : Tbl β) (z : β) (key : Int) : (T.take z key).l.length ≤ T.l.length := by
  unfold Tbl.take
  split
  · exact List.length_filter_le _ _
  · exact Nat.le_refl _
theorem Tbl.take_k (T : Tbl β) (z : β) (key : Int) : (T.take z key).k = T.k := by
  unfold Tbl.take
  split <;> rfl
/-- how many slots, at most, by how many puts -/
theorem Tbl.put_k (T : Tbl β) (z : β) (key : Int) (x : β) {m : Nat} (hm : T.l.length ≤ m) (h : 3 * 2 ^ T.k ≤ 8 * (m + 3)) : 3 * 2 ^ (T.put z key x).k ≤ 8 * (m + 1 + 3) := by
  unfold Tbl.put
  split
  · show 3 * 2 ^ T.k ≤ _; omega
  · split
    · have hp : 2 ^ (T.k + 1) = 2 * 2 ^ T.k := by rw [Nat.pow_succ]; omega
      show 3 * 2 ^ (T.k + 1) ≤ _
      omega
    · show 3 * 2 ^ T.k ≤ _; omega
/-- The slot of a key that has just been put. -/
theorem St.put_slot {s : St β} {k : Nat} {l : List Int} {key : Int} {x : β} (h : (s.put k key x).Inv k l) (h1 : 1 ≤ k) (h2 : k ≤ 62) (hk : key ∈ l) (hj : s.slot k key < 2 ^ k) : (s.put k key x).slot k key = s.slot k key := by
  obtain ⟨_, hj', _, _, (⟨_, hu, hkj⟩ | ⟨hn, _⟩)⟩ := TInv.look h (hmk_lt h1 h2) key
  · refine h.uniq _ _ hj' hj hu ?_ (hkj.trans ?_)
    · show (if s.slot k key = s.slot k key then true else _) = true
      rw [if_pos rfl]
    · show _ = (if s.slot k key = s.slot k key then key else _)
      rw [if_pos rfl]
  · exact (hn hk).elim
theorem St.put_get {s : St β} {k : Nat} {l : List Int} {key : Int} {x : β} (h : (s.put k key x).Inv k l) (h1 : 1 ≤ k) (h2 : k ≤ 62) (hk : key ∈ l) (hj : s.slot k key < 2 ^ k) : (s.put k key x).X ((s.put k key x).slot k key) = x := by
  rw [St.put_slot h h1 h2 hk hj]
  show (if s.slot k key = s.slot k key then x else _) = x
  rw [if_pos rfl]
theorem Tbl.get_put {T : Tbl β} (h : T.Ok) (hk : T.k ≤ 60) (z : β) (key : Int) (x : β) : (T.put z key x).get key = x := by
  have hok := h.put hk z key x
  have hmem := T.mem_put z key x
  have hk3 := h.k3
  have hsl := (TInv.look h.inv (hmk_lt (by omega) (by omega)) key).2.1
  have hsg := (TInv.look (St.grown_inv h.inv z (by omega)) (hmk_lt (by omega) (by omega)) key).2.1
  unfold Tbl.put at hok hmem ⊢
  split at hok
  · rename_i hm
    rw [if_pos hm] at hmem ⊢
    exact St.put_get hok.inv (by omega) (by omega) hmem hsl
  · rename_i hm
    rw [if_neg hm] at hmem ⊢
    split at hok
    · rename_i hg
      rw [if_pos hg] at hmem ⊢
      exact St.put_get hok.inv (by omega) (by omega) hmem hsg
    · rename_i hg
      rw [if_neg hg] at hmem ⊢
      exact St.put_get hok.inv (by omega) (by omega) hmem hsl
end
end Go.Proofs.YtkjeobcfaolcaaaDoor
