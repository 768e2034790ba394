/- What a table answers for the other keys behind a put and a take; a redo log and what it wrote over. Plain. -/
import Derived.Deep.RegionHeld
import Derived.Test.YtfhpnlaabgkpjaaDoorPLg1
import Derived.Test.YtfhpnlaabgkpjaaDoorPLg3
import Derived.Test.YtfhpnlaabgkpjaaDoorPLg7
namespace Go.Proofs.YtfhpnlaabgkpjaaDoor
set_option linter.unusedVariables false

section
variable {β : Type} {s : St β} {z : β} {k : Nat} {l : List Int} {n : Nat} {key key' : Int} {x y : β}
def St.has (s : St β) (n : Nat) (key : Int) (x : β) : Prop := ∃ i, i < n ∧ s.U i = true ∧ s.K i = key ∧ s.X i = x
theorem St.Inv.has_get (h : s.Inv k l) (h1 : 1 ≤ k) (h2 : k ≤ 62) (hx : s.has (2 ^ k) key x) : s.X (s.slot k key) = x := by
  obtain ⟨i, hi, hu, hk, e⟩ := hx
  obtain ⟨_, hj, _, _, (⟨_, hu', hk'⟩ | ⟨hn, _⟩)⟩ := TInv.look h (hmk_lt h1 h2) key
  · have := h.uniq _ _ hj hi hu' hu (hk'.trans hk.symm)
    have e2 : s.slot k key = i := this
    rw [e2, e]
  · exact (hn ((h.keys key).2 ⟨i, hi, hu, hk⟩)).elim
theorem St.Inv.get_has (h : s.Inv k l) (h1 : 1 ≤ k) (h2 : k ≤ 62) (hk : key ∈ l) : s.has (2 ^ k) key (s.X (s.slot k key)) := by
  obtain ⟨_, hj, _, _, (⟨_, hu', hk'⟩ | ⟨hn, _⟩)⟩ := TInv.look h (hmk_lt h1 h2) key
  · exact ⟨_, hj, hu', hk', rfl⟩
  · exact (hn hk).elim
theorem St.Inv.put_has (h : s.Inv k l) (h1 : 1 ≤ k) (h2 : k ≤ 62) (hne : key' ≠ key) (hy : s.has (2 ^ k) key' y) : (s.put k key x).has (2 ^ k) key' y := by
  obtain ⟨i, hi, hu, hk, e⟩ := hy
  have hij : i ≠ s.slot k key := fun e => by
    obtain ⟨_, hj, _, _, (⟨_, hu', hk'⟩ | ⟨_, hu', _⟩)⟩ := TInv.look h (hmk_lt h1 h2) key
    · have hk2 : s.K (s.slot k key) = key := hk'
      rw [← e, hk] at hk2
      exact hne hk2
    · have hu2 : s.U (s.slot k key) = false := hu'
      rw [← e, hu] at hu2
      cases hu2
  refine ⟨i, hi, ?_, ?_, ?_⟩
  · show (if i = s.slot k key then true else s.U i) = true; rw [if_neg hij, hu]
  · show (if i = s.slot k key then key else s.K i) = key'; rw [if_neg hij, hk]
  · show (if i = s.slot k key then x else s.X i) = y; rw [if_neg hij, e]
theorem St.Inv.put_self (h : s.Inv k l) (h1 : 1 ≤ k) (h2 : k ≤ 62) : (s.put k key x).has (2 ^ k) key x := by
  obtain ⟨_, hj, _⟩ := TInv.look h (hmk_lt h1 h2) key
  refine ⟨s.slot k key, hj, ?_, ?_, ?_⟩
  · show (if s.slot k key = s.slot k key then true else _) = true; rw [if_pos rfl]
  · show (if s.slot k key = s.slot k key then key else _) = key; rw [if_pos rfl]
  · show (if s.slot k key = s.slot k key then x else _) = x; rw [if_pos rfl]
theorem St.fill_has (z : β) (h1 : 1 ≤ k) (h2 : k ≤ 62) : ∀ (pre : List (Int × β)), pre.length < 2 ^ k → (pre.map (·.1)).Nodup → ∀ p ∈ pre, (St.fill k z pre).has (2 ^ k) p.1 p.2 := fun pre => by
  refine snoc_ind (P := fun pre => pre.length < 2 ^ k → (pre.map (·.1)).Nodup → ∀ p ∈ pre, (St.fill k z pre).has (2 ^ k) p.1 p.2) ?_ ?_ pre
  · intro _ _ p hp; cases hp
  · intro pre p ih hlen hnd q hq
    rw [List.length_append, List.length_singleton] at hlen
    rw [List.map_append, List.map_cons, List.map_nil, List.nodup_append] at hnd
    have hI := St.fill_inv z h1 h2 pre (by omega)
    rw [St.fill_snoc]
    rcases List.mem_append.1 hq with hq | hq
    · exact hI.put_has h1 h2 (fun e => hnd.2.2 _ (List.mem_map_of_mem hq) p.1 (by simp) e) (ih (by omega) hnd.1 q hq)
    · obtain rfl := List.mem_singleton.1 hq
      exact hI.put_self h1 h2
theorem St.grown_has (h : s.Inv k l) (z : β) (h2 : k + 1 ≤ 62) (hk : key ∈ l) : (s.grown k z l).has (2 ^ (k + 1)) key (s.X (s.slot k key)) := by
  have hr := h.room
  have e : (s.pairs k l).map (·.1) = l := by simp [St.pairs, Function.comp_def]
  exact St.fill_has (k := k + 1) z (by omega) h2 (s.pairs k l) (by rw [St.pairs, List.length_map]; rw [Nat.pow_succ]; omega) (by rw [e]; exact h.nodup) (key, s.X (s.slot k key)) (List.mem_map.2 ⟨key, hk, rfl⟩)
theorem St.shift_has (hm : Int → Nat) (z : β) (hn : 0 < n) : ∀ (r : Nat) (s : St β) (f k : Nat), f < n → k < n → s.U f = false → s.has n key y → (St.shift n hm z r s f k).has n key y
  | 0, s, f, k, _, _, _, h => h
  | r + 1, s, f, k, hf, hk, hu, h => by
    rw [St.shift]
    split
    · rename_i huk
      have hfk : f ≠ k := fun e => by rw [e, huk] at hu; cases hu
      split
      · refine St.shift_has hm z hn r _ k _ hk (Nat.mod_lt _ hn) (by rw [move_U, if_pos rfl]) ?_
        obtain ⟨i, hi, hui, hki, e⟩ := h
        by_cases hik : i = k
        · subst hik
          refine ⟨f, hf, ?_, ?_, ?_⟩
          · rw [move_U, if_neg hfk, if_pos rfl]
          · rw [move_K, if_neg hfk, if_pos rfl, hki]
          · show (if f = i then z else if f = f then s.X i else s.X f) = y
            rw [if_neg hfk, if_pos rfl, e]
        · have hif : i ≠ f := fun e => by rw [e, hu] at hui; cases hui
          refine ⟨i, hi, ?_, ?_, ?_⟩
          · rw [move_U, if_neg hik, if_neg hif, hui]
          · rw [move_K, if_neg hik, if_neg hif, hki]
          · show (if i = k then z else if i = f then s.X k else s.X i) = y
            rw [if_neg hik, if_neg hif, e]
      · exact St.shift_has hm z hn r s f _ hf (Nat.mod_lt _ hn) hu h
    · exact h
theorem St.Inv.take_has (h : s.Inv k l) (h1 : 1 ≤ k) (h2 : k ≤ 62) (z : β) (hk : key ∈ l) (hne : key' ≠ key) (hy : s.has (2 ^ k) key' y) : (s.take k z key).has (2 ^ k) key' y := by
  obtain ⟨_, hj, _, _, (⟨_, hu', hk'⟩ | ⟨hn, _⟩)⟩ := TInv.look h (hmk_lt h1 h2) key
  · have hk2 : s.K (s.slot k key) = key := hk'
    refine St.shift_has _ z (Nat.two_pow_pos k) _ _ _ _ hj (Nat.mod_lt _ (Nat.two_pow_pos k)) ?_ ?_
    · show (if s.slot k key = s.slot k key then false else _) = false; rw [if_pos rfl]
    · obtain ⟨i, hi, hu, hki, e⟩ := hy
      have hij : i ≠ s.slot k key := fun e => by rw [← e, hki] at hk2; exact hne hk2
      refine ⟨i, hi, ?_, ?_, ?_⟩
      · show (if i = s.slot k key then false else s.U i) = true; rw [if_neg hij, hu]
      · show (if i = s.slot k key then 0 else s.K i) = key'; rw [if_neg hij, hki]
      · show (if i = s.slot k key then z else s.X i) = y; rw [if_neg hij, e]
  · exact (hn hk).elim
variable {T : Tbl β}
theorem Tbl.get_put_ne (h : T.Ok) (hk : T.k ≤ 60) (z : β) (hne : key' ≠ key) (hm : key' ∈ T.l) : (T.put z key x).get key' = T.get key' := by
  have hk3 := h.k3
  have hr := h.room
  have h8 := eight h.k3
  have g := h.inv.get_has (by omega) (by omega) hm
  have hok := h.put hk z key x
  unfold Tbl.put at hok ⊢
  split at hok
  · rename_i hin
    rw [if_pos hin]
    exact hok.inv.has_get (by have := h.k3; show 1 ≤ T.k; omega) (by show T.k ≤ 62; omega) (h.inv.put_has (by omega) (by omega) hne g)
  · rename_i hin
    rw [if_neg hin]
    split at hok
    · rename_i hg
      rw [if_pos hg]
      exact hok.inv.has_get (by show 1 ≤ T.k + 1; omega) (by show T.k + 1 ≤ 62; omega) ((St.grown_inv h.inv z (by omega)).put_has (by omega) (by omega) hne (St.grown_has h.inv z (by omega) hm))
    · rename_i hg
      rw [if_neg hg]
      exact hok.inv.has_get (by show 1 ≤ T.k; omega) (by show T.k ≤ 62; omega) (h.inv.put_has (by omega) (by omega) hne g)
theorem Tbl.get_take_ne (h : T.Ok) (hk : T.k ≤ 60) (z : β) (hne : key' ≠ key) (hm : key' ∈ T.l) : (T.take z key).get key' = T.get key' := by
  have hk3 := h.k3
  have g := h.inv.get_has (by omega) (by omega) hm
  have hok := h.take hk z key
  unfold Tbl.take at hok ⊢
  split at hok
  · rename_i hin
    rw [if_pos hin]
    exact hok.inv.has_get (by show 1 ≤ T.k; omega) (by show T.k ≤ 62; omega) (h.inv.take_has (by omega) (by omega) z hin hne g)
  · rename_i hin
    rw [if_neg hin]
theorem Tbl.put_l (T : Tbl β) (z : β) (key : Int) (x : β) : (T.put z key x).l = if key ∈ T.l then T.l else T.l ++ [key] := by
  unfold Tbl.put
  split
  · rfl
  · split <;> rfl
theorem Tbl.take_l (T : Tbl β) (z : β) (key : Int) (h : key ∈ T.l) : (T.take z key).l = T.l.filter (· != key) := by
  unfold Tbl.take; rw [if_pos h]
end
/-- the table leads to the places of the entries -/
structure Ixd (T : Tbl Int) (o : List (Int × Int)) : Prop where
  ok : T.Ok
  l : T.l = o.map (·.1)
  at_ : ∀ i (hi : i < o.length), T.get (o[i]'hi).1 = (i : Int)
section
variable {T : Tbl Int} {o : List (Int × Int)} {a x : Int}
theorem Ixd.new : Ixd (Tbl.new 0) [] := ⟨Tbl.new_ok 0, rfl, fun i hi => by simp at hi⟩
theorem Ixd.nodup (h : Ixd T o) : (o.map (·.1)).Nodup := by rw [← h.l]; exact h.ok.inv.nodup
theorem Ixd.put (h : Ixd T o) (hk : T.k ≤ 60) (ha : a ∉ o.map (·.1)) : Ixd (T.put 0 a (o.length : Int)) (o ++ [(a, x)]) := by
  have hn : a ∉ T.l := by rw [h.l]; exact ha
  refine ⟨h.ok.put hk 0 a _, by rw [Tbl.put_l, if_neg hn, h.l]; simp, fun i hi => ?_⟩
  rw [List.length_append, List.length_singleton] at hi
  by_cases hio : i < o.length
  · have hm : (o[i]'hio).1 ∈ o.map (·.1) := List.mem_map_of_mem (List.getElem_mem hio)
    rw [List.getElem_append_left hio, Tbl.get_put_ne h.ok hk 0 (fun e => ha (by rw [← e]; exact hm)) (by rw [h.l]; exact hm), h.at_]
  · obtain rfl : i = o.length := by omega
    rw [List.getElem_append_right (Nat.le_refl _)]
    simp only [Nat.sub_self, List.getElem_cons_zero]
    exact Tbl.get_put h.ok hk 0 a _
theorem Ixd.set (h : Ixd T o) {n : Nat} {c : Int × Int} (hn : ∀ (hi : n < o.length), c.1 = (o[n]'hi).1) : Ixd T (o.set n c) := by
  refine ⟨h.ok, ?_, fun i hi => ?_⟩
  · rw [h.l]
    apply List.ext_getElem
    · simp
    · intro i h1 h2
      simp only [List.getElem_map, List.getElem_set]
      split
      · rename_i e; subst e; exact (hn (by simpa using h1)).symm
      · rfl
  · rw [List.length_set] at hi
    rw [List.getElem_set]
    split
    · rename_i e; subst e; rw [hn hi]; exact h.at_ _ hi
    · exact h.at_ i hi
theorem Ixd.take (h : Ixd T (o ++ [(a, x)])) (hk : T.k ≤ 60) : Ixd (T.take 0 a) o := by
  have hnd := h.nodup
  rw [List.map_append, List.map_cons, List.map_nil, List.nodup_append] at hnd
  have ha : a ∉ o.map (·.1) := fun hm => hnd.2.2 a hm a (by simp) rfl
  have hin : a ∈ T.l := by rw [h.l]; simp
  refine ⟨h.ok.take hk 0 a, ?_, fun i hi => ?_⟩
  · rw [Tbl.take_l _ _ _ hin, h.l, List.map_append, List.map_cons, List.map_nil, List.filter_append]
    rw [List.filter_eq_self.2 fun y hy => by simpa using fun e => ha (by rw [← e]; exact hy)]
    simp
  · have hm : (o[i]'hi).1 ∈ o.map (·.1) := List.mem_map_of_mem (List.getElem_mem hi)
    have := h.at_ i (by rw [List.length_append]; omega)
    rw [List.getElem_append_left hi] at this
    rw [Tbl.get_take_ne h.ok hk 0 (fun e => ha (by rw [← e]; exact hm)) (by rw [h.l]; simp [hm]), this]
end
/-- the place of an address -/
def idx (o : List (Int × Int)) (a : Int) : Nat := o.findIdx fun c => c.1 == a
def rput (o : List (Int × Int)) (c : Int × Int) : List (Int × Int) := if idx o c.1 < o.length then o.set (idx o c.1) c else o ++ [c]
def wasOf (o : List (Int × Int)) (c : Int × Int) : Int × Int × Bool := if idx o c.1 < o.length then ((idx o c.1 : Int), (o.getD (idx o c.1) (0, 0)).2, false) else ((o.length : Int), 0, true)
def undo (o : List (Int × Int)) (w : Int × Int × Bool) : List (Int × Int) := if w.2.2 = true then o.take w.1.toNat else o.set w.1.toNat ((o.getD w.1.toNat (0, 0)).1, w.2.1)
def lg (L : List (Int × Int)) : List (Int × Int) × List (Int × Int × Bool) := L.foldl (fun s c => (rput s.1 c, s.2 ++ [wasOf s.1 c])) ([], [])
def redo (L : List (Int × Int)) : List (Int × Int) := (lg L).1
def pasts (L : List (Int × Int)) : List (Int × Int × Bool) := (lg L).2
section
variable {o L : List (Int × Int)} {a x : Int} {c : Int × Int}
theorem idx_lt : idx o a < o.length ↔ a ∈ o.map (·.1) := by
  unfold idx
  rw [List.findIdx_lt_length]
  simp only [List.mem_map, beq_iff_eq]
theorem idx_get (h : idx o a < o.length) : (o[idx o a]'h).1 = a := by
  have := List.findIdx_getElem (p := fun c : Int × Int => c.1 == a) (xs := o) (w := h)
  have e : ((o[idx o a]'h).1 == a) = true := this
  simpa using e
theorem idx_le : idx o a ≤ o.length := List.findIdx_le_length
theorem redo_nil : redo [] = [] := rfl
theorem pasts_nil : pasts [] = [] := rfl
theorem redo_snoc : redo (L ++ [c]) = rput (redo L) c := by simp [redo, lg]
theorem pasts_snoc : pasts (L ++ [c]) = pasts L ++ [wasOf (redo L) c] := by simp [redo, pasts, lg]
theorem pasts_len : (pasts L).length = L.length := by
  refine snoc_ind (P := fun L => (pasts L).length = L.length) rfl (fun L c ih => ?_) L
  rw [pasts_snoc, List.length_append, List.length_append, ih]
  rfl
theorem rput_len : (rput o c).length ≤ o.length + 1 := by unfold rput; split <;> simp
theorem rput_ge : o.length ≤ (rput o c).length := by unfold rput; split <;> simp
theorem undo_rput : undo (rput o c) (wasOf o c) = o := by
  unfold undo rput wasOf
  by_cases h : idx o c.1 < o.length
  · rw [if_pos h, if_pos h]
    simp only [Bool.false_eq_true, if_false, Int.toNat_natCast, List.set_set]
    apply List.ext_getElem
    · simp
    · intro i h1 h2
      rw [List.getElem_set]
      split
      · rename_i e
        subst e
        simp only [List.getD_eq_getElem?_getD, List.getElem?_set_self h, List.getElem?_eq_getElem h, Option.getD_some]
        exact Prod.ext (idx_get h).symm rfl
      · rfl
  · rw [if_neg h, if_neg h]
    simp
end
end Go.Proofs.YtfhpnlaabgkpjaaDoor
/- Put, by contract (a table of int). -/
namespace Go.Proofs.YtfhpnlaabgkpjaaDoor
open Go.RowKit
set_option maxHeartbeats 4000000
set_option linter.unusedVariables false
set_option linter.unusedSimpArgs false

/-- sl slots: used, key, value -/
def SltI (w : World) (g sl : Nat) (U : Nat → Bool) (K : Nat → Int) (X : Nat → Value) : Prop :=
  ∃ cs, Blk w g 98 cs ∧ ∀ i, i < sl → cs[i * 3]? = some (.bool (U i)) ∧ cs[i * 3 + 1]? = some (.int .u64 (K i)) ∧ cs[i * 3 + 2]? = some (X i)
theorem SltI.at_ {w : World} {g sl : Nat} {U : Nat → Bool} {K : Nat → Int} {X : Nat → Value} (h : SltI w g sl U K X) : SlotsAt w g sl U K := by
  obtain ⟨cs, hb, hc⟩ := h
  intro i hi
  obtain ⟨h1, h2, _⟩ := hc i hi
  exact ⟨(Blk.cell hb _).trans h1, (Blk.cell hb _).trans h2⟩
theorem SltI.val {w : World} {g sl : Nat} {U : Nat → Bool} {K : Nat → Int} {X : Nat → Value} (h : SltI w g sl U K X) {i : Nat} (hi : i < sl) : w.cell? ⟨g, i * 3 + 2, none⟩ = some (X i) ∧ ∀ n, w.frozen? ⟨g, n, none⟩ = false := by
  obtain ⟨cs, hb, hc⟩ := h
  exact ⟨(Blk.cell hb _).trans (hc i hi).2.2, fun n => Blk.frozen hb n⟩
set_option maxRecDepth 100000 in
theorem putI_had {t g k fuel j m cz : Nat} {key : Int} {U : Nat → Bool} {K : Nat → Int} {X : Nat → Value} {c1 : Value} {w : World} {x y : Int} (hT : Tab w) (ht : Blk w t 94 #[.slice (some ⟨g, 0, none⟩) (2 ^ k : Nat) cz, c1])
    (hS : SltI w g (2 ^ k) U K X) (h1 : 1 ≤ k) (h2 : k ≤ 62) (hf : fuel ≤ 4611686018427387904) (hl : lgo U K key (2 ^ k) fuel (homeOf key k).toNat 1 = some (j, m)) (hj : j < 2 ^ k) (hu : U j = true) (hx : X j = .int .i64 x) :
    Calls Tryd.prog 46 #[.pointer (some ⟨t, 0, none⟩), .int .u64 key, .int .i64 y] w fun e w' => e = .returned (.tuple #[.int .i64 x, .bool true, .int .i64 0]) ∧ w' = (w.alloc (.cells #[.pointer (some ⟨t, 0, none⟩)] 67)).setCell ⟨g, j * 3 + 2, none⟩ (.int .i64 y) := by
  have S1 : SltI (w.alloc (.cells #[.pointer (some ⟨t, 0, none⟩)] 67)) g (2 ^ k) U K X := by obtain ⟨cs, hb, hc⟩ := hS; exact ⟨cs, hb.alloc _, hc⟩
  have B1 := Blk.alloc ht (.cells #[.pointer (some ⟨t, 0, none⟩)] 67)
  have C := Lib.hid (lookI_b (hT.alloc _) B1 S1.at_ h1 h2 hf hl)
  have d0 := B1.cell 0
  have hjl : decide (j < 2 ^ k) = true := decide_eq_true hj
  have d0 : (w.alloc (.cells #[.pointer (some ⟨t, 0, none⟩)] 67)).cell? ⟨t, 0, none⟩ = some (.slice (some ⟨g, 0, none⟩) (2 ^ k : Nat) cz) := d0
  have M := Lib.hid (madeI_b (c1 := c1) d0)
  have dU := (S1.at_ j hj).1
  obtain ⟨dX, dz⟩ := S1.val hj
  rw [hu] at dU
  rw [hx] at dX
  have dz := dz (j * 3 + 2)
  clear hT ht hS hf hl B1 S1 hu hx
  generalize 2 ^ k = sl at *
  go_enter Tryd.func46, Tryd.ntmps46
  go_wp2_with fail
  refine M.out.mono ?_
  rintro _ w2 ⟨rfl, rfl⟩
  go_wp2_with fail
  refine C.out.mono ?_
  rintro _ w2 ⟨rfl, rfl⟩
  go_wp2
  go_ret3
  exact ⟨rfl, rfl⟩
end Go.Proofs.YtfhpnlaabgkpjaaDoor
/- Put of a new key, without a growing, by contract (a table of int). -/
namespace Go.Proofs.YtfhpnlaabgkpjaaDoor
open Go.RowKit
set_option maxHeartbeats 4000000
set_option linter.unusedVariables false
set_option linter.unusedSimpArgs false

theorem SltI.put {w : World} {g sl : Nat} {U : Nat → Bool} {K : Nat → Int} {X : Nat → Value} (h : SltI w g sl U K X) {j : Nat} (hj : j < sl) (key : Int) (x : Value) {n : Nat} :
    SltI ((((w.drewN n).setCell ⟨g, j * 3, none⟩ (.bool true)).setCell ⟨g, j * 3 + 1, none⟩ (.int .u64 key)).setCell ⟨g, j * 3 + 2, none⟩ x) g sl (fun i => if i = j then true else U i) (fun i => if i = j then key else K i) (fun i => if i = j then x else X i) := by
  obtain ⟨cs, hb, hc⟩ := h
  refine ⟨_, (((hb.drewN n).set_ (j * 3) (.bool true)).set_ (j * 3 + 1) (.int .u64 key)).set_ (j * 3 + 2) x, fun i hi => ?_⟩
  obtain ⟨c0, c1, c2⟩ := hc i hi
  obtain ⟨j0, j1, j2⟩ := hc j hj
  have s0 := (Array.getElem?_eq_some_iff.1 j0).1
  have s1 := (Array.getElem?_eq_some_iff.1 j1).1
  have s2 := (Array.getElem?_eq_some_iff.1 j2).1
  by_cases e : i = j
  · subst e
    simp [Array.getElem?_setIfInBounds, s0, s1, s2]
  · have a0 : j * 3 ≠ i * 3 := by omega
    have a1 : j * 3 + 1 ≠ i * 3 := by omega
    have a2 : j * 3 + 2 ≠ i * 3 := by omega
    have b0 : j * 3 ≠ i * 3 + 1 := by omega
    have b1 : j * 3 + 1 ≠ i * 3 + 1 := by omega
    have b2 : j * 3 + 2 ≠ i * 3 + 1 := by omega
    have d0 : j * 3 ≠ i * 3 + 2 := by omega
    have d1 : j * 3 + 1 ≠ i * 3 + 2 := by omega
    have d2 : j * 3 + 2 ≠ i * 3 + 2 := by omega
    simp only [Array.getElem?_setIfInBounds, a0, a1, a2, b0, b1, b2, d0, d1, d2, if_false, if_neg e]
    exact ⟨c0, c1, c2⟩
set_option maxRecDepth 100000 in
theorem putI_new {t g k fuel j m cz : Nat} {key : Int} {U : Nat → Bool} {Ky : Nat → Int} {X : Nat → Value} {A : Option Addr} {cp : Nat} {l : List Int} {w : World} {y : Int} (hT : Tab w) (ht : Blk w t 94 #[.slice (some ⟨g, 0, none⟩) (2 ^ k : Nat) cz, .slice A l.length cp])
    (hS : SltI w g (2 ^ k) U Ky X) (hv : Wl w (.slice A l.length cp) l) (h1 : 1 ≤ k) (h2 : k ≤ 62) (hf : fuel ≤ 4611686018427387904) (hl : lgo U Ky key (2 ^ k) fuel (homeOf key k).toNat 1 = some (j, m)) (hj : j < 2 ^ k) (hu : U j = false)
    (hroom : 4 * (l.length + 1) ≤ 3 * 2 ^ k) (hlen : (l.length + 1) * 8 ≤ 140737488355328) (hsl : 2 ^ k ≤ 8796093022208) :
    Calls Tryd.prog 46 #[.pointer (some ⟨t, 0, none⟩), .int .u64 key, .int .i64 y] w fun e w' => e = .returned (.tuple #[.int .i64 0, .bool false, .int .i64 0]) ∧
      ∃ A' cp', Blk w' t 94 #[.slice (some ⟨g, 0, none⟩) (2 ^ k : Nat) cz, .slice A' (l.length + 1) cp'] ∧ SltI w' g (2 ^ k) (fun i => if i = j then true else U i) (fun i => if i = j then key else Ky i) (fun i => if i = j then .int .i64 y else X i) ∧
        Wl w' (.slice A' (l.length + 1) cp') (l ++ [key]) ∧ Fr (fun b => b = t ∨ b = g ∨ own (.slice A l.length cp) b) w (fun b => b = t ∨ b = g ∨ own (.slice A' (l.length + 1) cp') b) w' := by
  have S1 : SltI (w.alloc (.cells #[.pointer (some ⟨t, 0, none⟩)] 67)) g (2 ^ k) U Ky X := by obtain ⟨cs, hb, hc⟩ := hS; exact ⟨cs, hb.alloc _, hc⟩
  have B1 := Blk.alloc ht (.cells #[.pointer (some ⟨t, 0, none⟩)] 67)
  have V1 := hv.alloc (.cells #[.pointer (some ⟨t, 0, none⟩)] 67)
  have P1 := Blk.new w 67 #[.pointer (some ⟨t, 0, none⟩)]
  have M1 : Fr (fun b => b = t ∨ b = g ∨ own (.slice A l.length cp) b) w (fun b => b = t ∨ b = g ∨ own (.slice A l.length cp) b) (w.alloc (.cells #[.pointer (some ⟨t, 0, none⟩)] 67)) := (Fr.refl _ w).alloc _
  have hpt : w.heap.size ≠ t := by have := Blk.lt ht; omega
  have hpg : w.heap.size ≠ g := by obtain ⟨cs, hb, _⟩ := hS; have := Blk.lt hb; omega
  have hpv : ¬ own (.slice A l.length cp) w.heap.size := fun e => by have := hv.lt _ e; omega
  have C := Lib.hid (lookI_b (hT.alloc _) B1 S1.at_ h1 h2 hf hl)
  have d0 : (w.alloc (.cells #[.pointer (some ⟨t, 0, none⟩)] 67)).cell? ⟨t, 0, none⟩ = some (.slice (some ⟨g, 0, none⟩) (2 ^ k : Nat) cz) := B1.cell 0
  have d1 : (w.alloc (.cells #[.pointer (some ⟨t, 0, none⟩)] 67)).cell? ⟨t, 1, none⟩ = some (.slice A l.length cp) := B1.cell 1
  have p0 : (w.alloc (.cells #[.pointer (some ⟨t, 0, none⟩)] 67)).cell? ⟨w.heap.size, 0, none⟩ = some (.pointer (some ⟨t, 0, none⟩)) := P1.cell 0
  have hjl : decide (j < 2 ^ k) = true := decide_eq_true hj
  have M := Lib.hid (madeI_b (c1 := .slice A l.length cp) d0)
  have dU := (S1.at_ j hj).1
  have dK := (S1.at_ j hj).2
  have dX := (S1.val hj).1
  rw [hu] at dU
  have dz := (S1.val hj).2
  have z0 := dz (j * 3)
  have z1 := dz (j * 3 + 1)
  have z2 := dz (j * 3 + 2)
  clear hT ht hS hv hf hl hu dz
  generalize 2 ^ k = sl at *
  have hgr : decide (4 * ((l.length : Int) + 1) > 3 * (sl : Int)) = false := decide_eq_false (by omega)
  have hl1 : (l.length : Int) ≤ 17592186044416 := by omega
  have hl2 : (sl : Int) ≤ 8796093022208 := by omega
  have B1 := Lib.hid B1
  have S1 := Lib.hid S1
  have V1 := Lib.hid V1
  have P1 := Lib.hid P1
  have M1 := Lib.hid M1
  obtain ⟨w1, hw1⟩ : ∃ u, Hid (u = w.alloc (.cells #[.pointer (some ⟨t, 0, none⟩)] 67)) := ⟨_, Lib.hid rfl⟩
  rw [← hw1.out] at B1 S1 V1 P1 M1 C M d0 d1 p0 dU dK dX z0 z1 z2
  go_enter Tryd.func46, Tryd.ntmps46
  go_wp2_with fail
  rw [← hw1.out]
  refine M.out.mono ?_
  rintro _ w2 ⟨rfl, rfl⟩
  go_wp2_with fail
  refine C.out.mono ?_
  rintro _ w2 ⟨rfl, rfl⟩
  go_wp2
  have q1 : IntKind.i64.wrap ((l.length : Int) + 1) = (l.length : Int) + 1 := IntWalk.i64_in _ (by omega)
  have q2 : IntKind.i64.wrap (4 * ((l.length : Int) + 1)) = 4 * ((l.length : Int) + 1) := IntWalk.i64_in _ (by omega)
  have q3 : IntKind.i64.wrap (3 * (sl : Int)) = 3 * (sl : Int) := IntWalk.i64_in _ (by omega)
  refine wp_region_mix (fun _ => True) [1, 3, 3, 1, 3, 3, 3, 1, 3, 3, 1, 3, 3, 3] (List.range 14) (by kernel_rfl) (by kernel_rfl) (fun _ _ h => h) trivial ?_
  repeat ((first | refine wpMix_pure rfl rfl (fun K hK => ?_) | refine wpMix_loc rfl rfl (fun K hK => ?_) | refine wpMix_any rfl rfl (fun K hK => ?_)); go_simp; refine hK _ _ ?_; clear hK K)
  refine wpMix_nil (fun n1 => ?_)
  go_wp2
  clear d0 d1 p0 dU dK dX z0 z1 z2 M C
  have hgt : t ≠ g := by obtain ⟨cs, hb, _⟩ := S1.out; exact Blk.ne_ B1.out hb (by decide)
  have hvg : ¬ own (.slice A l.length cp) g := by obtain ⟨cs, hb, _⟩ := S1.out; exact Rowv.ne_ V1.out hb (by decide)
  have hvt : ¬ own (.slice A l.length cp) t := Rowv.ne_ V1.out B1.out (by decide)
  obtain ⟨w2, hw2⟩ : ∃ u, u = ((((w1.drewN (1 + n1)).setCell ⟨g, j * 3, none⟩ (.bool true)).setCell ⟨g, j * 3 + 1, none⟩ (.int .u64 key)).setCell ⟨g, j * 3 + 2, none⟩ (.int .i64 y)) := ⟨_, rfl⟩
  have B2 : Hid (Blk w2 t 94 #[.slice (some ⟨g, 0, none⟩) sl cz, .slice A l.length cp]) := Lib.hid (by rw [hw2]; exact (((B1.out.drewN _).far hgt _).far hgt _).far hgt _)
  have P2 : Hid (Blk w2 w.heap.size 67 #[.pointer (some ⟨t, 0, none⟩)]) := Lib.hid (by rw [hw2]; exact (((P1.out.drewN _).far hpg _).far hpg _).far hpg _)
  have V2 : Hid (Wl w2 (.slice A l.length cp) l) := Lib.hid (by rw [hw2]; exact (((V1.out.drewN _).set (p := ⟨g, _, none⟩) hvg _).set (p := ⟨g, _, none⟩) hvg _).set (p := ⟨g, _, none⟩) hvg _)
  have S2 : Hid (SltI w2 g sl (fun i => if i = j then true else U i) (fun i => if i = j then key else Ky i) (fun i => if i = j then .int .i64 y else X i)) := Lib.hid (by rw [hw2]; exact S1.out.put hj key (.int .i64 y))
  have M2 : Hid (Fr (fun b => b = t ∨ b = g ∨ own (.slice A l.length cp) b) w (fun b => b = t ∨ b = g ∨ own (.slice A l.length cp) b) w2) := Lib.hid (by rw [hw2]; exact ((((M1.out.drewN _).set (p := ⟨g, _, none⟩) (.inl (.inr (.inl rfl))) _).set (p := ⟨g, _, none⟩) (.inl (.inr (.inl rfl))) _).set (p := ⟨g, _, none⟩) (.inl (.inr (.inl rfl))) _))
  rw [← hw2]
  clear hw2 B1 P1 V1 S1 M1 hw1
  have p2 : w2.cell? ⟨w.heap.size, 0, none⟩ = some (.pointer (some ⟨t, 0, none⟩)) := P2.out.cell 0
  have d2 : w2.cell? ⟨t, 1, none⟩ = some (.slice A l.length cp) := B2.out.cell 1
  generalize w.heap.size = pb at *
  refine wp_region_mix (fun W' => W'.cell? ⟨pb, 0, none⟩ = some (.pointer (some ⟨t, 0, none⟩)) ∧ W'.cell? ⟨t, 1, none⟩ = some (.slice A l.length cp)) [0, 0, 3, 3, 0, 3, 2, 2, 3, 3, 2] (List.range 11) (by kernel_rfl) (by kernel_rfl) (fun _ _ h => h) ⟨p2, d2⟩ ?_
  repeat (first | ((first | refine wpMix_pure rfl rfl (fun K hK => ?_) | refine wpMix_loc rfl rfl (fun K hK => ?_) | refine wpMix_any rfl rfl (fun K hK => ?_)); go_simp; refine hK _ _ ?_; clear hK K) | (refine wpMix_any rfl rfl (fun K hK => ?_); rw [if_pos (by go_simp)]; apply Exists.intro; refine And.intro (fun w2 hS2 => ?_) (hK _ _ ?_); (focus (obtain ⟨hs1, hs2⟩ := hS2; go_simp; rfl)); clear hK K))
  refine wpMix_loud rfl rfl (fun n2 K hK => ?_)
  go_wp2
  refine hK _ _ (fun _ => ⟨cell_alloc_ p2, cell_alloc_ d2⟩) ?_; clear hK K
  repeat (first | ((first | refine wpMix_pure rfl rfl (fun K hK => ?_) | refine wpMix_loc rfl rfl (fun K hK => ?_) | refine wpMix_any rfl rfl (fun K hK => ?_)); go_simp; refine hK _ _ ?_; clear hK K) | (refine wpMix_any rfl rfl (fun K hK => ?_); rw [if_pos (by go_simp)]; apply Exists.intro; refine And.intro (fun w2 hS2 => ?_) (hK _ _ ?_); (focus (obtain ⟨hs1, hs2⟩ := hS2; go_simp; rfl)); clear hK K))
  refine wpMix_loud rfl rfl (fun n3 K hK => ?_)
  refine wpList_word ((w2.drewN (1 + n2)).drewN n3) rfl (.tmp 112) (.tmp 114) rfl (.slice A l.length cp) l key rfl ((V2.out.drewN _).drewN _) rfl hlen ?_
  intro A3 c3 w3 hc3 hv3 hm3
  have hgv3 : Hid (∀ cs, Blk w2 g 98 cs → Blk w3 g 98 cs) := Lib.hid fun cs hb => hm3.blk ((hb.drewN _).drewN _) hvg
  have B3 : Hid (Blk w3 t 94 #[.slice (some ⟨g, 0, none⟩) sl cz, .slice A l.length cp]) := Lib.hid (hm3.blk ((B2.out.drewN _).drewN _) hvt)
  have P3 : Hid (Blk w3 pb 67 #[.pointer (some ⟨t, 0, none⟩)]) := Lib.hid (hm3.blk ((P2.out.drewN _).drewN _) hpv)
  have S3 : Hid (SltI w3 g sl (fun i => if i = j then true else U i) (fun i => if i = j then key else Ky i) (fun i => if i = j then .int .i64 y else X i)) := Lib.hid (by obtain ⟨cs, hb, hc⟩ := S2.out; exact ⟨cs, hgv3.out cs hb, hc⟩)
  have V3 := Lib.hid hv3
  have M3 : Hid (Fr (fun b => b = t ∨ b = g ∨ own (.slice A l.length cp) b) w (fun b => b = t ∨ b = g ∨ own (.slice A3 (l.length + 1) c3) b) w3) := Lib.hid (by
    have e1 := (((M2.out.drewN (1 + n2)).drewN n3).trans (hm3.wide fun k hk => .inr (.inr hk)))
    exact e1.into fun k hk => hk.elim (fun h => .inr (.inl (.inl h))) fun hk => hk.elim (fun h => .inr (.inl (.inr (.inl h)))) .inl)
  have p3 : w3.cell? ⟨pb, 0, none⟩ = some (.pointer (some ⟨t, 0, none⟩)) := P3.out.cell 0
  have d3 : w3.cell? ⟨t, 1, none⟩ = some (.slice A l.length cp) := B3.out.cell 1
  have z3 := B3.out.frozen 1
  clear hv3 hm3 V2 B2 P2 S2 M2 hgv3 p2 d2
  refine hK _ _ (fun _ => ⟨p3, d3⟩) ?_; clear hK K
  repeat (first | ((first | refine wpMix_pure rfl rfl (fun K hK => ?_) | refine wpMix_loc rfl rfl (fun K hK => ?_) | refine wpMix_any rfl rfl (fun K hK => ?_)); go_simp; refine hK _ _ ?_; clear hK K) | (refine wpMix_any rfl rfl (fun K hK => ?_); rw [if_pos (by go_simp)]; apply Exists.intro; refine And.intro (fun w2 hS2 => ?_) (hK _ _ ?_); (focus (obtain ⟨hs1, hs2⟩ := hS2; go_simp; rfl)); clear hK K))
  refine wpMix_loud rfl rfl (fun n4 K hK => ?_)
  go_wp2
  refine hK _ _ (fun h => (Bool.false_ne_true ((Eq.symm (by kernel_rfl)).trans h)).elim) ?_; clear hK K
  refine wpMix_nil (fun n5 => ?_)
  go_wp2
  go_ret3
  have hvt3 : ¬ own (.slice A3 (l.length + 1) c3) t := Rowv.ne_ V3.out B3.out (by decide)
  refine ⟨rfl, A3, c3, ((B3.out.drewN _).set_ 1 _).drewN _, ?_, ((V3.out.drewN _).set (p := ⟨t, _, none⟩) hvt3 _).drewN _, ?_⟩
  · obtain ⟨cs, hb, hc⟩ := S3.out
    exact ⟨cs, ((hb.drewN _).far (p := ⟨t, 1, none⟩) (Ne.symm hgt) _).drewN _, hc⟩
  · exact ((M3.out.drewN _).set (p := ⟨t, 1, none⟩) (.inl (.inl rfl)) _).drewN _
end Go.Proofs.YtfhpnlaabgkpjaaDoor
/- Slots cloned; Get, Len, Keys, Copy, by contract (a table of int). -/
namespace Go.Proofs.YtfhpnlaabgkpjaaDoor
open Go.RowKit
set_option maxHeartbeats 4000000
set_option linter.unusedVariables false
set_option linter.unusedSimpArgs false

theorem SltI.lt {w : World} {g sl : Nat} {U : Nat → Bool} {K : Nat → Int} {X : Nat → Value} (h : SltI w g sl U K X) : g < w.heap.size := by obtain ⟨cs, hb, _⟩ := h; exact hb.lt
theorem SltI.alloc {w : World} {g sl : Nat} {U : Nat → Bool} {K : Nat → Int} {X : Nat → Value} (h : SltI w g sl U K X) (o : Obj) : SltI (w.alloc o) g sl U K X := by obtain ⟨cs, hb, hc⟩ := h; exact ⟨cs, hb.alloc o, hc⟩
theorem SltI.drewN {w : World} {g sl : Nat} {U : Nat → Bool} {K : Nat → Int} {X : Nat → Value} (h : SltI w g sl U K X) (n : Nat) : SltI (w.drewN n) g sl U K X := h
theorem SltI.fr {F F' : Nat → Prop} {w w' : World} {g sl : Nat} {U : Nat → Bool} {K : Nat → Int} {X : Nat → Value} (h : SltI w g sl U K X) (hf : Fr F w F' w') (hF : ¬ F g) : SltI w' g sl U K X := by obtain ⟨cs, hb, hc⟩ := h; exact ⟨cs, hf.blk hb hF, hc⟩
theorem slot_infoI : (Tryd.prog.info? 98).map (fun i => (i.zero, i.size, i.bytes)) = some (some (.agg #[.bool false, .int .u64 0, .int .i64 0]), 3, 24) := by kernel_rfl
theorem eqlI (a : Option Addr) (l c : Nat) (w : World) : (binOp .eql 92 (.slice a l c) (.slice none 0 0)).run Tryd.prog w = .ok (.bool a.isNone) w := run_eql_slice_nil 92 _ a l c w Tryd.underlying92
set_option maxRecDepth 100000 in
theorem cloneI_b {g sl cz : Nat} {U : Nat → Bool} {K : Nat → Int} {X : Nat → Value} {w : World} (h : SltI w g sl U K X) (hX : ∀ i, i < sl → (X i).oneCell' = true) (h0 : 0 < sl) (hlen : sl * 24 ≤ 140737488355328) :
    Calls Tryd.prog 60 #[.slice (some ⟨g, 0, none⟩) sl cz] w fun e w' => ∃ g' cz', e = .returned (.slice (some ⟨g', 0, none⟩) sl cz') ∧ SltI w' g' sl U K X ∧ w.heap.size ≤ g' ∧ Fr (fun _ => False) w (fun k => k = g') w' := by
  obtain ⟨cs, hb, hc⟩ := h
  have hsz : sl * 3 ≤ cs.size := by
    have := (Array.getElem?_eq_some_iff.1 (hc (sl - 1) (by omega)).2.2).1
    omega
  obtain ⟨news, hnews⟩ : ∃ news, Hid (news = cs.toList.take (sl * 3)) := ⟨_, Lib.hid rfl⟩
  have hn : news.length = sl * 3 := by rw [hnews.out, List.length_take]; simp; omega
  have hget : ∀ j, j < sl * 3 → news[j]? = cs[j]? := fun j hj => by rw [hnews.out, List.getElem?_take, if_pos hj, Array.getElem?_toList]
  have h1c : ∀ u ∈ news, u.oneCell' = true := by
    intro u hu
    obtain ⟨j, hj⟩ := List.mem_iff_getElem?.1 hu
    have hjl : j < sl * 3 := by rw [← hn]; exact (List.getElem?_eq_some_iff.1 hj).1
    rw [hget j hjl] at hj
    obtain ⟨a0, a1, a2⟩ := hc (j / 3) (by omega)
    rcases (by omega : j = j / 3 * 3 ∨ j = j / 3 * 3 + 1 ∨ j = j / 3 * 3 + 2) with e | e | e
    · rw [e, a0] at hj; cases hj; rfl
    · rw [e, a1] at hj; cases hj; rfl
    · rw [e, a2] at hj; cases hj; exact hX _ (by omega)
  have hcell : ∀ j u, news[j]? = some u → (w.alloc (.cells #[] 98)).cell? ((⟨g, 0, none⟩ : Addr).add j) = some u := fun j u hj => by
    have hjl : j < sl * 3 := by rw [← hn]; exact (List.getElem?_eq_some_iff.1 hj).1
    rw [Addr.add_lit, Nat.zero_add, Blk.cell (hb.alloc _), ← hget j hjl]
    exact hj
  have hcell := Lib.hid hcell
  have h1c := Lib.hid h1c
  have hget := Lib.hid hget
  have hc := Lib.hid hc
  have hn := Lib.hid hn
  clear hX hb
  have eq1 := eqlI
  obtain ⟨i0, hi, hz0, hz1, hz2⟩ := info_parts slot_infoI
  have hi := Lib.hid hi
  have hz0 := Lib.hid hz0
  have hz1 := Lib.hid hz1
  have hz2 := Lib.hid hz2
  have hb1 : 0 + sl ≤ maxLen := by unfold maxLen; omega
  have hb2 : (0 + sl) * 24 ≤ 140737488355328 := by omega
  go_enter Tryd.func60, Tryd.ntmps60
  go_wp2_with (at_builtin; refine wpList_append_arg _ rfl (.tmp 5) (.tmp 6) 92 rfl 98 i0 _ 3 24 Tryd.underlying92 hi.out hz0.out hz1.out hz2.out rfl (by decide) w.heap.size 0 0 0 [] rfl rfl (fun j u hj => by simp at hj) ⟨g, 0, none⟩ sl cz news rfl hn.out hcell.out h1c.out (fun hr => by omega) hb1 hb2 (fun hr => by omega) ?_; intro hlt v' w' hown hgr; rw [List.nil_append, Nat.zero_add] at hown; obtain ⟨g', cap, cur, rfl, hb', hh, hsz2, htk⟩ := ownsRow_made hown h0; have hgr := Lib.hid hgr; have hh := Lib.hid hh; have htk := Lib.hid htk; clear hown)
  go_ret
  refine ⟨_, _, rfl, ⟨cur, hh.out, fun i hi => ?_⟩, by simp at hb'; omega, ?_⟩
  · have e : ∀ j, j < sl * 3 → cur[j]? = cs[j]? := fun j hj => by
      rw [← hget.out j hj, ← htk.out, List.getElem?_take, if_pos hj, Array.getElem?_toList]
    obtain ⟨a0, a1, a2⟩ := hc.out i hi
    exact ⟨(e _ (by omega)).trans a0, (e _ (by omega)).trans a1, (e _ (by omega)).trans a2⟩
  · have e1 : Fr (fun _ => False) w (fun _ => False) (w.alloc (.cells #[] 98)) := (Fr.refl _ w).alloc _
    refine (e1.grown hgr.out fun k hk => by cases hk).into fun k hk => .inr (.inr ?_)
    rw [hk]
    simp at hb'
    omega
set_option maxRecDepth 100000 in
theorem getI_b {t g k fuel j m cz : Nat} {key : Int} {U : Nat → Bool} {K : Nat → Int} {X : Nat → Value} {c1 : Value} {w : World} (hT : Tab w) (ht : Blk w t 94 #[.slice (some ⟨g, 0, none⟩) (2 ^ k : Nat) cz, c1])
    (hS : SltI w g (2 ^ k) U K X) (h1 : 1 ≤ k) (h2 : k ≤ 62) (hf : fuel ≤ 4611686018427387904) (hl : lgo U K key (2 ^ k) fuel (homeOf key k).toNat 1 = some (j, m)) (hj : j < 2 ^ k) :
    Calls Tryd.prog 45 #[.pointer (some ⟨t, 0, none⟩), .int .u64 key] w fun e w' => e = .returned (.tuple #[X j, .bool (U j)]) ∧ ∃ n, w' = w.drewN n := by
  have C := Lib.hid (lookI_b hT ht hS.at_ h1 h2 hf hl)
  have d0 : w.cell? ⟨t, 0, none⟩ = some (.slice (some ⟨g, 0, none⟩) (2 ^ k : Nat) cz) := ht.cell 0
  have M := Lib.hid (madeI_b (c1 := c1) d0)
  have dU := (hS.at_ j hj).1
  have dX := (hS.val hj).1
  have hjl : decide (j < 2 ^ k) = true := decide_eq_true hj
  clear hT ht hS hf hl h1 h2
  generalize 2 ^ k = sl at *
  generalize X j = x at *
  generalize U j = u at *
  go_enter Tryd.func45, Tryd.ntmps45
  go_wp2_with fail
  refine M.out.mono ?_
  rintro _ w2 ⟨rfl, rfl⟩
  go_wp2_with fail
  refine C.out.mono ?_
  rintro _ w2 ⟨rfl, rfl⟩
  go_wp2
  refine wp_region_mix (fun _ => True) [3, 3, 3, 1, 3, 3, 3, 1, 3, 3, 3, 1, 3, 3, 3, 1, 3, 3] (List.range 18) (by kernel_rfl) (by kernel_rfl) (fun _ _ h => h) trivial ?_
  repeat ((first | refine wpMix_pure rfl rfl (fun K hK => ?_) | refine wpMix_loc rfl rfl (fun K hK => ?_) | refine wpMix_any rfl rfl (fun K hK => ?_)); go_simp; refine hK _ _ ?_; clear hK K)
  refine wpMix_nil (fun n1 => ?_)
  go_wp2
  go_ret2
  exact ⟨rfl, 1 + n1, drewN_drewN w 1 n1⟩
theorem keysI_b {t g sl cz : Nat} {A : Option Addr} {cp : Nat} {l : List Int} {w : World} (ht : Blk w t 94 #[.slice (some ⟨g, 0, none⟩) sl cz, .slice A l.length cp]) (hv : Wl w (.slice A l.length cp) l) (hlen : l.length * 8 ≤ 140737488355328) :
    Calls Tryd.prog 63 #[.pointer (some ⟨t, 0, none⟩)] w fun e w' => ∃ A' cp', e = .returned (.slice A' l.length cp') ∧ Wl w' (.slice A' l.length cp') l ∧ Fr (fun _ => False) w (own (.slice A' l.length cp')) w' := by
  have d0 : w.cell? ⟨t, 0, none⟩ = some (.slice (some ⟨g, 0, none⟩) sl cz) := ht.cell 0
  have d1 : w.cell? ⟨t, 1, none⟩ = some (.slice A l.length cp) := ht.cell 1
  have M := Lib.hid (madeI_b (c1 := .slice A l.length cp) d0)
  have C := Lib.hid (clone_b hv.lies hlen)
  clear ht hv
  go_enter Tryd.func63, Tryd.ntmps63
  go_wp2_with fail
  refine M.out.mono ?_
  rintro _ w2 ⟨rfl, rfl⟩
  go_wp2_with fail
  refine C.out.mono ?_
  rintro _ w2 ⟨A', cp', rfl, hv, hm⟩
  have hv := Lib.hid hv
  have hm := Lib.hid hm
  clear C M
  go_wp2
  go_ret
  exact ⟨_, _, rfl, hv.out, hm.out⟩
end Go.Proofs.YtfhpnlaabgkpjaaDoor
/- Copy, by contract (a table of int). -/
namespace Go.Proofs.YtfhpnlaabgkpjaaDoor
open Go.RowKit
set_option maxHeartbeats 4000000
set_option linter.unusedVariables false
set_option linter.unusedSimpArgs false

set_option maxRecDepth 100000 in
theorem copyI_b {t g sl cz : Nat} {U : Nat → Bool} {K : Nat → Int} {X : Nat → Value} {A : Option Addr} {cp : Nat} {l : List Int} {w : World} (ht : Blk w t 94 #[.slice (some ⟨g, 0, none⟩) sl cz, .slice A l.length cp])
    (hS : SltI w g sl U K X) (hv : Wl w (.slice A l.length cp) l) (hX : ∀ i, i < sl → (X i).oneCell' = true) (h0 : 0 < sl) (hlen : sl * 24 ≤ 140737488355328) (hl8 : l.length * 8 ≤ 140737488355328) :
    Calls Tryd.prog 55 #[.pointer (some ⟨t, 0, none⟩)] w fun e w' => ∃ t' g' cz' A' cp', e = .returned (.pointer (some ⟨t', 0, none⟩)) ∧ Blk w' t' 94 #[.slice (some ⟨g', 0, none⟩) sl cz', .slice A' l.length cp'] ∧
      SltI w' g' sl U K X ∧ Wl w' (.slice A' l.length cp') l ∧ Fr (fun _ => False) w (fun b => b = t' ∨ b = g' ∨ own (.slice A' l.length cp') b) w' := by
  have d0 : w.cell? ⟨t, 0, none⟩ = some (.slice (some ⟨g, 0, none⟩) sl cz) := ht.cell 0
  have d1 : w.cell? ⟨t, 1, none⟩ = some (.slice A l.length cp) := ht.cell 1
  have M := Lib.hid (madeI_b (c1 := .slice A l.length cp) d0)
  have B0 := Lib.hid ht
  have S0 := Lib.hid hS
  have V0 := Lib.hid hv
  have hX := Lib.hid hX
  clear ht hS hv
  go_enter Tryd.func55, Tryd.ntmps55
  go_wp2_with fail
  refine M.out.mono ?_
  rintro _ w2 ⟨rfl, rfl⟩
  go_wp2_with fail
  refine wp_region_mix (fun W' => W'.cell? ⟨t, 1, none⟩ = some (.slice A l.length cp)) [3, 3, 3, 1, 2, 3, 3, 3, 0, 2, 2, 2, 3] [0, 1, 2, 3, 5, 6, 7, 8, 4, 9, 10, 11, 12] (by kernel_rfl) (by kernel_rfl) (fun _ _ h => h) d1 ?_
  repeat (first | ((first | refine wpMix_pure rfl rfl (fun K hK => ?_) | refine wpMix_loc rfl rfl (fun K hK => ?_) | refine wpMix_any rfl rfl (fun K hK => ?_)); go_simp; refine hK _ _ ?_; clear hK K) | (refine wpMix_any rfl rfl (fun K hK => ?_); rw [if_pos (by go_simp)]; apply Exists.intro; refine And.intro (fun w2 hS2 => ?_) (hK _ _ ?_); (focus (obtain hs1 := hS2; go_simp; rfl)); clear hK K))
  refine wpMix_loud rfl rfl (fun n1 K hK => ?_)
  go_wp2_with fail
  refine (cloneI_b (S0.out.drewN (1 + n1)) hX.out h0 hlen).mono ?_
  rintro _ w3 ⟨g3, z3, rfl, s3, ge3, m3⟩
  have S3 := Lib.hid s3
  have ge3 := Lib.hid ge3
  have M3 := Lib.hid m3
  have V3 : Hid (Wl w3 (.slice A l.length cp) l) := Lib.hid ((V0.out.drewN (1 + n1)).frs m3 fun k _ h => h)
  have B3 := Lib.hid (m3.blk (B0.out.drewN (1 + n1)) fun h => h)
  have d3 : w3.cell? ⟨t, 1, none⟩ = some (.slice A l.length cp) := B3.out.cell 1
  clear s3 m3 d0
  go_wp2_with fail
  refine hK _ _ (fun _ => d3) ?_; clear hK K
  repeat (first | ((first | refine wpMix_pure rfl rfl (fun K hK => ?_) | refine wpMix_loc rfl rfl (fun K hK => ?_) | refine wpMix_any rfl rfl (fun K hK => ?_)); go_simp; refine hK _ _ ?_; clear hK K) | (refine wpMix_any rfl rfl (fun K hK => ?_); rw [if_pos (by go_simp)]; apply Exists.intro; refine And.intro (fun w2 hS2 => ?_) (hK _ _ ?_); (focus (obtain hs1 := hS2; go_simp; rfl)); clear hK K))
  refine wpMix_loud rfl rfl (fun n2 K hK => ?_)
  go_wp2_with fail
  refine (clone_b (V3.out.lies.drewN n2) hl8).mono ?_
  rintro _ w4 ⟨A4, c4, rfl, v4, m4⟩
  have V4 := Lib.hid v4
  have M4 := Lib.hid m4
  have S4 := Lib.hid (S3.out.drewN n2 |>.fr m4 fun h => h)
  clear v4 m4 d3 d1
  go_wp2_with fail
  refine hK _ _ (fun h => (Bool.false_ne_true ((Eq.symm (by kernel_rfl)).trans h)).elim) ?_; clear hK K
  repeat ((first | refine wpMix_pure rfl rfl (fun K hK => ?_) | refine wpMix_loc rfl rfl (fun K hK => ?_) | refine wpMix_any rfl rfl (fun K hK => ?_)); go_simp; refine hK _ _ ?_; clear hK K)
  refine wpMix_loud rfl rfl (fun n3 K hK => ?_)
  go_wp2_with fail
  refine hK _ _ (fun h => (Bool.false_ne_true ((Eq.symm (by kernel_rfl)).trans h)).elim) ?_; clear hK K
  repeat ((first | refine wpMix_pure rfl rfl (fun K hK => ?_) | refine wpMix_loc rfl rfl (fun K hK => ?_) | refine wpMix_any rfl rfl (fun K hK => ?_)); go_simp; refine hK _ _ ?_; clear hK K)
  refine wpMix_loud rfl rfl (fun n4 K hK => ?_)
  go_wp2_with fail
  refine hK _ _ (fun h => (Bool.false_ne_true ((Eq.symm (by kernel_rfl)).trans h)).elim) ?_; clear hK K
  repeat ((first | refine wpMix_pure rfl rfl (fun K hK => ?_) | refine wpMix_loc rfl rfl (fun K hK => ?_) | refine wpMix_any rfl rfl (fun K hK => ?_)); go_simp; refine hK _ _ ?_; clear hK K)
  refine wpMix_nil (fun n5 => ?_)
  go_wp2
  go_ret
  have e3 : Fr (fun _ => False) w (fun k => k = g3) w3 := ((Fr.refl (fun _ => False) w).drewN (1 + n1)).trans M3.out
  have e4 := (e3.drewN n2).beside M4.out fun k hk => hk.elim
  have e5 := ((e4.drewN (n3 + n4)).alloc (.cells #[.slice (some ⟨g3, 0, none⟩) sl z3, .slice A4 l.length c4] 94)).drewN n5
  refine ⟨_, g3, z3, A4, c4, rfl, (Blk.new (w4.drewN (n3 + n4)) 94 #[.slice (some ⟨g3, 0, none⟩) sl z3, .slice A4 l.length c4]).drewN n5, ((S4.out.drewN (n3 + n4)).alloc _).drewN n5, ((V4.out.drewN (n3 + n4)).alloc _).drewN n5, e5.into fun k hk => ?_⟩
  rcases hk with rfl | rfl | hk
  · exact .inr (.inr e4.size)
  · exact .inl rfl
  · rcases M4.out.new k hk with h | h
    · exact h.elim
    · exact .inr (.inr (Nat.le_trans e3.size h))
end Go.Proofs.YtfhpnlaabgkpjaaDoor
