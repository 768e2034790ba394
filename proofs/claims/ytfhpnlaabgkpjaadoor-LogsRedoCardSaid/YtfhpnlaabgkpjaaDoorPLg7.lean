/- The program's read log and the document's in one world. -/
import Derived.Test.YtfhpnlaabgkpjaaDoorPLg2
import Derived.Test.YtfhpnlaabgkpjaaDoorPLg3
import Derived.Test.YtfhpnlaabgkpjaaDoorPLg6
namespace Go.Proofs.YtfhpnlaabgkpjaaDoor
open Go.RowKit Go.Shelf
set_option maxHeartbeats 4000000
set_option linter.unusedVariables false
set_option linter.unusedSimpArgs false

/-- the program's read log at r and the document's at q hold the entries l; X: their blocks -/
structure PD (w : World) (X : Nat → Prop) (r q most : Nat) (l : List (Int × Int)) : Prop where
  tb : ∃ F G, X = (fun j => F j ∨ G j) ∧ RdW w r F most l ∧ LgR w q G most l ∧ (∀ x, F x → ¬ G x)
  hm : most ≤ 1048576
  hl : l.length ≤ most
  hn : ∀ x ∈ l, 0 ≤ x.1 ∧ x.1 ≤ 18446744073709551615
section
variable {w w' : World} {X F G : Nat → Prop} {r q most : Nat} {l : List (Int × Int)}
theorem PD.lt (h : PD w X r q most l) : ∀ j, X j → j < w.heap.size := by
  obtain ⟨F, G, rfl, h1, h2, _⟩ := h.tb
  exact fun j hj => hj.elim (h1.lt j) (h2.lt j)
theorem PD.fr (h : PD w X r q most l) (hf : Fr G w F w') (hG : ∀ b, X b → ¬ G b) : PD w' X r q most l := by
  obtain ⟨F1, G1, rfl, h1, h2, hd⟩ := h.tb
  exact ⟨⟨F1, G1, rfl, h1.fr hf fun b hb => hG b (.inl hb), h2.fr hf fun b hb => hG b (.inr hb), hd⟩, h.hm, h.hl, h.hn⟩
theorem PD.new_ (h : PD w X r q most l) (hf : Fr (fun _ => False) w F w') : PD w' X r q most l := h.fr hf fun _ _ h => h
theorem PD.drewN (h : PD w X r q most l) (n : Nat) : PD (w.drewN n) X r q most l := h.new_ ((Fr.refl (fun _ => False) w).drewN n)
theorem Fr.cell_ {w w' : World} {F F' : Nat → Prop} (h : Fr F w F' w') {p : Addr} {u : Value} (hc : w.cell? p = some u) (hp : ¬ F p.block) : w'.cell? p = some u := by
  obtain ⟨o, ho, _⟩ := cells_of_cell hc
  have e := h.block p.block (Array.getElem?_eq_some_iff.1 ho).1 hp
  unfold World.cell? at *
  simp only [e]
  exact hc
theorem Lies.frz {w w' : World} {F' : Nat → Prop} {v : Value} {l : List Int} (h : Lies w v l) (hf : Fr (fun _ => False) w F' w') : Lies w' v l := by
  obtain ⟨A, cp, rfl, hc, h0, h⟩ := h
  refine ⟨A, cp, rfl, hc, h0, fun j hj => ?_⟩
  obtain ⟨g, o, rfl, hcell⟩ := h j hj
  exact ⟨g, o, rfl, hf.keep_cell hcell⟩
theorem Lent.frz {w w' : World} {F' : Nat → Prop} {v : Value} {l : List Int} (h : Lent w v l) (hf : Fr (fun _ => False) w F' w') : Lent w' v l := by
  obtain ⟨A, cap, rfl, hc, h⟩ := h
  exact ⟨A, cap, rfl, hc, h.frs hf fun _ _ h => h⟩
/-- one of two turned -/
theorem Fr.left {A B A' : Nat → Prop} (hf : Fr A w A' w') : Fr (fun j => A j ∨ B j) w (fun j => A' j ∨ B j) w' :=
  (hf.wide fun k hk => .inl hk).into fun k hk => hk.elim .inl fun h => .inr (.inl (.inr h))
theorem Fr.right {A B B' : Nat → Prop} (hf : Fr B w B' w') : Fr (fun j => A j ∨ B j) w (fun j => A j ∨ B' j) w' :=
  (hf.wide fun k hk => .inr hk).into fun k hk => hk.elim (fun h => .inr (.inl (.inl h))) .inl
theorem Fr.apart1 {A B A' : Nat → Prop} (hf : Fr A w A' w') (hd : ∀ x, A x → ¬ B x) (hB : ∀ x, B x → x < w.heap.size) : ∀ x, A' x → ¬ B x := fun x hx hb => (hf.new x hx).elim (fun h => hd x h hb) fun h => by have := hB x hb; omega
theorem PD.len_b (h : PD w X r q most l) : Calls Tryd.prog 37 #[.pointer (some ⟨r, 0, none⟩)] w fun e w' => e = .returned (.int .i64 (l.length : Int)) ∧ w = w' := by
  obtain ⟨F, G, rfl, h1, h2, hd⟩ := h.tb
  exact rlen_b h1
theorem PD.all_b (h : PD w X r q most l) : Calls Tryd.prog 14 #[.pointer (some ⟨r, 0, none⟩)] w fun e w' => ∃ b, e = .returned (.func (.func 52) #[] #[.pointer (some ⟨b, 0, none⟩)]) ∧ SeqC w' b l ∧ PD w' X r q most l ∧ Fr (fun _ => False) w (fun _ => False) w' := by
  obtain ⟨F, G, rfl, h1, h2, hd⟩ := h.tb
  have := h.hm
  have := h.hl
  exact (rall_b h1 (by omega)).mono fun e w' ⟨b, e1, e2, e3⟩ => ⟨b, e1, e2, h.new_ e3, e3⟩
/-- the document's slice -/
theorem PD.slice (h : PD w X r q most l) : ∃ A cp, Cl w (.slice A l.length cp) l ∧ w.cell? ⟨q, 1, none⟩ = some (.slice A l.length cp) ∧ w.frozen? ⟨q, 1, none⟩ = false ∧ (∀ k, own (.slice A l.length cp) k → X k) ∧ l.length ≤ cp ∧ (cp : Int) ≤ 9223372036854775807 := by
  obtain ⟨F, G, rfl, h1, ⟨A, cp, rfl, hb, hL⟩, hd⟩ := h.tb
  have hcp : l.length ≤ cp := by
    obtain ⟨A', cp', e, hc⟩ := Sl.shape hL
    injection e with e1 e2 e3
    omega
  have hlm : cp ≤ maxLen := by
    rcases hL.2 with ⟨e, _⟩ | ⟨_, _, _, _, e, _, _, _, h, _⟩
    · injection e with _ _ e; unfold maxLen; omega
    · injection e with _ _ e; omega
  unfold maxLen at hlm
  exact ⟨A, cp, hL, hb.cell 1, hb.frozen 1, fun k hk => .inr (.inr hk), hcp, by omega⟩
theorem PD.add_b {a x : Int} (h : PD w X r q most l) (ha : 0 ≤ a ∧ a ≤ 18446744073709551615) : Calls Tryd.prog 35 #[.pointer (some ⟨r, 0, none⟩), .int .u64 a, .int .u64 x] w fun e w' => e = .returned (.int .i64 (if l.length < most then 0 else 5)) ∧
    (∀ p u, w.cell? p = some u → ¬ X p.block → w'.cell? p = some u) ∧ (∀ n, Calls Tryd.prog 39 #[.pointer (some ⟨q, 0, none⟩), .int .u64 a, .int .u64 x] (w'.drewN n) fun e w2 => e = .returned (.int .i64 (if l.length < most then 0 else 5)) ∧ ∃ X' l', PD w2 X' r q most l' ∧ Fr X w X' w2) := by
  obtain ⟨F, G, rfl, h1, h2, hd⟩ := h.tb
  have hm := h.hm
  have hl := h.hl
  refine (radd_b (a := a) (x := x) h1 hm hl).mono ?_
  rintro _ w1 ⟨rfl, F', h1', f1⟩
  refine ⟨rfl, fun p u hc hx => f1.cell_ hc fun h => hx (.inl h), fun n => ?_⟩
  have g2 : LgR (w1.drewN n) q G most l := (h2.fr f1 fun b hb hf => hd b hf hb).drewN n
  refine (dadd_b (a := a) (x := x) g2 (by omega) hm).mono ?_
  rintro _ w2 ⟨rfl, G', h2', f2⟩
  have hd1 := f1.apart1 hd h2.lt
  have f1' : Fr F w F' (w1.drewN n) := f1.drewN n
  refine ⟨rfl, _, if l.length < most then l ++ [(a, x)] else l, ⟨⟨F', G', rfl, (h1'.drewN n).fr f2 hd1, h2', fun y hy hg => (f2.new y hg).elim (hd1 y hy) fun hz => by have := h1'.lt y hy; have : w1.heap.size ≤ y := hz; omega⟩, hm, ?_, ?_⟩, (Fr.left f1').trans (Fr.right f2)⟩
  · split
    · rw [List.length_append, List.length_singleton]; omega
    · exact hl
  · split
    · intro y hy
      rcases List.mem_append.1 hy with hy | hy
      · exact h.hn y hy
      · obtain rfl := List.mem_singleton.1 hy
        exact ha
    · exact h.hn
/-- the program's log cut, then the document's by a store -/
theorem PD.cut_b {n : Nat} (h : PD w X r q most l) (hn : n ≤ l.length) : Calls Tryd.prog 36 #[.pointer (some ⟨r, 0, none⟩), .int .i64 (n : Int)] w fun e w' => e = .returned (.int .i64 0) ∧
    (∀ p u, w.cell? p = some u → ¬ X p.block → w'.cell? p = some u) ∧ ∃ A cp, w'.cell? ⟨q, 1, none⟩ = some (.slice A l.length cp) ∧ w'.frozen? ⟨q, 1, none⟩ = false ∧ l.length ≤ cp ∧ (cp : Int) ≤ 9223372036854775807 ∧
      ∀ m, ∃ X', PD ((w'.drewN m).setCell ⟨q, 1, none⟩ (.slice A n n)) X' r q most (l.take n) ∧ Fr X w X' ((w'.drewN m).setCell ⟨q, 1, none⟩ (.slice A n n)) := by
  obtain ⟨A, cp, _, c1, z1, _, hcp, hcm⟩ := h.slice
  obtain ⟨F, G, rfl, h1, h2, hd⟩ := h.tb
  have hm := h.hm
  have hl := h.hl
  refine (rcut_yes (n := n) h1 (by omega) hn).mono ?_
  rintro _ w1 ⟨rfl, F', h1', f1⟩
  have g2 : LgR w1 q G most l := h2.fr f1 fun b hb hf => hd b hf hb
  obtain ⟨A', cp', rfl, hb, hL⟩ := g2
  have hlen : (l.take n).length = n := by rw [List.length_take]; omega
  have hcp' : l.length ≤ cp' := by
    obtain ⟨A', cp', e, hc⟩ := Sl.shape hL
    injection e with e1 e2 e3
    omega
  have hlm : cp' ≤ maxLen := by
    rcases hL.2 with ⟨e, _⟩ | ⟨_, _, _, _, e, _, _, _, h, _⟩
    · injection e with _ _ e; unfold maxLen; omega
    · injection e with _ _ e; omega
  unfold maxLen at hlm
  refine ⟨rfl, fun p u hc hx => f1.cell_ hc fun h => hx (.inl h), A', cp', hb.cell 1, hb.frozen 1, hcp', by omega, fun m => ?_⟩
  have hV := Sl.cut encC_len (hL.drewN m) hn (Nat.le_refl n) (Nat.le_trans hn hcp')
  obtain ⟨q1, q2, q3⟩ := log_put (i := 1) (v := .slice A' l.length cp') (v3 := .slice A' n n) (hb.drewN m) (hL.drewN m) (by decide) hV ((Fr.refl (own (.slice A' l.length cp')) (w1.drewN m)).into fun k hk => .inl (own_len hk))
  have hd1 := f1.apart1 hd h2.lt
  have f1' : Fr F w F' (w1.drewN m) := f1.drewN m
  have f2 : Fr (fun b => b = q ∨ own (.slice A' l.length cp') b) (w1.drewN m) (fun b => b = q ∨ own (.slice A' (l.take n).length n) b) ((w1.drewN m).setCell ⟨q, 1, none⟩ (.slice A' n n)) := by rw [hlen]; exact q3
  refine ⟨_, ⟨⟨F', _, rfl, (h1'.drewN m).fr f2 hd1, ⟨A', n, rfl, by rw [hlen]; exact q1, by rw [hlen]; exact q2⟩, fun y hy hg => (f2.new y hg).elim (hd1 y hy) fun hz => by have := h1'.lt y hy; have : w1.heap.size ≤ y := hz; omega⟩, hm, by rw [hlen]; omega, fun y hy => h.hn y (List.mem_of_mem_take hy)⟩, (Fr.left f1').trans (Fr.right f2)⟩
theorem PD.cutNo_b {n : Int} (h : PD w X r q most l) (hn : n < 0 ∨ (l.length : Int) < n) (h1 : -9223372036854775808 ≤ n) (h2 : n ≤ 9223372036854775807) : Calls Tryd.prog 36 #[.pointer (some ⟨r, 0, none⟩), .int .i64 n] w fun e w' => e = .returned (.int .i64 2) ∧ w = w' := by
  obtain ⟨F, G, rfl, g1, g2, hd⟩ := h.tb
  exact rcut_no g1 (by have := h.hm; have := h.hl; omega) hn h1 h2
theorem PD.atYes_b {i : Nat} (h : PD w X r q most l) (hi : i < l.length) : Calls Tryd.prog 33 #[.pointer (some ⟨r, 0, none⟩), .int .i64 (i : Int)] w fun e w' =>
    e = .returned (.tuple #[.agg #[.int .u64 (l[i]'hi).1, .int .u64 (l[i]'hi).2], .bool true]) ∧ Fr (fun _ => False) w (fun _ => False) w' := by
  obtain ⟨F, G, rfl, g1, g2, hd⟩ := h.tb
  exact rat_yes g1 (by have := h.hm; have := h.hl; omega) hi
theorem PD.atNo_b {n : Int} (h : PD w X r q most l) (hn : n < 0 ∨ (l.length : Int) ≤ n) (h1 : -9223372036854775808 ≤ n) (h2 : n ≤ 9223372036854775807) : Calls Tryd.prog 33 #[.pointer (some ⟨r, 0, none⟩), .int .i64 n] w fun e w' =>
    e = .returned (.tuple #[.agg #[.int .u64 0, .int .u64 0], .bool false]) ∧ Fr (fun _ => False) w (fun _ => False) w' := by
  obtain ⟨F, G, rfl, g1, g2, hd⟩ := h.tb
  exact rat_no g1 hn h1 h2
theorem PD.stale1_b {cs : List Int} {v : Value} (h : PD w X r q most l) (hv : Lies w v cs) (hc : cs.length ≤ 4611686018427387904) :
    Calls Tryd.prog 34 #[.pointer (some ⟨r, 0, none⟩), v] w fun e w' => e = .returned (.tuple #[.int .i64 (stale cs l).1, .bool (stale cs l).2]) ∧ Fr (fun _ => False) w (fun _ => False) w' := by
  obtain ⟨F, G, rfl, g1, g2, hd⟩ := h.tb
  exact rstale_b g1 (by have := h.hm; have := h.hl; omega) h.hn hv hc
theorem PD.stale2_b {cs : List Int} {v : Value} (h : PD w X r q most l) (hv : Lies w v cs) (hc : cs.length ≤ 4611686018427387904) :
    Calls Tryd.prog 40 #[.pointer (some ⟨q, 0, none⟩), v] w fun e w' => e = .returned (.tuple #[.int .i64 (stale cs l).1, .bool (stale cs l).2]) ∧ ∃ n, w' = w.drewN n := by
  obtain ⟨F, G, rfl, g1, g2, hd⟩ := h.tb
  exact dstale_b g2 (by have := h.hm; have := h.hl; omega) h.hn hv hc
end
end Go.Proofs.YtfhpnlaabgkpjaaDoor
/- A key's slot, as a function; homes. -/
namespace Go.Proofs.YtfhpnlaabgkpjaaDoor
set_option linter.unusedVariables false

def hmk (k : Nat) (key : Int) : Nat := (homeOf key k).toNat
theorem hmk_lt {k : Nat} (h1 : 1 ≤ k) (h2 : k ≤ 62) (x : Int) : hmk k x < 2 ^ k := by
  have h := homeOf_bd x h1 h2
  have : ((2 ^ k : Nat) : Int) = (2 : Int) ^ k := by simp
  unfold hmk
  omega
def slotOf (U : Nat → Bool) (K : Nat → Int) (n : Nat) (h : Nat) (key : Int) : Nat := ((lgo U K key n n h 1).getD (0, 0)).1
def askedOf (U : Nat → Bool) (K : Nat → Int) (n : Nat) (h : Nat) (key : Int) : Nat := ((lgo U K key n n h 1).getD (0, 0)).2
section
variable {n : Nat} {hm : Int → Nat} {U : Nat → Bool} {K : Nat → Int} {l : List Int}
theorem TInv.look (h : TInv n hm U K l) (hb : ∀ x, hm x < n) (key : Int) :
    lgo U K key n n (hm key) 1 = some (slotOf U K n (hm key) key, askedOf U K n (hm key) key) ∧ slotOf U K n (hm key) key < n ∧ 1 ≤ askedOf U K n (hm key) key ∧ askedOf U K n (hm key) key ≤ l.length + 1 ∧
      ((key ∈ l ∧ U (slotOf U K n (hm key) key) = true ∧ K (slotOf U K n (hm key) key) = key) ∨
       (key ∉ l ∧ U (slotOf U K n (hm key) key) = false ∧ ∀ e, e < n → onp (hm key) (slotOf U K n (hm key) key) e → U e = true)) := by
  by_cases hk : key ∈ l
  · obtain ⟨j, hj, hu, hkj, d, hd, hl⟩ := h.look_in hb hk (Nat.le_refl n)
    have e1 : slotOf U K n (hm key) key = j := by unfold slotOf; rw [hl]; rfl
    have e2 : askedOf U K n (hm key) key = 1 + d := by unfold askedOf; rw [hl]; rfl
    rw [e1, e2]
    exact ⟨hl, hj, by omega, by omega, .inl ⟨hk, hu, hkj⟩⟩
  · obtain ⟨j, hj, hu, hp, d, hd, hl⟩ := h.look_out hb hk (Nat.le_refl n)
    have e1 : slotOf U K n (hm key) key = j := by unfold slotOf; rw [hl]; rfl
    have e2 : askedOf U K n (hm key) key = 1 + d := by unfold askedOf; rw [hl]; rfl
    rw [e1, e2]
    exact ⟨hl, hj, by omega, by omega, .inr ⟨hk, hu, hp⟩⟩
end
end Go.Proofs.YtfhpnlaabgkpjaaDoor
/- What a table holds, as a value: a put, a table filled with pairs, a table grown. -/
namespace Go.Proofs.YtfhpnlaabgkpjaaDoor
set_option linter.unusedVariables false

theorem snoc_ind {α : Type} {P : List α → Prop} (h0 : P []) (h1 : ∀ l x, P l → P (l ++ [x])) (l : List α) : P l := by
  have h : ∀ r : List α, P r.reverse := fun r => by
    induction r with
    | nil => exact h0
    | cons x r ih => rw [List.reverse_cons]; exact h1 _ x ih
  have := h l.reverse
  rwa [List.reverse_reverse] at this
structure St (β : Type) where
  U : Nat → Bool
  K : Nat → Int
  X : Nat → β
section
variable {β : Type}
def St.zero (z : β) : St β := ⟨fun _ => false, fun _ => 0, fun _ => z⟩
def St.slot (s : St β) (k : Nat) (key : Int) : Nat := slotOf s.U s.K (2 ^ k) (hmk k key) key
def St.asked (s : St β) (k : Nat) (key : Int) : Nat := askedOf s.U s.K (2 ^ k) (hmk k key) key
def St.set (s : St β) (j : Nat) (key : Int) (x : β) : St β := ⟨fun i => if i = j then true else s.U i, fun i => if i = j then key else s.K i, fun i => if i = j then x else s.X i⟩
def St.put (k : Nat) (s : St β) (key : Int) (x : β) : St β := s.set (s.slot k key) key x
def St.fill (k : Nat) (z : β) (pre : List (Int × β)) : St β := pre.foldl (fun s p => s.put k p.1 p.2) (St.zero z)
def St.Inv (s : St β) (k : Nat) (l : List Int) : Prop := TInv (2 ^ k) (hmk k) s.U s.K l
def kadd (l : List Int) (key : Int) : List Int := if key ∈ l then l else l ++ [key]
def kfold (l : List Int) : List Int := l.foldl kadd []
theorem kadd_len (l : List Int) (key : Int) : (kadd l key).length ≤ l.length + 1 := by unfold kadd; split <;> simp
theorem kfold_snoc (l : List Int) (key : Int) : kfold (l ++ [key]) = kadd (kfold l) key := by simp [kfold]
theorem kfold_len : ∀ (l : List Int), (kfold l).length ≤ l.length := fun l => by
  refine snoc_ind (P := fun l => (kfold l).length ≤ l.length) ?_ ?_ l
  · simp [kfold]
  · intro l x ih; rw [kfold_snoc]; have := kadd_len (kfold l) x; simp; omega
theorem kfold_nodup : ∀ (l : List Int), l.Nodup → kfold l = l := fun l => by
  refine snoc_ind (P := fun l => l.Nodup → kfold l = l) ?_ ?_ l
  · intro _; rfl
  · intro l x ih h
    rw [List.nodup_append] at h
    rw [kfold_snoc, ih h.1, kadd, if_neg fun hx => h.2.2 x hx x (by simp) rfl]
theorem St.fill_snoc (k : Nat) (z : β) (pre : List (Int × β)) (p : Int × β) : St.fill k z (pre ++ [p]) = (St.fill k z pre).put k p.1 p.2 := by simp [St.fill]
theorem St.zero_inv (z : β) (k : Nat) : (St.zero z).Inv k [] where
  path := fun j _ hu => by simp [St.zero] at hu
  uniq := fun i j _ _ hu => by simp [St.zero] at hu
  keys := fun x => by simp [St.zero]
  nodup := List.nodup_nil
  room := Nat.two_pow_pos k
/-- A put, over a key that is there or not. -/
theorem St.Inv.put {s : St β} {k : Nat} {l : List Int} (h : s.Inv k l) (h1 : 1 ≤ k) (h2 : k ≤ 62) (key : Int) (x : β) (hr : l.length + 1 < 2 ^ k) : (s.put k key x).Inv k (kadd l key) := by
  obtain ⟨_, hj, _, _, (⟨hk, hu, hkj⟩ | ⟨hk, hu, hp⟩)⟩ := TInv.look h (hmk_lt h1 h2) key
  · rw [kadd, if_pos hk]
    have e1 : (s.put k key x).U = s.U := by
      funext i
      show (if i = s.slot k key then true else s.U i) = s.U i
      split
      · subst_vars; exact hu.symm
      · rfl
    have e2 : (s.put k key x).K = s.K := by
      funext i
      show (if i = s.slot k key then key else s.K i) = s.K i
      split
      · subst_vars; exact hkj.symm
      · rfl
    unfold St.Inv
    rw [e1, e2]
    exact h
  · rw [kadd, if_neg hk]
    exact TInv.put h hk hj hu hp hr
theorem St.fill_inv {k : Nat} (z : β) (h1 : 1 ≤ k) (h2 : k ≤ 62) : ∀ (pre : List (Int × β)), pre.length < 2 ^ k → (St.fill k z pre).Inv k (kfold (pre.map (·.1))) := fun pre => by
  refine snoc_ind (P := fun pre => pre.length < 2 ^ k → (St.fill k z pre).Inv k (kfold (pre.map (·.1)))) ?_ ?_ pre
  · intro _; exact St.zero_inv z k
  · intro pre p ih h
    rw [List.length_append, List.length_singleton] at h
    rw [St.fill_snoc, List.map_append, List.map_cons, List.map_nil, kfold_snoc]
    refine (ih (by omega)).put h1 h2 p.1 p.2 ?_
    have := kfold_len (pre.map (·.1))
    rw [List.length_map] at this
    omega
/-- The pairs that All tells. -/
def St.pairs (s : St β) (k : Nat) (l : List Int) : List (Int × β) := l.map fun key => (key, s.X (s.slot k key))
def St.grown (s : St β) (k : Nat) (z : β) (l : List Int) : St β := St.fill (k + 1) z (s.pairs k l)
theorem St.grown_inv {s : St β} {k : Nat} {l : List Int} (h : s.Inv k l) (z : β) (h2 : k + 1 ≤ 62) : (s.grown k z l).Inv (k + 1) l := by
  have hr := h.room
  have e : (s.pairs k l).map (·.1) = l := by simp [St.pairs, Function.comp_def]
  have := St.fill_inv (k := k + 1) z (by omega) h2 (s.pairs k l) (by rw [St.pairs, List.length_map]; rw [Nat.pow_succ]; omega)
  rw [e, kfold_nodup l h.nodup] at this
  exact this
end
end Go.Proofs.YtfhpnlaabgkpjaaDoor
/- Taking a key out: what lies behind moves back. Plain. -/
namespace Go.Proofs.YtfhpnlaabgkpjaaDoor
set_option linter.unusedVariables false

theorem bit_dst {k f h : Nat} (hk : k ≤ 62) (hf : f < 2 ^ k) (hh : h < 2 ^ k) : bits .and .i64 ((f : Int) - (h : Int)) (((2 ^ k : Nat) : Int) - 1) = (dst (2 ^ k) h f : Int) := by
  have hq : 2 ^ k ≤ 2 ^ 62 := Nat.pow_le_pow_right (by omega) hk
  have h0 := Nat.two_pow_pos k
  unfold dst
  have e1 : (((2 ^ k : Nat) : Int) - 1) = ((2 ^ k - 1 : Nat) : Int) := by omega
  rw [e1]
  split
  · rename_i hle
    have h := bits_and_i64_nat (f - h) (2 ^ k - 1) (by omega) (by omega)
    rw [Nat.and_two_pow_sub_one_eq_mod, Nat.mod_eq_of_lt (by omega)] at h
    rw [← h]
    congr 1
    omega
  · rename_i hgt
    obtain ⟨d, hd⟩ : ∃ d, h = f + d := ⟨h - f, by omega⟩
    subst hd
    have h1 : (BitVec.ofInt 64 ((f : Int) - ((f + d : Nat) : Int))).toNat = 2 ^ 64 - d := by
      rw [BitVec.toNat_ofInt]
      have : ((f : Int) - ((f + d : Nat) : Int)) % ((2 ^ 64 : Nat) : Int) = ((2 ^ 64 - d : Nat) : Int) := by
        rw [show (f : Int) - ((f + d : Nat) : Int) = ((2 ^ 64 - d : Nat) : Int) + ((2 ^ 64 : Nat) : Int) * (-1) by omega, Int.add_mul_emod_self_left]
        omega
      rw [this]
      rfl
    have h2 : (BitVec.ofInt 64 ((2 ^ k - 1 : Nat) : Int)).toNat = 2 ^ k - 1 := by
      rw [BitVec.ofInt_natCast, BitVec.toNat_ofNat]; exact Nat.mod_eq_of_lt (by omega)
    show IntKind.i64.wrap ((BitVec.ofInt 64 ((f : Int) - ((f + d : Nat) : Int)) &&& BitVec.ofInt 64 ((2 ^ k - 1 : Nat) : Int)).toNat : Int) = _
    rw [BitVec.toNat_and, h1, h2, Nat.and_two_pow_sub_one_eq_mod]
    have hdv : 2 ^ 64 = 2 ^ k * 2 ^ (64 - k) := by rw [← Nat.pow_add]; congr 1; omega
    have hm : (2 ^ 64 - d) % 2 ^ k = f + 2 ^ k - (f + d) := by
      have hb : 1 ≤ 2 ^ (64 - k) := Nat.two_pow_pos _
      have e2 : 2 ^ 64 - d = (2 ^ k - d) + 2 ^ k * (2 ^ (64 - k) - 1) := by
        rw [Nat.mul_sub, Nat.mul_one, ← hdv]
        have : 2 ^ k ≤ 2 ^ 64 := Nat.pow_le_pow_right (by omega) (by omega)
        omega
      rw [e2, Nat.add_mul_mod_self_left, Nat.mod_eq_of_lt (by omega)]
      omega
    rw [hm]
    exact IntWalk.i64_in _ (by omega)

section
variable {β : Type}
def St.clear (s : St β) (j : Nat) (z : β) : St β := ⟨fun i => if i = j then false else s.U i, fun i => if i = j then 0 else s.K i, fun i => if i = j then z else s.X i⟩
def St.move (s : St β) (f k : Nat) (z : β) : St β := (s.set f (s.K k) (s.X k)).clear k z
/-- the loop: f is free, k is looked at -/
def St.shift (n : Nat) (hm : Int → Nat) (z : β) : Nat → St β → Nat → Nat → St β
  | 0, s, _, _ => s
  | r + 1, s, f, k => if s.U k = true then (if dst n (hm (s.K k)) f < dst n (hm (s.K k)) k then St.shift n hm z r (s.move f k z) k ((k + 1) % n) else St.shift n hm z r s f ((k + 1) % n)) else s
/-- strictly between f and k, in a circle -/
def btw (f k j : Nat) : Prop := if f < k then f < j ∧ j < k else f < j ∨ j < k
structure Sh (n : Nat) (hm : Int → Nat) (s : St β) (f k e : Nat) (l : List Int) : Prop where
  hf : f < n
  hk : k < n
  he : e < n
  ne : f ≠ k
  free : s.U f = false
  end_ : s.U e = false
  nee : f ≠ e
  ahead : ¬ btw f k e
  path : ∀ j, j < n → s.U j = true → ∀ i, i < n → onp (hm (s.K j)) j i → s.U i = true ∨ i = f
  beyond : ∀ j, j < n → s.U j = true → onp (hm (s.K j)) j f → ¬ btw f k j
  uniq : ∀ i j, i < n → j < n → s.U i = true → s.U j = true → s.K i = s.K j → i = j
  keys : ∀ x, x ∈ l ↔ ∃ j, j < n ∧ s.U j = true ∧ s.K j = x
theorem nxq {n k : Nat} (hk : k < n) : ∃ q, (k + 1) % n = q ∧ ((k + 1 = n ∧ q = 0) ∨ (k + 1 < n ∧ q = k + 1)) := by
  refine ⟨_, rfl, ?_⟩
  rw [nx hk]
  split <;> omega
theorem dst_onp {n h f k : Nat} (hh : h < n) (hf : f < n) (hk : k < n) (hne : f ≠ k) : dst n h f < dst n h k ↔ onp h k f := by
  unfold dst onp
  constructor
  · intro h1; split at h1 <;> (split at h1 <;> (split <;> omega))
  · intro h1; split at h1 <;> (split <;> (first | omega | (split <;> omega)))
section
variable {n : Nat} {hm : Int → Nat} {s : St β} {f k e : Nat} {l : List Int} {z : β}
theorem Sh.last (h : Sh n hm s f k e l) (hu : s.U k = false) (hn : l.Nodup) (hr : l.length < n) : TInv n hm s.U s.K l where
  path := fun j hj huj i hi hp => by
    rcases h.path j hj huj i hi hp with h1 | rfl
    · exact h1
    · exfalso
      have h2 := h.beyond j hj huj hp
      have hjf : j ≠ i := by rintro rfl; rw [h.free] at huj; cases huj
      have hjk : j ≠ k := by rintro rfl; rw [hu] at huj; cases huj
      have hk := h.hk
      have hne := h.ne
      rcases h.path j hj huj k hk (by unfold onp btw at *; split at h2 <;> (split at hp <;> (split <;> omega))) with h3 | h3
      · rw [hu] at h3; cases h3
      · exact h.ne h3.symm
  uniq := h.uniq
  keys := h.keys
  nodup := hn
  room := hr
theorem Sh.stay (h : Sh n hm s f k e l) (hb : ∀ x, hm x < n) (hu : s.U k = true) (hc : ¬ dst n (hm (s.K k)) f < dst n (hm (s.K k)) k) : Sh n hm s f ((k + 1) % n) e l := by
  have hf := h.hf
  have hk := h.hk
  have he := h.he
  have hne := h.ne
  have hke : k ≠ e := by rintro rfl; rw [h.end_] at hu; cases hu
  rw [dst_onp (hb _) hf hk hne] at hc
  have hkf : (k + 1) % n ≠ f := by
    intro e1
    have ha := h.ahead
    have hn := h.nee
    rw [nx hk] at e1
    unfold btw at ha
    split at e1 <;> (split at ha <;> omega)
  refine ⟨hf, Nat.mod_lt _ (by omega), he, hkf.symm, h.free, h.end_, h.nee, fun hb2 => ?_, h.path, fun j hj huj hp hbt => ?_, h.uniq, h.keys⟩
  · have ha := h.ahead
    obtain ⟨q, e1, e2⟩ := nxq hk
    rw [e1] at hb2 hkf
    unfold btw at hb2 ha
    split at hb2 <;> (split at ha <;> omega)
  · have h2 := h.beyond j hj huj hp
    by_cases hjk : j = k
    · subst hjk; exact hc hp
    · obtain ⟨q, e1, e2⟩ := nxq hk
      rw [e1] at hbt hkf
      unfold btw at hbt h2
      split at hbt <;> (split at h2 <;> omega)
theorem move_U (i : Nat) : (s.move f k z).U i = if i = k then false else if i = f then true else s.U i := rfl
theorem move_K (i : Nat) : (s.move f k z).K i = if i = k then 0 else if i = f then s.K k else s.K i := rfl
theorem Sh.moved (h : Sh n hm s f k e l) (hb : ∀ x, hm x < n) (hu : s.U k = true) (hc : dst n (hm (s.K k)) f < dst n (hm (s.K k)) k) : Sh n hm (s.move f k z) k ((k + 1) % n) e l := by
  have hf := h.hf
  have hk := h.hk
  have he := h.he
  have hne := h.ne
  have hke : k ≠ e := by rintro rfl; rw [h.end_] at hu; cases hu
  rw [dst_onp (hb _) hf hk hne] at hc
  have hnx : (k + 1) % n ≠ k := by rw [nx hk]; split <;> omega
  refine ⟨hk, Nat.mod_lt _ (by omega), he, hnx.symm, ?_, ?_, hke, ?_, ?_, ?_, ?_, ?_⟩
  · rw [move_U, if_pos rfl]
  · rw [move_U, if_neg hke.symm, if_neg h.nee.symm, h.end_]
  · rw [nx hk]
    unfold btw
    split <;> (split <;> omega)
  · intro j hj huj i hi hp
    rw [move_U] at huj ⊢
    rw [move_K] at hp
    by_cases hik : i = k
    · exact .inr hik
    · left
      rw [if_neg hik]
      by_cases hif : i = f
      · rw [if_pos hif]
      · rw [if_neg hif]
        by_cases hjk : j = k
        · rw [if_pos hjk] at huj; cases huj
        · rw [if_neg hjk] at huj hp
          by_cases hjf : j = f
          · subst hjf
            rw [if_pos rfl] at hp
            -- the way to f is a part of the way to k
            rcases h.path k hk hu i hi (by
              have := hb (s.K k)
              unfold onp at *
              split at hp <;> (split at hc <;> (split <;> omega))) with h1 | h1
            · exact h1
            · exact (hif h1).elim
          · rw [if_neg hjf] at huj hp
            rcases h.path j hj huj i hi hp with h1 | h1
            · exact h1
            · exact (hif h1).elim
  · intro j hj huj hp hbt
    rw [nx hk] at hbt
    unfold btw at hbt
    split at hbt <;> (split at hbt <;> omega)
  · intro a b ha hb' hua hub e1
    rw [move_U] at hua hub
    rw [move_K, move_K] at e1
    by_cases hak : a = k
    · rw [if_pos hak] at hua; cases hua
    by_cases hbk : b = k
    · rw [if_pos hbk] at hub; cases hub
    rw [if_neg hak] at hua e1
    rw [if_neg hbk] at hub e1
    by_cases haf : a = f <;> by_cases hbf : b = f
    · omega
    · rw [if_pos haf, if_neg hbf] at e1
      rw [if_neg hbf] at hub
      exact (hbk (h.uniq k b hk hb' hu hub e1).symm).elim
    · rw [if_neg haf, if_pos hbf] at e1
      rw [if_neg haf] at hua
      exact (hak (h.uniq a k ha hk hua hu e1)).elim
    · rw [if_neg haf, if_neg hbf] at e1
      rw [if_neg haf] at hua
      rw [if_neg hbf] at hub
      exact h.uniq a b ha hb' hua hub e1
  · intro x
    rw [h.keys]
    constructor
    · rintro ⟨j, hj, huj, rfl⟩
      by_cases hjk : j = k
      · subst hjk
        exact ⟨f, hf, by rw [move_U, if_neg hne, if_pos rfl], by rw [move_K, if_neg hne, if_pos rfl]⟩
      · have hjf : j ≠ f := by rintro rfl; rw [h.free] at huj; cases huj
        exact ⟨j, hj, by rw [move_U, if_neg hjk, if_neg hjf]; exact huj, by rw [move_K, if_neg hjk, if_neg hjf]⟩
    · rintro ⟨j, hj, huj, rfl⟩
      rw [move_U] at huj
      rw [move_K]
      by_cases hjk : j = k
      · rw [if_pos hjk] at huj; cases huj
      · rw [if_neg hjk] at huj ⊢
        by_cases hjf : j = f
        · rw [if_pos hjf]
          exact ⟨k, hk, hu, rfl⟩
        · rw [if_neg hjf] at huj ⊢
          exact ⟨j, hj, huj, rfl⟩
/-- The first free slot behind k, how far: what the loop's rounds are counted by. -/
theorem Sh.done (hb : ∀ x, hm x < n) (hn : l.Nodup) (hr : l.length < n) : ∀ (r : Nat) (s : St β) (f k : Nat), Sh n hm s f k e l → dst n k e < r → TInv n hm (St.shift n hm z r s f k).U (St.shift n hm z r s f k).K l
  | 0, s, f, k, h, hd => by omega
  | r + 1, s, f, k, h, hd => by
    rw [St.shift]
    by_cases hu : s.U k = true
    · rw [if_pos hu]
      have hke : k ≠ e := by rintro rfl; rw [h.end_] at hu; cases hu
      have hk := h.hk
      have he := h.he
      have hd' : dst n ((k + 1) % n) e < r := by
        rw [nx hk]
        unfold dst at *
        split <;> (split at hd <;> (split <;> omega))
      by_cases hc : dst n (hm (s.K k)) f < dst n (hm (s.K k)) k
      · rw [if_pos hc]
        exact Sh.done hb hn hr r _ _ _ (h.moved hb hu hc) hd'
      · rw [if_neg hc]
        exact Sh.done hb hn hr r _ _ _ (h.stay hb hu hc) hd'
    · rw [if_neg hu]
      exact h.last (by simpa using hu) hn hr
/-- The key's slot is cleared: so the loop begins. -/
theorem TInv.hole (h : TInv n hm s.U s.K l) {key : Int} {j : Nat} (hj : j < n) (hu : s.U j = true) (hkj : s.K j = key) (h2 : 2 ≤ n) {e : Nat} (he : e < n) (hue : s.U e = false) : Sh n hm (s.clear j z) j ((j + 1) % n) e (l.filter (· != key)) := by
  have hje : j ≠ e := by rintro rfl; rw [hue] at hu; cases hu
  have cU : ∀ i, (s.clear j z).U i = if i = j then false else s.U i := fun i => rfl
  have cK : ∀ i, (s.clear j z).K i = if i = j then 0 else s.K i := fun i => rfl
  refine ⟨hj, Nat.mod_lt _ (by omega), he, ?_, by rw [cU, if_pos rfl], by rw [cU, if_neg hje.symm]; exact hue, hje, ?_, ?_, ?_, ?_, ?_⟩
  · rw [nx hj]; split <;> omega
  · rw [nx hj]; unfold btw; split <;> (split <;> omega)
  · intro i hi hui q hq hp
    rw [cU] at hui ⊢
    rw [cK] at hp
    by_cases hij : i = j
    · rw [if_pos hij] at hui; cases hui
    · rw [if_neg hij] at hui hp
      by_cases hqj : q = j
      · exact .inr hqj
      · rw [if_neg hqj]; exact .inl (h.path i hi hui q hq hp)
  · intro i hi hui hp hbt
    rw [nx hj] at hbt
    unfold btw at hbt
    split at hbt <;> (split at hbt <;> omega)
  · intro a b ha hb hua hub e1
    rw [cU] at hua hub
    rw [cK, cK] at e1
    by_cases haj : a = j
    · rw [if_pos haj] at hua; cases hua
    by_cases hbj : b = j
    · rw [if_pos hbj] at hub; cases hub
    rw [if_neg haj] at hua e1
    rw [if_neg hbj] at hub e1
    exact h.uniq a b ha hb hua hub e1
  · intro x
    rw [List.mem_filter, h.keys]
    constructor
    · rintro ⟨⟨i, hi, hui, rfl⟩, hx⟩
      have hij : i ≠ j := by rintro rfl; simp [hkj] at hx
      exact ⟨i, hi, by rw [cU, if_neg hij]; exact hui, by rw [cK, if_neg hij]⟩
    · rintro ⟨i, hi, hui, rfl⟩
      rw [cU] at hui
      rw [cK]
      by_cases hij : i = j
      · rw [if_pos hij] at hui; cases hui
      · rw [if_neg hij] at hui ⊢
        exact ⟨⟨i, hi, hui, rfl⟩, by
          have : s.K i ≠ key := fun e2 => hij (h.uniq i j hi hj hui hu (e2.trans hkj.symm))
          simpa using this⟩
end
def St.take (s : St β) (k : Nat) (z : β) (key : Int) : St β := St.shift (2 ^ k) (hmk k) z (2 ^ k) (s.clear (s.slot k key) z) (s.slot k key) ((s.slot k key + 1) % 2 ^ k)
theorem St.Inv.take {s : St β} {k : Nat} {l : List Int} (h : s.Inv k l) (h1 : 1 ≤ k) (h2 : k ≤ 62) {key : Int} (hk : key ∈ l) (z : β) : (s.take k z key).Inv k (l.filter (· != key)) := by
  have hn : 2 ≤ 2 ^ k := Nat.le_trans (show 2 ≤ 2 ^ 1 by decide) (Nat.pow_le_pow_right (by decide) h1)
  obtain ⟨e, he, hue⟩ := TInv.free h
  obtain ⟨_, hj, _, _, (⟨_, hu, hkj⟩ | ⟨hn', _⟩)⟩ := TInv.look h (hmk_lt h1 h2) key
  · have hh := TInv.hole (z := z) (s := s) h hj hu hkj hn he hue
    refine Sh.done (hmk_lt h1 h2) (h.nodup.filter _) ?_ _ _ _ _ hh ?_
    · have := List.length_filter_le (· != key) l
      have := h.room
      omega
    · exact dst_lt (Nat.mod_lt _ (by omega)) he
  · exact (hn' hk).elim
end
end Go.Proofs.YtfhpnlaabgkpjaaDoor
/- A put and a take, whole, plain. -/
namespace Go.Proofs.YtfhpnlaabgkpjaaDoor
set_option linter.unusedVariables false

/-- what a table holds: slots 2 ^ k, keys l -/
structure Tbl (β : Type) where
  k : Nat
  l : List Int
  s : St β
section
variable {β : Type}
def Tbl.new (z : β) : Tbl β := ⟨3, [], St.zero z⟩
def Tbl.put (T : Tbl β) (z : β) (key : Int) (x : β) : Tbl β :=
  if key ∈ T.l then ⟨T.k, T.l, T.s.put T.k key x⟩
  else if 3 * 2 ^ T.k < 4 * (T.l.length + 1) then ⟨T.k + 1, T.l ++ [key], (T.s.grown T.k z T.l).put (T.k + 1) key x⟩
  else ⟨T.k, T.l ++ [key], T.s.put T.k key x⟩
def Tbl.take (T : Tbl β) (z : β) (key : Int) : Tbl β := if key ∈ T.l then ⟨T.k, T.l.filter (· != key), T.s.take T.k z key⟩ else T
def Tbl.get (T : Tbl β) (key : Int) : β := T.s.X (T.s.slot T.k key)
def Tbl.asked (T : Tbl β) (key : Int) : Nat := T.s.asked T.k key
structure Tbl.Ok (T : Tbl β) : Prop where
  inv : T.s.Inv T.k T.l
  k3 : 3 ≤ T.k
  room : 4 * T.l.length ≤ 3 * 2 ^ T.k
theorem eight {k : Nat} (h : 3 ≤ k) : 8 ≤ 2 ^ k := Nat.le_trans (show 8 ≤ 2 ^ 3 by decide) (Nat.pow_le_pow_right (by decide) h)
theorem Tbl.new_ok (z : β) : (Tbl.new z).Ok := ⟨St.zero_inv z 3, by simp [Tbl.new], by simp [Tbl.new]⟩
theorem St.Inv.new {s : St β} {k : Nat} {l : List Int} (h : s.Inv k l) (h1 : 1 ≤ k) (h2 : k ≤ 62) {key : Int} (hk : key ∉ l) (x : β) (hr : l.length + 1 < 2 ^ k) : (s.put k key x).Inv k (l ++ [key]) := by
  have := h.put h1 h2 key x hr
  rwa [kadd, if_neg hk] at this
theorem Tbl.Ok.put {T : Tbl β} (h : T.Ok) (hk : T.k ≤ 60) (z : β) (key : Int) (x : β) : (T.put z key x).Ok := by
  have h8 := eight h.k3
  have hr := h.room
  have hk3 := h.k3
  unfold Tbl.put
  split
  · rename_i hm
    have hp := h.inv.put (by omega) (by omega) key x
    rw [kadd, if_pos hm] at hp
    refine ⟨?_, h.k3, h.room⟩
    obtain ⟨_, hj, _, _, (⟨_, hu, hkj⟩ | ⟨hn, _⟩)⟩ := TInv.look h.inv (hmk_lt (by omega) (by omega)) key
    · have e1 : (T.s.put T.k key x).U = T.s.U := by
        funext i
        show (if i = T.s.slot T.k key then true else T.s.U i) = T.s.U i
        split
        · subst_vars; exact hu.symm
        · rfl
      have e2 : (T.s.put T.k key x).K = T.s.K := by
        funext i
        show (if i = T.s.slot T.k key then key else T.s.K i) = T.s.K i
        split
        · subst_vars; exact hkj.symm
        · rfl
      show (T.s.put T.k key x).Inv T.k T.l
      unfold St.Inv
      rw [e1, e2]
      exact h.inv
    · exact (hn hm).elim
  · rename_i hm
    split
    · rename_i hg
      have hp : 2 ^ (T.k + 1) = 2 * 2 ^ T.k := by rw [Nat.pow_succ]; omega
      refine ⟨St.Inv.new (St.grown_inv h.inv z (by omega)) (by omega) (by omega) hm x (by omega), by show 3 ≤ T.k + 1; omega, ?_⟩
      show 4 * (T.l ++ [key]).length ≤ 3 * 2 ^ (T.k + 1)
      simp
      omega
    · rename_i hg
      refine ⟨St.Inv.new h.inv (by omega) (by omega) hm x (by omega), h.k3, ?_⟩
      show 4 * (T.l ++ [key]).length ≤ 3 * 2 ^ T.k
      simp
      omega
theorem Tbl.Ok.take {T : Tbl β} (h : T.Ok) (hk : T.k ≤ 60) (z : β) (key : Int) : (T.take z key).Ok := by
  have hk3 := h.k3
  unfold Tbl.take
  split
  · rename_i hm
    refine ⟨h.inv.take (by omega) (by omega) hm z, h.k3, ?_⟩
    have := List.length_filter_le (· != key) T.l
    have := h.room
    show 4 * (T.l.filter (· != key)).length ≤ 3 * 2 ^ T.k
    omega
  · exact h
theorem Tbl.mem_put (T : Tbl β) (z : β) (key : Int) (x : β) : key ∈ (T.put z key x).l := by
  unfold Tbl.put
  split
  · assumption
  · split <;> simp
theorem Tbl.not_take (T : Tbl β) (z : β) (key : Int) : key ∉ (T.take z key).l := by
  unfold Tbl.take
  split
  · simp
  · assumption
theorem Tbl.put_len (T : Tbl β) (z : β) (key : Int) (x : β) : (T.put z key x).l.length ≤ T.l.length + 1 := by
  unfold Tbl.put
  split
  · simp
  · split <;> simp
theorem Tbl.take_len (T : Tbl β) (z : β) (key : Int) : (T.take z key).l.length ≤ T.l.length := by
  unfold Tbl.take
  split
  · exact List.length_filter_le _ _
  · exact Nat.le_refl _
theorem Tbl.take_k (T : Tbl β) (z : β) (key : Int) : (T.take z key).k = T.k := by
  unfold Tbl.take
  split <;> rfl
/-- how many slots, at most, by how many puts -/
theorem Tbl.put_k (T : Tbl β) (z : β) (key : Int) (x : β) {m : Nat} (hm : T.l.length ≤ m) (h : 3 * 2 ^ T.k ≤ 8 * (m + 3)) : 3 * 2 ^ (T.put z key x).k ≤ 8 * (m + 1 + 3) := by
  unfold Tbl.put
  split
  · show 3 * 2 ^ T.k ≤ _; omega
  · split
    · have hp : 2 ^ (T.k + 1) = 2 * 2 ^ T.k := by rw [Nat.pow_succ]; omega
      show 3 * 2 ^ (T.k + 1) ≤ _
      omega
    · show 3 * 2 ^ T.k ≤ _; omega
/-- The slot of a key that has just been put. -/
theorem St.put_slot {s : St β} {k : Nat} {l : List Int} {key : Int} {x : β} (h : (s.put k key x).Inv k l) (h1 : 1 ≤ k) (h2 : k ≤ 62) (hk : key ∈ l) (hj : s.slot k key < 2 ^ k) : (s.put k key x).slot k key = s.slot k key := by
  obtain ⟨_, hj', _, _, (⟨_, hu, hkj⟩ | ⟨hn, _⟩)⟩ := TInv.look h (hmk_lt h1 h2) key
  · refine h.uniq _ _ hj' hj hu ?_ (hkj.trans ?_)
    · show (if s.slot k key = s.slot k key then true else _) = true
      rw [if_pos rfl]
    · show _ = (if s.slot k key = s.slot k key then key else _)
      rw [if_pos rfl]
  · exact (hn hk).elim
theorem St.put_get {s : St β} {k : Nat} {l : List Int} {key : Int} {x : β} (h : (s.put k key x).Inv k l) (h1 : 1 ≤ k) (h2 : k ≤ 62) (hk : key ∈ l) (hj : s.slot k key < 2 ^ k) : (s.put k key x).X ((s.put k key x).slot k key) = x := by
  rw [St.put_slot h h1 h2 hk hj]
  show (if s.slot k key = s.slot k key then x else _) = x
  rw [if_pos rfl]
theorem Tbl.get_put {T : Tbl β} (h : T.Ok) (hk : T.k ≤ 60) (z : β) (key : Int) (x : β) : (T.put z key x).get key = x := by
  have hok := h.put hk z key x
  have hmem := T.mem_put z key x
  have hk3 := h.k3
  have hsl := (TInv.look h.inv (hmk_lt (by omega) (by omega)) key).2.1
  have hsg := (TInv.look (St.grown_inv h.inv z (by omega)) (hmk_lt (by omega) (by omega)) key).2.1
  unfold Tbl.put at hok hmem ⊢
  split at hok
  · rename_i hm
    rw [if_pos hm] at hmem ⊢
    exact St.put_get hok.inv (by omega) (by omega) hmem hsl
  · rename_i hm
    rw [if_neg hm] at hmem ⊢
    split at hok
    · rename_i hg
      rw [if_pos hg] at hmem ⊢
      exact St.put_get hok.inv (by omega) (by omega) hmem hsg
    · rename_i hg
      rw [if_neg hg] at hmem ⊢
      exact St.put_get hok.inv (by omega) (by omega) hmem hsl
end
end Go.Proofs.YtfhpnlaabgkpjaaDoor
