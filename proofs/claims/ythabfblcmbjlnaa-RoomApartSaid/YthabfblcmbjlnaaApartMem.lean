/- RoomApart: what lies in memory between two rounds; the room's calls upon it. -/
import Derived.Test.YthabfblcmbjlnaaWorks3
import Derived.Test.YthabfblcmbjlnaaApartLaw
import Derived.Test.YthabfblcmbjlnaaRow
import Derived.Test.YthabfblcmbjlnaaMix
import Derived.Test.YthabfblcmbjlnaaOpen
namespace Go.Proofs.Ythabfblcmbjlnaa
open Go.RowKit
set_option maxHeartbeats 1000000
set_option linter.unusedVariables false

/-- the cells of a list of pieces -/
def P2 (l : List (Int × Int)) : List Value := l.flatMap fun p => [.int .u64 p.1, .int .u64 p.2]
theorem P2_cons (p : Int × Int) (l : List (Int × Int)) : P2 (p :: l) = .int .u64 p.1 :: .int .u64 p.2 :: P2 l := rfl
theorem P2_length (l : List (Int × Int)) : (P2 l).length = l.length * 2 := by induction l with
  | nil => rfl
  | cons p l ih => rw [P2_cons]; simp [ih]; omega
theorem P2_append (l r : List (Int × Int)) : P2 (l ++ r) = P2 l ++ P2 r := by unfold P2; simp
theorem P2_get : ∀ (l : List (Int × Int)) (i : Nat) (p : Int × Int), l[i]? = some p → (P2 l)[i * 2]? = some (.int .u64 p.1) ∧ (P2 l)[i * 2 + 1]? = some (.int .u64 p.2)
  | q :: l, 0, p, h => by
    obtain rfl : q = p := by simpa using h
    exact ⟨rfl, rfl⟩
  | q :: l, i + 1, p, h => by
    have := P2_get l i p (by simpa using h)
    rw [P2_cons, show (i + 1) * 2 = i * 2 + 1 + 1 by omega, show i * 2 + 1 + 1 + 1 = (i * 2 + 1) + 1 + 1 by omega]
    simpa using this
theorem P2_one (l : List (Int × Int)) : ∀ u ∈ P2 l, u.oneCell' = true := by
  intro u hu
  unfold P2 at hu
  obtain ⟨p, _, hp⟩ := List.mem_flatMap.1 hu
  simp at hp
  rcases hp with rfl | rfl <;> rfl
theorem P2_take (l : List (Int × Int)) : ∀ k, (P2 l).take (k * 2) = P2 (l.take k) := by
  induction l with
  | nil => intro k; simp [P2]
  | cons p l ih =>
    intro k
    cases k with
    | zero => simp [P2]
    | succ k => rw [List.take_succ_cons, P2_cons, P2_cons, show (k + 1) * 2 = k * 2 + 1 + 1 by omega, List.take_succ_cons, List.take_succ_cons, ih]
theorem P2_drop (l : List (Int × Int)) : ∀ k, (P2 l).drop (k * 2) = P2 (l.drop k) := by
  induction l with
  | nil => intro k; simp [P2]
  | cons p l ih =>
    intro k
    cases k with
    | zero => simp [P2]
    | succ k => rw [List.drop_succ_cons, P2_cons, show (k + 1) * 2 = k * 2 + 1 + 1 by omega, List.drop_succ_cons, List.drop_succ_cons, ih]
def W1 (l : List Int) : List Value := l.map (Value.int .u64)
theorem W1_one (l : List Int) : ∀ u ∈ W1 l, u.oneCell' = true := by
  intro u hu
  obtain ⟨y, _, rfl⟩ := List.mem_map.1 hu
  rfl

theorem Rowv.blk_ne {w : World} {B : Nat} {e t : TypeId} {size : Nat} {v : Value} {n k : Nat} {xs : List Value} {cs : Array Value} (h : Rowv w B e size v n xs) (hb : Blk w k t cs) (hne : t ≠ e) : v.ownBlock ≠ some k := by
  rcases h.2 with ⟨rfl, _⟩ | ⟨g, off, cap, cur, rfl, h2, h3, _⟩
  · exact fun h => nomatch h
  · intro hk
    obtain rfl : g = k := by simpa [Value.ownBlock] using hk
    unfold Blk at hb
    rw [hb] at h3
    injection h3 with h3
    injection h3 with _ h4
    exact hne h4

theorem p2_info : (Try.prog.info? 46).map (fun i => (i.zero, i.size, i.bytes)) = some (some (.agg #[.int .u64 0, .int .u64 0]), 2, 16) := by kernel_rfl
structure Lp (w : World) (B T b g cap bk : Nat) (s : St) (out : List (Int × Int)) (vo : Value) (cs : Array Value) (back : Nat → List Int) : Prop where
  tx : Txw w T b g cap s
  fits : Fits s
  outs : Rowv w B 46 2 vo out.length (P2 out)
  box : Blk w bk 43 cs
  csz : cs.size = 17
  row : ∀ z, z < 17 → ∃ v, cs[z]? = some v ∧ Rowv w B 31 1 v (back z).length (W1 (back z)) ∧ v.ownBlock ≠ some g
  ne : ∀ (z z' : Nat) (v v' : Value) (k : Nat), z ≠ z' → cs[z]? = some v → cs[z']? = some v' → v.ownBlock = some k → v'.ownBlock ≠ some k
  lT : B ≤ T
  lb : B ≤ b
  lg : B ≤ g
  lbk : B ≤ bk
  lB : B ≤ w.heap.size

section
variable {w w' : World} {B T b g cap bk : Nat} {s s' : St} {out : List (Int × Int)} {vo : Value} {cs : Array Value} {back : Nat → List Int}
theorem Lp.step (h : Lp w B T b g cap bk s out vo cs back) (hw : Txw w' T b g cap s') (hf : Fits s') (hm : Mod b g w w') : Lp w' B T b g cap bk s' out vo cs back := by
  have o1 := h.outs.blk_ne h.tx.2.1 (by decide)
  obtain ⟨cur, k2, _⟩ := h.tx.2.2
  have o2 := h.outs.blk_ne k2 (by decide)
  have b1 := Blk.ne_ h.box h.tx.2.1 (by decide)
  have b2 := Blk.ne_ h.box k2 (by decide)
  exact ⟨hw, hf, h.outs.keepLt fun k _ hk hv => hm.block k hk (fun e => o1 (e ▸ hv)) (fun e => o2 (e ▸ hv)), hm.blk h.box b1 b2, h.csz, fun z hz => by
    obtain ⟨v, h1, h2, h3⟩ := h.row z hz
    exact ⟨v, h1, h2.keepLt fun k _ hk hv => hm.block k hk (fun e => h2.blk_ne h.tx.2.1 (by decide) (e ▸ hv)) (fun e => h3 (e ▸ hv)), h3⟩, h.ne, h.lT, h.lb, h.lg, h.lbk, Nat.le_trans h.lB hm.size⟩
theorem Lp.drewN (h : Lp w B T b g cap bk s out vo cs back) (n : Nat) : Lp (w.drewN n) B T b g cap bk s out vo cs back := ⟨h.tx, h.fits, h.outs, h.box, h.csz, h.row, h.ne, h.lT, h.lb, h.lg, h.lbk, h.lB⟩
theorem Txw.alloc' (h : Txw w T b g cap s) (o : Obj) : Txw (w.alloc o) T b g cap s := h.alloc o
theorem Lp.alloc (h : Lp w B T b g cap bk s out vo cs back) (o : Obj) : Lp (w.alloc o) B T b g cap bk s out vo cs back :=
  ⟨h.tx.alloc o, h.fits, h.outs.keepLt fun k _ hk _ => Below.heap_alloc w o k hk, h.box.alloc o, h.csz, fun z hz => by
    obtain ⟨v, h1, h2, h3⟩ := h.row z hz
    exact ⟨v, h1, h2.keepLt fun k _ hk _ => Below.heap_alloc w o k hk, h3⟩, h.ne, h.lT, h.lb, h.lg, h.lbk, Nat.le_trans h.lB (by simp)⟩
/-- another block has turned -/
theorem Lp.fars (h : Lp w B T b g cap bk s out vo cs back) {p : Addr} (u : Value) (hp : w.heap.size ≤ p.block ∨ ∃ t cs', Blk w p.block t cs' ∧ t ≠ 46 ∧ t ≠ 31 ∧ t ≠ 43 ∧ t ≠ 29 ∧ t ≠ 27) : Lp (w.setCell p u) B T b g cap bk s out vo cs back := by
  obtain ⟨cur, k2, k3⟩ := h.tx.2.2
  have key : ∀ (k : Nat) t' cs', Blk w k t' cs' → (t' = 46 ∨ t' = 31 ∨ t' = 43 ∨ t' = 29 ∨ t' = 27) → k ≠ p.block := fun k t' cs' hk ht he => by
    rcases hp with hp | ⟨t, cs2, h1, h2⟩
    · have := hk.lt; omega
    · refine Blk.ne_ hk h1 ?_ he
      rintro rfl
      rcases ht with rfl | rfl | rfl | rfl | rfl <;> simp at h2
  have hrow : ∀ {e : TypeId} {size n : Nat} {v : Value} {xs : List Value}, (e = 46 ∨ e = 31) → Rowv w B e size v n xs → Rowv (w.setCell p u) B e size v n xs := fun he hr => hr.keep fun k hk => Below.heap_setCell w p u k (by
    rcases hr.2 with ⟨rfl, _⟩ | ⟨g, off, cap, cur, rfl, h2, h3, _⟩
    · cases hk
    · obtain rfl : g = k := by simpa [Value.ownBlock] using hk
      exact key _ _ _ h3 (by rcases he with h | h <;> simp [h]))
  exact ⟨⟨h.tx.1.far (key _ _ _ h.tx.1 (by simp)) _, h.tx.2.1.far (key _ _ _ h.tx.2.1 (by simp)) _, cur, k2.far (key _ _ _ k2 (by simp)) _, k3⟩, h.fits, hrow (.inl rfl) h.outs, h.box.far (key _ _ _ h.box (by simp)) _, h.csz, fun z hz => by
    obtain ⟨v, h1, h2, h3⟩ := h.row z hz
    exact ⟨v, h1, hrow (.inr rfl) h2, h3⟩, h.ne, h.lT, h.lb, h.lg, h.lbk, by simpa [World.setCell] using h.lB⟩
/-- a word is put -/
theorem Lp.word (h : Lp w B T b g cap bk s out vo cs back) (i : Nat) (x : Int) (hi : i < s.W.length) (hx : 0 ≤ x ∧ x ≤ 18446744073709551615) : Lp (w.setCell ⟨g, i, none⟩ (.int .u64 x)) B T b g cap bk { s with W := s.W.set i x } out vo cs back := by
  obtain ⟨cur, k2, _⟩ := h.tx.2.2
  refine h.step (s' := { s with W := s.W.set i x }) ⟨h.tx.1.far h.tx.ne.2 _, h.tx.2.word i x hi⟩ ⟨fun y hy => ?_, by simpa using h.fits.len, h.fits.code⟩ ((Mod.refl b g w).set (.inr (.inl rfl)) _)
  rcases List.mem_or_eq_of_mem_set hy with h1 | h1
  · exact h.fits.words y h1
  · rw [h1]; exact hx
/-- the list of the pieces that are out is another one -/
theorem Lp.outs_ (h : Lp w B T b g cap bk s out vo cs back) {out' : List (Int × Int)} {vo' : Value} (hr : Rowv w' B 46 2 vo' out'.length (P2 out')) (hg : w.grownBy w' vo.ownBlock) : Lp w' B T b g cap bk s out' vo' cs back := by
  obtain ⟨cur, k2, k3⟩ := h.tx.2.2
  have far : ∀ {k t cs'}, Blk w k t cs' → t ≠ 46 → some k ≠ vo.ownBlock := fun hk ht e => h.outs.blk_ne hk ht e.symm
  refine ⟨⟨h.tx.1.grown hg (far h.tx.1 (by decide)), h.tx.2.1.grown hg (far h.tx.2.1 (by decide)), cur, k2.grown hg (far k2 (by decide)), k3⟩, h.fits, hr, h.box.grown hg (far h.box (by decide)), h.csz, fun z hz => ?_, h.ne, h.lT, h.lb, h.lg, h.lbk, Nat.le_trans h.lB hg.size⟩
  obtain ⟨v, h1, h2, h3⟩ := h.row z hz
  refine ⟨v, h1, h2.keepLt fun k _ hk hv => hg.block k hk fun e => ?_, h3⟩
  rcases h2.2 with ⟨rfl, _⟩ | ⟨g', off, cap', cur', rfl, q2, q3, _⟩
  · cases hv
  · obtain rfl : g' = k := by simpa [Value.ownBlock] using hv
    exact far q3 (by decide) e
/-- the list of the pieces of a size that were given back is another one -/
theorem Lp.backs (h : Lp w B T b g cap bk s out vo cs back) {z : Nat} (hz : z < 17) {v v' : Value} {l : List Int} (hv : cs[z]? = some v) (hr : Rowv w' B 31 1 v' l.length (W1 l)) (hg : w.grownBy w' v.ownBlock)
    (hb : v'.ownBlock = v.ownBlock ∨ ∃ k, v'.ownBlock = some k ∧ w.heap.size ≤ k) : Lp (w'.setCell ⟨bk, z, none⟩ v') B T b g cap bk s out vo (cs.setIfInBounds z v') (fun y => if y = z then l else back y) := by
  obtain ⟨cur, k2, k3⟩ := h.tx.2.2
  obtain ⟨v0, h1, h2, h3⟩ := h.row z hz
  obtain rfl : v0 = v := Option.some.inj (h1.symm.trans hv)
  have far : ∀ {k t cs'}, Blk w k t cs' → t ≠ 31 → some k ≠ v0.ownBlock := fun hk ht e => h2.blk_ne hk ht e.symm
  have hnew : ∀ k, k < w.heap.size → some k ≠ v0.ownBlock → v'.ownBlock ≠ some k := fun k hk hne e => by
    rcases hb with hb | ⟨k', hb, hk'⟩
    · exact hne (e.symm.trans hb)
    · rw [hb] at e; injection e with e; omega
  have hbk : Blk w' bk 43 cs := h.box.grown hg (far h.box (by decide))
  have set_ : ∀ {k t cs'}, Blk w' k t cs' → k ≠ bk → Blk (w'.setCell ⟨bk, z, none⟩ v') k t cs' := fun hk hne => hk.far hne _
  have rowset : ∀ {e : TypeId} {size n : Nat} {u : Value} {xs : List Value}, e ≠ 43 → Rowv w' B e size u n xs → Rowv (w'.setCell ⟨bk, z, none⟩ v') B e size u n xs := fun he hr => hr.keep fun k hk => Below.heap_setCell w' _ _ k fun e' => hr.blk_ne hbk (Ne.symm he) (by rw [hk, e'])
  refine ⟨⟨set_ (h.tx.1.grown hg (far h.tx.1 (by decide))) (Ne.symm (Blk.ne_ h.box h.tx.1 (by decide))), set_ (h.tx.2.1.grown hg (far h.tx.2.1 (by decide))) (Ne.symm (Blk.ne_ h.box h.tx.2.1 (by decide))), cur, set_ (k2.grown hg (fun e => h3 e.symm)) (Ne.symm (Blk.ne_ h.box k2 (by decide))), k3⟩,
    h.fits, rowset (by decide) (h.outs.keepLt fun k _ hk hv => hg.block k hk fun e => ?_), hbk.set_ z v', by simpa using h.csz, fun y hy => ?_, fun y y' u u' k hne hu hu' hk => ?_, h.lT, h.lb, h.lg, h.lbk, by simpa [World.setCell] using Nat.le_trans h.lB hg.size⟩
  · rcases h.outs.2 with ⟨rfl, _⟩ | ⟨g', off, cap', cur', rfl, q2, q3, _⟩
    · cases hv
    · obtain rfl : g' = k := by simpa [Value.ownBlock] using hv
      exact far q3 (by decide) e
  · by_cases hyz : y = z
    · subst hyz
      exact ⟨v', by simp [h.csz, hy], by rw [if_pos rfl]; exact rowset (by decide) hr, hnew g k2.lt fun e => h3 e.symm⟩
    · obtain ⟨u, q1, q2, q3⟩ := h.row y hy
      refine ⟨u, by rw [Array.getElem?_setIfInBounds_ne (Ne.symm hyz)]; exact q1, by rw [if_neg hyz]; exact rowset (by decide) (q2.keepLt fun k _ hk hu => hg.block k hk fun e => h.ne y z u v0 k hyz q1 hv hu e.symm), q3⟩
  · have lt : ∀ (y : Nat) (u : Value) (k : Nat), cs[y]? = some u → u.ownBlock = some k → k < w.heap.size := fun y u k hu hk => by
      have hy : y < 17 := by have := (Array.getElem?_eq_some_iff.1 hu).1; rw [h.csz] at this; exact this
      obtain ⟨u0, q1, q2, _⟩ := h.row y hy
      obtain rfl : u0 = u := Option.some.inj (q1.symm.trans hu)
      exact (q2.lt hk).2
    by_cases hyz : y = z
    · subst hyz
      rw [Array.getElem?_setIfInBounds_ne hne] at hu'
      obtain rfl : v' = u := by simpa [h.csz, hz] using hu
      intro e
      exact hnew k (lt y' u' k hu' e) (fun e' => h.ne y' y u' v0 k (Ne.symm hne) hu' hv e e'.symm) hk
    · rw [Array.getElem?_setIfInBounds_ne (Ne.symm hyz)] at hu
      by_cases hyz' : y' = z
      · subst hyz'
        obtain rfl : v' = u' := by simpa [h.csz, hz] using hu'
        exact hnew k (lt y u k hu hk) (fun e' => h.ne y y' u v0 k hyz hu hv hk e'.symm)
      · rw [Array.getElem?_setIfInBounds_ne (Ne.symm hyz')] at hu'
        exact h.ne y y' u u' k hne hu hu' hk

theorem left_l (h : Lp w B T b g cap bk s out vo cs back) {m : Int} (hl : Live s m) (hm : m ≤ 4611686018427380000) {fr to : Int} (hr : Rm s.W fr to out back) :
    Calls Try.prog 13 #[.iface 24 (.pointer (some ⟨T, 0, none⟩)), .int .u64 0] w fun e w' =>
      ∃ lf s', lf = s.W.getD 1 0 - s.W.getD 0 0 ∧ 0 ≤ lf ∧ lf ≤ 300 ∧ e = .returned (.tuple #[.int .u64 lf, .int .i64 0]) ∧ Lp w' B T b g cap bk s' out vo cs back ∧ s'.W = s.W ∧ Live s' (m + 2) ∧ Below B w w' := by
  obtain ⟨s1, e1, e2, e3, e4⟩ := rLeft_live hl hm (by rw [hr.len]; omega) (by rw [hr.end_]; exact hr.nx1)
  refine (left_b h.tx h.fits (by omega) (Mod.refl _ _ _)).mono ?_
  rintro e w' ⟨x, er, s', q, _, _, f', rfl, hw', hm'⟩
  obtain ⟨rfl, rfl, rfl⟩ : _ = x ∧ 0 = er ∧ s1 = s' := by simpa using e1.symm.trans q.out
  have n0 := hr.nx0
  have n1 := hr.nx1
  have n2 := hr.end_
  have n3 := hr.fr0
  have n4 := hr.to0
  exact ⟨_, s1, rfl, by omega, by omega, rfl, h.step hw' f' hm', e4, e2, hm'.below h.lb h.lg h.lB⟩
theorem give_l (h : Lp w B T b g cap bk s out vo cs back) {m : Int} (hl : Live s m) (hm : m ≤ 4611686018427380000) (hlen : s.W.length = 300) {p : Int} {z : Nat} (hp : 0 ≤ p) (hp2 : p < 300) (hz : 1 ≤ z) (hz2 : z ≤ 16) :
    Calls Try.prog 12 #[.iface 24 (.pointer (some ⟨T, 0, none⟩)), .int .u64 0, .int .u64 p, .int .u64 (z : Int)] w fun e w' =>
      ∃ s', e = .returned (.int .i64 0) ∧ Lp w' B T b g cap bk s' out vo cs back ∧ s'.W = (s.W.set p.toNat (s.W.getD (1 + z) 0)).set (1 + z) (p + 1) ∧ Live s' (m + 3) ∧ Below B w w' ∧ Mod b g w w' := by
  obtain ⟨s1, e1, e2, e3, e4⟩ := rGive_live (p := p) (z := z) hl hm (by omega) (by omega) (by rw [hlen]; omega) (by rw [hlen]; omega) hp (by rw [hlen]; omega)
  refine (give_b h.tx h.fits (by omega) hp (by omega) (by omega) (Mod.refl _ _ _)).mono ?_
  rintro e w' ⟨er, s', q, f', rfl, hw', hm'⟩
  obtain ⟨rfl, rfl⟩ : 0 = er ∧ s1 = s' := by simpa using e1.symm.trans q.out
  refine ⟨s1, rfl, h.step hw' f' hm', ?_, e2, hm'.below h.lb h.lg h.lB, hm'⟩
  rw [e4, show hd (z : Int) = 1 + z by unfold hd; omega]
/-- what a call that takes a piece answers, and leaves -/
def Took (W W' : List Int) (fr to : Int) (out : List (Int × Int)) (back back' : Nat → List Int) (z : Nat) (a er : Int) : Prop :=
  (er = 9 ∧ a = 0 ∧ W' = W ∧ back z = [] ∧ W.getD 1 0 - W.getD 0 0 < z ∧ back' = back) ∨
  (er = 0 ∧ fr ≤ a ∧ a + z ≤ to ∧ Rm W' fr to (out ++ [(a, (z : Int))]) back' ∧ (∀ q ∈ out, Disj q (a, z)) ∧
    ((back z = [] ∧ back' = back) ∨ ∃ l, back z = l ++ [a] ∧ back' = fun y => if y = z then l else back y))
theorem take_l (h : Lp w B T b g cap bk s out vo cs back) {m : Int} (hl : Live s m) (hm : m ≤ 4611686018427380000) {fr to : Int} (hr : Rm s.W fr to out back) {z : Nat} (hz : 1 ≤ z) (hz2 : z ≤ 16) :
    Calls Try.prog 14 #[.iface 24 (.pointer (some ⟨T, 0, none⟩)), .int .u64 0, .int .u64 (z : Int)] w fun e w' =>
      ∃ s' a er back', e = .returned (.tuple #[.int .u64 a, .int .i64 er]) ∧ Lp w' B T b g cap bk s' out vo cs back ∧ Live s' (m + 4) ∧ Below B w w' ∧ Took s.W s'.W fr to out back back' z a er := by
  have hlen : s.W.length = 300 := hr.len
  have h16 : hd (z : Int) = 1 + z := by unfold hd; omega
  have f0 := hr.fr0
  have t0 := hr.to0
  have weak : ∀ s' : St, Live s' (m + 3) → Live s' (m + 4) := fun s' hl => ⟨by have := hl.1; omega, hl.2⟩
  rcases List.eq_nil_or_concat (back z) with hb | ⟨l, p, hb⟩
  · have ht := hr.top z hz hz2
    rw [hb, topOf_nil] at ht
    by_cases hn : s.W.getD 0 0 + z ≤ to
    · obtain ⟨s1, e1, e2, e3, e4⟩ := rTake_new (z := z) hl hm (by omega) (by omega) (by rw [hlen]; omega) (by rw [hlen]; omega) (by rw [h16]; exact ht) (by rw [hr.end_]; exact hn)
      obtain ⟨q1, q2⟩ := hr.new hz hz2 hn
      refine (take_b h.tx h.fits (by omega) (by omega) (Mod.refl _ _ _)).mono ?_
      rintro e w' ⟨x, er, s', q, _, _, f', rfl, hw', hm'⟩
      obtain ⟨rfl, rfl, rfl⟩ : _ = x ∧ 0 = er ∧ s1 = s' := by simpa using e1.symm.trans q.out
      exact ⟨s1, _, 0, back, rfl, h.step hw' f' hm', e2, hm'.below h.lb h.lg h.lB, .inr ⟨rfl, hr.nx0, hn, by rw [e4]; exact q1, q2, .inl ⟨hb, rfl⟩⟩⟩
    · obtain ⟨s1, e1, e2, e3, e4⟩ := rTake_none (z := z) hl hm (by omega) (by omega) (by rw [hlen]; omega) (by rw [hlen]; omega) (by rw [h16]; exact ht) (by rw [hr.end_]; omega)
      refine (take_b h.tx h.fits (by omega) (by omega) (Mod.refl _ _ _)).mono ?_
      rintro e w' ⟨x, er, s', q, _, _, f', rfl, hw', hm'⟩
      obtain ⟨rfl, rfl, rfl⟩ : 0 = x ∧ 9 = er ∧ s1 = s' := by simpa using e1.symm.trans q.out
      exact ⟨s1, 0, 9, back, rfl, h.step hw' f' hm', e2, hm'.below h.lb h.lg h.lB, .inl ⟨rfl, rfl, e4, hb, by rw [hr.end_]; omega, rfl⟩⟩
  · rw [List.concat_eq_append] at hb
    obtain ⟨q1, q2, q3, q4, q5⟩ := hr.back hz hz2 hb
    obtain ⟨s1, e1, e2, e3, e4⟩ := rTake_back (z := z) hl hm (by omega) (by omega) (by rw [hlen]; omega) (by rw [hlen]; omega) (by rw [h16, q1]; omega) (by rw [h16, q1, hlen]; omega)
    rw [h16, q1, show p + 1 - 1 = p by omega] at e1 e4
    refine (take_b h.tx h.fits (by omega) (by omega) (Mod.refl _ _ _)).mono ?_
    rintro e w' ⟨x, er, s', q, _, _, f', rfl, hw', hm'⟩
    obtain ⟨rfl, rfl, rfl⟩ : p = x ∧ 0 = er ∧ s1 = s' := by simpa using e1.symm.trans q.out
    exact ⟨s1, p, 0, _, rfl, h.step hw' f' hm', weak _ e2, hm'.below h.lb h.lg h.lB, .inr ⟨rfl, q3, q4, by rw [e4]; exact q2, q5, .inr ⟨l, hb, rfl⟩⟩⟩
end
theorem num_c (x : Int) (w : World) : Calls Try.prog 10 #[.int .i64 x] w fun e w' => e = .returned (.int .i64 x) ∧ w = w' := by
  go_enter Try.func10, Try.ntmps10
  go_wp2
  go_ret
  exact ⟨rfl, rfl⟩
theorem Lp.start {w : World} {B T b g cap : Nat} {s : St} (h : Txw w T b g cap s) (hf : Fits s) (h1 : B ≤ T) (h2 : B ≤ b) (h3 : B ≤ g) (h4 : B ≤ w.heap.size) :
    Lp (w.alloc (.cells (Array.replicate 17 (.slice none 0 0)) 43)) B T b g cap w.heap.size s [] (.slice none 0 0) (Array.replicate 17 (.slice none 0 0)) (fun _ => []) :=
  ⟨h.alloc _, hf, Rowv.nil _ _ _ _, Blk.new _ _ _, by simp, fun z hz => ⟨_, by simp [hz], Rowv.nil _ _ _ _, (fun h => nomatch h)⟩, (fun z z' v v' k hne h1 h2 hk => by
    have : v = .slice none 0 0 := by
      rw [Array.getElem?_replicate] at h1
      split at h1 <;> simp_all
    rw [this] at hk
    cases hk), h1, h2, h3, h4, Nat.le_trans h4 (by simp)⟩
theorem keepCell {B : Nat} {w w' : World} {p : Addr} {v : Value} (hb : Below B w w') (hB : w.heap.size ≤ B) (h : w.cell? p = some v) : w'.cell? p = some v := by
  have hlt : p.block < w.heap.size := Nat.lt_of_not_le fun hh => by
    unfold World.cell? at h
    rw [Array.getElem?_eq_none hh] at h
    cases h
  exact (hb.cell (Nat.lt_of_lt_of_le hlt hB)).trans h
theorem cell_alloc_ {w : World} {p : Addr} {v : Value} {o : Obj} (h : w.cell? p = some v) : (w.alloc o).cell? p = some v := by
  have hlt : p.block < w.heap.size := Nat.lt_of_not_le fun hh => by
    unfold World.cell? at h
    rw [Array.getElem?_eq_none hh] at h
    cases h
  exact (Below.cell ((Below.refl w.heap.size w).alloc (Nat.le_refl _) o) hlt).trans h
theorem grown_cell {w w' : World} {row : Option Nat} {p : Addr} {v : Value} (hg : w.grownBy w' row) (hne : some p.block ≠ row) (h : w.cell? p = some v) : w'.cell? p = some v := hg.cell h hne
theorem u1_info : (Try.prog.info? 31).map (fun i => (i.zero, i.size, i.bytes)) = some (some (.int .u64 0), 1, 8) := by kernel_rfl
theorem grown_undrew {w w' : World} {row : Option Nat} {n : Nat} (h : (w.drewN n).grownBy w' row) : w.grownBy w' row := ⟨h.os, h.tape, h.output, h.size, h.block⟩
theorem Live.weak {s : St} {m m' : Int} (h : Live s m) (hm : m ≤ m') : Live s m' := ⟨by have := h.1; omega, h.2⟩
theorem grown_drew_ {w w' : World} {row : Option Nat} {n : Nat} (h : w.grownBy w' row) : w.grownBy (w'.drewN n) row := ⟨h.os, h.tape, h.output, h.size, h.block⟩
/-- One that is out is cut out of the list. -/
theorem cut_out {w : World} {B : Nat} {e : TypeId} {v : Value} {out : List (Int × Int)} {kk : Nat} (hk : kk < out.length) (h : Rowv w B e 2 v (kk + (out.length - (kk + 1))) ((P2 out).take (kk * 2) ++ (P2 out).drop ((kk + 1) * 2))) :
    Rowv w B e 2 v (out.take kk ++ out.drop (kk + 1)).length (P2 (out.take kk ++ out.drop (kk + 1))) := by
  rw [P2_take, P2_drop, ← P2_append] at h
  have e : (out.take kk ++ out.drop (kk + 1)).length = kk + (out.length - (kk + 1)) := by simp; omega
  rw [e]
  exact h
/-- What holds at the head of each round. -/
structure Rd (W w : World) (k n : Nat) (fr to : Int) (T b g cap bk : Nat) (vo : Value) (s : St) (out : List (Int × Int)) (cs : Array Value) (back : Nat → List Int) (m : Int) (len : Nat) : Prop where
  lp : Lp w W.heap.size T b g cap bk s out vo cs back
  rm : Rm s.W fr to out back
  live : Live s m
  bel : Below W.heap.size W w
  ol : out.length ≤ len
  bl : ∀ z, (back z).length ≤ len
end Go.Proofs.Ythabfblcmbjlnaa
