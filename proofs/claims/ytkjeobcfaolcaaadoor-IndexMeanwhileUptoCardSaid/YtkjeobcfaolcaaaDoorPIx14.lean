/- A table of the program's and one of the document's in one world, their blocks by name, call by call: the blocks that turn are theirs. -/
import Derived.Test.YtkjeobcfaolcaaaDoorPIx11
import Derived.Test.YtkjeobcfaolcaaaDoorPIx13
namespace Go.Proofs.YtkjeobcfaolcaaaDoor
open Go.RowKit
set_option maxHeartbeats 4000000
set_option linter.unusedVariables false
set_option linter.unusedSimpArgs false

/-- how many slots there are behind so many puts: a table of 2 ^ 42 slots never grows -/
theorem k_lej {k m : Nat} (h : 3 * 2 ^ k ≤ 8 * (m + 3)) (hm : m ≤ 2932031007402) : k ≤ 42 ∧ 2 ^ k * 24 ≤ 140737488355328 := by
  have hk : k ≤ 42 := Nat.le_of_not_lt fun hk => by
    have : 2 ^ 43 ≤ 2 ^ k := Nat.pow_le_pow_right (by omega) hk
    omega
  have : 2 ^ k ≤ 2 ^ 42 := Nat.pow_le_pow_right (by omega) hk
  exact ⟨hk, by omega⟩
theorem k_grows {k l m : Nat} (hl : l ≤ m) (h : 3 * 2 ^ k ≤ 8 * (m + 3)) (hm : m ≤ 2932031007402) : 3 * 2 ^ k < 4 * (l + 1) → k ≤ 41 := fun hg => Nat.le_of_not_lt fun hk => by
  have : 2 ^ 42 ≤ 2 ^ k := Nat.pow_le_pow_right (by omega) hk
  omega
theorem or_iff_of {a b c : Prop} (h : a ↔ b) : (a ∨ c) ↔ (b ∨ c) := by rw [h]
/-- the blocks that the two fields at t lead to, and t -/
def Own2 (w : World) (t : Nat) : Nat → Prop := fun b => b = t ∨ (∃ v, w.cell? ⟨t, 0, none⟩ = some v ∧ own v b) ∨ (∃ v, w.cell? ⟨t, 1, none⟩ = some v ∧ own v b)
theorem TbW.own2 {w : World} {t : Nat} {F : Nat → Prop} {T : Tbl Int} (h : TbW w t F T) : F = Own2 w t := by
  obtain ⟨g, cz, A, cp, rfl, hb, hs, hv, _⟩ := h
  have c0 : w.cell? ⟨t, 0, none⟩ = some (.slice (some ⟨g, 0, none⟩) (2 ^ T.k : Nat) cz) := hb.cell 0
  have c1 : w.cell? ⟨t, 1, none⟩ = some (.slice A T.l.length cp) := hb.cell 1
  funext b
  unfold Own2
  rw [c0, c1]
  refine propext ⟨fun h => ?_, fun h => ?_⟩
  · rcases h with h | h | h
    · exact .inl h
    · exact .inr (.inl ⟨_, rfl, by rw [h]; rfl⟩)
    · exact .inr (.inr ⟨_, rfl, h⟩)
  · rcases h with h | ⟨v, hv, h⟩ | ⟨v, hv, h⟩
    · exact .inl h
    · cases hv; exact .inr (.inl (by simpa [own, Value.ownBlock] using h.symm))
    · cases hv; exact .inr (.inr h)
theorem TbR.own2 {w : World} {t : Nat} {F : Nat → Prop} {T : Tbl Int} (h : TbR w t F T) : F = Own2 w t := by
  obtain ⟨g, cz, A, cp, rfl, hb, hs, hv, _⟩ := h
  have c0 : w.cell? ⟨t, 0, none⟩ = some (.slice (some ⟨g, 0, none⟩) (2 ^ T.k : Nat) cz) := hb.cell 0
  have c1 : w.cell? ⟨t, 1, none⟩ = some (.slice A T.l.length cp) := hb.cell 1
  funext b
  unfold Own2
  rw [c0, c1]
  refine propext ⟨fun h => ?_, fun h => ?_⟩
  · rcases h with h | h | h
    · exact .inl h
    · exact .inr (.inl ⟨_, rfl, by rw [h]; rfl⟩)
    · exact .inr (.inr ⟨_, rfl, h⟩)
  · rcases h with h | ⟨v, hv, h⟩ | ⟨v, hv, h⟩
    · exact .inl h
    · cases hv; exact .inr (.inl (by simpa [own, Value.ownBlock] using h.symm))
    · cases hv; exact .inr (.inr h)
theorem TbR.head {w : World} {t : Nat} {F : Nat → Prop} {T : Tbl Int} (h : TbR w t F T) : F t := by obtain ⟨g, cz, A, cp, rfl, _⟩ := h; exact .inl rfl
theorem TbW.ownFrom {W W' : World} {row : Option Nat} {B t : Nat} {F : Nat → Prop} {T : Tbl Int} (h : TbW W t F T) (hg : W.grownBy W' row) (hr : ∀ r, row = some r → B ≤ r ∧ ∃ o : Obj, W.heap[r]? = some o ∧ o.isCells = false) : TbW W' t F T := by
  obtain ⟨g, cz, A, cp, rfl, hb, ⟨cs, hs, hc⟩, hv, hok⟩ := h
  refine ⟨g, cz, A, cp, rfl, hb.ownFrom hg hr, ⟨cs, hs.ownFrom hg hr, hc⟩, ?_, hok⟩
  rcases hv.2 with ⟨h1, h2⟩ | ⟨gg, off, cap, cur, h1, h2, h3, h4⟩
  · exact ⟨hv.1, .inl ⟨h1, h2⟩⟩
  · refine hv.keep fun k hk => ?_
    have e : gg = k := by simpa [own, h1, Value.ownBlock] using hk
    subst e
    refine hg.block gg (hv.lt _ hk) fun e => ?_
    obtain ⟨_, o, ho, hoc⟩ := hr gg e.symm
    rw [h3] at ho
    cases ho
    cases hoc
theorem TbR.ownFrom {W W' : World} {row : Option Nat} {B t : Nat} {F : Nat → Prop} {T : Tbl Int} (h : TbR W t F T) (hg : W.grownBy W' row) (hr : ∀ r, row = some r → B ≤ r ∧ ∃ o : Obj, W.heap[r]? = some o ∧ o.isCells = false) : TbR W' t F T := by
  obtain ⟨g, cz, A, cp, rfl, hb, ⟨cs, hs, hc⟩, hv, hok⟩ := h
  refine ⟨g, cz, A, cp, rfl, hb.ownFrom hg hr, ⟨cs, hs.ownFrom hg hr, hc⟩, ?_, hok⟩
  rcases hv.2 with ⟨h1, h2⟩ | ⟨gg, off, cap, cur, h1, h2, h3, h4⟩
  · exact ⟨hv.1, .inl ⟨h1, h2⟩⟩
  · refine hv.keep fun k hk => ?_
    have e : gg = k := by simpa [own, h1, Value.ownBlock] using hk
    subst e
    refine hg.block gg (hv.lt _ hk) fun e => ?_
    obtain ⟨_, o, ho, hoc⟩ := hr gg e.symm
    rw [h3] at ho
    cases ho
    cases hoc
theorem Tab.ownFrom {W W' : World} {row : Option Nat} {B : Nat} (h : Tab W) (hg : W.grownBy W' row) (hr : ∀ r, row = some r → B ≤ r ∧ ∃ o : Obj, W.heap[r]? = some o ∧ o.isCells = false) : Tab W' := by
  refine h.keep (hg.block 1 h.lt fun e => ?_)
  obtain ⟨_, o, ho, hoc⟩ := hr 1 e.symm
  obtain ⟨o', ho', hc'⟩ := cells_of_cell (h 0 (by decide))
  rw [ho] at ho'
  cases ho'
  rw [hoc] at hc'
  cases hc'
theorem Tab.fr {w w' : World} {F F' : Nat → Prop} (h : Tab w) (hf : Fr F w F' w') (h1 : ¬ F 1) : Tab w' := h.keep (hf.block 1 h.lt h1)
/-- the program's table at t holds T, the document's at r holds U; X: their blocks; a, b: how many puts there have been at the most -/
structure PJ (wr : World) (X : Nat → Prop) (t r a b : Nat) (T U : Tbl Int) : Prop where
  tb : ∃ F G, X = (fun j => F j ∨ G j) ∧ TbW wr t F T ∧ TbR wr r G U ∧ (∀ x, F x → ¬ G x)
  one : ¬ X 1
  tab : Tab wr
  la : T.l.length ≤ a
  ak : 3 * 2 ^ T.k ≤ 8 * (a + 3)
  lb : U.l.length ≤ b
  bk : 3 * 2 ^ U.k ≤ 8 * (b + 3)
section
variable {wr : World} {X : Nat → Prop} {t r a b : Nat} {T U : Tbl Int}
theorem PJ.own2 (h : PJ wr X t r a b T U) : X = fun j => Own2 wr t j ∨ Own2 wr r j := by
  obtain ⟨F, G, rfl, h1, h2, _⟩ := h.tb
  rw [h1.own2, h2.own2]
theorem PJ.lt (h : PJ wr X t r a b T U) : ∀ j, X j → j < wr.heap.size := by
  obtain ⟨F, G, rfl, h1, h2, _⟩ := h.tb
  exact fun j hj => hj.elim (h1.lt j) (h2.lt j)
theorem PJ.fr (h : PJ wr X t r a b T U) {w' : World} {F F' : Nat → Prop} (hf : Fr F wr F' w') (hd : ∀ j, X j → ¬ F j) (h1f : ¬ F 1) : PJ w' X t r a b T U := by
  obtain ⟨F1, G1, rfl, h1, h2, hd'⟩ := h.tb
  exact ⟨⟨F1, G1, rfl, h1.fr hf fun j hj => hd j (.inl hj), h2.fr hf fun j hj => hd j (.inr hj), hd'⟩, h.one, h.tab.fr hf h1f, h.la, h.ak, h.lb, h.bk⟩
theorem PJ.ownFrom (h : PJ wr X t r a b T U) {w' : World} {row : Option Nat} {B : Nat} (hg : wr.grownBy w' row) (hr : ∀ r, row = some r → B ≤ r ∧ ∃ o : Obj, wr.heap[r]? = some o ∧ o.isCells = false) : PJ w' X t r a b T U := by
  obtain ⟨F1, G1, rfl, h1, h2, hd'⟩ := h.tb
  exact ⟨⟨F1, G1, rfl, h1.ownFrom hg hr, h2.ownFrom hg hr, hd'⟩, h.one, h.tab.ownFrom hg hr, h.la, h.ak, h.lb, h.bk⟩
theorem PJ.new_ (h : PJ wr X t r a b T U) {w' : World} {F : Nat → Prop} (hf : Fr (fun _ => False) wr F w') : PJ w' X t r a b T U := h.fr hf (fun _ _ h => h) fun h => h
theorem PJ.drewN (h : PJ wr X t r a b T U) (n : Nat) : PJ (wr.drewN n) X t r a b T U := h.new_ ((Fr.refl (fun _ => False) wr).drewN n)
theorem PJ.notStep (h : PJ wr X t r a b T U) {k : Nat} {cs : Array Value} (hb : Blk wr k 56 cs) : ¬ X k := by
  obtain ⟨F, G, rfl, ⟨g, cz, A, cp, rfl, h1, ⟨cs1, h2, _⟩, hv, _⟩, ⟨g', cz', A', cp', rfl, h1', ⟨cs2, h2', _⟩, hv', _⟩, _⟩ := h.tb
  rintro ((e | e | e) | (e | e | e))
  · exact Blk.ne_ hb h1 (by decide) e
  · exact Blk.ne_ hb h2 (by decide) e
  · exact Rowv.ne_ hv hb (by decide) e
  · exact Blk.ne_ hb h1' (by decide) e
  · exact Blk.ne_ hb h2' (by decide) e
  · exact Rowv.ne_ hv' hb (by decide) e
theorem PJ.stepT {w' : World} {F G F' : Nat → Prop} {T' : Tbl Int} {a' : Nat} (h : PJ wr X t r a b T U) (hX : X = fun j => F j ∨ G j) (h2 : TbR wr r G U) (hd : ∀ x, F x → ¬ G x)
    (ht : TbW w' t F' T') (hf : Fr F wr F' w') (ha : T'.l.length ≤ a') (hk : 3 * 2 ^ T'.k ≤ 8 * (a' + 3)) : ∃ X', PJ w' X' t r a' b T' U ∧ Fr X wr X' w' := by
  subst hX
  refine ⟨fun j => F' j ∨ G j, ⟨⟨F', G, rfl, ht, h2.fr hf fun x hx hx' => hd x hx' hx, fun x hx hg => (hf.new x hx).elim (fun h => hd x h hg) fun h => by have := h2.lt x hg; omega⟩,
    fun h1 => h1.elim (fun h1 => (hf.new 1 h1).elim (fun h2 => h.one (.inl h2)) fun h2 => by have := h.tab.lt; omega) fun h1 => h.one (.inr h1), h.tab.fr hf fun h1 => h.one (.inl h1), ha, hk, h.lb, h.bk⟩, ?_⟩
  exact (hf.wide fun j hj => .inl hj).into fun j hj => hj.elim .inl fun hj => .inr (.inl (.inr hj))
theorem PJ.stepU {w' : World} {F G G' : Nat → Prop} {U' : Tbl Int} {b' : Nat} (h : PJ wr X t r a b T U) (hX : X = fun j => F j ∨ G j) (h1 : TbW wr t F T) (hd : ∀ x, F x → ¬ G x)
    (ht : TbR w' r G' U') (hf : Fr G wr G' w') (hb : U'.l.length ≤ b') (hk : 3 * 2 ^ U'.k ≤ 8 * (b' + 3)) : ∃ X', PJ w' X' t r a b' T U' ∧ Fr X wr X' w' := by
  subst hX
  refine ⟨fun j => F j ∨ G' j, ⟨⟨F, G', rfl, h1.fr hf fun x hx hx' => hd x hx hx', ht, fun x hx hg => (hf.new x hg).elim (fun h => hd x hx h) fun h => by have := h1.lt x hx; omega⟩,
    fun h1 => h1.elim (fun h1 => h.one (.inl h1)) fun h1 => (hf.new 1 h1).elim (fun h2 => h.one (.inr h2)) fun h2 => by have := h.tab.lt; omega, h.tab.fr hf fun h1 => h.one (.inr h1), h.la, h.ak, hb, hk⟩, ?_⟩
  exact (hf.wide fun j hj => .inr hj).into fun j hj => hj.elim (fun hj => .inr (.inl (.inl hj))) .inl
theorem PJ.putT (h : PJ wr X t r a b T U) (ha : a ≤ 2932031007402) (key y : Int) : Calls Tryd.prog 57 #[.pointer (some ⟨t, 0, none⟩), .int .u64 key, .int .u64 y] wr fun e w' => e = .returned (.tuple #[.int .u64 (if key ∈ T.l then T.get key else 0), .bool (decide (key ∈ T.l)), .int .i64 0]) ∧ ∃ X', PJ w' X' t r (a + 1) b (T.put 0 key y) U ∧ Fr X wr X' w' := by
  obtain ⟨F, G, hX, h1, h2, hd⟩ := h.tb
  obtain ⟨hk, hby⟩ := k_lej h.ak ha
  have hla := h.la
  refine (putW_tb (y := y) h.tab h1 hk (by omega) (by omega) (k_grows h.la h.ak ha)).mono ?_
  rintro _ w' ⟨rfl, F', h1', hf⟩
  exact ⟨rfl, h.stepT hX h2 hd h1' hf (by have := T.put_len 0 key y; omega) (T.put_k 0 key y h.la h.ak)⟩
theorem PJ.putU (h : PJ wr X t r a b T U) (hb : b ≤ 2932031007402) (key y : Int) : Calls Tryd.prog 58 #[.pointer (some ⟨r, 0, none⟩), .int .u64 key, .int .u64 y] wr fun e w' => e = .returned (.tuple #[.int .u64 (if key ∈ U.l then U.get key else 0), .bool (decide (key ∈ U.l)), .int .i64 0]) ∧ ∃ X', PJ w' X' t r a (b + 1) T (U.put 0 key y) ∧ Fr X wr X' w' := by
  obtain ⟨F, G, hX, h1, h2, hd⟩ := h.tb
  obtain ⟨hk, hby⟩ := k_lej h.bk hb
  have hlb := h.lb
  refine (putR_tb (y := y) h2 hk (by omega) (k_grows h.lb h.bk hb)).mono ?_
  rintro _ w' ⟨rfl, G', h2', hf⟩
  exact ⟨rfl, h.stepU hX h1 hd h2' hf (by have := U.put_len 0 key y; omega) (U.put_k 0 key y h.lb h.bk)⟩
theorem PJ.getT (h : PJ wr X t r a b T U) (ha : a ≤ 2932031007402) (key : Int) : Calls Tryd.prog 61 #[.pointer (some ⟨t, 0, none⟩), .int .u64 key] wr fun e w' => e = .returned (.tuple #[.int .u64 (T.get key), .bool (decide (key ∈ T.l))]) ∧ ∃ n, w' = wr.drewN n := by
  obtain ⟨F, G, hX, h1, h2, hd⟩ := h.tb
  obtain ⟨hk, hby⟩ := k_lej h.ak ha
  exact getW_tb h.tab h1 hk
theorem PJ.getU (h : PJ wr X t r a b T U) (hb : b ≤ 2932031007402) (key : Int) : Calls Tryd.prog 39 #[.pointer (some ⟨r, 0, none⟩), .int .u64 key] wr fun e w' => e = .returned (.tuple #[.int .u64 (U.get key), .bool (decide (key ∈ U.l))]) ∧ ∃ n, w' = wr.drewN n := by
  obtain ⟨F, G, hX, h1, h2, hd⟩ := h.tb
  obtain ⟨hk, hby⟩ := k_lej h.bk hb
  exact getR_tb h2 hk
theorem PJ.takeT (h : PJ wr X t r a b T U) (ha : a ≤ 2932031007402) (key : Int) : Calls Tryd.prog 62 #[.pointer (some ⟨t, 0, none⟩), .int .u64 key] wr fun e w' => e = .returned (.tuple #[.int .u64 (T.get key), .bool (decide (key ∈ T.l))]) ∧ ∃ X', PJ w' X' t r a b (T.take 0 key) U ∧ Fr X wr X' w' := by
  obtain ⟨F, G, hX, h1, h2, hd⟩ := h.tb
  obtain ⟨hk, hby⟩ := k_lej h.ak ha
  have hla := h.la
  refine (takeW_tb h.tab h1 hk (by omega)).mono ?_
  rintro _ w' ⟨rfl, F', h1', hf⟩
  exact ⟨rfl, h.stepT hX h2 hd h1' hf (by have := T.take_len 0 key; omega) (by rw [T.take_k]; exact h.ak)⟩
theorem PJ.takeU (h : PJ wr X t r a b T U) (hb : b ≤ 2932031007402) (hc : U.s.Clean 0) (key : Int) : Calls Tryd.prog 63 #[.pointer (some ⟨r, 0, none⟩), .int .u64 key] wr fun e w' => e = .returned (.tuple #[.int .u64 (U.get key), .bool (decide (key ∈ U.l))]) ∧ ∃ X', PJ w' X' t r a b T (U.take 0 key) ∧ Fr X wr X' w' := by
  obtain ⟨F, G, hX, h1, h2, hd⟩ := h.tb
  obtain ⟨hk, hby⟩ := k_lej h.bk hb
  have hlb := h.lb
  have hg := get_none h2 hk hc key
  refine (takeR_tb h2 hk (by omega)).mono ?_
  rintro _ w' ⟨rfl, G', h2', hf⟩
  rw [hg]
  exact ⟨rfl, h.stepU hX h1 hd h2' hf (by have := U.take_len 0 key; omega) (by rw [U.take_k]; exact h.bk)⟩
theorem PJ.slotsT (h : PJ wr X t r a b T U) : Calls Tryd.prog 59 #[.pointer (some ⟨t, 0, none⟩)] wr fun e w' => e = .returned (.int .i64 ((2 ^ T.k : Nat) : Int)) ∧ wr = w' := by
  obtain ⟨F, G, hX, h1, h2, hd⟩ := h.tb
  exact slotsW_tb h1
theorem PJ.slotsU (h : PJ wr X t r a b T U) : Calls Tryd.prog 60 #[.pointer (some ⟨r, 0, none⟩)] wr fun e w' => e = .returned (.int .i64 ((2 ^ U.k : Nat) : Int)) ∧ wr = w' := by
  obtain ⟨F, G, hX, h1, h2, hd⟩ := h.tb
  exact slotsR_tb h2
theorem PJ.start {w1 w2 w3 : World} {F G : Nat → Prop} (hT : Tab w1) (ht : TbW w2 t F (Tbl.new 0)) (hf : Fr (fun _ => False) w1 F w2) (hr : TbR w3 r G (Tbl.new 0)) (hg : Fr (fun _ => False) w2 G w3) : ∃ X, PJ w3 X t r 0 0 (Tbl.new 0) (Tbl.new 0) ∧ Fr (fun _ => False) w1 X w3 := by
  refine ⟨fun j => F j ∨ G j, ⟨⟨F, G, rfl, ht.fr hg fun _ _ h => h, hr, fun x hx hgx => (hg.new x hgx).elim (fun h => h) fun h => by have := ht.lt x hx; omega⟩,
    fun h1 => h1.elim (fun h1 => (hf.new 1 h1).elim (fun h => h) fun h => by have := hT.lt; omega) fun h1 => (hg.new 1 h1).elim (fun h => h) fun h => by have := hT.lt; have := hf.size; omega, (hT.fr hf fun h => h).fr hg fun h => h, by simp [Tbl.new], by simp [Tbl.new], by simp [Tbl.new], by simp [Tbl.new]⟩, ?_⟩
  refine ⟨hg.os.trans hf.os, hg.tape.trans hf.tape, hg.output.trans hf.output, Nat.le_trans hf.size hg.size, fun k hk _ => (hg.block k (Nat.lt_of_lt_of_le hk hf.size) fun h => h).trans (hf.block k hk fun h => h), fun k hk => .inr ?_⟩
  exact hk.elim (fun h => (hf.new k h).elim (fun h => h.elim) id) fun h => (hg.new k h).elim (fun h => h.elim) fun h => Nat.le_trans hf.size h
end
end Go.Proofs.YtkjeobcfaolcaaaDoor
/- Clear and Copy of both tables, by contract. -/
namespace Go.Proofs.YtkjeobcfaolcaaaDoor
open Go.RowKit
set_option maxHeartbeats 4000000
set_option linter.unusedVariables false
set_option linter.unusedSimpArgs false

theorem clearW_tb {w : World} {t : Nat} {F : Nat → Prop} {T : Tbl Int} (h : TbW w t F T) :
    Calls Tryd.prog 65 #[.pointer (some ⟨t, 0, none⟩)] w fun e w' => (∃ v, e = .returned v) ∧ ∃ F', TbW w' t F' (Tbl.new 0) ∧ Fr F w F' w' := by
  have hh := Lib.hid h
  obtain ⟨g, cz, A, cp, rfl, hb, hs, hv, hok⟩ := h
  have d0 : w.cell? ⟨t, 0, none⟩ = some (.slice (some ⟨g, 0, none⟩) (2 ^ T.k : Nat) cz) := hb.cell 0
  have M := Lib.hid (madeW_b (c1 := .slice A T.l.length cp) d0)
  have B0 := Lib.hid hb
  clear hb hs hv hok
  go_enter Tryd.func65, Tryd.ntmps65
  go_wp2_with fail
  refine M.out.mono ?_
  rintro _ w1 ⟨rfl, rfl⟩
  go_wp2_with fail
  refine (newW_tb w).mono ?_
  rintro _ w2 ⟨t2, F2, rfl, h2, f2⟩
  obtain ⟨g2, cz2, A2, cp2, rfl, b2, s2, v2, ok2⟩ := h2
  have c0 : w2.cell? ⟨t2, 0, none⟩ = some (.slice (some ⟨g2, 0, none⟩) 8 cz2) := b2.cell 0
  have c1 : w2.cell? ⟨t2, 1, none⟩ = some (.slice A2 0 cp2) := b2.cell 1
  have bt := f2.blk B0.out fun h => h
  have z0 := bt.frozen 0
  have z1 := bt.frozen 1
  have e0 : w2.cell? ⟨t, 0, none⟩ = some (.slice (some ⟨g, 0, none⟩) (2 ^ T.k : Nat) cz) := bt.cell 0
  have e1 : w2.cell? ⟨t, 1, none⟩ = some (.slice A T.l.length cp) := bt.cell 1
  have hg2 : t ≠ g2 := by obtain ⟨cs, hb, _⟩ := s2; exact Blk.ne_ bt hb (by decide)
  have hv2 : ¬ own (.slice A2 (Tbl.new (0 : Int)).l.length cp2) t := Rowv.ne_ v2 bt (by decide)
  have bt := Lib.hid bt
  have s2 := Lib.hid s2
  have v2 := Lib.hid v2
  have f2 := Lib.hid f2
  have ok2 := Lib.hid ok2
  clear b2 d0 M
  go_wp2
  go_end0
  refine ⟨⟨_, rfl⟩, _, ⟨g2, cz2, A2, cp2, rfl, ?_, ?_, ?_, ok2.out⟩, ?_⟩
  · exact (by simpa using (bt.out.set_ 0 (.slice (some ⟨g2, 0, none⟩) 8 cz2)).set_ 1 (.slice A2 0 cp2) : Blk _ t 96 #[.slice (some ⟨g2, 0, none⟩) 8 cz2, .slice A2 0 cp2])
  · obtain ⟨cs, hb, hc⟩ := s2.out
    exact ⟨cs, (hb.far (p := ⟨t, 0, none⟩) (Ne.symm hg2) _).far (p := ⟨t, 1, none⟩) (Ne.symm hg2) _, hc⟩
  · exact (v2.out.set (p := ⟨t, 0, none⟩) hv2 _).set (p := ⟨t, 1, none⟩) hv2 _
  · have e1 : Fr (fun b => b = t ∨ b = g ∨ own (.slice A T.l.length cp) b) w (fun b => b = t2 ∨ b = g2 ∨ own (.slice A2 (Tbl.new (0 : Int)).l.length cp2) b) w2 := f2.out.wide fun _ h => h.elim
    refine ((e1.set (p := ⟨t, 0, none⟩) (.inr (.inl (.inl rfl))) _).set (p := ⟨t, 1, none⟩) (.inr (.inl (.inl rfl))) _).into fun j hj => ?_
    rcases hj with h | h | h
    · exact .inr (.inl (.inl h))
    · exact .inl (.inr (.inl h))
    · exact .inl (.inr (.inr h))
theorem clearR_tb {w : World} {t : Nat} {F : Nat → Prop} {T : Tbl Int} (h : TbR w t F T) :
    Calls Tryd.prog 66 #[.pointer (some ⟨t, 0, none⟩)] w fun e w' => (∃ v, e = .returned v) ∧ ∃ F', TbR w' t F' (Tbl.new 0) ∧ Fr F w F' w' := by
  obtain ⟨g, cz, A, cp, rfl, hb, hs, hv, hok⟩ := h
  have hmk := mk8R_run
  have z0 := hb.frozen 0
  have z1 := hb.frozen 1
  have c0 : w.cell? ⟨t, 0, none⟩ = some (.slice (some ⟨g, 0, none⟩) (2 ^ T.k : Nat) cz) := hb.cell 0
  have c1 : w.cell? ⟨t, 1, none⟩ = some (.slice A T.l.length cp) := hb.cell 1
  have htw := hb.lt
  obtain ⟨w1, hw1⟩ : ∃ u, Hid (u = (w.setCell ⟨t, 0, none⟩ (.slice (some ⟨w.heap.size, 0, none⟩) 8 8)).setCell ⟨t, 1, none⟩ (.slice none 0 0)) := ⟨_, Lib.hid rfl⟩
  have bt : Hid (Blk w1 t 68 #[.slice (some ⟨w.heap.size, 0, none⟩) 8 8, .slice none 0 0]) := Lib.hid (by
    rw [hw1.out]
    simpa using (hb.set_ 0 (.slice (some ⟨w.heap.size, 0, none⟩) 8 8)).set_ 1 (.slice none 0 0))
  have hs1 : w1.heap.size = w.heap.size := by rw [hw1.out]; simp [World.setCell]
  have f1 : Hid (Fr (fun b => b = t ∨ b = g ∨ own (.slice A T.l.length cp) b) w (fun b => b = t ∨ b = g ∨ own (.slice A T.l.length cp) b) w1) := Lib.hid (by rw [hw1.out]; exact ((Fr.refl _ w).set (p := ⟨t, 0, none⟩) (.inl (.inl rfl)) _).set (p := ⟨t, 1, none⟩) (.inl (.inl rfl)) _)
  replace hs1 := Lib.hid hs1
  clear hb hs hv hok
  go_enter Tryd.func66, Tryd.ntmps66
  go_wp2
  rw [← hw1.out]
  go_end0
  have bs := Blk.new w1 107 mk8R
  rw [hs1.out] at bs
  refine ⟨⟨_, rfl⟩, _, ⟨w.heap.size, 8, none, 0, rfl, bt.out.alloc _, ⟨mk8R, bs, fun i hi => ?_⟩, Wl.nil _, Tbl.new_ok 0⟩, ?_⟩
  · have hi8 : i < 8 := hi
    have : i = 0 ∨ i = 1 ∨ i = 2 ∨ i = 3 ∨ i = 4 ∨ i = 5 ∨ i = 6 ∨ i = 7 := by omega
    rcases this with rfl | rfl | rfl | rfl | rfl | rfl | rfl | rfl <;> exact ⟨rfl, rfl, rfl⟩
  · refine (f1.out.alloc _).into fun j hj => ?_
    rcases hj with h | h | h
    · exact .inl (.inl h)
    · exact .inr (.inr (by omega))
    · exact (own_nil _ _ _ h).elim
theorem copyW_tb {w : World} {t : Nat} {F : Nat → Prop} {T : Tbl Int} (h : TbW w t F T) (hlen : T.l.length * 8 ≤ 140737488355328) (hby : 2 ^ T.k * 24 ≤ 140737488355328) :
    Calls Tryd.prog 32 #[.pointer (some ⟨t, 0, none⟩)] w fun e w' => ∃ t' F', e = .returned (.pointer (some ⟨t', 0, none⟩)) ∧ TbW w' t' F' T ∧ Fr (fun _ => False) w F' w' := by
  obtain ⟨g, cz, A, cp, rfl, hb, hs, hv, hok⟩ := h
  refine (copyW_b hb hs hv (fun i _ => rfl) (Nat.two_pow_pos _) hby hlen).mono ?_
  rintro _ w' ⟨t', g', cz', A', cp', rfl, b1, s1, v1, m1⟩
  exact ⟨t', _, rfl, ⟨g', cz', A', cp', rfl, b1, s1, v1, hok⟩, m1⟩
set_option maxRecDepth 100000 in
theorem copyR_b {t g sl cz : Nat} {s : St Int} {A : Option Addr} {cp : Nat} {l : List Int} {w : World} (ht : Blk w t 68 #[.slice (some ⟨g, 0, none⟩) sl cz, .slice A l.length cp])
    (hS : HolR w g sl s) (hv : Wl w (.slice A l.length cp) l) (h0 : 0 < sl) (hlen : sl * 24 ≤ 140737488355328) (hl8 : l.length * 8 ≤ 140737488355328) :
    Calls Tryd.prog 33 #[.pointer (some ⟨t, 0, none⟩)] w fun e w' => ∃ t' g' cz' A' cp', e = .returned (.pointer (some ⟨t', 0, none⟩)) ∧ Blk w' t' 68 #[.slice (some ⟨g', 0, none⟩) sl cz', .slice A' l.length cp'] ∧
      HolR w' g' sl s ∧ Wl w' (.slice A' l.length cp') l ∧ Fr (fun _ => False) w (fun b => b = t' ∨ b = g' ∨ own (.slice A' l.length cp') b) w' := by
  have d0 : w.cell? ⟨t, 0, none⟩ = some (.slice (some ⟨g, 0, none⟩) sl cz) := ht.cell 0
  have d1 : w.cell? ⟨t, 1, none⟩ = some (.slice A l.length cp) := ht.cell 1
  have B0 := Lib.hid ht
  have V0 := Lib.hid hv
  obtain ⟨cs, hb, hc⟩ := hS
  have hsz : sl * 3 ≤ cs.size := by
    have := (Array.getElem?_eq_some_iff.1 (hc (sl - 1) (by omega)).2.2).1
    omega
  obtain ⟨news, hnews⟩ : ∃ news, Hid (news = cs.toList.take (sl * 3)) := ⟨_, Lib.hid rfl⟩
  have hn : news.length = sl * 3 := by rw [hnews.out, List.length_take]; simp; omega
  have hget : ∀ j, j < sl * 3 → news[j]? = cs[j]? := fun j hj => by rw [hnews.out, List.getElem?_take, if_pos hj, Array.getElem?_toList]
  have h1c : ∀ u ∈ news, u.oneCell' = true := by
    intro u hu
    obtain ⟨j, hj⟩ := List.mem_iff_getElem?.1 hu
    have hjl : j < sl * 3 := by rw [← hn]; exact (List.getElem?_eq_some_iff.1 hj).1
    rw [hget j hjl] at hj
    obtain ⟨a0, a1, a2⟩ := hc (j / 3) (by omega)
    rcases (by omega : j = j / 3 * 3 ∨ j = j / 3 * 3 + 1 ∨ j = j / 3 * 3 + 2) with e | e | e
    · rw [e, a0] at hj; cases hj; rfl
    · rw [e, a1] at hj; cases hj; rfl
    · rw [e, a2] at hj; cases hj; rfl
  have hcell : ∀ n j u, news[j]? = some u → (w.drewN n).cell? ((⟨g, 0, none⟩ : Addr).add j) = some u := fun n j u hj => by
    have hjl : j < sl * 3 := by rw [← hn]; exact (List.getElem?_eq_some_iff.1 hj).1
    rw [Addr.add_lit, Nat.zero_add, Blk.cell (hb.drewN n), ← hget j hjl]
    exact hj
  have hcell := Lib.hid hcell
  have h1c := Lib.hid h1c
  have hget := Lib.hid hget
  have hc := Lib.hid hc
  have hn := Lib.hid hn
  obtain ⟨i0, hi, hz0, hz1, hz2⟩ := info_parts slot_infoR
  have hi := Lib.hid hi
  have hz0 := Lib.hid hz0
  have hz1 := Lib.hid hz1
  have hz2 := Lib.hid hz2
  have hb1 : 0 + sl ≤ maxLen := by unfold maxLen; omega
  have hb2 : (0 + sl) * 24 ≤ 140737488355328 := by omega
  clear ht hv hb
  go_enter Tryd.func33, Tryd.ntmps33
  go_wp2_with fail
  refine wp_region_mix (fun W' => W'.cell? ⟨t, 1, none⟩ = some (.slice A l.length cp)) [3, 3, 3, 1, 2, 3, 3, 3, 0, 2, 2, 2, 3] [0, 1, 2, 3, 5, 6, 7, 8, 4, 9, 10, 11, 12] (by kernel_rfl) (by kernel_rfl) (fun _ _ h => h) d1 ?_
  repeat (first | ((first | refine wpMix_pure rfl rfl (fun K hK => ?_) | refine wpMix_loc rfl rfl (fun K hK => ?_) | refine wpMix_any rfl rfl (fun K hK => ?_)); go_simp; refine hK _ _ ?_; clear hK K) | (refine wpMix_any rfl rfl (fun K hK => ?_); rw [if_pos (by go_simp)]; apply Exists.intro; refine And.intro (fun w2 hS2 => ?_) (hK _ _ ?_); (focus (obtain hs1 := hS2; go_simp; rfl)); clear hK K))
  refine wpMix_loud rfl rfl (fun n1 K hK => ?_)
  refine wpList_append_own _ rfl (.const (.slice none 0 0)) (.tmp 8) 66 rfl w.heap.size 107 i0 _ 3 24 Tryd.underlying66 hi.out hz0.out hz1.out hz2.out rfl (by decide) (.slice none 0 0) 0 [] rfl (World.ownsRow_nil _ w.heap.size 107 3) ⟨g, 0, none⟩ sl cz news rfl hn.out (hcell.out (1 + n1)) h1c.out hb1 hb2 (Nat.le_refl _) ?_
  intro v3 w3 hown hgr hnil
  rw [List.nil_append, Nat.zero_add] at hown
  obtain ⟨g3, z3, cur, rfl, hb3, hh, hsz2, htk⟩ := ownsRow_made hown h0
  have S3 : Hid (HolR w3 g3 sl s) := Lib.hid ⟨cur, hh, fun i hi => by
    have e : ∀ j, j < sl * 3 → cur[j]? = cs[j]? := fun j hj => by
      rw [← hget.out j hj, ← htk, List.getElem?_take, if_pos hj, Array.getElem?_toList]
    obtain ⟨a0, a1, a2⟩ := hc.out i hi
    exact ⟨(e _ (by omega)).trans a0, (e _ (by omega)).trans a1, (e _ (by omega)).trans a2⟩⟩
  have m3 : Fr (fun _ => False) w (fun _ => False) w3 := ((Fr.refl (fun _ => False) w).drewN (1 + n1)).grown (row := none) ⟨hgr.os, hgr.tape, hgr.output, hgr.size, hgr.block⟩ fun k hk => by cases hk
  have M3 := Lib.hid m3
  have ge3 := Lib.hid hb3
  have V3 : Hid (Wl w3 (.slice A l.length cp) l) := Lib.hid (V0.out.frs m3 fun k _ h => h)
  have B3 := Lib.hid (m3.blk B0.out fun h => h)
  have d3 : w3.cell? ⟨t, 1, none⟩ = some (.slice A l.length cp) := B3.out.cell 1
  clear m3 d0 hown hgr hnil hb3 hh hsz2 htk hi hz0 hz1 hz2 hb1 hb2
  refine hK _ _ (fun _ => d3) ?_; clear hK K
  repeat (first | ((first | refine wpMix_pure rfl rfl (fun K hK => ?_) | refine wpMix_loc rfl rfl (fun K hK => ?_) | refine wpMix_any rfl rfl (fun K hK => ?_)); go_simp; refine hK _ _ ?_; clear hK K) | (refine wpMix_any rfl rfl (fun K hK => ?_); rw [if_pos (by go_simp)]; apply Exists.intro; refine And.intro (fun w2 hS2 => ?_) (hK _ _ ?_); (focus (obtain hs1 := hS2; go_simp; rfl)); clear hK K))
  refine wpMix_loud rfl rfl (fun n2 K hK => ?_)
  refine wpList_words (w3.drewN n2) rfl (.const (.slice none 0 0)) (.tmp 13) rfl (.slice none 0 0) (.slice A l.length cp) [] l rfl (Wl.nil _) rfl (V3.out.lies.drewN n2) (by simpa using hl8) ?_
  intro A4 c4 w4 hc4 hv4 hm4
  simp only [List.length_nil, Nat.zero_add, List.nil_append] at hc4 hv4 hm4 ⊢
  have V4 := Lib.hid hv4
  have M4 : Hid (Fr (fun _ => False) (w3.drewN n2) (own (.slice A4 l.length c4)) w4) := Lib.hid (hm4.wide fun k hk => (own_nil _ _ _ hk).elim)
  have S4 : Hid (HolR w4 g3 sl s) := Lib.hid (SltR.fr (SltR.drewN S3.out n2) M4.out fun h => h)
  clear hv4 hm4 d3 d1
  refine hK _ _ (fun h => (Bool.false_ne_true ((Eq.symm (by kernel_rfl)).trans h)).elim) ?_; clear hK K
  repeat ((first | refine wpMix_pure rfl rfl (fun K hK => ?_) | refine wpMix_loc rfl rfl (fun K hK => ?_) | refine wpMix_any rfl rfl (fun K hK => ?_)); go_simp; refine hK _ _ ?_; clear hK K)
  refine wpMix_loud rfl rfl (fun n3 K hK => ?_)
  go_wp2_with fail
  refine hK _ _ (fun h => (Bool.false_ne_true ((Eq.symm (by kernel_rfl)).trans h)).elim) ?_; clear hK K
  repeat ((first | refine wpMix_pure rfl rfl (fun K hK => ?_) | refine wpMix_loc rfl rfl (fun K hK => ?_) | refine wpMix_any rfl rfl (fun K hK => ?_)); go_simp; refine hK _ _ ?_; clear hK K)
  refine wpMix_loud rfl rfl (fun n4 K hK => ?_)
  go_wp2_with fail
  refine hK _ _ (fun h => (Bool.false_ne_true ((Eq.symm (by kernel_rfl)).trans h)).elim) ?_; clear hK K
  repeat ((first | refine wpMix_pure rfl rfl (fun K hK => ?_) | refine wpMix_loc rfl rfl (fun K hK => ?_) | refine wpMix_any rfl rfl (fun K hK => ?_)); go_simp; refine hK _ _ ?_; clear hK K)
  refine wpMix_nil (fun n5 => ?_)
  go_wp2
  go_ret
  have e4 := (M3.out.drewN n2).beside M4.out fun k hk => hk.elim
  have e5 := ((e4.drewN (n3 + n4)).alloc (.cells #[.slice (some ⟨g3, 0, none⟩) sl z3, .slice A4 l.length c4] 68)).drewN n5
  refine ⟨_, g3, z3, A4, c4, rfl, (Blk.new (w4.drewN (n3 + n4)) 68 #[.slice (some ⟨g3, 0, none⟩) sl z3, .slice A4 l.length c4]).drewN n5, SltR.drewN (SltR.alloc (SltR.drewN S4.out (n3 + n4)) _) n5, ((V4.out.drewN (n3 + n4)).alloc _).drewN n5, e5.into fun k hk => ?_⟩
  rcases hk with rfl | rfl | hk
  · exact .inr (.inr e4.size)
  · exact .inr (.inr ge3.out)
  · rcases M4.out.new k hk with h | h
    · exact h.elim
    · exact .inr (.inr (Nat.le_trans M3.out.size h))
theorem copyR_tb {w : World} {t : Nat} {F : Nat → Prop} {T : Tbl Int} (h : TbR w t F T) (hlen : T.l.length * 8 ≤ 140737488355328) (hby : 2 ^ T.k * 24 ≤ 140737488355328) :
    Calls Tryd.prog 33 #[.pointer (some ⟨t, 0, none⟩)] w fun e w' => ∃ t' F', e = .returned (.pointer (some ⟨t', 0, none⟩)) ∧ TbR w' t' F' T ∧ Fr (fun _ => False) w F' w' := by
  obtain ⟨g, cz, A, cp, rfl, hb, hs, hv, hok⟩ := h
  refine (copyR_b hb hs hv (Nat.two_pow_pos _) hby hlen).mono ?_
  rintro _ w' ⟨t', g', cz', A', cp', rfl, b1, s1, v1, m1⟩
  exact ⟨t', _, rfl, ⟨g', cz', A', cp', rfl, b1, s1, v1, hok⟩, m1⟩
end Go.Proofs.YtkjeobcfaolcaaaDoor
