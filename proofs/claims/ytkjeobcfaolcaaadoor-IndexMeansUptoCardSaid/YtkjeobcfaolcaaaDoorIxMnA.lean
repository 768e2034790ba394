/- IndexMeans: two tables in one world, call by call. -/
import Derived.Test.YtkjeobcfaolcaaaDoorIxZI
import Derived.Test.YtkjeobcfaolcaaaDoorIxZS
import Derived.Test.YtkjeobcfaolcaaaDoorIxT5
import Derived.Test.YtkjeobcfaolcaaaDoorIn
import Derived.Test.YtkjeobcfaolcaaaDoorIxL
namespace Go.Proofs.YtkjeobcfaolcaaaDoor
open Go.RowKit
set_option maxHeartbeats 4000000
set_option linter.unusedVariables false
set_option linter.unusedSimpArgs false

theorem Lies.cellz {w : World} {A : Option Addr} {n cp : Nat} {l : List Int} (h : Lies w (.slice A n cp) l) {i : Nat} (hi : i < l.length) : n = l.length ∧ ∃ g off, A = some ⟨g, off, none⟩ ∧ ∀ j (hj : j < l.length), w.cell? ⟨g, off + j, none⟩ = some (.int .u64 (l[j]'hj)) := by
  obtain ⟨A', cp', e, _, _, hc⟩ := h
  injection e with e1 e2 e3
  subst e1 e2
  obtain ⟨g, o, rfl, _⟩ := hc i hi
  refine ⟨rfl, g, o, rfl, fun j hj => ?_⟩
  obtain ⟨g', o', e, hcell⟩ := hc j hj
  injection e with e
  injection e with e1 e2
  subst e1 e2
  rw [hcell, List.getD_eq_getElem?_getD, List.getElem?_eq_getElem hj]
  rfl
theorem k_le {k m : Nat} (h : 3 * 2 ^ k ≤ 8 * (m + 3)) (hm : m ≤ 1048576) : k ≤ 40 ∧ 2 ^ k * 32 ≤ 140737488355328 := by
  refine ⟨Nat.le_of_not_lt fun hk => ?_, by omega⟩
  have : 2 ^ 41 ≤ 2 ^ k := Nat.pow_le_pow_right (by omega) hk
  omega
/-- the world wr, begun at w: table T of numbers at t, table U of texts at u -/
structure MI (w wr : World) (t u a b : Nat) (T : Tbl Int) (U : Tbl ByteArray) : Prop where
  tb : ∃ F G, TbI wr t F T ∧ TbS wr u G U ∧ (∀ x, F x → ¬ G x) ∧ (∀ x, F x → w.heap.size ≤ x) ∧ (∀ x, G x → w.heap.size ≤ x)
  below : Below w.heap.size w wr
  tab : Tab w
  la : T.l.length ≤ a
  ak : 3 * 2 ^ T.k ≤ 8 * (a + 3)
  lb : U.l.length ≤ b
  bk : 3 * 2 ^ U.k ≤ 8 * (b + 3)
section
variable {w wr : World} {t u a b : Nat} {T : Tbl Int} {U : Tbl ByteArray}
theorem MI.tab' (h : MI w wr t u a b T U) : Tab wr := h.tab.keep (h.below.block 1 h.tab.lt)
theorem MI.drewN (h : MI w wr t u a b T U) (n : Nat) : MI w (wr.drewN n) t u a b T U := ⟨h.tb, below_drewNs h.below n, h.tab, h.la, h.ak, h.lb, h.bk⟩
theorem MI.okT (h : MI w wr t u a b T U) : T.Ok := by obtain ⟨F, G, h1, _⟩ := h.tb; exact h1.ok
/-- the first table has turned -/
theorem MI.stepT {w' : World} {F G F' : Nat → Prop} {T' : Tbl Int} {a' : Nat} (h : MI w wr t u a b T U) (h1 : TbI wr t F T) (h2 : TbS wr u G U) (hd : ∀ x, F x → ¬ G x) (hF : ∀ x, F x → w.heap.size ≤ x) (hG : ∀ x, G x → w.heap.size ≤ x)
    (ht : TbI w' t F' T') (hf : Fr F wr F' w') (ha : T'.l.length ≤ a') (hk : 3 * 2 ^ T'.k ≤ 8 * (a' + 3)) : MI w w' t u a' b T' U :=
  ⟨⟨F', G, ht, h2.fr hf fun x hx hx' => hd x hx' hx, fun x hx hg => (hf.new x hx).elim (fun h => hd x h hg) fun h => by have := h2.lt x hg; omega, fun x hx => (hf.new x hx).elim (hF x) fun h9 => Nat.le_trans h.below.size h9, hG⟩,
    h.below.trans (hf.below hF h.below.size), h.tab, ha, hk, h.lb, h.bk⟩
theorem MI.stepU {w' : World} {F G G' : Nat → Prop} {U' : Tbl ByteArray} {b' : Nat} (h : MI w wr t u a b T U) (h1 : TbI wr t F T) (h2 : TbS wr u G U) (hd : ∀ x, F x → ¬ G x) (hF : ∀ x, F x → w.heap.size ≤ x) (hG : ∀ x, G x → w.heap.size ≤ x)
    (ht : TbS w' u G' U') (hf : Fr G wr G' w') (hb : U'.l.length ≤ b') (hk : 3 * 2 ^ U'.k ≤ 8 * (b' + 3)) : MI w w' t u a b' T U' :=
  ⟨⟨F, G', h1.fr hf fun x hx hx' => hd x hx hx', ht, fun x hx hg => (hf.new x hg).elim (fun h => hd x hx h) fun h => by have := h1.lt x hx; omega, hF, fun x hx => (hf.new x hx).elim (hG x) fun h9 => Nat.le_trans h.below.size h9⟩,
    h.below.trans (hf.below hG h.below.size), h.tab, h.la, h.ak, hb, hk⟩
theorem MI.putT (h : MI w wr t u a b T U) (ha : a ≤ 1048576) (key y : Int) : Calls Tryd.prog 15 #[.pointer (some ⟨t, 0, none⟩), .int .u64 key, .int .i64 y] wr fun e w' => (∃ v, e = .returned v) ∧ MI w w' t u (a + 1) b (T.put 0 key y) U := by
  obtain ⟨F, G, h1, h2, hd, hF, hG⟩ := h.tb
  obtain ⟨hk, hby⟩ := k_le h.ak ha
  have hla := h.la
  refine (putI_tb (y := y) h.tab' h1 hk (by omega) (by omega)).mono ?_
  rintro _ w' ⟨rfl, F', h1', hf⟩
  exact ⟨⟨_, rfl⟩, h.stepT h1 h2 hd hF hG h1' hf (by have := T.put_len 0 key y; omega) (T.put_k 0 key y h.la h.ak)⟩
theorem MI.putU (h : MI w wr t u a b T U) (hb : b ≤ 1048576) (key : Int) (y : ByteArray) : Calls Tryd.prog 16 #[.pointer (some ⟨u, 0, none⟩), .int .u64 key, .string y] wr fun e w' => (∃ v, e = .returned v) ∧ MI w w' t u a (b + 1) T (U.put ⟨#[]⟩ key y) := by
  obtain ⟨F, G, h1, h2, hd, hF, hG⟩ := h.tb
  obtain ⟨hk, hby⟩ := k_le h.bk hb
  have hlb := h.lb
  refine (putS_tb (y := y) h.tab' h2 hk (by omega) (by omega)).mono ?_
  rintro _ w' ⟨rfl, G', h2', hf⟩
  exact ⟨⟨_, rfl⟩, h.stepU h1 h2 hd hF hG h2' hf (by have := U.put_len ⟨#[]⟩ key y; omega) (U.put_k ⟨#[]⟩ key y h.lb h.bk)⟩
theorem MI.getT (h : MI w wr t u a b T U) (ha : a ≤ 1048576) (key : Int) : Calls Tryd.prog 17 #[.pointer (some ⟨t, 0, none⟩), .int .u64 key] wr fun e w' => e = .returned (.tuple #[.int .i64 (T.get key), .bool (decide (key ∈ T.l))]) ∧ MI w w' t u a b T U := by
  obtain ⟨F, G, h1, h2, hd, hF, hG⟩ := h.tb
  obtain ⟨hk, hby⟩ := k_le h.ak ha
  refine (getI_tb h.tab' h1 hk).mono ?_
  rintro _ w' ⟨rfl, n, rfl⟩
  exact ⟨rfl, h.drewN n⟩
theorem MI.takeT (h : MI w wr t u a b T U) (ha : a ≤ 1048576) (key : Int) : Calls Tryd.prog 18 #[.pointer (some ⟨t, 0, none⟩), .int .u64 key] wr fun e w' => e = .returned (.tuple #[.int .i64 (T.get key), .bool (decide (key ∈ T.l))]) ∧ MI w w' t u a b (T.take 0 key) U := by
  obtain ⟨F, G, h1, h2, hd, hF, hG⟩ := h.tb
  obtain ⟨hk, hby⟩ := k_le h.ak ha
  have hla := h.la
  refine (takeI_tb h.tab' h1 hk (by omega)).mono ?_
  rintro _ w' ⟨rfl, F', h1', hf⟩
  exact ⟨rfl, h.stepT h1 h2 hd hF hG h1' hf (by have := T.take_len 0 key; omega) (by rw [T.take_k]; exact h.ak)⟩
theorem MI.takeU (h : MI w wr t u a b T U) (hb : b ≤ 1048576) (key : Int) : Calls Tryd.prog 19 #[.pointer (some ⟨u, 0, none⟩), .int .u64 key] wr fun e w' => (∃ v, e = .returned v) ∧ MI w w' t u a b T (U.take ⟨#[]⟩ key) := by
  obtain ⟨F, G, h1, h2, hd, hF, hG⟩ := h.tb
  obtain ⟨hk, hby⟩ := k_le h.bk hb
  have hlb := h.lb
  refine (takeS_tb h.tab' h2 hk (by omega)).mono ?_
  rintro _ w' ⟨rfl, G', h2', hf⟩
  exact ⟨⟨_, rfl⟩, h.stepU h1 h2 hd hF hG h2' hf (by have := U.take_len ⟨#[]⟩ key; omega) (by rw [U.take_k]; exact h.bk)⟩
theorem MI.askedT (h : MI w wr t u a b T U) (ha : a ≤ 1048576) (key : Int) : Calls Tryd.prog 20 #[.pointer (some ⟨t, 0, none⟩), .int .u64 key] wr fun e w' => e = .returned (.int .i64 (T.asked key : Int)) ∧ wr = w' := by
  obtain ⟨F, G, h1, h2, hd, hF, hG⟩ := h.tb
  obtain ⟨hk, hby⟩ := k_le h.ak ha
  exact askedI_tb h.tab' h1 hk
theorem MI.askedU (h : MI w wr t u a b T U) (hb : b ≤ 1048576) (key : Int) : Calls Tryd.prog 22 #[.pointer (some ⟨u, 0, none⟩), .int .u64 key] wr fun e w' => e = .returned (.int .i64 (U.asked key : Int)) ∧ wr = w' := by
  obtain ⟨F, G, h1, h2, hd, hF, hG⟩ := h.tb
  obtain ⟨hk, hby⟩ := k_le h.bk hb
  exact askedS_tb h.tab' h2 hk
theorem MI.askT (h : MI w wr t u a b T U) (ha : a ≤ 1048576) (key : Int) : 1 ≤ T.asked key ∧ T.asked key ≤ T.l.length + 1 := by
  obtain ⟨F, G, h1, h2, hd, hF, hG⟩ := h.tb
  obtain ⟨hk, hby⟩ := k_le h.ak ha
  obtain ⟨_, _, _, h3, h4⟩ := Tbl.lookI h1 hk key
  exact ⟨h3, h4⟩
theorem MI.lenT (h : MI w wr t u a b T U) : Calls Tryd.prog 21 #[.pointer (some ⟨t, 0, none⟩)] wr fun e w' => e = .returned (.int .i64 (T.l.length : Int)) ∧ wr = w' := by
  obtain ⟨F, G, h1, h2, hd, hF, hG⟩ := h.tb
  exact lenI_tb h1
theorem MI.lenU (h : MI w wr t u a b T U) : Calls Tryd.prog 25 #[.pointer (some ⟨u, 0, none⟩)] wr fun e w' => e = .returned (.int .i64 (U.l.length : Int)) ∧ wr = w' := by
  obtain ⟨F, G, h1, h2, hd, hF, hG⟩ := h.tb
  exact lenS_tb h2
theorem MI.slotsT (h : MI w wr t u a b T U) : Calls Tryd.prog 23 #[.pointer (some ⟨t, 0, none⟩)] wr fun e w' => e = .returned (.int .i64 ((2 ^ T.k : Nat) : Int)) ∧ wr = w' := by
  obtain ⟨F, G, h1, h2, hd, hF, hG⟩ := h.tb
  exact slotsI_tb h1
theorem MI.slotsU (h : MI w wr t u a b T U) : Calls Tryd.prog 24 #[.pointer (some ⟨u, 0, none⟩)] wr fun e w' => e = .returned (.int .i64 ((2 ^ U.k : Nat) : Int)) ∧ wr = w' := by
  obtain ⟨F, G, h1, h2, hd, hF, hG⟩ := h.tb
  exact slotsS_tb h2
theorem MI.keysT (h : MI w wr t u a b T U) (ha : a ≤ 1048576) : Calls Tryd.prog 27 #[.pointer (some ⟨t, 0, none⟩)] wr fun e w' => ∃ A cp, e = .returned (.slice A T.l.length cp) ∧ Wl w' (.slice A T.l.length cp) T.l ∧ MI w w' t u a b T U := by
  obtain ⟨F, G, h1, h2, hd, hF, hG⟩ := h.tb
  have hla := h.la
  refine (keysI_tb h1 (by omega)).mono ?_
  rintro _ w' ⟨A, cp, rfl, hv, hf⟩
  exact ⟨A, cp, rfl, hv, ⟨F, G, h1.fr hf fun _ _ h => h, h2.fr hf fun _ _ h => h, hd, hF, hG⟩, h.below.trans (hf.below (fun _ h => h.elim) h.below.size), h.tab, h.la, h.ak, h.lb, h.bk⟩
theorem MI.keysU (h : MI w wr t u a b T U) (hb : b ≤ 1048576) {v : Value} {l : List Int} (hv : Wl wr v l) : Calls Tryd.prog 28 #[.pointer (some ⟨u, 0, none⟩)] wr fun e w' => ∃ A cp, e = .returned (.slice A U.l.length cp) ∧ Wl w' (.slice A U.l.length cp) U.l ∧ Wl w' v l ∧ Below w.heap.size w w' := by
  obtain ⟨F, G, h1, h2, hd, hF, hG⟩ := h.tb
  have hlb := h.lb
  refine (keysS_tb h2 (by omega)).mono ?_
  rintro _ w' ⟨A, cp, rfl, hv', hf⟩
  exact ⟨A, cp, rfl, hv', hv.frs hf fun _ _ h => h, h.below.trans (hf.below (fun _ h => h.elim) h.below.size)⟩
end
end Go.Proofs.YtkjeobcfaolcaaaDoor
