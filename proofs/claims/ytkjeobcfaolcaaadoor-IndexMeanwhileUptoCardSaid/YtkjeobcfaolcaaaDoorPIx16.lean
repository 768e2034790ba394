/- Three pairs of tables, by contract (IndexPlays). -/
import Derived.Test.YtkjeobcfaolcaaaDoorRows
import Derived.ProofKit
import Derived.OpenShut
import Derived.ChangeOld
import Derived.Below
import Derived.SizedLaws
import Derived.Deep.Slices
import Derived.Deep.Fields
import Derived.ChangeSame
import Derived.Carry
import Derived.Test.YtkjeobcfaolcaaaDoorPIx15
namespace Go.Proofs.YtkjeobcfaolcaaaDoor
open Go.RowKit
set_option maxHeartbeats 4000000
set_option linter.unusedVariables false
set_option linter.unusedSimpArgs false

theorem keepC {B : Nat} {w W : World} {p : Addr} {v : Value} (hb : Below B w W) (hB : w.heap.size ≤ B) (h : w.cell? p = some v) : W.cell? p = some v := by
  have hlt : p.block < w.heap.size := Nat.lt_of_not_le fun hh => by
    unfold World.cell? at h
    rw [Array.getElem?_eq_none hh] at h
    cases h
  exact (hb.cell (Nat.lt_of_lt_of_le hlt hB)).trans h
def upd {α : Type} (f : Nat → α) (j : Nat) (x : α) : Nat → α := fun i => if i = j then x else f i
theorem upd_at {α : Type} (f : Nat → α) (j : Nat) (x : α) : upd f j x j = x := by simp [upd]
theorem upd_ne {α : Type} (f : Nat → α) {i j : Nat} (x : α) (h : i ≠ j) : upd f j x i = f i := by simp [upd, h]
def arr3 (p : Nat → Option Addr) : Array Value := #[.pointer (p 0), .pointer (p 1), .pointer (p 2)]
theorem arr3_at (p : Nat → Option Addr) {j : Nat} (h : j < 3) : (arr3 p)[j]? = some (.pointer (p j)) := by
  rcases (by omega : j = 0 ∨ j = 1 ∨ j = 2) with rfl | rfl | rfl <;> rfl
theorem arr3_set (p : Nat → Option Addr) {j : Nat} (h : j < 3) (x : Option Addr) : (arr3 p).setIfInBounds j (.pointer x) = arr3 (upd p j x) := by
  rcases (by omega : j = 0 ∨ j = 1 ∨ j = 2) with rfl | rfl | rfl <;> rfl
/-- three pairs of tables, m calls behind the start w -/
structure PW (w W : World) (tb rb m : Nat) (p q : Nat → Option Addr) (X : Nat → Nat → Prop) (T : Nat → Tbl Int) : Prop where
  bt : Blk W tb 51 (arr3 p)
  br : Blk W rb 54 (arr3 q)
  pr : ∀ j, j < 3 → Pr W (X j) (p j) (q j) m (T j)
  dis : ∀ j k, j < 3 → k < 3 → j ≠ k → ∀ b, X j b → ¬ X k b
  ge : ∀ j, j < 3 → ∀ b, X j b → w.heap.size ≤ b ∧ b ≠ tb ∧ b ≠ rb
  below : Below w.heap.size w W
  tab : Tab w
  tge : w.heap.size ≤ tb ∧ w.heap.size ≤ rb
section
variable {w W : World} {tb rb m : Nat} {p q : Nat → Option Addr} {X : Nat → Nat → Prop} {T : Nat → Tbl Int}
theorem PW.tab' (h : PW w W tb rb m p q X T) : Tab W := h.tab.keep (h.below.block 1 h.tab.lt)
theorem PW.ne (h : PW w W tb rb m p q X T) : tb ≠ rb := Blk.ne_ h.bt h.br (by decide)
theorem PW.new_ (h : PW w W tb rb m p q X T) {W' : World} {F : Nat → Prop} (hf : Fr (fun _ => False) W F W') : PW w W' tb rb m p q X T :=
  ⟨hf.blk h.bt fun h => h, hf.blk h.br fun h => h, fun j hj => (h.pr j hj).fr hf (fun _ _ h => h) fun h => h, h.dis, h.ge, h.below.trans (hf.below (fun _ h => h.elim) h.below.size), h.tab, h.tge⟩
theorem PW.drewN (h : PW w W tb rb m p q X T) (n : Nat) : PW w (W.drewN n) tb rb m p q X T := h.new_ ((Fr.refl (fun _ => False) W).drewN n)
theorem PW.step (h : PW w W tb rb m p q X T) {j : Nat} (hj : j < 3) {W' : World} {X' : Nat → Prop} {T' : Tbl Int} (hp : Pr W' X' (p j) (q j) (m + 1) T') (hf : Fr (X j) W X' W') : PW w W' tb rb (m + 1) p q (upd X j X') (upd T j T') := by
  have h1 : ¬ X j 1 := fun h1 => by have := (h.ge j hj 1 h1).1; have := h.tab.lt; omega
  refine ⟨hf.blk h.bt fun hh => (h.ge j hj tb hh).2.1 rfl, hf.blk h.br fun hh => (h.ge j hj rb hh).2.2 rfl, fun k hk => ?_, fun k l hk hl hkl b => ?_, fun k hk b => ?_, h.below.trans (hf.below (fun b hb => (h.ge j hj b hb).1) h.below.size), h.tab, h.tge⟩
  · by_cases e : k = j
    · subst e; rw [upd_at, upd_at]; exact hp
    · rw [upd_ne _ _ e, upd_ne _ _ e]; exact ((h.pr k hk).fr hf (fun b hb => h.dis k j hk hj e b hb) h1).more
  · by_cases e : k = j
    · subst e
      rw [upd_at, upd_ne _ _ (Ne.symm hkl)]
      intro hb hc
      rcases hf.new b hb with h2 | h2
      · exact h.dis k l hk hl hkl b h2 hc
      · have := (h.pr l hl).lt b hc; omega
    · rw [upd_ne _ _ e]
      by_cases e2 : l = j
      · subst e2
        rw [upd_at]
        intro hb hc
        rcases hf.new b hc with h2 | h2
        · exact h.dis k l hk hl hkl b hb h2
        · have := (h.pr k hk).lt b hb; omega
      · rw [upd_ne _ _ e2]; exact h.dis k l hk hl hkl b
  · by_cases e : k = j
    · subst e
      rw [upd_at]
      intro hb
      rcases hf.new b hb with h2 | h2
      · exact h.ge k hk b h2
      · have := h.below.size; have := h.bt.lt; have := h.br.lt; omega
    · rw [upd_ne _ _ e]; exact h.ge k hk b
theorem PW.copied (h : PW w W tb rb m p q X T) {who tt : Nat} (hw : who < 3) (ht : tt < 3) {W1 W2 W3 W4 : World} {p' q' : Option Addr} {F G : Nat → Prop} (c1 : CpT W1 F (p who) p' (T who)) (f1 : Fr (fun _ => False) W F W1)
    (e2 : W2 = W1.setCell ⟨tb, tt, none⟩ (.pointer p')) (c2 : CpR W3 G (q who) q' (T who)) (f3 : Fr (fun _ => False) W2 G W3) (e4 : W4 = W3.setCell ⟨rb, tt, none⟩ (.pointer q')) :
    PW w W4 tb rb m (upd p tt p') (upd q tt q') (upd X tt (fun j => F j ∨ G j)) (upd T tt (T who)) := by
  have hlt := h.bt.lt
  have hlr := h.br.lt
  have s1 := f1.size
  have f2 : Fr (fun b => b = tb) W1 (fun b => b = tb) W2 := by rw [e2]; exact (Fr.refl (fun b => b = tb) W1).set (p := ⟨tb, tt, none⟩) (.inl rfl) _
  have f4 : Fr (fun b => b = rb) W3 (fun b => b = rb) W4 := by rw [e4]; exact (Fr.refl (fun b => b = rb) W3).set (p := ⟨rb, tt, none⟩) (.inl rfl) _
  have hne := h.ne
  have hF : ∀ b, F b → W.heap.size ≤ b := fun b hb => (f1.new b hb).elim (fun h => h.elim) id
  have hG : ∀ b, G b → W.heap.size ≤ b := fun b hb => (f3.new b hb).elim (fun h => h.elim) fun h => by have := f2.size; omega
  have htl := h.tab.lt
  have hbs := h.below.size
  have hp3 : Pr W3 (fun j => F j ∨ G j) p' q' m (T who) := (h.pr who hw).copied h.tab' c1 f1 f2 (fun b hb hc => by have := hF b hc; omega) (by have := h.tge.1; omega) c2 f3
  have f24 : Fr (fun b => b = tb ∨ b = rb) W (fun b => b = tb ∨ b = rb) W4 :=
    ((((f1.into (G := fun _ => False) fun _ h => h.elim).wide fun _ h => h.elim).into (G := fun b => b = tb ∨ b = rb) fun _ h => .inr (.inl h)).trans (f2.wide fun _ h => .inl h) |>.into (G := fun b => b = tb ∨ b = rb) fun b h => .inr (.inl h)).trans (((f3.into (G := fun _ => False) fun _ h => h.elim).wide fun _ h => h.elim).into (G := fun b => b = tb ∨ b = rb) fun _ h => .inr (.inl h)) |>.trans (f4.wide fun _ h => .inr h) |>.into fun b h => .inr (.inl h)
  refine ⟨?_, ?_, fun k hk => ?_, fun k l hk hl hkl b => ?_, fun k hk b => ?_, h.below.trans (f24.below (fun b hb => by have := h.tge; omega) hbs), h.tab, h.tge⟩
  · have b2 : Blk W2 tb 51 (arr3 (upd p tt p')) := by rw [e2, ← arr3_set p ht]; exact (f1.blk h.bt fun h => h).set_ tt _
    exact f4.blk (f3.blk b2 fun h => h) hne
  · rw [e4, ← arr3_set q ht]
    exact (f3.blk (f2.blk (f1.blk h.br fun h => h) fun e => hne e.symm) fun h => h).set_ tt _
  · by_cases e : k = tt
    · subst e
      rw [upd_at, upd_at, upd_at, upd_at]
      exact hp3.fr f4 (fun b hb e => by rcases hb with hb | hb; (have := hF b hb; omega); (have := hG b hb; omega)) (by have := h.tge.2; omega)
    · rw [upd_ne _ _ e, upd_ne _ _ e, upd_ne _ _ e, upd_ne _ _ e]
      exact (h.pr k hk).fr f24 (fun b hb e => by have := h.ge k hk b hb; omega) (by have := h.tge; omega)
  · by_cases e : k = tt
    · subst e
      rw [upd_at, upd_ne _ _ (Ne.symm hkl)]
      intro hb hc
      have h9 := (h.pr l hl).lt b hc
      rcases hb with hb | hb
      · have := hF b hb; omega
      · have := hG b hb; omega
    · rw [upd_ne _ _ e]
      by_cases e2 : l = tt
      · subst e2
        rw [upd_at]
        intro hc hb
        have h9 := (h.pr k hk).lt b hc
        rcases hb with hb | hb
        · have := hF b hb; omega
        · have := hG b hb; omega
      · rw [upd_ne _ _ e2]; exact h.dis k l hk hl hkl b
  · by_cases e : k = tt
    · subst e
      rw [upd_at]
      intro hb
      have h9 : W.heap.size ≤ b := hb.elim (hF b) (hG b)
      omega
    · rw [upd_ne _ _ e]; exact h.ge k hk b
end
theorem PJ.zero {W : World} {F G : Nat → Prop} {t r : Nat} (hT : Tab W) (h1 : TbW W t F (Tbl.new 0)) (h2 : TbR W r G (Tbl.new 0)) (hd : ∀ x, F x → ¬ G x) (hF : ¬ F 1) (hG : ¬ G 1) : PJ W (fun j => F j ∨ G j) t r 0 0 (Tbl.new 0) (Tbl.new 0) :=
  ⟨⟨F, G, rfl, h1, h2, hd⟩, fun h => h.elim hF hG, hT, by simp [Tbl.new], by simp [Tbl.new], by simp [Tbl.new], by simp [Tbl.new]⟩
theorem PW.start {w w1 w2 w3 w4 : World} {t0 t1 r0 r1 : Nat} {F0 F1 G0 G1 : Nat → Prop} (hT : Tab w) (ht0 : TbW w1 t0 F0 (Tbl.new 0)) (hf0 : Fr (fun _ => False) w F0 w1) (ht1 : TbW w2 t1 F1 (Tbl.new 0)) (hf1 : Fr (fun _ => False) w1 F1 w2)
    {wA wB : World} (hA : wA = w2.alloc (.cells #[.pointer (some ⟨t0, 0, none⟩), .pointer (some ⟨t1, 0, none⟩), .pointer none] 51))
    (hr0 : TbR w3 r0 G0 (Tbl.new 0)) (hg0 : Fr (fun _ => False) wA G0 w3) (hr1 : TbR w4 r1 G1 (Tbl.new 0)) (hg1 : Fr (fun _ => False) w3 G1 w4)
    (hB : wB = w4.alloc (.cells #[.pointer (some ⟨r0, 0, none⟩), .pointer (some ⟨r1, 0, none⟩), .pointer none] 54)) : ∃ p q X T, PW w wB w2.heap.size w4.heap.size 0 p q X T := by
  have fA : Fr (fun _ => False) w2 (fun _ => False) wA := by rw [hA]; exact (Fr.refl _ w2).alloc _
  have fB : Fr (fun _ => False) w4 (fun _ => False) wB := by rw [hB]; exact (Fr.refl _ w4).alloc _
  have sA : wA.heap.size = w2.heap.size + 1 := by rw [hA]; simp
  have s0 := hf0.size
  have s1 := hf1.size
  have s3 := hg0.size
  have s4 := hg1.size
  have htl := hT.lt
  have a0 : ∀ b, F0 b → w.heap.size ≤ b ∧ b < w1.heap.size := fun b hb => ⟨(hf0.new b hb).elim (fun h => h.elim) id, ht0.lt b hb⟩
  have a1 : ∀ b, F1 b → w1.heap.size ≤ b ∧ b < w2.heap.size := fun b hb => ⟨(hf1.new b hb).elim (fun h => h.elim) id, ht1.lt b hb⟩
  have b0 : ∀ b, G0 b → w2.heap.size < b ∧ b < w3.heap.size := fun b hb => ⟨(hg0.new b hb).elim (fun h => h.elim) fun h => by omega, hr0.lt b hb⟩
  have b1 : ∀ b, G1 b → w3.heap.size ≤ b ∧ b < w4.heap.size := fun b hb => ⟨(hg1.new b hb).elim (fun h => h.elim) id, hr1.lt b hb⟩
  have k : ∀ {a b c : World} {F F' G G' : Nat → Prop}, Fr (fun _ => False) a G b → Fr (fun _ => False) b G' c → Fr (fun _ => False) a (fun _ => False) c := fun f g => (f.into (G := fun _ => False) fun _ h => h.elim).trans (g.into (G := fun _ => False) fun _ h => h.elim)
  have f4 : Fr (fun _ => False) w4 (fun _ => False) wB := fB
  have f3 : Fr (fun _ => False) w3 (fun _ => False) wB := k (F := fun _ => False) (F' := fun _ => False) hg1 f4
  have f2 : Fr (fun _ => False) w2 (fun _ => False) wB := k (F := fun _ => False) (F' := fun _ => False) (k (F := fun _ => False) (F' := fun _ => False) fA hg0) f3
  have f1 : Fr (fun _ => False) w1 (fun _ => False) wB := k (F := fun _ => False) (F' := fun _ => False) hf1 f2
  have f0 : Fr (fun _ => False) w (fun _ => False) wB := k (F := fun _ => False) (F' := fun _ => False) hf0 f1
  have TB := hT.fr f0 fun h => h
  have p0 : PJ wB (fun j => F0 j ∨ G0 j) t0 r0 0 0 (Tbl.new 0) (Tbl.new 0) := PJ.zero TB (ht0.fr f1 fun _ _ h => h) (hr0.fr f3 fun _ _ h => h) (fun x h h' => by have := a0 x h; have := b0 x h'; omega) (fun h => by have := a0 1 h; omega) (fun h => by have := b0 1 h; omega)
  have p1 : PJ wB (fun j => F1 j ∨ G1 j) t1 r1 0 0 (Tbl.new 0) (Tbl.new 0) := PJ.zero TB (ht1.fr f2 fun _ _ h => h) (hr1.fr f4 fun _ _ h => h) (fun x h h' => by have := a1 x h; have := b1 x h'; omega) (fun h => by have := a1 1 h; omega) (fun h => by have := b1 1 h; omega)
  have hc := Tbl.clean_new (0 : Int)
  have e3 : ∀ {j}, j < 3 → j ≠ 0 → j ≠ 1 → j = 2 := fun a b c => by omega
  refine ⟨fun j => if j = 0 then some ⟨t0, 0, none⟩ else if j = 1 then some ⟨t1, 0, none⟩ else none, fun j => if j = 0 then some ⟨r0, 0, none⟩ else if j = 1 then some ⟨r1, 0, none⟩ else none,
    fun j b => (j = 0 ∧ (F0 b ∨ G0 b)) ∨ (j = 1 ∧ (F1 b ∨ G1 b)), fun _ => Tbl.new 0, ?_, ?_, fun j hj => ?_, fun j l hj hl hjl b hb hc => ?_, fun j hj b hb => ?_, f0.below (fun _ h => h.elim) (Nat.le_refl _), hT, by omega⟩
  · have := f2.block w2.heap.size
    have e := Blk.new w2 51 #[.pointer (some ⟨t0, 0, none⟩), .pointer (some ⟨t1, 0, none⟩), .pointer none]
    rw [← hA] at e
    exact f3.blk (hg0.blk e fun h => h) fun h => h
  · have e := Blk.new w4 54 #[.pointer (some ⟨r0, 0, none⟩), .pointer (some ⟨r1, 0, none⟩), .pointer none]
    rw [← hB] at e
    exact e
  · by_cases e0 : j = 0
    · subst e0
      refine .inr ⟨t0, r0, rfl, rfl, ?_, hc⟩
      simpa using p0
    · by_cases e1 : j = 1
      · subst e1
        refine .inr ⟨t1, r1, rfl, rfl, ?_, hc⟩
        simpa using p1
      · refine .inl ⟨by simp [e0, e1], by simp [e0, e1], by funext b; simp [e0, e1]⟩
  · rcases hb with ⟨rfl, hb⟩ | ⟨rfl, hb⟩ <;> rcases hc with ⟨rfl, hc⟩ | ⟨rfl, hc⟩
    · exact hjl rfl
    · rcases hb with hb | hb <;> rcases hc with hc | hc
      · have := a0 b hb; have := a1 b hc; omega
      · have := a0 b hb; have := b1 b hc; omega
      · have := b0 b hb; have := a1 b hc; omega
      · have := b0 b hb; have := b1 b hc; omega
    · rcases hb with hb | hb <;> rcases hc with hc | hc
      · have := a1 b hb; have := a0 b hc; omega
      · have := a1 b hb; have := b0 b hc; omega
      · have := b1 b hb; have := a0 b hc; omega
      · have := b1 b hb; have := b0 b hc; omega
    · exact hjl rfl
  · rcases hb with ⟨_, hb | hb⟩ | ⟨_, hb | hb⟩
    · have := a0 b hb; omega
    · have := b0 b hb; omega
    · have := a1 b hb; omega
    · have := b1 b hb; omega
end Go.Proofs.YtkjeobcfaolcaaaDoor
/- Arguments opened: slices of whole numbers, slices of structs of whole numbers. -/
namespace Go.Proofs.YtkjeobcfaolcaaaDoor
open Go.ChangeShapes Go.WideShapes Go.ChangeAt Go.RowKit Go.Deep

section
variable {H : Type} {enc : TypeId × Value → H} {P : Program} {w : World} {base : Nat} {spare : Nat → Bool} {held : Bool}
/-- A slice of structs of one-cell fields: each field's cell and reading. -/
theorem open_slice_fields {t e : TypeId} {fs : Array Field} {fuel : Nat} {cs : List Value} {x : DataW H × List MemPlace} (ht : P.underlying t = some (.slice e)) (he : P.underlying e = some (.struct fs))
    (hone : oneCellFields P fs = true) (hC : P.cellsOf e = fs.size) (h : DataW.trod enc P w base spare held fuel t cs = some x) :
    (cs = [.slice none 0 0] ∧ x = (.nil, [])) ∨
    ∃ (a : Addr) (len cap m : Nat) (D : Nat → DataW H) (Pl : Nat → List MemPlace), cs = [.slice (some a) len cap] ∧ base ≤ a.block ∧ len ≤ cap ∧ cap ≤ maxLen ∧ m = (if spare a.block then cap else len) ∧
      x = (.slice ((List.range len).map D) ((List.range (m - len)).map fun j => D (len + j)), MemPlace.row a (m * fs.size) ++ (List.range m).flatMap Pl) ∧
      ∀ i, i < m → ∃ (ys : List (DataW H × List MemPlace)) (n : Nat), D i = .agg (ys.map (·.1)) ∧ Pl i = ys.flatMap (·.2) ∧ ys.length = fs.size ∧
        ∀ (j : Nat) (f : Field), fs[j]? = some f → ∃ (v : Value) (y : DataW H × List MemPlace), w.cell? (a.add (i * fs.size + j)) = some v ∧ ys[j]? = some y ∧ DataW.trod enc P w base spare held n f.type [v] = some y := by
  rcases open_slice ht h with h0 | ⟨a, len, cap, m, n, D, Pl, hcs, hb, hl, hm, hmm, hx, hi⟩
  · exact .inl h0
  · refine .inr ⟨a, len, cap, m, D, Pl, hcs, hb, hl, hm, hmm, by rw [hC] at hx; exact hx, fun i him => ?_⟩
    obtain ⟨cs', hc, ht'⟩ := hi i him
    rw [hC] at hc
    obtain ⟨ys, n', hn', hy, hlen, hyl, hf⟩ := DataW.trod_struct he ht'
    obtain ⟨_, hcl, hat⟩ := World.cells?_some hc
    simp only [Prod.mk.injEq] at hy
    refine ⟨ys, n', hy.1, hy.2, hyl, fun j f hj => ?_⟩
    obtain ⟨ho, hk⟩ := hone_of hone j f hj
    have hjl : j < fs.size := (Array.getElem?_eq_some_iff.1 hj).1
    have hcell := hat j hjl
    have hv : cs'[j]? = some (cs'[j]'(by omega)) := List.getElem?_eq_getElem (by omega)
    have h1 := hf j f hj
    rw [ho, hk] at h1
    have hone' : (cs'.drop j).take 1 = [cs'[j]'(by omega)] := by
      rw [List.drop_eq_getElem_cons (by omega)]
      rfl
    rw [hone'] at h1
    have hys : ys[j]? = some (ys[j]'(by omega)) := List.getElem?_eq_getElem (by omega)
    refine ⟨_, _, ?_, hys, h1.trans hys⟩
    rw [← Go.Deep.add_add, hcell, hv]

theorem addr_block {a : Addr} {n : Nat} : (a.add n).block = a.block := by unfold Addr.add; split <;> rfl
theorem addr_flat {a : Addr} {i j : Nat} (hj : j ≠ 0) : a.add (i + j) = ⟨(a.add i).block, (a.add i).off + j, none⟩ := by
  unfold Addr.add
  rw [if_neg (by omega)]
  split
  · rename_i h; subst h; simp
  · simp [Nat.add_assoc]
theorem spotless {a : Addr} {n : Nat} {v : Value} (h : w.cell? (a.add n) = some v) : a.add n = ⟨a.block, a.off + n, none⟩ := by
  unfold Addr.add at *
  split
  · rename_i hn
    subst hn
    simp only [if_true] at h
    unfold World.cell? at h
    cases a with
    | mk b o s =>
      cases s with
      | none => rfl
      | some s =>
        simp only [Option.isSome_some, if_true] at h
        split at h <;> cases h
  · rfl

/-- A slice of words that came in. -/
structure WordsIn (w : World) (A : Option Addr) (l : List Int) (c : Nat) : Prop where
  nil : A = none → l = [] ∧ c = 0
  cell : ∀ ad, A = some ad → ∀ j, j < l.length → w.cell? (ad.add j) = some (.int .u64 (l.getD j 0))
  bd : ∀ x ∈ l, 0 ≤ x ∧ x ≤ 18446744073709551615
  len : l.length * 8 ≤ 140737488351232
  cap : l.length ≤ c

/-- A slice of structs of whole numbers that came in. -/
structure RowsIn (w : World) (A : Option Addr) (n c : Nat) (ks : List IntKind) : Prop where
  nil : A = none → n = 0 ∧ c = 0
  cell : ∀ ad, A = some ad → ∀ i, i < n → ∀ j k, ks[j]? = some k → ∃ z, w.cell? (ad.add (i * ks.length + j)) = some (.int k z) ∧ (Lit.int k z).wf = true
  len : n * (8 * ks.length) ≤ 140737488351232

theorem open_words {ts : List TypeId} {ds : List (DataW H)} {j : Nat} {t e : TypeId} {A : Option Addr} {len cap : Nat} {d : DataW H} {p : List MemPlace} (hsz : (DataW.weightsEach P ts ds).all (· ≤ reachBytes) = true) (hj : ts[j]? = some t) (hd : ds[j]? = some d)
    (ht : P.underlying t = some (.slice e)) (he : P.underlying e = some (.int .u64)) (hc : P.cellsOf e = 1) (hb : P.bytesOf e = 8) (h : DataW.Trod enc P w base spare held t (.slice A len cap) d p) : ∃ l, l.length = len ∧ WordsIn w A l cap := by
  obtain ⟨fuel, hf⟩ := h
  rcases open_ints ht he hc hf with ⟨hcs, hx⟩ | ⟨x, l, c, zs, hcs, _, hl, hm, hz, hx, hcell, hwz⟩
  · simp [Value.cells] at hcs
    obtain ⟨rfl, rfl, rfl⟩ := hcs
    exact ⟨[], rfl, fun _ => ⟨rfl, rfl⟩, (fun ad h => nomatch h), by simp, by simp, by simp⟩
  · simp [Value.cells] at hcs
    obtain ⟨rfl, rfl, rfl⟩ := hcs
    have hlz : len ≤ zs.length := by rw [hz]; split <;> omega
    simp only [Prod.mk.injEq] at hx
    have := sized_slice hsz hj (hd.trans (by rw [hx.1])) ht
    rw [hb] at this
    simp only [lits, List.length_map, List.length_take, List.length_drop, reachBytes] at this
    refine ⟨zs.take len, by simp; omega, (fun h => nomatch h), fun ad h i hi => ?_, fun z hz => ?_, by simp; omega, by simp; omega⟩
    · injection h with h
      subst h
      simp only [List.length_take] at hi
      rw [hcell i (by omega)]
      simp [List.getD_eq_getElem?_getD, show i < len by omega]
    · have := hwz z (List.mem_of_mem_take hz)
      simp [Lit.wf, IntKind.min, IntKind.max, IntKind.signed, IntKind.bits] at this
      omega

theorem open_rows {ts : List TypeId} {ds : List (DataW H)} {j : Nat} {t e : TypeId} {A : Option Addr} {len cap : Nat} {d : DataW H} {p : List MemPlace} (hsz : (DataW.weightsEach P ts ds).all (· ≤ reachBytes) = true) (hj : ts[j]? = some t) (hd : ds[j]? = some d)
    {fs : Array Field} {ks : List IntKind} (ht : P.underlying t = some (.slice e)) (he : P.underlying e = some (.struct fs)) (hone : oneCellFields P fs = true) (hC : P.cellsOf e = fs.size) (hb : 8 * ks.length ≤ P.bytesOf e) (hn : ks.length = fs.size) (hk : (fs.toList.map fun f => P.underlying f.type) = ks.map fun k => some (.int k))
    (h : DataW.Trod enc P w base spare held t (.slice A len cap) d p) : RowsIn w A len cap ks := by
  obtain ⟨fuel, hf⟩ := h
  rcases open_slice_fields ht he hone hC hf with ⟨hcs, hx⟩ | ⟨a, l, c, m, D, Pl, hcs, _, hl, hm, hmm, hx, hel⟩
  · simp [Value.cells] at hcs
    obtain ⟨rfl, rfl, rfl⟩ := hcs
    exact ⟨fun _ => ⟨rfl, rfl⟩, (fun ad h => nomatch h), by simp⟩
  · simp [Value.cells] at hcs
    obtain ⟨rfl, rfl, rfl⟩ := hcs
    have hlm : len ≤ m := by rw [hmm]; split <;> omega
    simp only [Prod.mk.injEq] at hx
    have := sized_slice hsz hj (hd.trans (by rw [hx.1])) ht
    simp only [List.length_map, List.length_range, reachBytes] at this
    have h8 : (len + (m - len)) * (8 * ks.length) ≤ (len + (m - len)) * P.bytesOf e := Nat.mul_le_mul_left _ hb
    have h9 : len * (8 * ks.length) ≤ (len + (m - len)) * (8 * ks.length) := Nat.mul_le_mul_right _ (by omega)
    refine ⟨(fun h => nomatch h), fun ad h i hi j' k hjk => ?_, by omega⟩
    injection h with h
    subst h
    obtain ⟨ys, n, _, _, _, hfl⟩ := hel i (by omega)
    have hjl : j' < ks.length := (List.getElem?_eq_some_iff.1 hjk).1
    have hjf : j' < fs.size := by omega
    obtain ⟨v, y, hcell, _, ht'⟩ := hfl j' fs[j'] (Array.getElem?_eq_getElem hjf)
    have e1 : ((fs.toList.map fun f => P.underlying f.type))[j']? = some (P.underlying fs[j'].type) := by simp [hjf]
    rw [hk, List.getElem?_map, hjk] at e1
    simp only [Option.map_some, Option.some.injEq] at e1
    obtain ⟨z, hz, _, hw⟩ := DataW.trod_int e1.symm ht'
    injection hz with hz
    subst hz
    exact ⟨z, by rw [hn]; exact hcell, hw⟩
end
end Go.Proofs.YtkjeobcfaolcaaaDoor
/- IndexPlays: the law's walk. -/
namespace Go.Proofs.YtkjeobcfaolcaaaDoor
open Go.RowKit
set_option maxHeartbeats 8000000
set_option linter.unusedVariables false
set_option linter.unusedSimpArgs false

set_option maxRecDepth 100000 in
theorem indexPlays_walk {w : World} {A : Option Addr} {n c : Nat} (h : RowsIn w A n c [.i64, .i64, .i64, .i64, .u64, .u64]) (hT : Tab w) :
    Calls Tryd.prog 5 #[.slice A n c] w fun e w' => e = .returned (.bool true) ∧ Below w.heap.size w w' := by
  have hn : n * 48 ≤ 140737488351232 := by have := h.len; simpa using this
  have hni : (n : Int) ≤ 9223372036854775807 := by omega
  have hnm : n ≤ 2932031007402 := by omega
  have H := Lib.hid h
  replace hT := Lib.hid hT
  clear h hn
  go_enter Tryd.func5, Tryd.ntmps5
  go_wp2_with fail
  refine (newW_tb w).mono ?_
  rintro _ w1 ⟨t0, F0, rfl, ht0, hf0⟩
  replace ht0 := Lib.hid ht0
  replace hf0 := Lib.hid hf0
  go_wp2_with fail
  refine (newW_tb w1).mono ?_
  rintro _ w2 ⟨t1, F1, rfl, ht1, hf1⟩
  replace ht1 := Lib.hid ht1
  replace hf1 := Lib.hid hf1
  obtain ⟨wA, hwA⟩ : ∃ u, Hid (u = w2.alloc (.cells #[.pointer (some ⟨t0, 0, none⟩), .pointer (some ⟨t1, 0, none⟩), .pointer none] 51)) := ⟨_, Lib.hid rfl⟩
  go_wp2_with fail
  rw [← hwA.out]
  refine (newR_tb wA).mono ?_
  rintro _ w3 ⟨r0, G0, rfl, hr0, hg0⟩
  replace hr0 := Lib.hid hr0
  replace hg0 := Lib.hid hg0
  go_wp2_with fail
  refine (newR_tb w3).mono ?_
  rintro _ w4 ⟨r1, G1, rfl, hr1, hg1⟩
  replace hr1 := Lib.hid hr1
  replace hg1 := Lib.hid hg1
  obtain ⟨wB, hwB⟩ : ∃ u, Hid (u = w4.alloc (.cells #[.pointer (some ⟨r0, 0, none⟩), .pointer (some ⟨r1, 0, none⟩), .pointer none] 54)) := ⟨_, Lib.hid rfl⟩
  have hc0 : (w4.alloc (.cells #[.pointer (some ⟨r0, 0, none⟩), .pointer (some ⟨r1, 0, none⟩), .pointer none] 54)).cell? ⟨w2.heap.size, 0, none⟩ = some (.pointer (some ⟨t0, 0, none⟩)) ∧ (w4.alloc (.cells #[.pointer (some ⟨r0, 0, none⟩), .pointer (some ⟨r1, 0, none⟩), .pointer none] 54)).cell? ⟨w2.heap.size, 1, none⟩ = some (.pointer (some ⟨t1, 0, none⟩)) := by
    have e := Blk.new w2 51 #[.pointer (some ⟨t0, 0, none⟩), .pointer (some ⟨t1, 0, none⟩), .pointer none]
    rw [← hwA.out] at e
    have e := ((hg1.out.blk (hg0.out.blk e fun h => h) fun h => h).alloc (.cells #[.pointer (some ⟨r0, 0, none⟩), .pointer (some ⟨r1, 0, none⟩), .pointer none] 54))
    exact ⟨e.cell 0, e.cell 1⟩
  rw [← hwB.out] at hc0
  obtain ⟨c0, c1⟩ := hc0
  have P0 := Lib.hid (PW.start hT.out ht0.out hf0.out ht1.out hf1.out hwA.out hr0.out hg0.out hr1.out hg1.out hwB.out)
  clear ht0 hf0 ht1 hf1 hr0 hg0 hr1 hg1 hwA
  go_upto_region 3 with (fail)
  rw [← hwB.out]
  clear hwB
  generalize w2.heap.size = tb at *
  generalize w4.heap.size = rb at *
  go_wp2
  go_loopw [5] (fun iv wr => ∃ i, i ≤ n ∧ iv = .int .i64 i ∧ Hid (∃ p q X T, PW w wr tb rb i p q X T)) (fun iv _ => n - (intOf iv).toNat)
  case atStart => exact ⟨0, by omega, rfl, P0⟩
  case round =>
    obtain ⟨i, hi, rfl, HP⟩ := hrel
    clear P0 c0 c1
    by_cases hil : i < n
    · obtain ⟨p, q, X, T, HW⟩ := HP.out
      replace HW := Lib.hid HW
      clear HP
      obtain ⟨ad, rfl⟩ : ∃ ad, A = some ad := by
        cases A with
        | none => have := (H.out.nil rfl).1; omega
        | some ad => exact ⟨ad, rfl⟩
      obtain ⟨kd, a0, d0⟩ := H.out.cell ad rfl i hil 0 _ rfl
      obtain ⟨wo, a1, d1⟩ := H.out.cell ad rfl i hil 1 _ rfl
      obtain ⟨tz, a2, d2⟩ := H.out.cell ad rfl i hil 2 _ rfl
      obtain ⟨lv, a3, d3⟩ := H.out.cell ad rfl i hil 3 _ rfl
      obtain ⟨key, a4, d4⟩ := H.out.cell ad rfl i hil 4 _ rfl
      obtain ⟨vl, a5, d5⟩ := H.out.cell ad rfl i hil 5 _ rfl
      rw [addr_flat (by omega)] at a1 a2 a3 a4 a5
      have hbw := HW.out.below
      have a0 := keepC hbw (Nat.le_refl _) a0
      have a1 := keepC hbw (Nat.le_refl _) a1
      have a2 := keepC hbw (Nat.le_refl _) a2
      have a3 := keepC hbw (Nat.le_refl _) a3
      have a4 := keepC hbw (Nat.le_refl _) a4
      have a5 := keepC hbw (Nat.le_refl _) a5
      simp only [List.length_cons, List.length_nil, Nat.add_zero, Nat.zero_add, Nat.reduceAdd] at a0 a1 a2 a3 a4 a5
      have y1 := bd_i64 d1
      have y2 := bd_i64 d2
      have y3 := bd_i64 d3
      have hii : (i : Int) < n := by omega
      have him : i ≤ 2932031007402 := by omega
      clear hbw d0 d1 d2 d3 d4 d5
      obtain ⟨W1, hW1⟩ : ∃ u, Hid (u = wr.alloc (.cells #[.int .i64 kd, .int .i64 wo, .int .i64 tz, .int .i64 lv, .int .u64 key, .int .u64 vl] 56)) := ⟨_, Lib.hid rfl⟩
      have HW1 : Hid (PW w W1 tb rb i p q X T) := Lib.hid (HW.out.new_ (F := fun _ => False) (by rw [hW1.out]; exact (Fr.refl _ wr).alloc _))
      have X1 : Hid (Blk W1 wr.heap.size 56 #[.int .i64 kd, .int .i64 wo, .int .i64 tz, .int .i64 lv, .int .u64 key, .int .u64 vl]) := Lib.hid (by rw [hW1.out]; exact Blk.new _ _ _)
      have b0 : W1.cell? ⟨wr.heap.size, 0, none⟩ = some (.int .i64 kd) := X1.out.cell 0
      have b1 : W1.cell? ⟨wr.heap.size, 1, none⟩ = some (.int .i64 wo) := X1.out.cell 1
      have b2 : W1.cell? ⟨wr.heap.size, 2, none⟩ = some (.int .i64 tz) := X1.out.cell 2
      have C1 := Lib.hid (fun n => place_b (w := W1.drewN n) wo y1.1 y1.2)
      have C2 := Lib.hid (fun n => place_b (w := W1.drewN n) tz y2.1 y2.2)
      have hjw := plc_lt wo
      have hjt := plc_lt tz
      generalize plc wo = jw at *
      generalize plc tz = jt at *
      clear HW
      go_wp2_with fail
      rw [← hW1.out]
      clear a0 a1 a2 a3 a4 a5
      refine wp_region_mix (fun W' => W'.cell? ⟨wr.heap.size, 2, none⟩ = some (.int .i64 tz)) [3, 1, 2, 3, 0, 2, 3, 3] [0, 1, 3, 4, 2, 5, 6, 7] (by kernel_rfl) (by kernel_rfl) (fun _ _ h => h) b2 ?_
      repeat (first | ((first | refine wpMix_pure rfl rfl (fun K hK => ?_) | refine wpMix_loc rfl rfl (fun K hK => ?_) | refine wpMix_any rfl rfl (fun K hK => ?_)); go_simp; refine hK _ _ ?_; clear hK K) | (refine wpMix_any rfl rfl (fun K hK => ?_); rw [if_pos (by go_simp)]; apply Exists.intro; refine And.intro (fun w2 hS2 => ?_) (hK _ _ ?_); (focus (obtain hs1 := hS2; go_simp; rfl)); clear hK K))
      refine wpMix_loud rfl rfl (fun n1 K hK => ?_)
      go_wp2_with fail
      refine (C1.out (1 + n1)).mono ?_
      rintro _ w5 ⟨rfl, rfl⟩
      go_wp2_with fail
      refine hK _ _ (fun _ => b2) ?_; clear hK K
      repeat (first | ((first | refine wpMix_pure rfl rfl (fun K hK => ?_) | refine wpMix_loc rfl rfl (fun K hK => ?_) | refine wpMix_any rfl rfl (fun K hK => ?_)); go_simp; refine hK _ _ ?_; clear hK K) | (refine wpMix_any rfl rfl (fun K hK => ?_); rw [if_pos (by go_simp)]; apply Exists.intro; refine And.intro (fun w2 hS2 => ?_) (hK _ _ ?_); (focus (obtain hs1 := hS2; go_simp; rfl)); clear hK K))
      refine wpMix_loud rfl rfl (fun n2 K hK => ?_)
      go_wp2_with fail
      refine (C2.out (1 + n1 + n2)).mono ?_
      rintro _ w6 ⟨rfl, rfl⟩
      go_wp2_with fail
      refine hK _ _ (fun h => (Bool.false_ne_true ((Eq.symm (by kernel_rfl)).trans h)).elim) ?_; clear hK K
      repeat ((first | refine wpMix_pure rfl rfl (fun K hK => ?_) | refine wpMix_loc rfl rfl (fun K hK => ?_) | refine wpMix_any rfl rfl (fun K hK => ?_)); go_simp; refine hK _ _ ?_; clear hK K)
      refine wpMix_nil (fun n3 => ?_)
      clear C1 C2
      simp only [drewN_drewN]
      have P2 := Lib.hid (HW1.out.drewN (1 + n1 + n2 + n3))
      have X2 := Lib.hid (X1.out.drewN (1 + n1 + n2 + n3))
      generalize W1.drewN (1 + n1 + n2 + n3) = W2 at *
      clear HW1 X1 b0 b1 b2 hW1
      generalize wr.heap.size = bx at *
      have hjw2 : (jw : Int) < 3 := by omega
      have hjt2 : (jt : Int) < 3 := by omega
      have d0 : W2.cell? ⟨bx, 0, none⟩ = some (.int .i64 kd) := X2.out.cell 0
      by_cases hk : kd = 7
      · have hk7 : (kd == 7) = true := by simpa using hk
        replace hk := Lib.hid hk
        have e1 : W2.cell? ⟨tb, jw, none⟩ = some (.pointer (p jw)) := (P2.out.bt.cell jw).trans (arr3_at _ hjw)
        have C3 := Lib.hid (copyT_pr (P2.out.pr jw hjw) him)
        have hne := P2.out.ne
        generalize hpj : p jw = pj at *
        replace hpj := Lib.hid hpj
        go_wp2_with fail
        refine C3.out.mono ?_
        rintro _ W3 ⟨p', F, rfl, c1, f1⟩
        have g1 : W3.cell? ⟨tb, jt, none⟩ = some (.pointer (p jt)) := ((f1.blk P2.out.bt fun h => h).cell jt).trans (arr3_at _ hjt)
        have g2 : W3.frozen? ⟨tb, jt, none⟩ = false := (f1.blk P2.out.bt fun h => h).frozen jt
        obtain ⟨W4, hW4⟩ : ∃ u, Hid (u = W3.setCell ⟨tb, jt, none⟩ (.pointer p')) := ⟨_, Lib.hid rfl⟩
        have f2 : Fr (fun b => b = tb) W3 (fun b => b = tb) W4 := by rw [hW4.out]; exact (Fr.refl (fun b => b = tb) W3).set (p := ⟨tb, jt, none⟩) (.inl rfl) _
        have b4 := f2.blk (f1.blk P2.out.br fun h => h) fun e => hne e.symm
        have g3 : W4.cell? ⟨rb, jw, none⟩ = some (.pointer (q jw)) := (b4.cell jw).trans (arr3_at _ hjw)
        have pr4 : Pr W4 (X jw) pj (q jw) i (T jw) := by
          rw [← hpj.out]
          exact ((P2.out.pr jw hjw).fr f1 (fun _ _ h => h) fun h => h).fr f2 (fun b hb e => (P2.out.ge jw hjw b hb).2.1 e) (by have := P2.out.tge.1; have := P2.out.tab.lt; omega)
        have C4 := Lib.hid (copyR_pr pr4 him)
        have x4 := Lib.hid (f2.blk (f1.blk X2.out fun h => h) (by have := Blk.ne_ X2.out P2.out.bt (by decide); exact this))
        replace b4 := Lib.hid b4
        replace c1 := Lib.hid c1
        replace f1 := Lib.hid f1
        clear f2 pr4 C3
        generalize hqj : q jw = qj at *
        replace hqj := Lib.hid hqj
        generalize p jt = pz at *
        go_upto_region 12 with (fail)
        rw [← hW4.out]
        clear g1 g2 e1 d0
        go_wp2_with fail
        refine C4.out.mono ?_
        rintro _ W5 ⟨q', G, rfl, c2, f3⟩
        have g1 : W5.cell? ⟨rb, jt, none⟩ = some (.pointer (q jt)) := ((f3.blk b4.out fun h => h).cell jt).trans (arr3_at _ hjt)
        have g2 : W5.frozen? ⟨rb, jt, none⟩ = false := (f3.blk b4.out fun h => h).frozen jt
        obtain ⟨W6, hW6⟩ : ∃ u, Hid (u = W5.setCell ⟨rb, jt, none⟩ (.pointer q')) := ⟨_, Lib.hid rfl⟩
        have x6 : Hid (Blk W6 bx 56 #[.int .i64 kd, .int .i64 wo, .int .i64 tz, .int .i64 lv, .int .u64 key, .int .u64 vl]) := Lib.hid (by
          rw [hW6.out]
          exact (f3.blk x4.out fun h => h).far (p := ⟨rb, jt, none⟩) (by have := Blk.ne_ X2.out P2.out.br (by decide); exact this) _)
        have P6 : Hid (PW w W6 tb rb i (upd p jt p') (upd q jt q') (upd X jt (fun j => F j ∨ G j)) (upd T jt (T jw))) := Lib.hid (P2.out.copied hjw hjt (by rw [hpj.out]; exact c1.out) f1.out hW4.out (by rw [hqj.out]; exact c2) f3 hW6.out)
        clear c2 f3 c1 f1 C4 b4 x4 g3
        generalize q jt = qz at *
        go_wp2_with fail
        rw [← hW6.out]
        clear g1 g2 hW6 hW4
        have u1 : W6.cell? ⟨tb, jt, none⟩ = some (.pointer p') := ((P6.out.bt.cell jt).trans (arr3_at _ hjt)).trans (by rw [upd_at])
        have u2 : W6.cell? ⟨rb, jt, none⟩ = some (.pointer q') := ((P6.out.br.cell jt).trans (arr3_at _ hjt)).trans (by rw [upd_at])
        have hpq := (P6.out.pr jt hjt).none_iff
        rw [upd_at, upd_at] at hpq
        rcases hpq with ⟨rfl, rfl⟩ | ⟨pa, qa, rfl, rfl⟩
        · refine wp_region_mix (fun _ => True) [3, 3, 1, 3, 3, 3, 1, 3, 3] (List.range 9) (by kernel_rfl) (by kernel_rfl) (fun _ _ h => h) trivial ?_
          repeat ((first | refine wpMix_pure rfl rfl (fun K hK => ?_) | refine wpMix_loc rfl rfl (fun K hK => ?_) | refine wpMix_any rfl rfl (fun K hK => ?_)); go_simp; refine hK _ _ ?_; clear hK K)
          refine wpMix_nil (fun n5 => ?_)
          go_wp2_with fail
          clear u1 u2
          have P7 := Lib.hid (P6.out.drewN (1 + n5))
          have X7 := Lib.hid (x6.out.drewN (1 + n5))
          clear P6 x6
          rw [show W6.drew.drewN n5 = W6.drewN (1 + n5) from drewN_drewN W6 1 n5]
          generalize W6.drewN (1 + n5) = W7 at *
          generalize upd p jt none = pp at *
          generalize upd q jt none = qq at *
          have x1 : W7.cell? ⟨tb, jw, none⟩ = some (.pointer (pp jw)) := (P7.out.bt.cell jw).trans (arr3_at _ hjw)
          have x2 : W7.cell? ⟨rb, jw, none⟩ = some (.pointer (qq jw)) := (P7.out.br.cell jw).trans (arr3_at _ hjw)
          have z0 : W7.cell? ⟨bx, 0, none⟩ = some (.int .i64 kd) := X7.out.cell 0
          have z1 : W7.cell? ⟨bx, 1, none⟩ = some (.int .i64 wo) := X7.out.cell 1
          have z2 : W7.cell? ⟨bx, 2, none⟩ = some (.int .i64 tz) := X7.out.cell 2
          have z3 : W7.cell? ⟨bx, 3, none⟩ = some (.int .i64 lv) := X7.out.cell 3
          have z4 : W7.cell? ⟨bx, 4, none⟩ = some (.int .u64 key) := X7.out.cell 4
          have z5 : W7.cell? ⟨bx, 5, none⟩ = some (.int .u64 vl) := X7.out.cell 5
          have C8 := Lib.hid (fun n => plays_pr ((P7.out.pr jw hjw).drewN n) him kd wo tz lv key vl y3.1 y3.2)
          generalize hpp : pp jw = pj at *
          generalize hqq : qq jw = qj at *
          replace hpp := Lib.hid hpp
          replace hqq := Lib.hid hqq
          refine wp_region_mix (fun _ => True) [3, 3, 1, 3, 3, 1, 1, 2, 3] (List.range 9) (by kernel_rfl) (by kernel_rfl) (fun _ _ h => h) trivial ?_
          repeat ((first | refine wpMix_pure rfl rfl (fun K hK => ?_) | refine wpMix_loc rfl rfl (fun K hK => ?_) | refine wpMix_any rfl rfl (fun K hK => ?_)); go_simp; refine hK _ _ ?_; clear hK K)
          refine wpMix_loud rfl rfl (fun n8 K hK => ?_)
          go_wp2_with fail
          refine (C8.out (1 + n8)).mono ?_
          rintro _ W9 ⟨rfl, X9, T9, p9, f9⟩
          replace p9 := Lib.hid p9
          replace f9 := Lib.hid f9
          go_wp2_with fail
          refine hK _ _ (fun h => (Bool.false_ne_true ((Eq.symm (by kernel_rfl)).trans h)).elim) ?_; clear hK K
          repeat ((first | refine wpMix_pure rfl rfl (fun K hK => ?_) | refine wpMix_loc rfl rfl (fun K hK => ?_) | refine wpMix_any rfl rfl (fun K hK => ?_)); go_simp; refine hK _ _ ?_; clear hK K)
          refine wpMix_nil (fun n9 => ?_)
          go_wp2
          go_roundw
          case rel => exact ⟨i + 1, by omega, by simp, Lib.hid ⟨_, _, _, _, ((P7.out.drewN (1 + n8)).step hjw (by rw [hpp.out, hqq.out]; exact p9.out) f9.out).drewN n9⟩⟩
          case measure => simp [intOf]; omega
        · refine wp_region_mix (fun _ => True) [3, 3, 1, 3, 3, 3, 1, 3, 3] (List.range 9) (by kernel_rfl) (by kernel_rfl) (fun _ _ h => h) trivial ?_
          repeat ((first | refine wpMix_pure rfl rfl (fun K hK => ?_) | refine wpMix_loc rfl rfl (fun K hK => ?_) | refine wpMix_any rfl rfl (fun K hK => ?_)); go_simp; refine hK _ _ ?_; clear hK K)
          refine wpMix_nil (fun n5 => ?_)
          go_wp2_with fail
          clear u1 u2
          have P7 := Lib.hid (P6.out.drewN (1 + n5))
          have X7 := Lib.hid (x6.out.drewN (1 + n5))
          clear P6 x6
          rw [show W6.drew.drewN n5 = W6.drewN (1 + n5) from drewN_drewN W6 1 n5]
          generalize W6.drewN (1 + n5) = W7 at *
          generalize upd p jt (some pa) = pp at *
          generalize upd q jt (some qa) = qq at *
          have x1 : W7.cell? ⟨tb, jw, none⟩ = some (.pointer (pp jw)) := (P7.out.bt.cell jw).trans (arr3_at _ hjw)
          have x2 : W7.cell? ⟨rb, jw, none⟩ = some (.pointer (qq jw)) := (P7.out.br.cell jw).trans (arr3_at _ hjw)
          have z0 : W7.cell? ⟨bx, 0, none⟩ = some (.int .i64 kd) := X7.out.cell 0
          have z1 : W7.cell? ⟨bx, 1, none⟩ = some (.int .i64 wo) := X7.out.cell 1
          have z2 : W7.cell? ⟨bx, 2, none⟩ = some (.int .i64 tz) := X7.out.cell 2
          have z3 : W7.cell? ⟨bx, 3, none⟩ = some (.int .i64 lv) := X7.out.cell 3
          have z4 : W7.cell? ⟨bx, 4, none⟩ = some (.int .u64 key) := X7.out.cell 4
          have z5 : W7.cell? ⟨bx, 5, none⟩ = some (.int .u64 vl) := X7.out.cell 5
          have C8 := Lib.hid (fun n => plays_pr ((P7.out.pr jw hjw).drewN n) him kd wo tz lv key vl y3.1 y3.2)
          generalize hpp : pp jw = pj at *
          generalize hqq : qq jw = qj at *
          replace hpp := Lib.hid hpp
          replace hqq := Lib.hid hqq
          refine wp_region_mix (fun _ => True) [3, 3, 1, 3, 3, 1, 1, 2, 3] (List.range 9) (by kernel_rfl) (by kernel_rfl) (fun _ _ h => h) trivial ?_
          repeat ((first | refine wpMix_pure rfl rfl (fun K hK => ?_) | refine wpMix_loc rfl rfl (fun K hK => ?_) | refine wpMix_any rfl rfl (fun K hK => ?_)); go_simp; refine hK _ _ ?_; clear hK K)
          refine wpMix_loud rfl rfl (fun n8 K hK => ?_)
          go_wp2_with fail
          refine (C8.out (1 + n8)).mono ?_
          rintro _ W9 ⟨rfl, X9, T9, p9, f9⟩
          replace p9 := Lib.hid p9
          replace f9 := Lib.hid f9
          go_wp2_with fail
          refine hK _ _ (fun h => (Bool.false_ne_true ((Eq.symm (by kernel_rfl)).trans h)).elim) ?_; clear hK K
          repeat ((first | refine wpMix_pure rfl rfl (fun K hK => ?_) | refine wpMix_loc rfl rfl (fun K hK => ?_) | refine wpMix_any rfl rfl (fun K hK => ?_)); go_simp; refine hK _ _ ?_; clear hK K)
          refine wpMix_nil (fun n9 => ?_)
          go_wp2
          go_roundw
          case rel => exact ⟨i + 1, by omega, by simp, Lib.hid ⟨_, _, _, _, ((P7.out.drewN (1 + n8)).step hjw (by rw [hpp.out, hqq.out]; exact p9.out) f9.out).drewN n9⟩⟩
          case measure => simp [intOf]; omega
      · have hk7 : (kd == 7) = false := by simpa using hk
        replace hk := Lib.hid hk
        go_wp2_with fail
        clear d0
        have x1 : W2.cell? ⟨tb, jw, none⟩ = some (.pointer (p jw)) := (P2.out.bt.cell jw).trans (arr3_at _ hjw)
        have x2 : W2.cell? ⟨rb, jw, none⟩ = some (.pointer (q jw)) := (P2.out.br.cell jw).trans (arr3_at _ hjw)
        have z0 : W2.cell? ⟨bx, 0, none⟩ = some (.int .i64 kd) := X2.out.cell 0
        have z1 : W2.cell? ⟨bx, 1, none⟩ = some (.int .i64 wo) := X2.out.cell 1
        have z2 : W2.cell? ⟨bx, 2, none⟩ = some (.int .i64 tz) := X2.out.cell 2
        have z3 : W2.cell? ⟨bx, 3, none⟩ = some (.int .i64 lv) := X2.out.cell 3
        have z4 : W2.cell? ⟨bx, 4, none⟩ = some (.int .u64 key) := X2.out.cell 4
        have z5 : W2.cell? ⟨bx, 5, none⟩ = some (.int .u64 vl) := X2.out.cell 5
        have C8 := Lib.hid (fun n => plays_pr ((P2.out.pr jw hjw).drewN n) him kd wo tz lv key vl y3.1 y3.2)
        generalize hpp : p jw = pj at *
        generalize hqq : q jw = qj at *
        replace hpp := Lib.hid hpp
        replace hqq := Lib.hid hqq
        refine wp_region_mix (fun _ => True) [3, 3, 1, 3, 3, 1, 1, 2, 3] (List.range 9) (by kernel_rfl) (by kernel_rfl) (fun _ _ h => h) trivial ?_
        repeat ((first | refine wpMix_pure rfl rfl (fun K hK => ?_) | refine wpMix_loc rfl rfl (fun K hK => ?_) | refine wpMix_any rfl rfl (fun K hK => ?_)); go_simp; refine hK _ _ ?_; clear hK K)
        refine wpMix_loud rfl rfl (fun n8 K hK => ?_)
        go_wp2_with fail
        refine (C8.out (1 + n8)).mono ?_
        rintro _ W9 ⟨rfl, X9, T9, p9, f9⟩
        replace p9 := Lib.hid p9
        replace f9 := Lib.hid f9
        go_wp2_with fail
        refine hK _ _ (fun h => (Bool.false_ne_true ((Eq.symm (by kernel_rfl)).trans h)).elim) ?_; clear hK K
        repeat ((first | refine wpMix_pure rfl rfl (fun K hK => ?_) | refine wpMix_loc rfl rfl (fun K hK => ?_) | refine wpMix_any rfl rfl (fun K hK => ?_)); go_simp; refine hK _ _ ?_; clear hK K)
        refine wpMix_nil (fun n9 => ?_)
        go_wp2
        go_roundw
        case rel => exact ⟨i + 1, by omega, by simp, Lib.hid ⟨_, _, _, _, ((P2.out.drewN (1 + n8)).step hjw (by rw [hpp.out, hqq.out]; exact p9.out) f9.out).drewN n9⟩⟩
        case measure => simp [intOf]; omega
    · obtain rfl : i = n := by omega
      clear hi hil
      go_wp2
      go_loopw [9] (fun iv wr => ∃ j : Nat, j ≤ 3 ∧ iv = .int .i64 j ∧ Hid (∃ p q X T, PW w wr tb rb i p q X T)) (fun iv _ => 3 - (intOf iv).toNat)
      case atStart => exact ⟨0, by omega, rfl, HP⟩
      case round =>
        clear HP
        obtain ⟨j, hj, rfl, HP⟩ := hrel
        obtain ⟨p, q, X, T, HW⟩ := HP.out
        replace HW := Lib.hid HW
        clear HP
        by_cases hjl : j < 3
        · have hjl2 : (j : Int) < 3 := by omega
          have x1 : wr.cell? ⟨tb, j, none⟩ = some (.pointer (p j)) := (HW.out.bt.cell j).trans (arr3_at _ hjl)
          have x2 : wr.cell? ⟨rb, j, none⟩ = some (.pointer (q j)) := (HW.out.br.cell j).trans (arr3_at _ hjl)
          have C8 := Lib.hid (fun n => tells_pr ((HW.out.pr j hjl).drewN n) hnm 5)
          generalize p j = pj at *
          generalize q j = qj at *
          go_wp2_with fail
          refine wp_region_mix (fun _ => True) [3, 3, 1, 3, 3, 1, 2, 3] (List.range 8) (by kernel_rfl) (by kernel_rfl) (fun _ _ h => h) trivial ?_
          repeat ((first | refine wpMix_pure rfl rfl (fun K hK => ?_) | refine wpMix_loc rfl rfl (fun K hK => ?_) | refine wpMix_any rfl rfl (fun K hK => ?_)); go_simp; refine hK _ _ ?_; clear hK K)
          refine wpMix_loud rfl rfl (fun n8 K hK => ?_)
          go_wp2_with fail
          refine (C8.out (1 + n8)).mono ?_
          rintro _ W9 ⟨rfl, f9⟩
          replace f9 := Lib.hid f9
          go_wp2_with fail
          refine hK _ _ (fun h => (Bool.false_ne_true ((Eq.symm (by kernel_rfl)).trans h)).elim) ?_; clear hK K
          repeat ((first | refine wpMix_pure rfl rfl (fun K hK => ?_) | refine wpMix_loc rfl rfl (fun K hK => ?_) | refine wpMix_any rfl rfl (fun K hK => ?_)); go_simp; refine hK _ _ ?_; clear hK K)
          refine wpMix_nil (fun n9 => ?_)
          go_wp2
          go_roundw
          case rel => exact ⟨j + 1, by omega, by simp, Lib.hid ⟨_, _, _, _, ((HW.out.drewN (1 + n8)).new_ f9.out).drewN n9⟩⟩
          case measure => simp [intOf]; omega
        · obtain rfl : j = 3 := by omega
          have KN := Lib.hid (known_b HW.out.tab')
          have hb5 := Lib.hid HW.out.below
          clear HW
          go_wp2_with fail
          refine KN.out.mono ?_
          rintro _ w6 ⟨rfl, hb6⟩
          have hb6 := Lib.hid (hb5.out.trans (hb6.mono hb5.out.size))
          go_wp2
          go_ret
          exact ⟨rfl, hb6.out⟩
end Go.Proofs.YtkjeobcfaolcaaaDoor
