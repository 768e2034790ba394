/- Arguments opened: slices of whole numbers, slices of structs of whole numbers. -/
import Derived.Test.YtkjeobcfaolcaaaDoorRows
import Derived.ProofKit
import Derived.OpenShut
import Derived.ChangeOld
import Derived.Below
import Derived.SizedLaws
import Derived.Deep.Slices
import Derived.Deep.Fields
import Derived.ChangeSame
import Derived.Carry
import Derived.Deep.RegionHeld
import Derived.Test.YtkjeobcfaolcaaaDoorPMy2
import Derived.Test.YtkjeobcfaolcaaaDoorPMy3
import Derived.Test.YtkjeobcfaolcaaaDoorPMy12
namespace Go.Proofs.YtkjeobcfaolcaaaDoor
open Go.ChangeShapes Go.WideShapes Go.ChangeAt Go.RowKit Go.Deep

section
variable {H : Type} {enc : TypeId × Value → H} {P : Program} {w : World} {base : Nat} {spare : Nat → Bool} {held : Bool}
/-- A slice of structs of one-cell fields: each field's cell and reading. -/
theorem open_slice_fields {t e : TypeId} {fs : Array Field} {fuel : Nat} {cs : List Value} {x : DataW H × List MemPlace} (ht : P.underlying t = some (.slice e)) (he : P.underlying e = some (.struct fs))
    (hone : oneCellFields P fs = true) (hC : P.cellsOf e = fs.size) (h : DataW.trod enc P w base spare held fuel t cs = some x) :
    (cs = [.slice none 0 0] ∧ x = (.nil, [])) ∨
    ∃ (a : Addr) (len cap m : Nat) (D : Nat → DataW H) (Pl : Nat → List MemPlace), cs = [.slice (some a) len cap] ∧ base ≤ a.block ∧ len ≤ cap ∧ cap ≤ maxLen ∧ m = (if spare a.block then cap else len) ∧
      x = (.slice ((List.range len).map D) ((List.range (m - len)).map fun j => D (len + j)), MemPlace.row a (m * fs.size) ++ (List.range m).flatMap Pl) ∧
      ∀ i, i < m → ∃ (ys : List (DataW H × List MemPlace)) (n : Nat), D i = .agg (ys.map (·.1)) ∧ Pl i = ys.flatMap (·.2) ∧ ys.length = fs.size ∧
        ∀ (j : Nat) (f : Field), fs[j]? = some f → ∃ (v : Value) (y : DataW H × List MemPlace), w.cell? (a.add (i * fs.size + j)) = some v ∧ ys[j]? = some y ∧ DataW.trod enc P w base spare held n f.type [v] = some y := by
  rcases open_slice ht h with h0 | ⟨a, len, cap, m, n, D, Pl, hcs, hb, hl, hm, hmm, hx, hi⟩
  · exact .inl h0
  · refine .inr ⟨a, len, cap, m, D, Pl, hcs, hb, hl, hm, hmm, by rw [hC] at hx; exact hx, fun i him => ?_⟩
    obtain ⟨cs', hc, ht'⟩ := hi i him
    rw [hC] at hc
    obtain ⟨ys, n', hn', hy, hlen, hyl, hf⟩ := DataW.trod_struct he ht'
    obtain ⟨_, hcl, hat⟩ := World.cells?_some hc
    simp only [Prod.mk.injEq] at hy
    refine ⟨ys, n', hy.1, hy.2, hyl, fun j f hj => ?_⟩
    obtain ⟨ho, hk⟩ := hone_of hone j f hj
    have hjl : j < fs.size := (Array.getElem?_eq_some_iff.1 hj).1
    have hcell := hat j hjl
    have hv : cs'[j]? = some (cs'[j]'(by omega)) := List.getElem?_eq_getElem (by omega)
    have h1 := hf j f hj
    rw [ho, hk] at h1
    have hone' : (cs'.drop j).take 1 = [cs'[j]'(by omega)] := by
      rw [List.drop_eq_getElem_cons (by omega)]
      rfl
    rw [hone'] at h1
    have hys : ys[j]? = some (ys[j]'(by omega)) := List.getElem?_eq_getElem (by omega)
    refine ⟨_, _, ?_, hys, h1.trans hys⟩
    rw [← Go.Deep.add_add, hcell, hv]

theorem addr_block {a : Addr} {n : Nat} : (a.add n).block = a.block := by unfold Addr.add; split <;> rfl
theorem addr_flat {a : Addr} {i j : Nat} (hj : j ≠ 0) : a.add (i + j) = ⟨(a.add i).block, (a.add i).off + j, none⟩ := by
  unfold Addr.add
  rw [if_neg (by omega)]
  split
  · rename_i h; subst h; simp
  · simp [Nat.add_assoc]
theorem spotless {a : Addr} {n : Nat} {v : Value} (h : w.cell? (a.add n) = some v) : a.add n = ⟨a.block, a.off + n, none⟩ := by
  unfold Addr.add at *
  split
  · rename_i hn
    subst hn
    simp only [if_true] at h
    unfold World.cell? at h
    cases a with
    | mk b o s =>
      cases s with
      | none => rfl
      | some s =>
        simp only [Option.isSome_some, if_true] at h
        split at h <;> cases h
  · rfl

/-- A slice of words that came in. -/
structure WordsIn (w : World) (A : Option Addr) (l : List Int) (c : Nat) : Prop where
  nil : A = none → l = [] ∧ c = 0
  cell : ∀ ad, A = some ad → ∀ j, j < l.length → w.cell? (ad.add j) = some (.int .u64 (l.getD j 0))
  bd : ∀ x ∈ l, 0 ≤ x ∧ x ≤ 18446744073709551615
  len : l.length * 8 ≤ 140737488351232
  cap : l.length ≤ c

/-- A slice of structs of whole numbers that came in. -/
structure RowsIn (w : World) (A : Option Addr) (n c : Nat) (ks : List IntKind) : Prop where
  nil : A = none → n = 0 ∧ c = 0
  cell : ∀ ad, A = some ad → ∀ i, i < n → ∀ j k, ks[j]? = some k → ∃ z, w.cell? (ad.add (i * ks.length + j)) = some (.int k z) ∧ (Lit.int k z).wf = true
  len : n * (8 * ks.length) ≤ 140737488351232

theorem open_words {ts : List TypeId} {ds : List (DataW H)} {j : Nat} {t e : TypeId} {A : Option Addr} {len cap : Nat} {d : DataW H} {p : List MemPlace} (hsz : (DataW.weightsEach P ts ds).all (· ≤ reachBytes) = true) (hj : ts[j]? = some t) (hd : ds[j]? = some d)
    (ht : P.underlying t = some (.slice e)) (he : P.underlying e = some (.int .u64)) (hc : P.cellsOf e = 1) (hb : P.bytesOf e = 8) (h : DataW.Trod enc P w base spare held t (.slice A len cap) d p) : ∃ l, l.length = len ∧ WordsIn w A l cap := by
  obtain ⟨fuel, hf⟩ := h
  rcases open_ints ht he hc hf with ⟨hcs, hx⟩ | ⟨x, l, c, zs, hcs, _, hl, hm, hz, hx, hcell, hwz⟩
  · simp [Value.cells] at hcs
    obtain ⟨rfl, rfl, rfl⟩ := hcs
    exact ⟨[], rfl, fun _ => ⟨rfl, rfl⟩, (fun ad h => nomatch h), by simp, by simp, by simp⟩
  · simp [Value.cells] at hcs
    obtain ⟨rfl, rfl, rfl⟩ := hcs
    have hlz : len ≤ zs.length := by rw [hz]; split <;> omega
    simp only [Prod.mk.injEq] at hx
    have := sized_slice hsz hj (hd.trans (by rw [hx.1])) ht
    rw [hb] at this
    simp only [lits, List.length_map, List.length_take, List.length_drop, reachBytes] at this
    refine ⟨zs.take len, by simp; omega, (fun h => nomatch h), fun ad h i hi => ?_, fun z hz => ?_, by simp; omega, by simp; omega⟩
    · injection h with h
      subst h
      simp only [List.length_take] at hi
      rw [hcell i (by omega)]
      simp [List.getD_eq_getElem?_getD, show i < len by omega]
    · have := hwz z (List.mem_of_mem_take hz)
      simp [Lit.wf, IntKind.min, IntKind.max, IntKind.signed, IntKind.bits] at this
      omega

theorem open_rows {ts : List TypeId} {ds : List (DataW H)} {j : Nat} {t e : TypeId} {A : Option Addr} {len cap : Nat} {d : DataW H} {p : List MemPlace} (hsz : (DataW.weightsEach P ts ds).all (· ≤ reachBytes) = true) (hj : ts[j]? = some t) (hd : ds[j]? = some d)
    {fs : Array Field} {ks : List IntKind} (ht : P.underlying t = some (.slice e)) (he : P.underlying e = some (.struct fs)) (hone : oneCellFields P fs = true) (hC : P.cellsOf e = fs.size) (hb : 8 * ks.length ≤ P.bytesOf e) (hn : ks.length = fs.size) (hk : (fs.toList.map fun f => P.underlying f.type) = ks.map fun k => some (.int k))
    (h : DataW.Trod enc P w base spare held t (.slice A len cap) d p) : RowsIn w A len cap ks := by
  obtain ⟨fuel, hf⟩ := h
  rcases open_slice_fields ht he hone hC hf with ⟨hcs, hx⟩ | ⟨a, l, c, m, D, Pl, hcs, _, hl, hm, hmm, hx, hel⟩
  · simp [Value.cells] at hcs
    obtain ⟨rfl, rfl, rfl⟩ := hcs
    exact ⟨fun _ => ⟨rfl, rfl⟩, (fun ad h => nomatch h), by simp⟩
  · simp [Value.cells] at hcs
    obtain ⟨rfl, rfl, rfl⟩ := hcs
    have hlm : len ≤ m := by rw [hmm]; split <;> omega
    simp only [Prod.mk.injEq] at hx
    have := sized_slice hsz hj (hd.trans (by rw [hx.1])) ht
    simp only [List.length_map, List.length_range, reachBytes] at this
    have h8 : (len + (m - len)) * (8 * ks.length) ≤ (len + (m - len)) * P.bytesOf e := Nat.mul_le_mul_left _ hb
    have h9 : len * (8 * ks.length) ≤ (len + (m - len)) * (8 * ks.length) := Nat.mul_le_mul_right _ (by omega)
    refine ⟨(fun h => nomatch h), fun ad h i hi j' k hjk => ?_, by omega⟩
    injection h with h
    subst h
    obtain ⟨ys, n, _, _, _, hfl⟩ := hel i (by omega)
    have hjl : j' < ks.length := (List.getElem?_eq_some_iff.1 hjk).1
    have hjf : j' < fs.size := by omega
    obtain ⟨v, y, hcell, _, ht'⟩ := hfl j' fs[j'] (Array.getElem?_eq_getElem hjf)
    have e1 : ((fs.toList.map fun f => P.underlying f.type))[j']? = some (P.underlying fs[j'].type) := by simp [hjf]
    rw [hk, List.getElem?_map, hjk] at e1
    simp only [Option.map_some, Option.some.injEq] at e1
    obtain ⟨z, hz, _, hw⟩ := DataW.trod_int e1.symm ht'
    injection hz with hz
    subst hz
    exact ⟨z, by rw [hn]; exact hcell, hw⟩
end
end Go.Proofs.YtkjeobcfaolcaaaDoor
/- Arguments that read as lists of words. -/
namespace Go.Proofs.YtkjeobcfaolcaaaDoor
open Go.RowKit
theorem WordsIn.lies {w : World} {A : Option Addr} {l : List Int} {c : Nat} (h : WordsIn w A l c) : Lies w (.slice A l.length c) l := by
  refine ⟨A, c, rfl, h.cap, fun e => (h.nil e).2, fun j hj => ?_⟩
  cases A with
  | none => have := (h.nil rfl).1; subst this; simp at hj
  | some ad =>
    have h0 := h.cell ad rfl 0 (by omega)
    have hj' := h.cell ad rfl j hj
    have e0 := spotless h0
    have e1 : ad = ⟨ad.block, ad.off, none⟩ := by
      have : ad.add 0 = ad := by unfold Addr.add; rw [if_pos rfl]
      rw [this] at e0
      simpa using e0
    refine ⟨ad.block, ad.off, by rw [← e1], ?_⟩
    rw [e1, Addr.add_lit] at hj'
    exact hj'
end Go.Proofs.YtkjeobcfaolcaaaDoor
/- made, Slots, Asked, by contract (a table of int). -/
namespace Go.Proofs.YtkjeobcfaolcaaaDoor
open Go.RowKit
set_option maxHeartbeats 4000000
set_option linter.unusedVariables false
set_option linter.unusedSimpArgs false

theorem madeI_b {t g sl cz : Nat} {c1 : Value} {w : World} (d0 : w.cell? ⟨t, 0, none⟩ = some (.slice (some ⟨g, 0, none⟩) sl cz)) :
    Calls Tryd.prog 43 #[.pointer (some ⟨t, 0, none⟩)] w fun e w' => e = .returned (.bool true) ∧ w = w' := by
  go_enter Tryd.func43, Tryd.ntmps43
  go_wp2
  go_ret
  exact ⟨rfl, rfl⟩
theorem slotsI_b {t g sl cz : Nat} {c1 : Value} {w : World} (d0 : w.cell? ⟨t, 0, none⟩ = some (.slice (some ⟨g, 0, none⟩) sl cz)) :
    Calls Tryd.prog 23 #[.pointer (some ⟨t, 0, none⟩)] w fun e w' => e = .returned (.int .i64 (sl : Int)) ∧ w = w' := by
  have M := Lib.hid (madeI_b (c1 := c1) d0)
  go_enter Tryd.func23, Tryd.ntmps23
  go_wp2_with fail
  refine M.out.mono ?_
  rintro _ w2 ⟨rfl, rfl⟩
  go_wp2
  go_ret
  exact ⟨rfl, rfl⟩
theorem askedI_b {t g k fuel j m cz : Nat} {key : Int} {U : Nat → Bool} {K : Nat → Int} {c1 : Value} {w : World} (hT : Tab w) (ht : Blk w t 73 #[.slice (some ⟨g, 0, none⟩) (2 ^ k : Nat) cz, c1])
    (hS : SlotsAt w g (2 ^ k) U K) (h1 : 1 ≤ k) (h2 : k ≤ 62) (hf : fuel ≤ 4611686018427387904) (hl : lgo U K key (2 ^ k) fuel (homeOf key k).toNat 1 = some (j, m)) :
    Calls Tryd.prog 20 #[.pointer (some ⟨t, 0, none⟩), .int .u64 key] w fun e w' => e = .returned (.int .i64 (m : Int)) ∧ w = w' := by
  have C := Lib.hid (lookI_b hT ht hS h1 h2 hf hl)
  have d0 : w.cell? ⟨t, 0, none⟩ = some (.slice (some ⟨g, 0, none⟩) (2 ^ k : Nat) cz) := by rw [Blk.cell ht]; rfl
  have M := Lib.hid (madeI_b (c1 := c1) d0)
  clear hT ht hS hf hl d0
  go_enter Tryd.func20, Tryd.ntmps20
  go_wp2_with fail
  refine M.out.mono ?_
  rintro _ w2 ⟨rfl, rfl⟩
  go_wp2_with fail
  refine C.out.mono ?_
  rintro _ w2 ⟨rfl, rfl⟩
  go_wp2
  go_ret
  exact ⟨rfl, rfl⟩
end Go.Proofs.YtkjeobcfaolcaaaDoor
/- Put, by contract (a table of int). -/
namespace Go.Proofs.YtkjeobcfaolcaaaDoor
open Go.RowKit
set_option maxHeartbeats 4000000
set_option linter.unusedVariables false
set_option linter.unusedSimpArgs false

/-- sl slots: used, key, value -/
def SltI (w : World) (g sl : Nat) (U : Nat → Bool) (K : Nat → Int) (X : Nat → Value) : Prop :=
  ∃ cs, Blk w g 81 cs ∧ ∀ i, i < sl → cs[i * 3]? = some (.bool (U i)) ∧ cs[i * 3 + 1]? = some (.int .u64 (K i)) ∧ cs[i * 3 + 2]? = some (X i)
theorem SltI.at_ {w : World} {g sl : Nat} {U : Nat → Bool} {K : Nat → Int} {X : Nat → Value} (h : SltI w g sl U K X) : SlotsAt w g sl U K := by
  obtain ⟨cs, hb, hc⟩ := h
  intro i hi
  obtain ⟨h1, h2, _⟩ := hc i hi
  exact ⟨(Blk.cell hb _).trans h1, (Blk.cell hb _).trans h2⟩
theorem SltI.val {w : World} {g sl : Nat} {U : Nat → Bool} {K : Nat → Int} {X : Nat → Value} (h : SltI w g sl U K X) {i : Nat} (hi : i < sl) : w.cell? ⟨g, i * 3 + 2, none⟩ = some (X i) ∧ ∀ n, w.frozen? ⟨g, n, none⟩ = false := by
  obtain ⟨cs, hb, hc⟩ := h
  exact ⟨(Blk.cell hb _).trans (hc i hi).2.2, fun n => Blk.frozen hb n⟩
set_option maxRecDepth 100000 in
theorem putI_had {t g k fuel j m cz : Nat} {key : Int} {U : Nat → Bool} {K : Nat → Int} {X : Nat → Value} {c1 : Value} {w : World} {x y : Int} (hT : Tab w) (ht : Blk w t 73 #[.slice (some ⟨g, 0, none⟩) (2 ^ k : Nat) cz, c1])
    (hS : SltI w g (2 ^ k) U K X) (h1 : 1 ≤ k) (h2 : k ≤ 62) (hf : fuel ≤ 4611686018427387904) (hl : lgo U K key (2 ^ k) fuel (homeOf key k).toNat 1 = some (j, m)) (hj : j < 2 ^ k) (hu : U j = true) (hx : X j = .int .i64 x) :
    Calls Tryd.prog 15 #[.pointer (some ⟨t, 0, none⟩), .int .u64 key, .int .i64 y] w fun e w' => e = .returned (.tuple #[.int .i64 x, .bool true, .int .i64 0]) ∧ w' = (w.alloc (.cells #[.pointer (some ⟨t, 0, none⟩)] 32)).setCell ⟨g, j * 3 + 2, none⟩ (.int .i64 y) := by
  have S1 : SltI (w.alloc (.cells #[.pointer (some ⟨t, 0, none⟩)] 32)) g (2 ^ k) U K X := by obtain ⟨cs, hb, hc⟩ := hS; exact ⟨cs, hb.alloc _, hc⟩
  have B1 := Blk.alloc ht (.cells #[.pointer (some ⟨t, 0, none⟩)] 32)
  have C := Lib.hid (lookI_b (hT.alloc _) B1 S1.at_ h1 h2 hf hl)
  have d0 := B1.cell 0
  have hjl : decide (j < 2 ^ k) = true := decide_eq_true hj
  have d0 : (w.alloc (.cells #[.pointer (some ⟨t, 0, none⟩)] 32)).cell? ⟨t, 0, none⟩ = some (.slice (some ⟨g, 0, none⟩) (2 ^ k : Nat) cz) := d0
  have M := Lib.hid (madeI_b (c1 := c1) d0)
  have dU := (S1.at_ j hj).1
  obtain ⟨dX, dz⟩ := S1.val hj
  rw [hu] at dU
  rw [hx] at dX
  have dz := dz (j * 3 + 2)
  clear hT ht hS hf hl B1 S1 hu hx
  generalize 2 ^ k = sl at *
  go_enter Tryd.func15, Tryd.ntmps15
  go_wp2_with fail
  refine M.out.mono ?_
  rintro _ w2 ⟨rfl, rfl⟩
  go_wp2_with fail
  refine C.out.mono ?_
  rintro _ w2 ⟨rfl, rfl⟩
  go_wp2
  go_ret3
  exact ⟨rfl, rfl⟩
end Go.Proofs.YtkjeobcfaolcaaaDoor
/- Put of a new key, without a growing, by contract (a table of int). -/
namespace Go.Proofs.YtkjeobcfaolcaaaDoor
open Go.RowKit
set_option maxHeartbeats 4000000
set_option linter.unusedVariables false
set_option linter.unusedSimpArgs false

theorem SltI.put {w : World} {g sl : Nat} {U : Nat → Bool} {K : Nat → Int} {X : Nat → Value} (h : SltI w g sl U K X) {j : Nat} (hj : j < sl) (key : Int) (x : Value) {n : Nat} :
    SltI ((((w.drewN n).setCell ⟨g, j * 3, none⟩ (.bool true)).setCell ⟨g, j * 3 + 1, none⟩ (.int .u64 key)).setCell ⟨g, j * 3 + 2, none⟩ x) g sl (fun i => if i = j then true else U i) (fun i => if i = j then key else K i) (fun i => if i = j then x else X i) := by
  obtain ⟨cs, hb, hc⟩ := h
  refine ⟨_, (((hb.drewN n).set_ (j * 3) (.bool true)).set_ (j * 3 + 1) (.int .u64 key)).set_ (j * 3 + 2) x, fun i hi => ?_⟩
  obtain ⟨c0, c1, c2⟩ := hc i hi
  obtain ⟨j0, j1, j2⟩ := hc j hj
  have s0 := (Array.getElem?_eq_some_iff.1 j0).1
  have s1 := (Array.getElem?_eq_some_iff.1 j1).1
  have s2 := (Array.getElem?_eq_some_iff.1 j2).1
  by_cases e : i = j
  · subst e
    simp [Array.getElem?_setIfInBounds, s0, s1, s2]
  · have a0 : j * 3 ≠ i * 3 := by omega
    have a1 : j * 3 + 1 ≠ i * 3 := by omega
    have a2 : j * 3 + 2 ≠ i * 3 := by omega
    have b0 : j * 3 ≠ i * 3 + 1 := by omega
    have b1 : j * 3 + 1 ≠ i * 3 + 1 := by omega
    have b2 : j * 3 + 2 ≠ i * 3 + 1 := by omega
    have d0 : j * 3 ≠ i * 3 + 2 := by omega
    have d1 : j * 3 + 1 ≠ i * 3 + 2 := by omega
    have d2 : j * 3 + 2 ≠ i * 3 + 2 := by omega
    simp only [Array.getElem?_setIfInBounds, a0, a1, a2, b0, b1, b2, d0, d1, d2, if_false, if_neg e]
    exact ⟨c0, c1, c2⟩
set_option maxRecDepth 100000 in
theorem putI_new {t g k fuel j m cz : Nat} {key : Int} {U : Nat → Bool} {Ky : Nat → Int} {X : Nat → Value} {A : Option Addr} {cp : Nat} {l : List Int} {w : World} {y : Int} (hT : Tab w) (ht : Blk w t 73 #[.slice (some ⟨g, 0, none⟩) (2 ^ k : Nat) cz, .slice A l.length cp])
    (hS : SltI w g (2 ^ k) U Ky X) (hv : Wl w (.slice A l.length cp) l) (h1 : 1 ≤ k) (h2 : k ≤ 62) (hf : fuel ≤ 4611686018427387904) (hl : lgo U Ky key (2 ^ k) fuel (homeOf key k).toNat 1 = some (j, m)) (hj : j < 2 ^ k) (hu : U j = false)
    (hroom : 4 * (l.length + 1) ≤ 3 * 2 ^ k) (hlen : (l.length + 1) * 8 ≤ 140737488355328) (hsl : 2 ^ k ≤ 1099511627776) :
    Calls Tryd.prog 15 #[.pointer (some ⟨t, 0, none⟩), .int .u64 key, .int .i64 y] w fun e w' => e = .returned (.tuple #[.int .i64 0, .bool false, .int .i64 0]) ∧
      ∃ A' cp', Blk w' t 73 #[.slice (some ⟨g, 0, none⟩) (2 ^ k : Nat) cz, .slice A' (l.length + 1) cp'] ∧ SltI w' g (2 ^ k) (fun i => if i = j then true else U i) (fun i => if i = j then key else Ky i) (fun i => if i = j then .int .i64 y else X i) ∧
        Wl w' (.slice A' (l.length + 1) cp') (l ++ [key]) ∧ Fr (fun b => b = t ∨ b = g ∨ own (.slice A l.length cp) b) w (fun b => b = t ∨ b = g ∨ own (.slice A' (l.length + 1) cp') b) w' := by
  have S1 : SltI (w.alloc (.cells #[.pointer (some ⟨t, 0, none⟩)] 32)) g (2 ^ k) U Ky X := by obtain ⟨cs, hb, hc⟩ := hS; exact ⟨cs, hb.alloc _, hc⟩
  have B1 := Blk.alloc ht (.cells #[.pointer (some ⟨t, 0, none⟩)] 32)
  have V1 := hv.alloc (.cells #[.pointer (some ⟨t, 0, none⟩)] 32)
  have P1 := Blk.new w 32 #[.pointer (some ⟨t, 0, none⟩)]
  have M1 : Fr (fun b => b = t ∨ b = g ∨ own (.slice A l.length cp) b) w (fun b => b = t ∨ b = g ∨ own (.slice A l.length cp) b) (w.alloc (.cells #[.pointer (some ⟨t, 0, none⟩)] 32)) := (Fr.refl _ w).alloc _
  have hpt : w.heap.size ≠ t := by have := Blk.lt ht; omega
  have hpg : w.heap.size ≠ g := by obtain ⟨cs, hb, _⟩ := hS; have := Blk.lt hb; omega
  have hpv : ¬ own (.slice A l.length cp) w.heap.size := fun e => by have := hv.lt _ e; omega
  have C := Lib.hid (lookI_b (hT.alloc _) B1 S1.at_ h1 h2 hf hl)
  have d0 : (w.alloc (.cells #[.pointer (some ⟨t, 0, none⟩)] 32)).cell? ⟨t, 0, none⟩ = some (.slice (some ⟨g, 0, none⟩) (2 ^ k : Nat) cz) := B1.cell 0
  have d1 : (w.alloc (.cells #[.pointer (some ⟨t, 0, none⟩)] 32)).cell? ⟨t, 1, none⟩ = some (.slice A l.length cp) := B1.cell 1
  have p0 : (w.alloc (.cells #[.pointer (some ⟨t, 0, none⟩)] 32)).cell? ⟨w.heap.size, 0, none⟩ = some (.pointer (some ⟨t, 0, none⟩)) := P1.cell 0
  have hjl : decide (j < 2 ^ k) = true := decide_eq_true hj
  have M := Lib.hid (madeI_b (c1 := .slice A l.length cp) d0)
  have dU := (S1.at_ j hj).1
  have dK := (S1.at_ j hj).2
  have dX := (S1.val hj).1
  rw [hu] at dU
  have dz := (S1.val hj).2
  have z0 := dz (j * 3)
  have z1 := dz (j * 3 + 1)
  have z2 := dz (j * 3 + 2)
  clear hT ht hS hv hf hl hu dz
  generalize 2 ^ k = sl at *
  have hgr : decide (4 * ((l.length : Int) + 1) > 3 * (sl : Int)) = false := decide_eq_false (by omega)
  have hl1 : (l.length : Int) ≤ 17592186044416 := by omega
  have hl2 : (sl : Int) ≤ 1099511627776 := by omega
  have B1 := Lib.hid B1
  have S1 := Lib.hid S1
  have V1 := Lib.hid V1
  have P1 := Lib.hid P1
  have M1 := Lib.hid M1
  obtain ⟨w1, hw1⟩ : ∃ u, Hid (u = w.alloc (.cells #[.pointer (some ⟨t, 0, none⟩)] 32)) := ⟨_, Lib.hid rfl⟩
  rw [← hw1.out] at B1 S1 V1 P1 M1 C M d0 d1 p0 dU dK dX z0 z1 z2
  go_enter Tryd.func15, Tryd.ntmps15
  go_wp2_with fail
  rw [← hw1.out]
  refine M.out.mono ?_
  rintro _ w2 ⟨rfl, rfl⟩
  go_wp2_with fail
  refine C.out.mono ?_
  rintro _ w2 ⟨rfl, rfl⟩
  go_wp2
  have q1 : IntKind.i64.wrap ((l.length : Int) + 1) = (l.length : Int) + 1 := IntWalk.i64_in _ (by omega)
  have q2 : IntKind.i64.wrap (4 * ((l.length : Int) + 1)) = 4 * ((l.length : Int) + 1) := IntWalk.i64_in _ (by omega)
  have q3 : IntKind.i64.wrap (3 * (sl : Int)) = 3 * (sl : Int) := IntWalk.i64_in _ (by omega)
  refine wp_region_mix (fun _ => True) [1, 3, 3, 1, 3, 3, 3, 1, 3, 3, 1, 3, 3, 3] (List.range 14) (by kernel_rfl) (by kernel_rfl) (fun _ _ h => h) trivial ?_
  repeat ((first | refine wpMix_pure rfl rfl (fun K hK => ?_) | refine wpMix_loc rfl rfl (fun K hK => ?_) | refine wpMix_any rfl rfl (fun K hK => ?_)); go_simp; refine hK _ _ ?_; clear hK K)
  refine wpMix_nil (fun n1 => ?_)
  go_wp2
  clear d0 d1 p0 dU dK dX z0 z1 z2 M C
  have hgt : t ≠ g := by obtain ⟨cs, hb, _⟩ := S1.out; exact Blk.ne_ B1.out hb (by decide)
  have hvg : ¬ own (.slice A l.length cp) g := by obtain ⟨cs, hb, _⟩ := S1.out; exact Rowv.ne_ V1.out hb (by decide)
  have hvt : ¬ own (.slice A l.length cp) t := Rowv.ne_ V1.out B1.out (by decide)
  obtain ⟨w2, hw2⟩ : ∃ u, u = ((((w1.drewN (1 + n1)).setCell ⟨g, j * 3, none⟩ (.bool true)).setCell ⟨g, j * 3 + 1, none⟩ (.int .u64 key)).setCell ⟨g, j * 3 + 2, none⟩ (.int .i64 y)) := ⟨_, rfl⟩
  have B2 : Hid (Blk w2 t 73 #[.slice (some ⟨g, 0, none⟩) sl cz, .slice A l.length cp]) := Lib.hid (by rw [hw2]; exact (((B1.out.drewN _).far hgt _).far hgt _).far hgt _)
  have P2 : Hid (Blk w2 w.heap.size 32 #[.pointer (some ⟨t, 0, none⟩)]) := Lib.hid (by rw [hw2]; exact (((P1.out.drewN _).far hpg _).far hpg _).far hpg _)
  have V2 : Hid (Wl w2 (.slice A l.length cp) l) := Lib.hid (by rw [hw2]; exact (((V1.out.drewN _).set (p := ⟨g, _, none⟩) hvg _).set (p := ⟨g, _, none⟩) hvg _).set (p := ⟨g, _, none⟩) hvg _)
  have S2 : Hid (SltI w2 g sl (fun i => if i = j then true else U i) (fun i => if i = j then key else Ky i) (fun i => if i = j then .int .i64 y else X i)) := Lib.hid (by rw [hw2]; exact S1.out.put hj key (.int .i64 y))
  have M2 : Hid (Fr (fun b => b = t ∨ b = g ∨ own (.slice A l.length cp) b) w (fun b => b = t ∨ b = g ∨ own (.slice A l.length cp) b) w2) := Lib.hid (by rw [hw2]; exact ((((M1.out.drewN _).set (p := ⟨g, _, none⟩) (.inl (.inr (.inl rfl))) _).set (p := ⟨g, _, none⟩) (.inl (.inr (.inl rfl))) _).set (p := ⟨g, _, none⟩) (.inl (.inr (.inl rfl))) _))
  rw [← hw2]
  clear hw2 B1 P1 V1 S1 M1 hw1
  have p2 : w2.cell? ⟨w.heap.size, 0, none⟩ = some (.pointer (some ⟨t, 0, none⟩)) := P2.out.cell 0
  have d2 : w2.cell? ⟨t, 1, none⟩ = some (.slice A l.length cp) := B2.out.cell 1
  generalize w.heap.size = pb at *
  refine wp_region_mix (fun W' => W'.cell? ⟨pb, 0, none⟩ = some (.pointer (some ⟨t, 0, none⟩)) ∧ W'.cell? ⟨t, 1, none⟩ = some (.slice A l.length cp)) [0, 0, 3, 3, 0, 3, 2, 2, 3, 3, 2] (List.range 11) (by kernel_rfl) (by kernel_rfl) (fun _ _ h => h) ⟨p2, d2⟩ ?_
  repeat (first | ((first | refine wpMix_pure rfl rfl (fun K hK => ?_) | refine wpMix_loc rfl rfl (fun K hK => ?_) | refine wpMix_any rfl rfl (fun K hK => ?_)); go_simp; refine hK _ _ ?_; clear hK K) | (refine wpMix_any rfl rfl (fun K hK => ?_); rw [if_pos (by go_simp)]; apply Exists.intro; refine And.intro (fun w2 hS2 => ?_) (hK _ _ ?_); (focus (obtain ⟨hs1, hs2⟩ := hS2; go_simp; rfl)); clear hK K))
  refine wpMix_loud rfl rfl (fun n2 K hK => ?_)
  go_wp2
  refine hK _ _ (fun _ => ⟨cell_alloc_ p2, cell_alloc_ d2⟩) ?_; clear hK K
  repeat (first | ((first | refine wpMix_pure rfl rfl (fun K hK => ?_) | refine wpMix_loc rfl rfl (fun K hK => ?_) | refine wpMix_any rfl rfl (fun K hK => ?_)); go_simp; refine hK _ _ ?_; clear hK K) | (refine wpMix_any rfl rfl (fun K hK => ?_); rw [if_pos (by go_simp)]; apply Exists.intro; refine And.intro (fun w2 hS2 => ?_) (hK _ _ ?_); (focus (obtain ⟨hs1, hs2⟩ := hS2; go_simp; rfl)); clear hK K))
  refine wpMix_loud rfl rfl (fun n3 K hK => ?_)
  refine wpList_word ((w2.drewN (1 + n2)).drewN n3) rfl (.tmp 112) (.tmp 114) rfl (.slice A l.length cp) l key rfl ((V2.out.drewN _).drewN _) rfl hlen ?_
  intro A3 c3 w3 hc3 hv3 hm3
  have hgv3 : Hid (∀ cs, Blk w2 g 81 cs → Blk w3 g 81 cs) := Lib.hid fun cs hb => hm3.blk ((hb.drewN _).drewN _) hvg
  have B3 : Hid (Blk w3 t 73 #[.slice (some ⟨g, 0, none⟩) sl cz, .slice A l.length cp]) := Lib.hid (hm3.blk ((B2.out.drewN _).drewN _) hvt)
  have P3 : Hid (Blk w3 pb 32 #[.pointer (some ⟨t, 0, none⟩)]) := Lib.hid (hm3.blk ((P2.out.drewN _).drewN _) hpv)
  have S3 : Hid (SltI w3 g sl (fun i => if i = j then true else U i) (fun i => if i = j then key else Ky i) (fun i => if i = j then .int .i64 y else X i)) := Lib.hid (by obtain ⟨cs, hb, hc⟩ := S2.out; exact ⟨cs, hgv3.out cs hb, hc⟩)
  have V3 := Lib.hid hv3
  have M3 : Hid (Fr (fun b => b = t ∨ b = g ∨ own (.slice A l.length cp) b) w (fun b => b = t ∨ b = g ∨ own (.slice A3 (l.length + 1) c3) b) w3) := Lib.hid (by
    have e1 := (((M2.out.drewN (1 + n2)).drewN n3).trans (hm3.wide fun k hk => .inr (.inr hk)))
    exact e1.into fun k hk => hk.elim (fun h => .inr (.inl (.inl h))) fun hk => hk.elim (fun h => .inr (.inl (.inr (.inl h)))) .inl)
  have p3 : w3.cell? ⟨pb, 0, none⟩ = some (.pointer (some ⟨t, 0, none⟩)) := P3.out.cell 0
  have d3 : w3.cell? ⟨t, 1, none⟩ = some (.slice A l.length cp) := B3.out.cell 1
  have z3 := B3.out.frozen 1
  clear hv3 hm3 V2 B2 P2 S2 M2 hgv3 p2 d2
  refine hK _ _ (fun _ => ⟨p3, d3⟩) ?_; clear hK K
  repeat (first | ((first | refine wpMix_pure rfl rfl (fun K hK => ?_) | refine wpMix_loc rfl rfl (fun K hK => ?_) | refine wpMix_any rfl rfl (fun K hK => ?_)); go_simp; refine hK _ _ ?_; clear hK K) | (refine wpMix_any rfl rfl (fun K hK => ?_); rw [if_pos (by go_simp)]; apply Exists.intro; refine And.intro (fun w2 hS2 => ?_) (hK _ _ ?_); (focus (obtain ⟨hs1, hs2⟩ := hS2; go_simp; rfl)); clear hK K))
  refine wpMix_loud rfl rfl (fun n4 K hK => ?_)
  go_wp2
  refine hK _ _ (fun h => (Bool.false_ne_true ((Eq.symm (by kernel_rfl)).trans h)).elim) ?_; clear hK K
  refine wpMix_nil (fun n5 => ?_)
  go_wp2
  go_ret3
  have hvt3 : ¬ own (.slice A3 (l.length + 1) c3) t := Rowv.ne_ V3.out B3.out (by decide)
  refine ⟨rfl, A3, c3, ((B3.out.drewN _).set_ 1 _).drewN _, ?_, ((V3.out.drewN _).set (p := ⟨t, _, none⟩) hvt3 _).drewN _, ?_⟩
  · obtain ⟨cs, hb, hc⟩ := S3.out
    exact ⟨cs, ((hb.drewN _).far (p := ⟨t, 1, none⟩) (Ne.symm hgt) _).drewN _, hc⟩
  · exact ((M3.out.drewN _).set (p := ⟨t, 1, none⟩) (.inl (.inl rfl)) _).drewN _
end Go.Proofs.YtkjeobcfaolcaaaDoor
/- Slots cloned; Get, Len, Keys, Copy, by contract (a table of int). -/
namespace Go.Proofs.YtkjeobcfaolcaaaDoor
open Go.RowKit
set_option maxHeartbeats 4000000
set_option linter.unusedVariables false
set_option linter.unusedSimpArgs false

theorem SltI.lt {w : World} {g sl : Nat} {U : Nat → Bool} {K : Nat → Int} {X : Nat → Value} (h : SltI w g sl U K X) : g < w.heap.size := by obtain ⟨cs, hb, _⟩ := h; exact hb.lt
theorem SltI.alloc {w : World} {g sl : Nat} {U : Nat → Bool} {K : Nat → Int} {X : Nat → Value} (h : SltI w g sl U K X) (o : Obj) : SltI (w.alloc o) g sl U K X := by obtain ⟨cs, hb, hc⟩ := h; exact ⟨cs, hb.alloc o, hc⟩
theorem SltI.drewN {w : World} {g sl : Nat} {U : Nat → Bool} {K : Nat → Int} {X : Nat → Value} (h : SltI w g sl U K X) (n : Nat) : SltI (w.drewN n) g sl U K X := h
theorem SltI.fr {F F' : Nat → Prop} {w w' : World} {g sl : Nat} {U : Nat → Bool} {K : Nat → Int} {X : Nat → Value} (h : SltI w g sl U K X) (hf : Fr F w F' w') (hF : ¬ F g) : SltI w' g sl U K X := by obtain ⟨cs, hb, hc⟩ := h; exact ⟨cs, hf.blk hb hF, hc⟩
theorem slot_infoI : (Tryd.prog.info? 81).map (fun i => (i.zero, i.size, i.bytes)) = some (some (.agg #[.bool false, .int .u64 0, .int .i64 0]), 3, 24) := by kernel_rfl
theorem eqlI (a : Option Addr) (l c : Nat) (w : World) : (binOp .eql 71 (.slice a l c) (.slice none 0 0)).run Tryd.prog w = .ok (.bool a.isNone) w := run_eql_slice_nil 71 _ a l c w Tryd.underlying71
set_option maxRecDepth 100000 in
theorem cloneI_b {g sl cz : Nat} {U : Nat → Bool} {K : Nat → Int} {X : Nat → Value} {w : World} (h : SltI w g sl U K X) (hX : ∀ i, i < sl → (X i).oneCell' = true) (h0 : 0 < sl) (hlen : sl * 24 ≤ 140737488355328) :
    Calls Tryd.prog 75 #[.slice (some ⟨g, 0, none⟩) sl cz] w fun e w' => ∃ g' cz', e = .returned (.slice (some ⟨g', 0, none⟩) sl cz') ∧ SltI w' g' sl U K X ∧ w.heap.size ≤ g' ∧ Fr (fun _ => False) w (fun k => k = g') w' := by
  obtain ⟨cs, hb, hc⟩ := h
  have hsz : sl * 3 ≤ cs.size := by
    have := (Array.getElem?_eq_some_iff.1 (hc (sl - 1) (by omega)).2.2).1
    omega
  obtain ⟨news, hnews⟩ : ∃ news, Hid (news = cs.toList.take (sl * 3)) := ⟨_, Lib.hid rfl⟩
  have hn : news.length = sl * 3 := by rw [hnews.out, List.length_take]; simp; omega
  have hget : ∀ j, j < sl * 3 → news[j]? = cs[j]? := fun j hj => by rw [hnews.out, List.getElem?_take, if_pos hj, Array.getElem?_toList]
  have h1c : ∀ u ∈ news, u.oneCell' = true := by
    intro u hu
    obtain ⟨j, hj⟩ := List.mem_iff_getElem?.1 hu
    have hjl : j < sl * 3 := by rw [← hn]; exact (List.getElem?_eq_some_iff.1 hj).1
    rw [hget j hjl] at hj
    obtain ⟨a0, a1, a2⟩ := hc (j / 3) (by omega)
    rcases (by omega : j = j / 3 * 3 ∨ j = j / 3 * 3 + 1 ∨ j = j / 3 * 3 + 2) with e | e | e
    · rw [e, a0] at hj; cases hj; rfl
    · rw [e, a1] at hj; cases hj; rfl
    · rw [e, a2] at hj; cases hj; exact hX _ (by omega)
  have hcell : ∀ j u, news[j]? = some u → (w.alloc (.cells #[] 81)).cell? ((⟨g, 0, none⟩ : Addr).add j) = some u := fun j u hj => by
    have hjl : j < sl * 3 := by rw [← hn]; exact (List.getElem?_eq_some_iff.1 hj).1
    rw [Addr.add_lit, Nat.zero_add, Blk.cell (hb.alloc _), ← hget j hjl]
    exact hj
  have hcell := Lib.hid hcell
  have h1c := Lib.hid h1c
  have hget := Lib.hid hget
  have hc := Lib.hid hc
  have hn := Lib.hid hn
  clear hX hb
  have eq1 := eqlI
  obtain ⟨i0, hi, hz0, hz1, hz2⟩ := info_parts slot_infoI
  have hi := Lib.hid hi
  have hz0 := Lib.hid hz0
  have hz1 := Lib.hid hz1
  have hz2 := Lib.hid hz2
  have hb1 : 0 + sl ≤ maxLen := by unfold maxLen; omega
  have hb2 : (0 + sl) * 24 ≤ 140737488355328 := by omega
  go_enter Tryd.func75, Tryd.ntmps75
  go_wp2_with (at_builtin; refine wpList_append_arg _ rfl (.tmp 5) (.tmp 6) 71 rfl 81 i0 _ 3 24 Tryd.underlying71 hi.out hz0.out hz1.out hz2.out rfl (by decide) w.heap.size 0 0 0 [] rfl rfl (fun j u hj => by simp at hj) ⟨g, 0, none⟩ sl cz news rfl hn.out hcell.out h1c.out (fun hr => by omega) hb1 hb2 (fun hr => by omega) ?_; intro hlt v' w' hown hgr; rw [List.nil_append, Nat.zero_add] at hown; obtain ⟨g', cap, cur, rfl, hb', hh, hsz2, htk⟩ := ownsRow_made hown h0; have hgr := Lib.hid hgr; have hh := Lib.hid hh; have htk := Lib.hid htk; clear hown)
  go_ret
  refine ⟨_, _, rfl, ⟨cur, hh.out, fun i hi => ?_⟩, by simp at hb'; omega, ?_⟩
  · have e : ∀ j, j < sl * 3 → cur[j]? = cs[j]? := fun j hj => by
      rw [← hget.out j hj, ← htk.out, List.getElem?_take, if_pos hj, Array.getElem?_toList]
    obtain ⟨a0, a1, a2⟩ := hc.out i hi
    exact ⟨(e _ (by omega)).trans a0, (e _ (by omega)).trans a1, (e _ (by omega)).trans a2⟩
  · have e1 : Fr (fun _ => False) w (fun _ => False) (w.alloc (.cells #[] 81)) := (Fr.refl _ w).alloc _
    refine (e1.grown hgr.out fun k hk => by cases hk).into fun k hk => .inr (.inr ?_)
    rw [hk]
    simp at hb'
    omega
set_option maxRecDepth 100000 in
theorem getI_b {t g k fuel j m cz : Nat} {key : Int} {U : Nat → Bool} {K : Nat → Int} {X : Nat → Value} {c1 : Value} {w : World} (hT : Tab w) (ht : Blk w t 73 #[.slice (some ⟨g, 0, none⟩) (2 ^ k : Nat) cz, c1])
    (hS : SltI w g (2 ^ k) U K X) (h1 : 1 ≤ k) (h2 : k ≤ 62) (hf : fuel ≤ 4611686018427387904) (hl : lgo U K key (2 ^ k) fuel (homeOf key k).toNat 1 = some (j, m)) (hj : j < 2 ^ k) :
    Calls Tryd.prog 17 #[.pointer (some ⟨t, 0, none⟩), .int .u64 key] w fun e w' => e = .returned (.tuple #[X j, .bool (U j)]) ∧ ∃ n, w' = w.drewN n := by
  have C := Lib.hid (lookI_b hT ht hS.at_ h1 h2 hf hl)
  have d0 : w.cell? ⟨t, 0, none⟩ = some (.slice (some ⟨g, 0, none⟩) (2 ^ k : Nat) cz) := ht.cell 0
  have M := Lib.hid (madeI_b (c1 := c1) d0)
  have dU := (hS.at_ j hj).1
  have dX := (hS.val hj).1
  have hjl : decide (j < 2 ^ k) = true := decide_eq_true hj
  clear hT ht hS hf hl h1 h2
  generalize 2 ^ k = sl at *
  generalize X j = x at *
  generalize U j = u at *
  go_enter Tryd.func17, Tryd.ntmps17
  go_wp2_with fail
  refine M.out.mono ?_
  rintro _ w2 ⟨rfl, rfl⟩
  go_wp2_with fail
  refine C.out.mono ?_
  rintro _ w2 ⟨rfl, rfl⟩
  go_wp2
  refine wp_region_mix (fun _ => True) [3, 3, 3, 1, 3, 3, 3, 1, 3, 3, 3, 1, 3, 3, 3, 1, 3, 3] (List.range 18) (by kernel_rfl) (by kernel_rfl) (fun _ _ h => h) trivial ?_
  repeat ((first | refine wpMix_pure rfl rfl (fun K hK => ?_) | refine wpMix_loc rfl rfl (fun K hK => ?_) | refine wpMix_any rfl rfl (fun K hK => ?_)); go_simp; refine hK _ _ ?_; clear hK K)
  refine wpMix_nil (fun n1 => ?_)
  go_wp2
  go_ret2
  exact ⟨rfl, 1 + n1, drewN_drewN w 1 n1⟩
theorem lenI_b {t g sl cz : Nat} {A : Option Addr} {n cp : Nat} {w : World} (ht : Blk w t 73 #[.slice (some ⟨g, 0, none⟩) sl cz, .slice A n cp]) :
    Calls Tryd.prog 21 #[.pointer (some ⟨t, 0, none⟩)] w fun e w' => e = .returned (.int .i64 (n : Int)) ∧ w = w' := by
  have d0 : w.cell? ⟨t, 0, none⟩ = some (.slice (some ⟨g, 0, none⟩) sl cz) := ht.cell 0
  have d1 : w.cell? ⟨t, 1, none⟩ = some (.slice A n cp) := ht.cell 1
  have M := Lib.hid (madeI_b (c1 := .slice A n cp) d0)
  clear ht
  go_enter Tryd.func21, Tryd.ntmps21
  go_wp2_with fail
  refine M.out.mono ?_
  rintro _ w2 ⟨rfl, rfl⟩
  go_wp2
  go_ret
  exact ⟨rfl, rfl⟩
theorem keysI_b {t g sl cz : Nat} {A : Option Addr} {cp : Nat} {l : List Int} {w : World} (ht : Blk w t 73 #[.slice (some ⟨g, 0, none⟩) sl cz, .slice A l.length cp]) (hv : Wl w (.slice A l.length cp) l) (hlen : l.length * 8 ≤ 140737488355328) :
    Calls Tryd.prog 27 #[.pointer (some ⟨t, 0, none⟩)] w fun e w' => ∃ A' cp', e = .returned (.slice A' l.length cp') ∧ Wl w' (.slice A' l.length cp') l ∧ Fr (fun _ => False) w (own (.slice A' l.length cp')) w' := by
  have d0 : w.cell? ⟨t, 0, none⟩ = some (.slice (some ⟨g, 0, none⟩) sl cz) := ht.cell 0
  have d1 : w.cell? ⟨t, 1, none⟩ = some (.slice A l.length cp) := ht.cell 1
  have M := Lib.hid (madeI_b (c1 := .slice A l.length cp) d0)
  have C := Lib.hid (clone_b hv.lies hlen)
  clear ht hv
  go_enter Tryd.func27, Tryd.ntmps27
  go_wp2_with fail
  refine M.out.mono ?_
  rintro _ w2 ⟨rfl, rfl⟩
  go_wp2_with fail
  refine C.out.mono ?_
  rintro _ w2 ⟨A', cp', rfl, hv, hm⟩
  have hv := Lib.hid hv
  have hm := Lib.hid hm
  clear C M
  go_wp2
  go_ret
  exact ⟨_, _, rfl, hv.out, hm.out⟩
end Go.Proofs.YtkjeobcfaolcaaaDoor
/- Copy, by contract (a table of int). -/
namespace Go.Proofs.YtkjeobcfaolcaaaDoor
open Go.RowKit
set_option maxHeartbeats 4000000
set_option linter.unusedVariables false
set_option linter.unusedSimpArgs false

set_option maxRecDepth 100000 in
theorem copyI_b {t g sl cz : Nat} {U : Nat → Bool} {K : Nat → Int} {X : Nat → Value} {A : Option Addr} {cp : Nat} {l : List Int} {w : World} (ht : Blk w t 73 #[.slice (some ⟨g, 0, none⟩) sl cz, .slice A l.length cp])
    (hS : SltI w g sl U K X) (hv : Wl w (.slice A l.length cp) l) (hX : ∀ i, i < sl → (X i).oneCell' = true) (h0 : 0 < sl) (hlen : sl * 24 ≤ 140737488355328) (hl8 : l.length * 8 ≤ 140737488355328) :
    Calls Tryd.prog 45 #[.pointer (some ⟨t, 0, none⟩)] w fun e w' => ∃ t' g' cz' A' cp', e = .returned (.pointer (some ⟨t', 0, none⟩)) ∧ Blk w' t' 73 #[.slice (some ⟨g', 0, none⟩) sl cz', .slice A' l.length cp'] ∧
      SltI w' g' sl U K X ∧ Wl w' (.slice A' l.length cp') l ∧ Fr (fun _ => False) w (fun b => b = t' ∨ b = g' ∨ own (.slice A' l.length cp') b) w' := by
  have d0 : w.cell? ⟨t, 0, none⟩ = some (.slice (some ⟨g, 0, none⟩) sl cz) := ht.cell 0
  have d1 : w.cell? ⟨t, 1, none⟩ = some (.slice A l.length cp) := ht.cell 1
  have M := Lib.hid (madeI_b (c1 := .slice A l.length cp) d0)
  have B0 := Lib.hid ht
  have S0 := Lib.hid hS
  have V0 := Lib.hid hv
  have hX := Lib.hid hX
  clear ht hS hv
  go_enter Tryd.func45, Tryd.ntmps45
  go_wp2_with fail
  refine M.out.mono ?_
  rintro _ w2 ⟨rfl, rfl⟩
  go_wp2_with fail
  refine wp_region_mix (fun W' => W'.cell? ⟨t, 1, none⟩ = some (.slice A l.length cp)) [3, 3, 3, 1, 2, 3, 3, 3, 0, 2, 2, 2, 3] [0, 1, 2, 3, 5, 6, 7, 8, 4, 9, 10, 11, 12] (by kernel_rfl) (by kernel_rfl) (fun _ _ h => h) d1 ?_
  repeat (first | ((first | refine wpMix_pure rfl rfl (fun K hK => ?_) | refine wpMix_loc rfl rfl (fun K hK => ?_) | refine wpMix_any rfl rfl (fun K hK => ?_)); go_simp; refine hK _ _ ?_; clear hK K) | (refine wpMix_any rfl rfl (fun K hK => ?_); rw [if_pos (by go_simp)]; apply Exists.intro; refine And.intro (fun w2 hS2 => ?_) (hK _ _ ?_); (focus (obtain hs1 := hS2; go_simp; rfl)); clear hK K))
  refine wpMix_loud rfl rfl (fun n1 K hK => ?_)
  go_wp2_with fail
  refine (cloneI_b (S0.out.drewN (1 + n1)) hX.out h0 hlen).mono ?_
  rintro _ w3 ⟨g3, z3, rfl, s3, ge3, m3⟩
  have S3 := Lib.hid s3
  have ge3 := Lib.hid ge3
  have M3 := Lib.hid m3
  have V3 : Hid (Wl w3 (.slice A l.length cp) l) := Lib.hid ((V0.out.drewN (1 + n1)).frs m3 fun k _ h => h)
  have B3 := Lib.hid (m3.blk (B0.out.drewN (1 + n1)) fun h => h)
  have d3 : w3.cell? ⟨t, 1, none⟩ = some (.slice A l.length cp) := B3.out.cell 1
  clear s3 m3 d0
  go_wp2_with fail
  refine hK _ _ (fun _ => d3) ?_; clear hK K
  repeat (first | ((first | refine wpMix_pure rfl rfl (fun K hK => ?_) | refine wpMix_loc rfl rfl (fun K hK => ?_) | refine wpMix_any rfl rfl (fun K hK => ?_)); go_simp; refine hK _ _ ?_; clear hK K) | (refine wpMix_any rfl rfl (fun K hK => ?_); rw [if_pos (by go_simp)]; apply Exists.intro; refine And.intro (fun w2 hS2 => ?_) (hK _ _ ?_); (focus (obtain hs1 := hS2; go_simp; rfl)); clear hK K))
  refine wpMix_loud rfl rfl (fun n2 K hK => ?_)
  go_wp2_with fail
  refine (clone_b (V3.out.lies.drewN n2) hl8).mono ?_
  rintro _ w4 ⟨A4, c4, rfl, v4, m4⟩
  have V4 := Lib.hid v4
  have M4 := Lib.hid m4
  have S4 := Lib.hid (S3.out.drewN n2 |>.fr m4 fun h => h)
  clear v4 m4 d3 d1
  go_wp2_with fail
  refine hK _ _ (fun h => (Bool.false_ne_true ((Eq.symm (by kernel_rfl)).trans h)).elim) ?_; clear hK K
  repeat ((first | refine wpMix_pure rfl rfl (fun K hK => ?_) | refine wpMix_loc rfl rfl (fun K hK => ?_) | refine wpMix_any rfl rfl (fun K hK => ?_)); go_simp; refine hK _ _ ?_; clear hK K)
  refine wpMix_loud rfl rfl (fun n3 K hK => ?_)
  go_wp2_with fail
  refine hK _ _ (fun h => (Bool.false_ne_true ((Eq.symm (by kernel_rfl)).trans h)).elim) ?_; clear hK K
  repeat ((first | refine wpMix_pure rfl rfl (fun K hK => ?_) | refine wpMix_loc rfl rfl (fun K hK => ?_) | refine wpMix_any rfl rfl (fun K hK => ?_)); go_simp; refine hK _ _ ?_; clear hK K)
  refine wpMix_loud rfl rfl (fun n4 K hK => ?_)
  go_wp2_with fail
  refine hK _ _ (fun h => (Bool.false_ne_true ((Eq.symm (by kernel_rfl)).trans h)).elim) ?_; clear hK K
  repeat ((first | refine wpMix_pure rfl rfl (fun K hK => ?_) | refine wpMix_loc rfl rfl (fun K hK => ?_) | refine wpMix_any rfl rfl (fun K hK => ?_)); go_simp; refine hK _ _ ?_; clear hK K)
  refine wpMix_nil (fun n5 => ?_)
  go_wp2
  go_ret
  have e3 : Fr (fun _ => False) w (fun k => k = g3) w3 := ((Fr.refl (fun _ => False) w).drewN (1 + n1)).trans M3.out
  have e4 := (e3.drewN n2).beside M4.out fun k hk => hk.elim
  have e5 := ((e4.drewN (n3 + n4)).alloc (.cells #[.slice (some ⟨g3, 0, none⟩) sl z3, .slice A4 l.length c4] 73)).drewN n5
  refine ⟨_, g3, z3, A4, c4, rfl, (Blk.new (w4.drewN (n3 + n4)) 73 #[.slice (some ⟨g3, 0, none⟩) sl z3, .slice A4 l.length c4]).drewN n5, ((S4.out.drewN (n3 + n4)).alloc _).drewN n5, ((V4.out.drewN (n3 + n4)).alloc _).drewN n5, e5.into fun k hk => ?_⟩
  rcases hk with rfl | rfl | hk
  · exact .inr (.inr e4.size)
  · exact .inl rfl
  · rcases M4.out.new k hk with h | h
    · exact h.elim
    · exact .inr (.inr (Nat.le_trans e3.size h))
end Go.Proofs.YtkjeobcfaolcaaaDoor
