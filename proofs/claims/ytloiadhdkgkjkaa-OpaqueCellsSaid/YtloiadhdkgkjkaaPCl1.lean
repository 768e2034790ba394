/- Arguments opened: slices of whole numbers, slices of structs of whole numbers. -/
import Derived.Test.YtloiadhdkgkjkaaRows
import Derived.ProofKit
import Derived.OpenShut
import Derived.ChangeOld
import Derived.Below
import Derived.SizedLaws
import Derived.Deep.Slices
import Derived.Deep.Fields
import Derived.ChangeSame
import Derived.Carry
import Derived.Test.YtloiadhdkgkjkaaWl
import Derived.Test.YtloiadhdkgkjkaaEvX
import Derived.Test.YtloiadhdkgkjkaaOpG
import Derived.Test.YtloiadhdkgkjkaaMixH
import Derived.Test.YtloiadhdkgkjkaaMp
import Derived.WideKeyEntry
import Derived.DeepKeys5
import Derived.Test.YtloiadhdkgkjkaaEvW
import Derived.Outline
import Derived.Test.YtloiadhdkgkjkaaEvA
namespace Go.Proofs.Ytloiadhdkgkjkaa
open Go.ChangeShapes Go.WideShapes Go.ChangeAt Go.RowKit Go.Deep

section
variable {H : Type} {enc : TypeId × Value → H} {P : Program} {w : World} {base : Nat} {spare : Nat → Bool} {held : Bool}
/-- A slice of structs of one-cell fields: each field's cell and reading. -/
theorem open_slice_fields {t e : TypeId} {fs : Array Field} {fuel : Nat} {cs : List Value} {x : DataW H × List MemPlace} (ht : P.underlying t = some (.slice e)) (he : P.underlying e = some (.struct fs))
    (hone : oneCellFields P fs = true) (hC : P.cellsOf e = fs.size) (h : DataW.trod enc P w base spare held fuel t cs = some x) :
    (cs = [.slice none 0 0] ∧ x = (.nil, [])) ∨
    ∃ (a : Addr) (len cap m : Nat) (D : Nat → DataW H) (Pl : Nat → List MemPlace), cs = [.slice (some a) len cap] ∧ base ≤ a.block ∧ len ≤ cap ∧ cap ≤ maxLen ∧ m = (if spare a.block then cap else len) ∧
      x = (.slice ((List.range len).map D) ((List.range (m - len)).map fun j => D (len + j)), MemPlace.row a (m * fs.size) ++ (List.range m).flatMap Pl) ∧
      ∀ i, i < m → ∃ (ys : List (DataW H × List MemPlace)) (n : Nat), D i = .agg (ys.map (·.1)) ∧ Pl i = ys.flatMap (·.2) ∧ ys.length = fs.size ∧
        ∀ (j : Nat) (f : Field), fs[j]? = some f → ∃ (v : Value) (y : DataW H × List MemPlace), w.cell? (a.add (i * fs.size + j)) = some v ∧ ys[j]? = some y ∧ DataW.trod enc P w base spare held n f.type [v] = some y := by
  rcases open_slice ht h with h0 | ⟨a, len, cap, m, n, D, Pl, hcs, hb, hl, hm, hmm, hx, hi⟩
  · exact .inl h0
  · refine .inr ⟨a, len, cap, m, D, Pl, hcs, hb, hl, hm, hmm, by rw [hC] at hx; exact hx, fun i him => ?_⟩
    obtain ⟨cs', hc, ht'⟩ := hi i him
    rw [hC] at hc
    obtain ⟨ys, n', hn', hy, hlen, hyl, hf⟩ := DataW.trod_struct he ht'
    obtain ⟨_, hcl, hat⟩ := World.cells?_some hc
    simp only [Prod.mk.injEq] at hy
    refine ⟨ys, n', hy.1, hy.2, hyl, fun j f hj => ?_⟩
    obtain ⟨ho, hk⟩ := hone_of hone j f hj
    have hjl : j < fs.size := (Array.getElem?_eq_some_iff.1 hj).1
    have hcell := hat j hjl
    have hv : cs'[j]? = some (cs'[j]'(by omega)) := List.getElem?_eq_getElem (by omega)
    have h1 := hf j f hj
    rw [ho, hk] at h1
    have hone' : (cs'.drop j).take 1 = [cs'[j]'(by omega)] := by
      rw [List.drop_eq_getElem_cons (by omega)]
      rfl
    rw [hone'] at h1
    have hys : ys[j]? = some (ys[j]'(by omega)) := List.getElem?_eq_getElem (by omega)
    refine ⟨_, _, ?_, hys, h1.trans hys⟩
    rw [← Go.Deep.add_add, hcell, hv]

theorem addr_block {a : Addr} {n : Nat} : (a.add n).block = a.block := by unfold Addr.add; split <;> rfl
theorem addr_flat {a : Addr} {i j : Nat} (hj : j ≠ 0) : a.add (i + j) = ⟨(a.add i).block, (a.add i).off + j, none⟩ := by
  unfold Addr.add
  rw [if_neg (by omega)]
  split
  · rename_i h; subst h; simp
  · simp [Nat.add_assoc]
theorem spotless {a : Addr} {n : Nat} {v : Value} (h : w.cell? (a.add n) = some v) : a.add n = ⟨a.block, a.off + n, none⟩ := by
  unfold Addr.add at *
  split
  · rename_i hn
    subst hn
    simp only [if_true] at h
    unfold World.cell? at h
    cases a with
    | mk b o s =>
      cases s with
      | none => rfl
      | some s =>
        simp only [Option.isSome_some, if_true] at h
        split at h <;> cases h
  · rfl

/-- A slice of words that came in. -/
structure WordsIn (w : World) (A : Option Addr) (l : List Int) (c : Nat) : Prop where
  nil : A = none → l = [] ∧ c = 0
  cell : ∀ ad, A = some ad → ∀ j, j < l.length → w.cell? (ad.add j) = some (.int .u64 (l.getD j 0))
  bd : ∀ x ∈ l, 0 ≤ x ∧ x ≤ 18446744073709551615
  len : l.length * 8 ≤ 140737488351232
  cap : l.length ≤ c

/-- A slice of structs of whole numbers that came in. -/
structure RowsIn (w : World) (A : Option Addr) (n c : Nat) (ks : List IntKind) : Prop where
  nil : A = none → n = 0 ∧ c = 0
  cell : ∀ ad, A = some ad → ∀ i, i < n → ∀ j k, ks[j]? = some k → ∃ z, w.cell? (ad.add (i * ks.length + j)) = some (.int k z) ∧ (Lit.int k z).wf = true
  len : n * (8 * ks.length) ≤ 140737488351232

theorem open_words {ts : List TypeId} {ds : List (DataW H)} {j : Nat} {t e : TypeId} {A : Option Addr} {len cap : Nat} {d : DataW H} {p : List MemPlace} (hsz : (DataW.weightsEach P ts ds).all (· ≤ reachBytes) = true) (hj : ts[j]? = some t) (hd : ds[j]? = some d)
    (ht : P.underlying t = some (.slice e)) (he : P.underlying e = some (.int .u64)) (hc : P.cellsOf e = 1) (hb : P.bytesOf e = 8) (h : DataW.Trod enc P w base spare held t (.slice A len cap) d p) : ∃ l, l.length = len ∧ WordsIn w A l cap := by
  obtain ⟨fuel, hf⟩ := h
  rcases open_ints ht he hc hf with ⟨hcs, hx⟩ | ⟨x, l, c, zs, hcs, _, hl, hm, hz, hx, hcell, hwz⟩
  · simp [Value.cells] at hcs
    obtain ⟨rfl, rfl, rfl⟩ := hcs
    exact ⟨[], rfl, fun _ => ⟨rfl, rfl⟩, (fun ad h => nomatch h), by simp, by simp, by simp⟩
  · simp [Value.cells] at hcs
    obtain ⟨rfl, rfl, rfl⟩ := hcs
    have hlz : len ≤ zs.length := by rw [hz]; split <;> omega
    simp only [Prod.mk.injEq] at hx
    have := sized_slice hsz hj (hd.trans (by rw [hx.1])) ht
    rw [hb] at this
    simp only [lits, List.length_map, List.length_take, List.length_drop, reachBytes] at this
    refine ⟨zs.take len, by simp; omega, (fun h => nomatch h), fun ad h i hi => ?_, fun z hz => ?_, by simp; omega, by simp; omega⟩
    · injection h with h
      subst h
      simp only [List.length_take] at hi
      rw [hcell i (by omega)]
      simp [List.getD_eq_getElem?_getD, show i < len by omega]
    · have := hwz z (List.mem_of_mem_take hz)
      simp [Lit.wf, IntKind.min, IntKind.max, IntKind.signed, IntKind.bits] at this
      omega

theorem open_rows {ts : List TypeId} {ds : List (DataW H)} {j : Nat} {t e : TypeId} {A : Option Addr} {len cap : Nat} {d : DataW H} {p : List MemPlace} (hsz : (DataW.weightsEach P ts ds).all (· ≤ reachBytes) = true) (hj : ts[j]? = some t) (hd : ds[j]? = some d)
    {fs : Array Field} {ks : List IntKind} (ht : P.underlying t = some (.slice e)) (he : P.underlying e = some (.struct fs)) (hone : oneCellFields P fs = true) (hC : P.cellsOf e = fs.size) (hb : 8 * ks.length ≤ P.bytesOf e) (hn : ks.length = fs.size) (hk : (fs.toList.map fun f => P.underlying f.type) = ks.map fun k => some (.int k))
    (h : DataW.Trod enc P w base spare held t (.slice A len cap) d p) : RowsIn w A len cap ks := by
  obtain ⟨fuel, hf⟩ := h
  rcases open_slice_fields ht he hone hC hf with ⟨hcs, hx⟩ | ⟨a, l, c, m, D, Pl, hcs, _, hl, hm, hmm, hx, hel⟩
  · simp [Value.cells] at hcs
    obtain ⟨rfl, rfl, rfl⟩ := hcs
    exact ⟨fun _ => ⟨rfl, rfl⟩, (fun ad h => nomatch h), by simp⟩
  · simp [Value.cells] at hcs
    obtain ⟨rfl, rfl, rfl⟩ := hcs
    have hlm : len ≤ m := by rw [hmm]; split <;> omega
    simp only [Prod.mk.injEq] at hx
    have := sized_slice hsz hj (hd.trans (by rw [hx.1])) ht
    simp only [List.length_map, List.length_range, reachBytes] at this
    have h8 : (len + (m - len)) * (8 * ks.length) ≤ (len + (m - len)) * P.bytesOf e := Nat.mul_le_mul_left _ hb
    have h9 : len * (8 * ks.length) ≤ (len + (m - len)) * (8 * ks.length) := Nat.mul_le_mul_right _ (by omega)
    refine ⟨(fun h => nomatch h), fun ad h i hi j' k hjk => ?_, by omega⟩
    injection h with h
    subst h
    obtain ⟨ys, n, _, _, _, hfl⟩ := hel i (by omega)
    have hjl : j' < ks.length := (List.getElem?_eq_some_iff.1 hjk).1
    have hjf : j' < fs.size := by omega
    obtain ⟨v, y, hcell, _, ht'⟩ := hfl j' fs[j'] (Array.getElem?_eq_getElem hjf)
    have e1 : ((fs.toList.map fun f => P.underlying f.type))[j']? = some (P.underlying fs[j'].type) := by simp [hjf]
    rw [hk, List.getElem?_map, hjk] at e1
    simp only [Option.map_some, Option.some.injEq] at e1
    obtain ⟨z, hz, _, hw⟩ := DataW.trod_int e1.symm ht'
    injection hz with hz
    subst hz
    exact ⟨z, by rw [hn]; exact hcell, hw⟩
end
end Go.Proofs.Ytloiadhdkgkjkaa
/- Slices of structs some of whose fields are slices of words: opened field by field. -/
namespace Go.Proofs.Ytloiadhdkgkjkaa
open Go.ChangeShapes Go.WideShapes Go.RowKit Go.Deep
set_option linter.unusedVariables false
section
variable {P : Program} {H : Type} {enc : TypeId × Value → H} {w : World} {base : Nat} {spare : Nat → Bool} {held : Bool}
theorem weights_all {e : TypeId} {d : DataW H} : ∀ {l : List (DataW H)}, d ∈ l → ∀ x ∈ d.weights P e, x ∈ DataW.weightsAll P e l
  | y :: l, hd, x, hx => by
    rw [DataW.weightsAll]
    rcases List.mem_cons.1 hd with rfl | h
    · exact List.mem_append_left _ hx
    · exact List.mem_append_right _ (weights_all h x hx)
theorem weights_each {d : DataW H} {t : TypeId} : ∀ {ts : List TypeId} {l : List (DataW H)} {j : Nat}, ts[j]? = some t → l[j]? = some d → ∀ x ∈ d.weights P t, x ∈ DataW.weightsEach P ts l
  | t' :: ts, y :: l, 0, ht, hd, x, hx => by
    simp only [List.getElem?_cons_zero, Option.some.injEq] at ht hd
    subst ht hd
    rw [DataW.weightsEach]
    exact List.mem_append_left _ hx
  | t' :: ts, y :: l, j + 1, ht, hd, x, hx => by
    rw [DataW.weightsEach]
    exact List.mem_append_right _ (weights_each (by simpa using ht) (by simpa using hd) x hx)
  | [], _, _, ht, _, _, _ => by simp at ht
  | _ :: _, [], _, _, hd, _, _ => by simp at hd
theorem open_fields {ts : List TypeId} {ds : List (DataW H)} {j : Nat} {t e : TypeId} {A : Option Addr} {len cap : Nat} {d : DataW H} {p : List MemPlace} (hsz : (DataW.weightsEach P ts ds).all (· ≤ reachBytes) = true) (hj : ts[j]? = some t) (hd : ds[j]? = some d)
    {fs : Array Field} (ht : P.underlying t = some (.slice e)) (he : P.underlying e = some (.struct fs)) (hone : oneCellFields P fs = true) (hC : P.cellsOf e = fs.size)
    (h : DataW.Trod enc P w base spare held t (.slice A len cap) d p) : (A = none → len = 0 ∧ cap = 0) ∧ len * P.bytesOf e ≤ 140737488351232 ∧
      ∀ ad, A = some ad → ∀ i, i < len → ∀ (j : Nat) (f : Field), fs[j]? = some f → ∃ v y n, w.cell? (ad.add (i * fs.size + j)) = some v ∧ DataW.trod enc P w base spare held n f.type [v] = some y ∧ ∀ x ∈ y.1.weights P f.type, x ≤ 140737488351232 := by
  obtain ⟨fuel, hf⟩ := h
  have hall : ∀ x ∈ DataW.weightsEach P ts ds, x ≤ 140737488351232 := fun x hx => by
    have := List.all_eq_true.1 hsz x hx
    exact of_decide_eq_true this
  have hdw := weights_each (P := P) hj hd
  rcases open_slice_fields ht he hone hC hf with ⟨hcs, hx⟩ | ⟨a, l, c, m, D, Pl, hcs, _, hl, hm, hmm, hx, hel⟩
  · simp [Value.cells] at hcs
    obtain ⟨rfl, rfl, rfl⟩ := hcs
    exact ⟨fun _ => ⟨rfl, rfl⟩, by simp, (fun ad h => nomatch h)⟩
  · simp [Value.cells] at hcs
    obtain ⟨rfl, rfl, rfl⟩ := hcs
    have hlm : len ≤ m := by rw [hmm]; split <;> omega
    simp only [Prod.mk.injEq] at hx
    have hw : d.weights P t = (((List.range len).map D).length + ((List.range (m - len)).map fun j => D (len + j)).length) * P.bytesOf e :: (DataW.weightsAll P e ((List.range len).map D) ++ DataW.weightsAll P e ((List.range (m - len)).map fun j => D (len + j))) := by
      rw [hx.1, DataW.weights]
      simp only [ht]
    refine ⟨(fun h => nomatch h), ?_, fun ad h i hi j' f hf' => ?_⟩
    · have := hall _ (hdw _ (by rw [hw]; exact List.mem_cons_self))
      simp only [List.length_map, List.length_range] at this
      exact Nat.le_trans (Nat.mul_le_mul_right _ (by omega)) this
    · injection h with h
      subst h
      obtain ⟨ys, n, hD, _, hlen, hfl⟩ := hel i (by omega)
      obtain ⟨v, y, hcell, hy, ht'⟩ := hfl j' f hf'
      refine ⟨v, y, n, hcell, ht', fun x hx2 => hall x (hdw x ?_)⟩
      rw [hw]
      refine List.mem_cons_of_mem _ (List.mem_append_left _ (weights_all (d := D i) (List.mem_map.2 ⟨i, List.mem_range.2 hi, rfl⟩) x ?_))
      rw [hD, DataW.weights]
      simp only [he]
      exact weights_each (j := j') (by simpa using congrArg (Option.map Field.type) hf') (by rw [List.getElem?_map, hy]; rfl) x hx2
theorem words_field {t e : TypeId} {n : Nat} {v : Value} {y : DataW H × List MemPlace} (ht : P.underlying t = some (.slice e)) (he : P.underlying e = some (.int .u64)) (hc : P.cellsOf e = 1) (hb : P.bytesOf e = 8)
    (h : DataW.trod enc P w base spare held n t [v] = some y) (hw : ∀ x ∈ y.1.weights P t, x ≤ 140737488351232) : ∃ A l c, v = .slice A l.length c ∧ WordsIn w A l c := by
  rcases open_ints ht he hc h with ⟨hcs, hx⟩ | ⟨a, l, c, zs, hcs, _, hl, hm, hz, hx, hcell, hwz⟩
  · injection hcs with hcs
    subst hcs
    exact ⟨none, [], 0, rfl, fun _ => ⟨rfl, rfl⟩, (fun ad h => nomatch h), by simp, by simp, by simp⟩
  · injection hcs with hcs
    subst hcs
    have hlz : l ≤ zs.length := by rw [hz]; split <;> omega
    have h1 : y.1 = .slice (lits .u64 (zs.take l)) (lits .u64 (zs.drop l)) := by rw [hx]
    have := hw _ (by rw [h1, DataW.weights]; simp only [ht]; exact List.mem_cons_self)
    rw [hb] at this
    simp only [lits, List.length_map, List.length_take, List.length_drop] at this
    have el : (zs.take l).length = l := by rw [List.length_take]; omega
    refine ⟨some a, zs.take l, c, by rw [el], (fun h => nomatch h), fun ad h i hi => ?_, fun z hz => ?_, by rw [el]; omega, by rw [el]; omega⟩
    · injection h with h
      subst h
      rw [el] at hi
      rw [hcell i (by omega)]
      simp [List.getD_eq_getElem?_getD, hi]
    · have := hwz z (List.mem_of_mem_take hz)
      simp [Lit.wf, IntKind.min, IntKind.max, IntKind.signed, IntKind.bits] at this
      omega
theorem int_field {t : TypeId} {n : Nat} {v : Value} {k : IntKind} {y : DataW H × List MemPlace} (ht : P.underlying t = some (.int k)) (h : DataW.trod enc P w base spare held n t [v] = some y) : ∃ z, v = .int k z ∧ (Lit.int k z).wf = true := by
  obtain ⟨z, hz, _, hw⟩ := DataW.trod_int ht h
  injection hz with hz
  exact ⟨z, hz, hw⟩
end
end Go.Proofs.Ytloiadhdkgkjkaa
/- Arguments that read as lists of words. -/
namespace Go.Proofs.Ytloiadhdkgkjkaa
open Go.RowKit
theorem WordsIn.lies {w : World} {A : Option Addr} {l : List Int} {c : Nat} (h : WordsIn w A l c) : Lies w (.slice A l.length c) l := by
  refine ⟨A, c, rfl, h.cap, fun e => (h.nil e).2, fun j hj => ?_⟩
  cases A with
  | none => have := (h.nil rfl).1; subst this; simp at hj
  | some ad =>
    have h0 := h.cell ad rfl 0 (by omega)
    have hj' := h.cell ad rfl j hj
    have e0 := spotless h0
    have e1 : ad = ⟨ad.block, ad.off, none⟩ := by
      have : ad.add 0 = ad := by unfold Addr.add; rw [if_pos rfl]
      rw [this] at e0
      simpa using e0
    refine ⟨ad.block, ad.off, by rw [← e1], ?_⟩
    rw [e1, Addr.add_lit] at hj'
    exact hj'
end Go.Proofs.Ytloiadhdkgkjkaa
/- Histories that come in, opened. -/
namespace Go.Proofs.Ytloiadhdkgkjkaa
open Go.ChangeShapes Go.WideShapes Go.RowKit Go.Deep
set_option linter.unusedVariables false
theorem bool_field {P : Program} {H : Type} {enc : TypeId × Value → H} {w : World} {base : Nat} {spare : Nat → Bool} {held : Bool} {t : TypeId} {n : Nat} {v : Value} {y : DataW H × List MemPlace} (ht : P.underlying t = some .bool) (h : DataW.trod enc P w base spare held n t [v] = some y) : ∃ b, v = .bool b := by
  obtain ⟨b, hb, _⟩ := DataW.trod_bool ht h
  injection hb with hb
  exact ⟨b, hb⟩
theorem open_events {H : Type} {enc : TypeId × Value → H} {w : World} {base : Nat} {spare : Nat → Bool} {held : Bool} {ts : List TypeId} {ds : List (DataW H)} {j : Nat} {A : Option Addr} {len cap : Nat} {d : DataW H} {p : List MemPlace}
    (hsz : (DataW.weightsEach Try.prog ts ds).all (· ≤ reachBytes) = true) (hj : ts[j]? = some 23) (hd : ds[j]? = some d)
    (h : DataW.Trod enc Try.prog w base spare held 23 (.slice A len cap) d p) : ∃ l : List Ev, l.length = len ∧ LiesV w (.slice A len cap) l ∧ (∀ e ∈ l, EvWf e) ∧ len * 48 ≤ 140737488351232 := by
  have hlc : len ≤ cap := by
    obtain ⟨fuel, hf⟩ := h
    rcases open_slice_fields Try.underlying23 Try.underlying61 (by kernel_rfl) (by kernel_rfl) hf with ⟨hcs, hx⟩ | ⟨a, l, c, m, D, Pl, hcs, _, hl, _⟩
    · simp [Value.cells] at hcs
      omega
    · simp [Value.cells] at hcs
      obtain ⟨_, rfl, rfl⟩ := hcs
      exact hl
  obtain ⟨h1, h2, h3⟩ := open_fields hsz hj hd Try.underlying23 Try.underlying61 (by kernel_rfl) (by kernel_rfl) h
  have hb : Try.prog.bytesOf 61 = 48 := by kernel_rfl
  rw [hb] at h2
  cases A with
  | none =>
    obtain ⟨rfl, rfl⟩ := h1 rfl
    exact ⟨[], rfl, ⟨none, 0, rfl, Nat.le_refl _, fun _ => rfl, by simp, by simp, fun j hj => by simp at hj⟩, by simp, h2⟩
  | some ad =>
    have key : ∀ i, ∃ e : Ev, i < len → EvWf e ∧ ∀ c, c < 6 → w.cell? (ad.add (i * 6 + c)) = (encV e)[c]? := fun i => by
      by_cases hi : i < len
      · have q := h3 ad rfl i hi
        obtain ⟨v0, y0, n0, c0, t0, _⟩ := q 0 _ rfl
        obtain ⟨v1, y1, n1, c1, t1, _⟩ := q 1 _ rfl
        obtain ⟨v2, y2, n2, c2, t2, _⟩ := q 2 _ rfl
        obtain ⟨v3, y3, n3, c3, t3, _⟩ := q 3 _ rfl
        obtain ⟨v4, y4, n4, c4, t4, _⟩ := q 4 _ rfl
        obtain ⟨v5, y5, n5, c5, t5, _⟩ := q 5 _ rfl
        obtain ⟨z0, rfl, w0⟩ := int_field Try.underlying3 t0
        obtain ⟨z1, rfl, w1⟩ := int_field Try.underlying36 t1
        obtain ⟨z2, rfl, w2⟩ := int_field Try.underlying35 t2
        obtain ⟨z3, rfl, w3⟩ := int_field Try.underlying35 t3
        obtain ⟨z4, rfl⟩ := bool_field Try.underlying4 t4
        obtain ⟨z5, rfl, w5⟩ := int_field Try.underlying26 t5
        refine ⟨⟨z0, z1, z2, z3, z4, z5⟩, fun _ => ⟨⟨bd_i64 w0, bd_i64 w1, bd_u64 w2, bd_u64 w3, bd_i64 w5⟩, fun c hc => ?_⟩⟩
        have hcc : c = 0 ∨ c = 1 ∨ c = 2 ∨ c = 3 ∨ c = 4 ∨ c = 5 := by omega
        rcases hcc with rfl | rfl | rfl | rfl | rfl | rfl
        · exact c0
        · exact c1
        · exact c2
        · exact c3
        · exact c4
        · exact c5
      · exact ⟨Ev.zero, fun h => absurd h hi⟩
    obtain ⟨f, hf⟩ := Classical.axiomOfChoice key
    have hll : ((List.range len).map f).length = len := by simp
    have hwf : ∀ e ∈ (List.range len).map f, EvWf e := fun e he => by
      obtain ⟨i, hi, rfl⟩ := List.mem_map.1 he
      exact (hf i (List.mem_range.1 hi)).1
    refine ⟨(List.range len).map f, hll, ⟨some ad, cap, by rw [hll], by rw [hll]; exact hlc, (fun h => nomatch h), hwf, by rw [hll]; omega, fun j hj => ?_⟩, hwf, h2⟩
    have hj' : j < len := by rw [hll] at hj; exact hj
    have h0 := (hf 0 (by omega)).2 0 (by omega)
    have e0 := spotless (h0.trans rfl)
    have e1 : ad = ⟨ad.block, ad.off, none⟩ := by
      have : ad.add (0 * 6 + 0) = ad := by unfold Addr.add; rw [if_pos rfl]
      rw [this] at e0
      simpa using e0
    have hlt : ad.block < w.heap.size := by
      refine Nat.lt_of_not_le fun hh => ?_
      rw [e1, Addr.add_lit] at h0
      unfold World.cell? at h0
      rw [Array.getElem?_eq_none hh] at h0
      cases h0
    refine ⟨ad.block, ad.off, by rw [← e1], hlt, fun c hc => ?_⟩
    have := (hf j hj').2 c hc
    rw [e1, Addr.add_lit, ← Nat.add_assoc] at this
    rw [List.getElem_map, List.getElem_range]
    exact this
end Go.Proofs.Ytloiadhdkgkjkaa
/- opaque.view.at by contract. -/
namespace Go.Proofs.Ytloiadhdkgkjkaa
open Go.RowKit
set_option maxHeartbeats 4000000
set_option linter.unusedVariables false
set_option linter.unusedSimpArgs false
/-- The place, from i down, of the last entry that stands behind n commits. -/
def dn (l : List (Nat × Int)) (n : Nat) : Nat → Nat
  | 0 => 0
  | i + 1 => if n < (l.getD (i + 1) (0, 0)).1 then dn l n i else i + 1
/-- A cell's word behind n commits. -/
def atW (l : List (Nat × Int)) (n : Nat) : Int := (l.getD (dn l n (l.length - 1)) (0, 0)).2
theorem getD_cell {l : List (Nat × Int)} {k : Nat} (hk : k < l.length) : l[k]'hk = l.getD k (0, 0) := by
  rw [List.getD_eq_getElem?_getD, List.getElem?_eq_getElem hk]
  rfl
section
variable {B : Nat} {w : World} {vb nb mb : Nat} {v : Vw} {size : Nat} {fv cv : Nat → Value} {sv : Value}
set_option maxRecDepth 100000 in
theorem at_b (h : VwW B w vb nb mb v size fv cv sv) {a : Nat} (ha : a < size) {l : List (Nat × Int)} (hl : v.cells a = l) (hne : l ≠ []) (hz : (l.getD 0 (0, 0)).1 = 0) (hlen : l.length ≤ 9223372036854775807) (n : Nat) :
    Calls Try.prog 38 #[.pointer (some ⟨vb, 0, none⟩), .int .u64 a, .int .i64 n] w fun x w' => x = .returned (.int .u64 (atW l n)) ∧ w' = w := by
  obtain ⟨m, hm⟩ : ∃ m, l.length = m + 1 := ⟨l.length - 1, by have := List.length_pos_iff.2 hne; omega⟩
  have hcell := h.cells a ha
  rw [hl] at hcell
  obtain ⟨Ac, capc, hcv, hcapc⟩ := hcell.shape
  rw [hcv] at hcell
  obtain ⟨g, o, hAc, hgc, hcc⟩ := Sl.cell encF_len (by decide) hcell (i := m) (by omega)
  subst hAc
  have hc0 : ∀ k, k ≤ m → w.cell? ⟨g, o + k * 2, none⟩ = some (.int .i64 (l.getD k (0, 0)).1) := fun k hk => (hcc k (by omega) 0 (by decide)).1.trans (by rw [getD_cell]; rfl)
  have hc1 : ∀ k, k ≤ m → w.cell? ⟨g, o + k * 2 + 1, none⟩ = some (.int .u64 (l.getD k (0, 0)).2) := fun k hk => by rw [Nat.add_assoc]; exact (hcc k (by omega) 1 (by decide)).1.trans (by rw [getD_cell]; rfl)
  rw [hm] at hcv hcapc
  have v0 := h.c0
  obtain ⟨n0, hM0⟩ := h.map
  have hlk0 : (Instr.lookup 65 (.map (some mb)) (.int .u64 a) false).run Try.prog w = .ok (.slice (some ⟨g, o, none⟩) (m + 1) capc) w := by
    have := Mp.lookup (P := Try.prog) hM0 (t := 65) Try.underlying65 Try.underlying35 (z := .slice none 0 0) (by kernel_rfl) a false
    rw [this]
    show Result.ok ((cmap size cv a).getD (.slice none 0 0)) _ = _
    unfold cmap
    rw [if_pos ⟨by omega, by omega⟩, Int.toNat_natCast, hcv]
    rfl
  have hml : (m : Int) + 1 ≤ 9223372036854775807 := by omega
  have hmm1 : (m : Int) < (m : Int) + 1 := by omega
  have hat : Hid (atW l n = (l.getD (dn l n m) (0, 0)).2) := Lib.hid (by unfold atW; rw [hm]; rfl)
  replace hc0 := Lib.hid hc0
  replace hc1 := Lib.hid hc1
  replace hz := Lib.hid hz
  clear h hcell hcc hM0 hcv hl hne hlen hgc
  replace hm := Lib.hid hm
  go_enter Try.func38, Try.ntmps38
  go_wp2
  go_loopw [8] (fun i wr => ∃ k : Nat, k ≤ m ∧ i = .int .i64 k ∧ Hid (dn l n k = dn l n m) ∧ wr = w) (fun i _ => (intOf i).toNat)
  case atStart => exact ⟨m, Nat.le_refl _, by go_num, Lib.hid rfl, rfl⟩
  case round =>
    obtain ⟨k, hk, rfl, hd, rfl⟩ := hrel
    have x0 := hc0.out k hk
    have x1 := hc1.out k hk
    have hkm : (k : Int) < (m : Int) + 1 := by omega
    by_cases hgt : n < (l.getD k (0, 0)).1
    · obtain ⟨k', rfl⟩ : ∃ k', k = k' + 1 := by
        cases k with
        | zero => rw [hz.out] at hgt; omega
        | succ k' => exact ⟨k', rfl⟩
      have hgt' : (n : Int) < ((l.getD (k' + 1) (0, 0)).1 : Int) := by omega
      have hd' : Hid (dn l n k' = dn l n m) := Lib.hid (by rw [← hd.out]; unfold dn; rw [if_pos hgt]; cases k' <;> rfl)
      generalize (l.getD (k' + 1) (0, 0)).1 = y0 at *
      generalize (l.getD (k' + 1) (0, 0)).2 = y1 at *
      go_wp2
      go_roundw
      case rel => exact ⟨k', by omega, by go_num, hd', trivial⟩
      case measure => (simp [intOf]; try omega)
    · have hgt' : ¬ (n : Int) < ((l.getD k (0, 0)).1 : Int) := by omega
      have hd' : dn l n k = k := by
        cases k with
        | zero => rfl
        | succ k' => unfold dn; rw [if_neg hgt]
      have hat' : Hid (atW l n = (l.getD k (0, 0)).2) := Lib.hid (by rw [hat.out, ← hd.out, hd'])
      generalize (l.getD k (0, 0)).1 = y0 at *
      generalize (l.getD k (0, 0)).2 = y1 at *
      replace hd' := Lib.hid hd'
      go_wp2
      all_goals go_ret
      all_goals exact ⟨ret_int (by rw [hat'.out]), rfl⟩
end
end Go.Proofs.Ytloiadhdkgkjkaa
/- opaque.view.stood by contract. -/
namespace Go.Proofs.Ytloiadhdkgkjkaa
open Go.RowKit
set_option maxHeartbeats 4000000
set_option linter.unusedVariables false
set_option linter.unusedSimpArgs false
/-- The slice v reads as these words of cells. -/
def LiesP (w : World) (v : Value) (l : List (Int × Int)) : Prop := ∃ A cp, v = .slice A l.length cp ∧ ∀ j (hj : j < l.length), ∃ g o, A = some ⟨g, o, none⟩ ∧ g < w.heap.size ∧ w.cell? ⟨g, o + j * 2, none⟩ = some (.int .u64 (l[j]'hj).1) ∧ w.cell? ⟨g, o + j * 2 + 1, none⟩ = some (.int .u64 (l[j]'hj).2)
theorem liesP_sl {w : World} {v : Value} {l : List (Int × Int)} (h : Sl 45 2 encC w v l) : LiesP w v l := by
  obtain ⟨A, cap, rfl, hc⟩ := h.shape
  refine ⟨A, cap, rfl, fun j hj => ?_⟩
  obtain ⟨g, off, e, hlt, hcell⟩ := Sl.cell encC_len (by decide) h hj
  have k0 := (hcell j hj 0 (by decide)).1
  have k1 := (hcell j hj 1 (by decide)).1
  exact ⟨g, off, e, hlt, by simpa [encC] using k0, by rw [Nat.add_assoc]; simpa [encC] using k1⟩
theorem LiesP.below {w w' : World} {v : Value} {l : List (Int × Int)} (h : LiesP w v l) (hb : Below w.heap.size w w') : LiesP w' v l := by
  obtain ⟨A, cp, rfl, hc⟩ := h
  refine ⟨A, cp, rfl, fun j hj => ?_⟩
  obtain ⟨g, o, e, hg, h0, h1⟩ := hc j hj
  exact ⟨g, o, e, Nat.lt_of_lt_of_le hg hb.size, by rw [hb.cell (p := ⟨g, o + j * 2, none⟩) hg, h0], by rw [hb.cell (p := ⟨g, o + j * 2 + 1, none⟩) hg, h1]⟩
/-- Did these words stand there together? -/
def stoodW (cells : Nat → List (Nat × Int)) (n : Nat) (l : List (Int × Int)) : Bool := l.all fun p => atW (cells p.1.toNat) n == p.2
/-- What 'at' asks of the cells. -/
structure CellsOk (cells : Nat → List (Nat × Int)) (size : Nat) : Prop where
  ne : ∀ a, a < size → cells a ≠ []
  z : ∀ a, a < size → ((cells a).getD 0 (0, 0)).1 = 0
  len : ∀ a, a < size → (cells a).length ≤ 9223372036854775807
section
variable {B : Nat} {w : World} {vb nb mb : Nat} {v : Vw} {size : Nat} {fv cv : Nat → Value} {sv : Value}
set_option maxRecDepth 100000 in
theorem stood_b (h : VwW B w vb nb mb v size fv cv sv) (hc : CellsOk v.cells size) {A : Option Addr} {cp : Nat} {l : List (Int × Int)} (hl : LiesP w (.slice A l.length cp) l) (hll : l.length ≤ 9223372036854775807) (ha : ∀ p ∈ l, 0 ≤ p.1 ∧ p.1 < (size : Int)) (n : Nat) :
    Calls Try.prog 27 #[.pointer (some ⟨vb, 0, none⟩), .slice A l.length cp, .int .i64 n] w fun x w' => x = .returned (.bool (stoodW v.cells n l)) ∧ Below w.heap.size w w' := by
  have hll' : (l.length : Int) ≤ 9223372036854775807 := by omega
  replace h := Lib.hid h
  replace hc := Lib.hid hc
  replace hl := Lib.hid hl
  replace ha := Lib.hid ha
  go_enter Try.func27, Try.ntmps27
  go_wp2
  go_loopw [11] (fun i wr => ∃ k : Nat, k ≤ l.length ∧ i = .int .i64 k ∧ Hid (∀ j (hj : j < k) (hj2 : j < l.length), (atW (v.cells (l[j]'hj2).1.toNat) n == (l[j]'hj2).2) = true) ∧ Hid (Below w.heap.size w wr)) (fun i _ => l.length - (intOf i).toNat)
  case atStart => exact ⟨0, Nat.zero_le _, rfl, Lib.hid fun j hj => by omega, Lib.hid (Below.refl _ _)⟩
  case round =>
    obtain ⟨k, hk, rfl, hno, hbl⟩ := hrel
    by_cases hlt : k < l.length
    · obtain ⟨A', cp', eA, hcl⟩ := hl.out.below hbl.out
      injection eA with e1 e2 e3
      subst e1 e3
      obtain ⟨g, o, hA, hg, d0, d1⟩ := hcl k hlt
      subst hA
      have hak := ha.out _ (List.getElem_mem hlt)
      obtain ⟨p, hp⟩ : ∃ p, p = l[k]'hlt := ⟨_, rfl⟩
      rw [← hp] at d0 d1 hak
      obtain ⟨a0, x⟩ := p
      dsimp only at d0 d1 hak
      obtain ⟨a, rfl⟩ := Int.eq_ofNat_of_zero_le hak.1
      have hasz : a < size := by omega
      have hA1 := Lib.hid (fun J => at_b ((((h.out.below hbl.out).alloc (.cells #[.int .u64 a, .int .u64 x] 45)).drewN J)) hasz rfl (hc.out.ne a hasz) (hc.out.z a hasz) (hc.out.len a hasz) n)
      have hbA := Lib.hid (hbl.out.alloc hbl.out.size (.cells #[.int .u64 a, .int .u64 x] 45))
      have hXA := Blk.new wr 45 #[.int .u64 a, .int .u64 x]
      have b0 := (hXA.cell 0).trans (show _ = some (.int .u64 (a : Int)) from rfl)
      have b1 := (hXA.cell 1).trans (show _ = some (.int .u64 x) from rfl)
      have hlt' : (k : Int) < (l.length : Int) := by omega
      obtain ⟨y, hy⟩ : ∃ y, y = atW (v.cells a) n := ⟨_, rfl⟩
      rw [← hy] at hA1
      have hthis : Hid ((atW (v.cells (l[k]'hlt).1.toNat) n == (l[k]'hlt).2) = (y == x)) := Lib.hid (by rw [← hp, hy, Int.toNat_natCast])
      obtain ⟨wA, hwA⟩ : ∃ wA, wA = wr.alloc (.cells #[.int .u64 a, .int .u64 x] 45) := ⟨_, rfl⟩
      rw [← hwA] at hA1 hbA b0 b1
      have S0 : Hid (∀ J, (wA.drewN J).cell? ⟨wr.heap.size, 1, none⟩ = some (.int .u64 x)) := Lib.hid (fun J => b1)
      replace hwA := Lib.hid hwA
      clear hcl hXA hg hak e2
      replace hy := Lib.hid hy
      replace hp := Lib.hid hp
      rcases (show (y != x) = true ∨ (y != x) = false by cases (y != x) <;> simp) with hyx | hyx
      · have hres : Hid (stoodW v.cells n l = false) := Lib.hid (by
          unfold stoodW
          rw [List.all_eq_false]
          exact ⟨_, List.getElem_mem hlt, by rw [hthis.out]; simpa using hyx⟩)
        go_wp2
        rw [← hwA.out]
        refine wp_region_mixH (fun W' => W'.cell? ⟨wr.heap.size, 1, none⟩ = some (.int .u64 x)) [3, 3, 1, 3, 2, 3, 0, 3] [0, 1, 2, 3, 5, 6, 4, 7] (by kernel_rfl) (by kernel_rfl) (fun _ _ h => h) (S0.out 1) ?_
        (repeat (first | ((first | refine wpMixH_pure rfl rfl (fun K hK => ?_) | refine wpMixH_loc rfl rfl (fun K hK => ?_) | refine wpMixH_any rfl rfl (fun K hK => ?_)); go_simp; refine hK _ _ ?_; clear hK K) | (refine wpMixH_any rfl rfl (fun K hK => ?_); rw [if_pos (by go_simp)]; apply Exists.intro; refine And.intro (fun w2 hS2 => ?_) (hK _ _ ?_); (focus (obtain hs1 := hS2; go_simp; rfl)); clear hK K)))
        refine wpMixH_loud rfl rfl (fun n2 K hK => ?_)
        go_wp2_with fail
        refine (hA1.out _).mono ?_
        rintro _ w3 ⟨rfl, rfl⟩
        go_wp2
        refine hK _ _ (fun _ => (S0.out _)) ?_; clear hK K
        (repeat (first | ((first | refine wpMixH_pure rfl rfl (fun K hK => ?_) | refine wpMixH_loc rfl rfl (fun K hK => ?_) | refine wpMixH_any rfl rfl (fun K hK => ?_)); go_simp; refine hK _ _ ?_; clear hK K) | (refine wpMixH_any rfl rfl (fun K hK => ?_); rw [if_pos (by go_simp)]; apply Exists.intro; refine And.intro (fun w2 hS2 => ?_) (hK _ _ ?_); (focus (obtain hs1 := hS2; go_simp; rfl)); clear hK K)))
        refine wpMixH_nil (fun n3 => ?_)
        go_wp2
        all_goals go_ret
        all_goals exact ⟨ret_bool (by rw [hres.out]), below_drewNs (below_drewNs hbA.out _) _⟩
      · have hno' : Hid (∀ j (hj : j < k + 1) (hj2 : j < l.length), (atW (v.cells (l[j]'hj2).1.toNat) n == (l[j]'hj2).2) = true) := Lib.hid (fun j hj hj2 => by
          by_cases e : j = k
          · subst e; rw [hthis.out]; simpa using hyx
          · exact hno.out j (by omega) hj2)
        go_wp2
        rw [← hwA.out]
        refine wp_region_mixH (fun W' => W'.cell? ⟨wr.heap.size, 1, none⟩ = some (.int .u64 x)) [3, 3, 1, 3, 2, 3, 0, 3] [0, 1, 2, 3, 5, 6, 4, 7] (by kernel_rfl) (by kernel_rfl) (fun _ _ h => h) (S0.out 1) ?_
        (repeat (first | ((first | refine wpMixH_pure rfl rfl (fun K hK => ?_) | refine wpMixH_loc rfl rfl (fun K hK => ?_) | refine wpMixH_any rfl rfl (fun K hK => ?_)); go_simp; refine hK _ _ ?_; clear hK K) | (refine wpMixH_any rfl rfl (fun K hK => ?_); rw [if_pos (by go_simp)]; apply Exists.intro; refine And.intro (fun w2 hS2 => ?_) (hK _ _ ?_); (focus (obtain hs1 := hS2; go_simp; rfl)); clear hK K)))
        refine wpMixH_loud rfl rfl (fun n2 K hK => ?_)
        go_wp2_with fail
        refine (hA1.out _).mono ?_
        rintro _ w3 ⟨rfl, rfl⟩
        go_wp2
        refine hK _ _ (fun _ => (S0.out _)) ?_; clear hK K
        (repeat (first | ((first | refine wpMixH_pure rfl rfl (fun K hK => ?_) | refine wpMixH_loc rfl rfl (fun K hK => ?_) | refine wpMixH_any rfl rfl (fun K hK => ?_)); go_simp; refine hK _ _ ?_; clear hK K) | (refine wpMixH_any rfl rfl (fun K hK => ?_); rw [if_pos (by go_simp)]; apply Exists.intro; refine And.intro (fun w2 hS2 => ?_) (hK _ _ ?_); (focus (obtain hs1 := hS2; go_simp; rfl)); clear hK K)))
        refine wpMixH_nil (fun n3 => ?_)
        go_wp2
        go_roundw
        case rel => exact ⟨k + 1, hlt, by go_num, hno', Lib.hid (below_drewNs hbA.out _)⟩
        case measure => simp [intOf]; omega
    · have hkk : k = l.length := by omega
      subst hkk
      have hres : Hid (stoodW v.cells n l = true) := Lib.hid (by
        unfold stoodW
        rw [List.all_eq_true]
        intro p hp
        obtain ⟨j, hj, rfl⟩ := List.mem_iff_getElem.1 hp
        exact hno.out j hj hj)
      go_wp2
      all_goals go_ret
      all_goals exact ⟨ret_bool (by rw [hres.out]), hbl.out⟩
end
end Go.Proofs.Ytloiadhdkgkjkaa
/- Maps whose keys are structs of two words (api.Cell), of the call's own: what block b holds, as a function of the key; look-up, 'm[k]++' in its two steps. -/
namespace Go.Proofs.Ytloiadhdkgkjkaa
open Go.RowKit Go.MapKept Go.ChangeMaps
open Go.WideMaps (KeyLaw)
set_option linter.unusedVariables false
set_option linter.unusedSimpArgs false
def kv (p : Int × Int) : Value := .agg #[.int .u64 p.1, .int .u64 p.2]
theorem kv_inj {p q : Int × Int} (h : kv p = kv q) : p = q := by
  unfold kv at h
  obtain ⟨a, b⟩ := p
  obtain ⟨c, d⟩ := q
  simpa using h
/-- Both words of a cell are words. -/
def inB (p : Int × Int) : Prop := (0 ≤ p.1 ∧ p.1 ≤ 18446744073709551615) ∧ 0 ≤ p.2 ∧ p.2 ≤ 18446744073709551615
/-- The entries say f. -/
def Mes (es : Array MapEntry) (clock n : Nat) (f : Int × Int → Option Value) : Prop :=
  es.size ≤ n ∧ Stamped es clock ∧ (∀ x ∈ es.toList, ∃ p, inB p ∧ x.key = kv p ∧ f p = some x.val) ∧ (∀ p, f p ≠ none → ∃ x ∈ es.toList, x.key = kv p)
def Mq (w : World) (b n : Nat) (f : Int × Int → Option Value) : Prop := ∃ es clock, w.heap[b]? = some (.map es clock) ∧ Mes es clock n f
def updO (f : Int × Int → Option Value) (p : Int × Int) (v : Value) : Int × Int → Option Value := fun q => if q = p then some v else f q
theorem Mes.push {es : Array MapEntry} {clock n : Nat} {f : Int × Int → Option Value} (h : Mes es clock n f) {p : Int × Int} (hp : inB p) (hn : ∀ x ∈ es.toList, x.key ≠ kv p) (val : Value) : Mes (es.push ⟨kv p, val, clock⟩) (clock + 1) (n + 1) (updO f p val) := by
  obtain ⟨h1, h2, h3, h4⟩ := h
  refine ⟨by simp; omega, stamped_push h2 hn, fun y hy => ?_, fun k hkk => ?_⟩
  · rw [Array.toList_push, List.mem_append, List.mem_singleton] at hy
    rcases hy with hy | rfl
    · obtain ⟨k', e0, e1, e2⟩ := h3 y hy
      refine ⟨k', e0, e1, ?_⟩
      unfold updO
      rw [if_neg (fun e3 : k' = p => hn y hy (by rw [e1, e3]))]
      exact e2
    · exact ⟨p, hp, rfl, by simp [updO]⟩
  · by_cases hka : k = p
    · exact ⟨_, by rw [Array.toList_push, List.mem_append, List.mem_singleton]; exact .inr rfl, by rw [hka]⟩
    · unfold updO at hkk
      rw [if_neg hka] at hkk
      obtain ⟨y, hy, e⟩ := h4 k hkk
      exact ⟨y, by rw [Array.toList_push, List.mem_append]; exact .inl hy, e⟩
theorem Mes.set {es : Array MapEntry} {clock n : Nat} {f : Int × Int → Option Value} (h : Mes es clock n f) {p : Int × Int} (hp : inB p) {j : Nat} {x : MapEntry} (g1 : es.toList[j]? = some x) (g2 : x.key = kv p) (val : Value) : Mes (es.modify j fun e => { e with val := val }) clock n (updO f p val) := by
  obtain ⟨h1, hs, h3, h4⟩ := h
  have hj : es[j]? = some x := by simpa using g1
  refine ⟨by simpa using h1, stamped_modify hs j _ (fun _ _ => rfl) (fun y _ hy => rfl), fun y hy => ?_, fun k hkk => ?_⟩
  · obtain ⟨i, y0, hi, rfl⟩ := mem_modify_at hy
    by_cases hij : j = i
    · rw [if_pos hij]
      subst hij
      rw [g1] at hi
      injection hi with hi
      subst hi
      exact ⟨p, hp, g2, by simp [updO]⟩
    · rw [if_neg hij]
      obtain ⟨k', e0, e1, e2⟩ := h3 y0 (List.mem_of_getElem? hi)
      refine ⟨k', e0, e1, ?_⟩
      unfold updO
      rw [if_neg (fun e3 : k' = p => hij (stamped_keys hs g1 hi (by rw [g2, e1, e3])))]
      exact e2
  · have hmem : ∀ i y0, es.toList[i]? = some y0 → (if j = i then { y0 with val := val } else y0) ∈ (es.modify j fun e => { e with val := val }).toList := fun i y0 hi => by
      rw [List.mem_iff_getElem?]
      refine ⟨i, ?_⟩
      rw [Array.getElem?_toList, Array.getElem?_modify]
      have : es[i]? = some y0 := by simpa using hi
      by_cases hij : j = i
      · rw [if_pos hij, if_pos hij, this]; rfl
      · rw [if_neg hij, if_neg hij, this]
    by_cases hka : k = p
    · exact ⟨_, hmem j x g1, by rw [if_pos rfl, hka]; exact g2⟩
    · unfold updO at hkk
      rw [if_neg hka] at hkk
      obtain ⟨y, hy, e⟩ := h4 k hkk
      obtain ⟨i, hi⟩ := List.mem_iff_getElem?.1 hy
      refine ⟨_, hmem i y hi, ?_⟩
      by_cases hij : j = i
      · rw [if_pos hij]; exact e
      · rw [if_neg hij]; exact e
section
variable {P : Program} {w w' : World} {b n : Nat} {f : Int × Int → Option Value}
theorem Mq.new (w : World) : Mq (w.alloc (.map #[] 0)) w.heap.size 0 (fun _ => none) :=
  ⟨#[], 0, heap_alloc_new w _, by simp, stamped_empty 0, by simp, by simp⟩
theorem Mq.lt (h : Mq w b n f) : b < w.heap.size := by
  obtain ⟨es, clock, h, _⟩ := h
  rcases Nat.lt_or_ge b w.heap.size with hl | hg
  · exact hl
  · rw [Array.getElem?_eq_none hg] at h; cases h
theorem Mq.keep (h : Mq w b n f) (hk : w'.heap[b]? = w.heap[b]?) : Mq w' b n f := by
  obtain ⟨es, clock, h, r⟩ := h
  exact ⟨es, clock, hk.trans h, r⟩
theorem Mq.alloc (h : Mq w b n f) (o : Obj) : Mq (w.alloc o) b n f := h.keep (Below.heap_alloc w o b h.lt)
theorem Mq.drewN (h : Mq w b n f) (m : Nat) : Mq (w.drewN m) b n f := h
theorem Mq.below (h : Mq w b n f) (hb : Below w.heap.size w w') : Mq w' b n f := h.keep (hb.block b h.lt)
theorem Mq.far (h : Mq w b n f) {p : Addr} (hp : b ≠ p.block) (u : Value) : Mq (w.setCell p u) b n f := h.keep (Below.heap_setCell w p u b hp)
theorem Mq.mono (h : Mq w b n f) {m : Nat} (hm : n ≤ m) : Mq w b m f := by
  obtain ⟨es, clock, h, h2, r⟩ := h
  exact ⟨es, clock, h, by omega, r⟩
theorem Mq.congr {g : Int × Int → Option Value} (h : Mq w b n f) (hg : ∀ k, g k = f k) : Mq w b n g := by
  obtain rfl : g = f := funext hg
  exact h
theorem Mq.ne_ {k : Nat} {t : TypeId} {cs : Array Value} (h : Mq w b n f) (hb : Blk w k t cs) : b ≠ k := by
  rintro rfl
  obtain ⟨es, clock, h, _⟩ := h
  unfold Blk at hb
  rw [h] at hb
  cases hb
theorem Mq.ne_row {B : Nat} {e : TypeId} {size m : Nat} {v : Value} {xs : List Value} (h : Mq w b n f) (hr : Rowv w B e size v m xs) : v.ownBlock ≠ some b := by
  rcases hr.2 with ⟨rfl, _⟩ | ⟨g, off, cap, cur, rfl, h2, h3, _⟩
  · exact fun h => nomatch h
  · intro hk
    obtain rfl : g = b := by simpa [Value.ownBlock] using hk
    obtain ⟨es, clock, h, _⟩ := h
    rw [h] at h3
    cases h3
/-- 'm[k]'. -/
theorem Mq.lookup (h : Mq w b n f) {t k e : TypeId} (ht : P.underlying t = some (.map k e)) (K : KeyLaw P k) (hky : ∀ p, inB p → ∃ l, keyOf P k (kv p) = some l) {z : Value} (hz : (zeroValue e).run P w = .ok z w) {p : Int × Int} (hp : inB p) (c : Bool) :
    (Instr.lookup t (.map (some b)) (kv p) c).run P w = .ok (if c then .tuple #[(f p).getD z, .bool (f p).isSome] else (f p).getD z) w := by
  obtain ⟨es, clock, hb, hn, hs, h3, h4⟩ := h
  obtain ⟨kl, hkl⟩ := hky p hp
  have hall : ∀ e ∈ es.toList, ∃ l, keyOf P k e.key = some l := fun x hx => by
    obtain ⟨q, hq, e1, _⟩ := h3 x hx
    rw [e1]; exact hky q hq
  have hc := K.check w es.isEmpty hkl
  rcases K.find w hkl es.toList hall with ⟨g1, g2⟩ | ⟨j, x, g1, g2, g3⟩
  · have e0 : f p = none := by
      cases hf : f p with
      | none => rfl
      | some v =>
        obtain ⟨x, hx, e⟩ := h4 p (by rw [hf]; simp)
        exact absurd e (g2 x hx)
    rw [e0]
    cases c <;> simp [Instr.lookup, run_underlying ht, MapKept.run_getObj_map hb, hc, g1, hz, Result.andThen]
  · have e0 : f p = some x.val := by
      obtain ⟨q, hq, e1, e2⟩ := h3 x (List.mem_of_getElem? g2)
      rw [g3] at e1
      rw [kv_inj e1]; exact e2
    rw [e0]
    cases c <;> simp [Instr.lookup, run_underlying ht, MapKept.run_getObj_map hb, hc, g1, Result.andThen]
/-- The entry of a key, made if it is not there; then its store. -/
theorem Mq.entry (h : Mq w b n f) {t k e : TypeId} (ht : P.underlying t = some (.map k e)) (K : KeyLaw P k) (hky : ∀ p, inB p → ∃ l, keyOf P k (kv p) = some l) {z : Value} (hz : (zeroValue e).run P w = .ok z w) {p : Int × Int} (hp : inB p) :
    ∃ (st : Nat) (w1 : World), (Instr.mapEntry t (.map (some b)) (kv p)).run P w = .ok (.tuple #[(f p).getD z, goInt st]) w1 ∧ Mq w1 b (n + 1) (updO f p ((f p).getD z)) ∧ w.grownBy w1 (some b) ∧ w1.heap.size = w.heap.size ∧
      ∀ (w2 : World) (val : Value), w2.heap[b]? = w1.heap[b]? → ∃ w3, (Instr.entryStore t (.map (some b)) (goInt st) val).run P w2 = .ok () w3 ∧ Mq w3 b (n + 1) (updO f p val) ∧ w2.grownBy w3 (some b) ∧ w3.heap.size = w2.heap.size := by
  obtain ⟨es, clock, hb, hM⟩ := h
  have hM0 := hM
  obtain ⟨hn, hs, h3, h4⟩ := hM
  obtain ⟨kl, hkl⟩ := hky p hp
  have hall : ∀ e ∈ es.toList, ∃ l, keyOf P k e.key = some l := fun x hx => by
    obtain ⟨q, hq, e1, _⟩ := h3 x hx
    rw [e1]; exact hky q hq
  have hgrow : ∀ (W : World) (o : Obj), W.grownBy (setBlock W b o) (some b) ∧ (setBlock W b o).heap.size = W.heap.size := fun W o => ⟨⟨rfl, rfl, rfl, by simp [setBlock], fun i _ hi => by
    show (W.heap.setIfInBounds b o)[i]? = _
    rw [Array.getElem?_setIfInBounds_ne (fun e => hi (by rw [e]))]⟩, by simp [setBlock]⟩
  have hupd2 : ∀ v v', updO (updO f p v) p v' = updO f p v' := fun v v' => by
    funext q
    unfold updO
    by_cases hq : q = p
    · rw [if_pos hq, if_pos hq]
    · rw [if_neg hq, if_neg hq, if_neg hq]
  -- the store, whatever the entries
  have hstore : ∀ (es1 : Array MapEntry) (c1 m : Nat) (v1 : Value) (j : Nat) (x : MapEntry), Mes es1 c1 m (updO f p v1) → es1.toList[j]? = some x → x.key = kv p → ∀ (w2 : World) (val : Value), w2.heap[b]? = some (.map es1 c1) → ∃ w3, (Instr.entryStore t (.map (some b)) (goInt x.born) val).run P w2 = .ok () w3 ∧ Mq w3 b m (updO f p val) ∧ w2.grownBy w3 (some b) ∧ w3.heap.size = w2.heap.size := by
    intro es1 c1 m v1 j x hM1 g1 g2 w2 val hw2
    have hidx : es1.findIdx? (fun e => ((e.born : Nat) : Int) == ((x.born : Nat) : Int)) = some j := by
      rw [WideElems.findIdx_arr]
      exact WideElems.findIdx_born hM1.2.1.2.1 g1
    refine ⟨setBlock w2 b (.map (es1.modify j fun e => { e with val := val }) c1), by simp [Instr.entryStore, MapKept.run_getObj_map hw2, asInt, asIntOf, goInt, hidx, MapKept.run_setObj_map _ hw2, Result.andThen, setBlock], ?_, hgrow _ _⟩
    have := hM1.set hp g1 g2 val
    rw [hupd2] at this
    exact ⟨_, _, (MapKept.heap_set hw2).1, this⟩
  rcases K.find w hkl es.toList hall with ⟨g1, g2⟩ | ⟨j, x, g1, g2, g3⟩
  · have e0 : f p = none := by
      cases hf : f p with
      | none => rfl
      | some v =>
        obtain ⟨x, hx, e⟩ := h4 p (by rw [hf]; simp)
        exact absurd e (g2 x hx)
    rw [e0]
    have hP := hM0.push hp g2 z
    refine ⟨clock, setBlock w b (.map (es.push ⟨kv p, z, clock⟩) (clock + 1)), by simp [Instr.mapEntry, run_underlying ht, MapKept.run_getObj_map hb, K.check w false hkl, g1, hz, MapKept.run_setObj_map _ hb, Result.andThen, setBlock], ⟨_, _, (MapKept.heap_set hb).1, hP⟩, (hgrow _ _).1, (hgrow _ _).2, fun w2 val hw2 => ?_⟩
    have hw2' : w2.heap[b]? = some (.map (es.push ⟨kv p, z, clock⟩) (clock + 1)) := by rw [hw2]; exact (MapKept.heap_set hb).1
    exact hstore _ _ _ _ es.size ⟨kv p, z, clock⟩ hP (by simp) rfl w2 val hw2'
  · have hj : es[j]? = some x := by simpa using g2
    have e0 : f p = some x.val := by
      obtain ⟨q, hq, e1, e2⟩ := h3 x (List.mem_of_getElem? g2)
      rw [g3] at e1
      rw [kv_inj e1]; exact e2
    have hsame : es.modify j (fun e => { e with key := kv p }) = es := by
      apply Array.ext'
      rw [Array.toList_modify, modify_eq_set _ _ _ _ g2]
      have : ({ x with key := kv p } : MapEntry) = x := by rw [← g3]
      rw [this]
      exact WideElems.set_self _ _ _ g2
    have hfe : updO f p x.val = f := by
      funext q
      unfold updO
      by_cases hq : q = p
      · rw [if_pos hq, hq, e0]
      · rw [if_neg hq]
    have hP : Mes es clock (n + 1) (updO f p x.val) := by rw [hfe]; exact ⟨by omega, hs, h3, h4⟩
    rw [e0]
    refine ⟨x.born, setBlock w b (.map es clock), by simp [Instr.mapEntry, run_underlying ht, MapKept.run_getObj_map hb, K.check w false hkl, g1, hj, g3, K.stays w hkl, hsame, MapKept.run_setObj_map _ hb, Result.andThen, setBlock], ⟨_, _, (MapKept.heap_set hb).1, hP⟩, (hgrow _ _).1, (hgrow _ _).2, fun w2 val hw2 => ?_⟩
    have hw2' : w2.heap[b]? = some (.map es clock) := by rw [hw2]; exact (MapKept.heap_set hb).1
    exact hstore _ _ _ _ j x hP g2 g3 w2 val hw2'
end
section
variable {P : Program} (w : World) {ops : Array Oper} {rest : List Oper} {o : Oper} {a : Act} {Q : Exit → Act → World → Prop}
theorem wpList_entry_mq (hg : o.guard = none) (m x : Operand) (t : TypeId) (hop : o.op = Op.mapEntry t m x) {key : Value} (hx : a.eval x = key) {b st : Nat} {v0 : Value} {w1 : World} (hm : a.eval m = .map (some b))
    (hrun : (Instr.mapEntry t (.map (some b)) key).run P w = .ok (.tuple #[v0, goInt st]) w1)
    (hK : wpList P ops Q rest (a.put o.dst (.tuple #[v0, goInt st])) w1) : wpList P ops Q (o :: rest) a w := by
  refine wpList_plain hg fun K' hK' => ?_
  unfold Oper.wp
  simp [execOp, hop, hm, hx, hrun, Result.andThen]
  exact hK' _ _ hK
theorem wpList_entryStore_mq (hg : o.guard = none) (m s x : Operand) (t : TypeId) (hop : o.op = Op.entryStore t m s x) {val : Value} (hx : a.eval x = val) {b st : Nat} {w1 : World} (hm : a.eval m = .map (some b)) (hs : a.eval s = goInt st)
    (hrun : (Instr.entryStore t (.map (some b)) (goInt st) val).run P w = .ok () w1)
    (hK : wpList P ops Q rest (a.put o.dst undef) w1) : wpList P ops Q (o :: rest) a w := by
  refine wpList_plain hg fun K' hK' => ?_
  unfold Oper.wp
  simp [execOp, hop, hm, hx, hs, hrun, Result.andThen]
  exact hK' _ _ hK
end
theorem cellKey_law : KeyLaw Try.prog 45 := deep_law_gate (by kernel_rfl) (of_decide_eq_true (by kernel_rfl)) (of_decide_eq_true (by kernel_rfl)) (by kernel_rfl) (by kernel_rfl)
set_option maxRecDepth 100000 in
theorem cellKey_of {p : Int × Int} (hp : inB p) : ∃ l, keyOf Try.prog 45 (kv p) = some l := by
  obtain ⟨a, b⟩ := p
  obtain ⟨⟨ha, ha'⟩, hb, hb'⟩ := hp
  have wa : (Lit.int .u64 a).wf = true := by simp [Lit.wf, IntKind.min, IntKind.max, IntKind.bits, IntKind.signed] <;> omega
  have wb : (Lit.int .u64 b).wf = true := by simp [Lit.wf, IntKind.min, IntKind.max, IntKind.bits, IntKind.signed] <;> omega
  have c1 : Try.prog.cellsOf 45 = 2 := by kernel_rfl
  have c2 : Try.prog.cellsOf 35 = 1 := by kernel_rfl
  have c3 : Try.prog.keyType 45 = true := by kernel_rfl
  obtain ⟨m, hm⟩ : ∃ m, Try.prog.types.size = m + 1 := ⟨Try.prog.types.size - 1, by have : 0 < Try.prog.types.size := of_decide_eq_true (by kernel_rfl); omega⟩
  have c4 : (Value.agg #[.int .u64 a, .int .u64 b]).formed Try.prog 45 = true := by
    kernel_rfl
  unfold keyOf kv
  simp only [Try.underlying45, c3, c4, Bool.and_true, if_true, hm]
  unfold Program.keyLits
  simp [Try.underlying45, Value.cells, c1, c2]
  unfold Program.keyLits
  simp [Try.underlying35, wa, wb]
end Go.Proofs.Ytloiadhdkgkjkaa
/- Cells that come in, opened; appended to a list of the call's own. -/
namespace Go.Proofs.Ytloiadhdkgkjkaa
open Go.ChangeShapes Go.WideShapes Go.RowKit Go.Deep
set_option linter.unusedVariables false
theorem open_cells {H : Type} {enc : TypeId × Value → H} {w : World} {base : Nat} {spare : Nat → Bool} {held : Bool} {ts : List TypeId} {ds : List (DataW H)} {j : Nat} {A : Option Addr} {len cap : Nat} {d : DataW H} {p : List MemPlace}
    (hsz : (DataW.weightsEach Try.prog ts ds).all (· ≤ reachBytes) = true) (hj : ts[j]? = some 43) (hd : ds[j]? = some d)
    (h : DataW.Trod enc Try.prog w base spare held 43 (.slice A len cap) d p) : ∃ l : List (Int × Int), l.length = len ∧ LiesP w (.slice A len cap) l ∧ (∀ e ∈ l, inB e) ∧ len * 16 ≤ 140737488351232 ∧ (A = none → cap = 0) := by
  obtain ⟨h1, h2, h3⟩ := open_fields hsz hj hd Try.underlying43 Try.underlying45 (by kernel_rfl) (by kernel_rfl) h
  have hb : Try.prog.bytesOf 45 = 16 := by kernel_rfl
  rw [hb] at h2
  cases A with
  | none =>
    obtain ⟨rfl, rfl⟩ := h1 rfl
    exact ⟨[], rfl, ⟨none, 0, rfl, fun j hj => by simp at hj⟩, by simp, h2, fun _ => rfl⟩
  | some ad =>
    have key : ∀ i, ∃ e : Int × Int, i < len → inB e ∧ ∀ c, c < 2 → w.cell? (ad.add (i * 2 + c)) = (encC e)[c]? := fun i => by
      by_cases hi : i < len
      · have q := h3 ad rfl i hi
        obtain ⟨v0, y0, n0, c0, t0, _⟩ := q 0 _ rfl
        obtain ⟨v1, y1, n1, c1, t1, _⟩ := q 1 _ rfl
        obtain ⟨z0, rfl, w0⟩ := int_field Try.underlying35 t0
        obtain ⟨z1, rfl, w1⟩ := int_field Try.underlying35 t1
        refine ⟨(z0, z1), fun _ => ⟨⟨bd_u64 w0, bd_u64 w1⟩, fun c hc => ?_⟩⟩
        have hcc : c = 0 ∨ c = 1 := by omega
        rcases hcc with rfl | rfl
        · exact c0
        · exact c1
      · exact ⟨(0, 0), fun h => absurd h hi⟩
    obtain ⟨f, hf⟩ := Classical.axiomOfChoice key
    have hll : ((List.range len).map f).length = len := by simp
    have hwf : ∀ e ∈ (List.range len).map f, inB e := fun e he => by
      obtain ⟨i, hi, rfl⟩ := List.mem_map.1 he
      exact (hf i (List.mem_range.1 hi)).1
    refine ⟨(List.range len).map f, hll, ⟨some ad, cap, by rw [hll], fun j hj => ?_⟩, hwf, h2, (fun h => nomatch h)⟩
    have hj' : j < len := by rw [hll] at hj; exact hj
    have h0 := (hf 0 (by omega)).2 0 (by omega)
    have e0 := spotless (h0.trans rfl)
    have e1 : ad = ⟨ad.block, ad.off, none⟩ := by
      have : ad.add (0 * 2 + 0) = ad := by unfold Addr.add; rw [if_pos rfl]
      rw [this] at e0
      simpa using e0
    have hlt : ad.block < w.heap.size := by
      refine Nat.lt_of_not_le fun hh => ?_
      rw [e1, Addr.add_lit] at h0
      unfold World.cell? at h0
      rw [Array.getElem?_eq_none hh] at h0
      cases h0
    have g0 := (hf j hj').2 0 (by omega)
    have g1 := (hf j hj').2 1 (by omega)
    rw [e1, Addr.add_lit] at g0 g1
    refine ⟨ad.block, ad.off, by rw [← e1], hlt, ?_, ?_⟩
    · rw [List.getElem_map, List.getElem_range]
      exact g0
    · rw [List.getElem_map, List.getElem_range, Nat.add_assoc]
      exact g1
theorem LiesP.src {w : World} {A : Option Addr} {cp : Nat} {l : List (Int × Int)} (h : LiesP w (.slice A l.length cp) l) (hn : A = none → cp = 0) : Src w (.slice A l.length cp) l.length 2 (l.flatMap encC) := by
  obtain ⟨A', cp', e, h⟩ := h
  injection e with e1 _ e3
  subst e1 e3
  cases A with
  | none =>
    obtain rfl := hn rfl
    have : l = [] := by
      cases l with
      | nil => rfl
      | cons x l => obtain ⟨g, o, e, -⟩ := h 0 (by simp); cases e
    subst this
    exact .inl ⟨rfl, rfl, rfl⟩
  | some ad =>
    refine .inr ⟨ad, cp, rfl, flat_len encC_len l, fun j u hj => ?_, fun u hu => ?_⟩
    · have hjl : j < l.length * 2 := by rw [← flat_len encC_len l]; exact (List.getElem?_eq_some_iff.1 hj).1
      obtain ⟨q, r, hr, rfl⟩ : ∃ q r, r < 2 ∧ j = q * 2 + r := ⟨j / 2, j % 2, Nat.mod_lt _ (by omega), by omega⟩
      have hq : q < l.length := by omega
      obtain ⟨g, o, e, hlt, c0, c1⟩ := h q hq
      injection e with e
      subst e
      rw [Addr.add_lit, ← hj, flat_get encC_len l q r hq hr]
      rcases (show r = 0 ∨ r = 1 by omega) with rfl | rfl
      · exact c0
      · rw [← Nat.add_assoc]; exact c1
    · obtain ⟨x, _, hx⟩ := List.mem_flatMap.1 hu
      exact encC_one x u hx
theorem wpList_cells {ops : Array Oper} {rest : List Oper} {o : Oper} {a : Act} {Q : Exit → Act → World → Prop} (n : Nat) (wr : World) (hgd : o.guard = none) (s x : Operand)
    (ho : o.op = .call { callee := .builtin .append, args := #[s, x], argTypes := #[43, 43] })
    (v u : Value) (l m k : List (Int × Int)) (hs : a.eval s = v) (hl : Sl 45 2 encC wr v l) (hx : a.eval x = u) (hm : Src wr u m.length 2 (m.flatMap encC)) (hn : l.length + m.length = n) (hk : l ++ m = k) (hb1 : n ≤ 9223372036854775807) (hlen : n * 16 ≤ 140737488355328)
    (h : ∀ A cap w', n ≤ cap → Sl 45 2 encC w' (.slice A n cap) k → Fr (own v) wr (own (.slice A n cap)) w' → wpList Try.prog ops Q rest (a.put o.dst (.slice A n cap)) w') :
    wpList Try.prog ops Q (o :: rest) a wr := by
  subst hn hk
  exact wpList_all (enc := encC) wr hgd s x 43 ho Try.underlying43 cellO_info rfl (by decide) v u l m hs hl hx hm hb1 hlen h
end Go.Proofs.Ytloiadhdkgkjkaa
/- The document's world in memory; what is locked, what is said of numbers, of Writes, by contract. -/
namespace Go.Proofs.Ytloiadhdkgkjkaa
open Go.RowKit
set_option maxHeartbeats 40000000
set_option linter.unusedVariables false
set_option linter.unusedSimpArgs false
def gR (s : St) (wv : Nat → Value) (i : Nat) : Value := if i = 24 then .int .u64 s.num else if i % 3 = 0 then .int .i64 (s.th (i / 3)).how else if i % 3 = 1 then .int .u64 (s.th (i / 3)).sn else wv (i / 3)
section
variable {s : St} {wv : Nat → Value} {t : Nat}
theorem gR_how (ht : t < 8) : gR s wv (t * 3) = .int .i64 (s.th t).how := by
  unfold gR
  rw [if_neg (by omega), if_pos (by omega), show t * 3 / 3 = t by omega]
theorem gR_sn (ht : t < 8) : gR s wv (t * 3 + 1) = .int .u64 (s.th t).sn := by
  unfold gR
  rw [if_neg (by omega), if_neg (by omega), if_pos (by omega), show (t * 3 + 1) / 3 = t by omega]
theorem gR_ws (ht : t < 8) : gR s wv (t * 3 + 2) = wv t := by
  unfold gR
  rw [if_neg (by omega), if_neg (by omega), if_neg (by omega), show (t * 3 + 2) / 3 = t by omega]
theorem gR_num : gR s wv 24 = .int .u64 s.num := rfl
end
/-- The document's world stands in block b. -/
structure RefW (B : Nat) (w : World) (b : Nat) (s : St) (wv : Nat → Value) : Prop where
  blk : Blk w b 131 (ofF 25 (gR s wv))
  ws : ∀ t, t < 8 → Sl 45 2 encC w (wv t) (s.th t).ws
  apart : ∀ t t', t < 8 → t' < 8 → t ≠ t' → ∀ k, own (wv t) k → ¬ own (wv t') k
  geb : B ≤ b
  get : ∀ t, t < 8 → ∀ k, own (wv t) k → B ≤ k
theorem RefW.keep {B : Nat} {w w' : World} {b : Nat} {s : St} {wv : Nat → Value} (h : RefW B w b s wv) (hk : ∀ k, B ≤ k → k < w.heap.size → w'.heap[k]? = w.heap[k]?) : RefW B w' b s wv where
  blk := (hk b h.geb h.blk.lt).trans h.blk
  ws := fun t ht => (h.ws t ht).keep fun k hk' => hk k (h.get t ht k hk') ((h.ws t ht).lt k hk')
  apart := h.apart
  geb := h.geb
  get := h.get
theorem RefW.below {B : Nat} {w w' : World} {b : Nat} {s : St} {wv : Nat → Value} (h : RefW B w b s wv) (hb : Below w.heap.size w w') : RefW B w' b s wv := h.keep fun k _ hk => hb.block k hk
theorem RefW.alloc {B : Nat} {w : World} {b : Nat} {s : St} {wv : Nat → Value} (h : RefW B w b s wv) (o : Obj) : RefW B (w.alloc o) b s wv := h.below ((Below.refl _ _).alloc (Nat.le_refl _) _)
theorem RefW.drewN {B : Nat} {w : World} {b : Nat} {s : St} {wv : Nat → Value} (h : RefW B w b s wv) (n : Nat) : RefW B (w.drewN n) b s wv := ⟨h.blk, h.ws, h.apart, h.geb, h.get⟩
/-- Does another thread hold the lock? -/
def lkR (s : St) (th : Int) : Bool := (List.range 8).any fun i => decide ((i : Int) ≠ th) && decide ((s.th i).how = 2)
set_option maxRecDepth 100000 in
theorem rlocked_b {B b : Nat} {w : World} {s : St} {wv : Nat → Value} (h : RefW B w b s wv) (th : Int) :
    Calls Try.prog 77 #[.pointer (some ⟨b, 0, none⟩), .int .i64 th] w fun x w' => x = .returned (.bool (lkR s th)) ∧ w' = w := by
  have hB := Lib.hid h.blk
  clear h
  go_enter Try.func77, Try.ntmps77
  go_wp2
  go_loopg [5] 8 (fun gk c5 wr => ∃ j : Nat, gk + j = 8 ∧ c5 = .int .i64 (j : Int) ∧ wr = w ∧ ∀ i, i < j → (decide ((i : Int) ≠ th) && decide ((s.th i).how = 2)) = false)
  case atStart => exact ⟨0, rfl, rfl, rfl, fun i hi => by omega⟩
  case round =>
    obtain ⟨j, hj, rfl, rfl, hall⟩ := hrel
    replace hall := Lib.hid hall
    rcases Nat.lt_or_ge j 8 with hlt | hge
    · have c0 := (hB.out.fcell (i := j * 3) (by omega)).trans (congrArg some (gR_how hlt))
      have hj8 : (j : Int) < 8 := by omega
      by_cases he : (j : Int) = th
      · have he1 : ((j : Int) != th) = false := by simpa using he
        replace he := Lib.hid he
        go_wp2
        obtain ⟨k, rfl⟩ : ∃ k, gk = k + 1 := ⟨gk - 1, by omega⟩
        go_roundg k
        case measure => omega
        case rel =>
          refine ⟨j + 1, by omega, by simp, rfl, fun i hi => ?_⟩
          by_cases hij : i = j
          · subst hij; simp [he.out]
          · exact hall.out i (by omega)
      · have he1 : ((j : Int) != th) = true := by simpa using he
        by_cases h2 : (s.th j).how = 2
        · have h21 : (((s.th j).how : Int) == 2) = true := by simp [h2]
          go_wp2
          go_ret
          refine ⟨ret_bool ?_, rfl⟩
          unfold lkR
          symm
          rw [List.any_eq_true]
          exact ⟨j, by simpa using hlt, by simp [he, h2]⟩
        · have h21 : (((s.th j).how : Int) == 2) = false := by simp; omega
          go_wp2
          obtain ⟨k, rfl⟩ : ∃ k, gk = k + 1 := ⟨gk - 1, by omega⟩
          go_roundg k
          case measure => omega
          case rel =>
            refine ⟨j + 1, by omega, by simp, rfl, fun i hi => ?_⟩
            by_cases hij : i = j
            · subst hij; simp [h2]
            · exact hall.out i (by omega)
    · have hj8 : ¬ (j : Int) < 8 := by omega
      go_wp2
      go_ret
      refine ⟨ret_bool ?_, rfl⟩
      unfold lkR
      symm
      rw [List.any_eq_false]
      intro i hi
      rw [List.mem_range] at hi
      simpa using hall.out i (by omega)
end Go.Proofs.Ytloiadhdkgkjkaa
/- The document's world: what is said of words and numbers, of Writes, by contract. -/
namespace Go.Proofs.Ytloiadhdkgkjkaa
open Go.RowKit
set_option maxHeartbeats 40000000
set_option linter.unusedVariables false
set_option linter.unusedSimpArgs false
set_option maxRecDepth 100000 in
theorem rnumber_b {B b : Nat} {w : World} {s : St} {wv : Nat → Value} (h : RefW B w b s wv) {t : Nat} (ht : t < 8) (e : Ev) (hn0 : 0 ≤ s.num) (hn1 : s.num ≤ 4611686018427387904) (hs0 : 0 ≤ (s.th t).sn) (hs1 : (s.th t).sn ≤ 18446744073709551615) :
    Calls Try.prog 78 #[.pointer (some ⟨b, 0, none⟩), .pointer (some ⟨b, t * 3, none⟩), evV e] w fun x w' => x = .returned (.bool (wordOk (s.th t) s.num e)) ∧ Below w.heap.size w w' := by
  obtain ⟨th, kd, ad, wd, ow, er⟩ := e
  have hb1 := Lib.hid ((Below.refl w.heap.size w).alloc (Nat.le_refl _) (.cells #[.int .i64 th, .int .i64 kd, .int .u64 ad, .int .u64 wd, .bool ow, .int .i64 er] 61))
  have hB := h.blk.alloc (.cells #[.int .i64 th, .int .i64 kd, .int .u64 ad, .int .u64 wd, .bool ow, .int .i64 er] 61)
  have c0 := (hB.fcell (i := t * 3) (by omega)).trans (congrArg some (gR_how ht))
  have c1 := (hB.fcell (i := t * 3 + 1) (by omega)).trans (congrArg some (gR_sn ht))
  have c2 := (hB.fcell (i := 24) (by omega)).trans (congrArg some gR_num)
  have w1 := IntWalk.u64_in (n := 2 * s.num) (by omega)
  have w2 := IntWalk.u64_in (n := s.num + 1) (by omega)
  have w3 : (s.th t).sn.tdiv 2 = (s.th t).sn / 2 := Int.tdiv_eq_ediv_of_nonneg hs0
  have w4 := IntWalk.u64_in (n := (s.th t).sn / 2) (by omega)
  unfold evV
  dsimp only
  clear h hB
  unfold wordOk
  dsimp only
  generalize s.num = nm at *
  generalize (s.th t).sn = sn at *
  by_cases h1 : kd = 1
  · subst h1
    go_enter Try.func78, Try.ntmps78
    go_wp2
    go_quiet (fail)
    go_wp2
    go_ret
    exact ⟨by simp, below_drewNs hb1.out _⟩
  have f1 : (kd == 1) = false := by simpa using h1
  by_cases h4 : kd = 4
  · subst h4
    by_cases hx : wd = 2 * nm
    · have hx1 : (wd == 2 * nm) = true := by simpa using hx
      replace hx := Lib.hid hx
      go_enter Try.func78, Try.ntmps78
      go_wp2
      go_quiet (fail)
      go_wp2
      go_ret
      exact ⟨ret_bool (by simp [hx.out]), below_drewNs hb1.out _⟩
    · have hx1 : (wd == 2 * nm) = false := by simpa using hx
      replace hx := Lib.hid hx
      go_enter Try.func78, Try.ntmps78
      go_wp2
      go_quiet (fail)
      go_wp2
      go_ret
      exact ⟨ret_bool (by simp [hx.out]), below_drewNs hb1.out _⟩
  have f4 : (kd == 4) = false := by simpa using h4
  by_cases h5 : kd = 5
  · subst h5
    go_enter Try.func78, Try.ntmps78
    go_wp2
    go_quiet (fail)
    go_wp2
    go_ret
    exact ⟨by simp, below_drewNs hb1.out _⟩
  have f5 : (kd == 5) = false := by simpa using h5
  by_cases h6 : kd = 6
  · subst h6
    by_cases hx : (s.th t).how = 2
    · have hx1 : (((s.th t).how : Int) == 2) = true := by simp [hx]
      replace hx := Lib.hid hx
      go_enter Try.func78, Try.ntmps78
      go_wp2
      go_quiet (fail)
      go_wp2
      go_ret
      exact ⟨by simp [hx.out], below_drewNs hb1.out _⟩
    · have hx1 : (((s.th t).how : Int) == 2) = false := by simp; omega
      replace hx := Lib.hid hx
      go_enter Try.func78, Try.ntmps78
      go_wp2
      go_quiet (fail)
      go_wp2
      go_ret
      exact ⟨by simp [hx.out], below_drewNs hb1.out _⟩
  have f6 : (kd == 6) = false := by simpa using h6
  go_enter Try.func78, Try.ntmps78
  go_wp2
  go_ret
  exact ⟨by simp [h1, h4, h5, h6], hb1.out⟩
theorem written_take {l : List (Int × Int)} {a : Int} {j : Nat} (hj : j < l.length) : written (l.take (j + 1)) a = if (l[j]'hj).1 = a then some (l[j]'hj).2 else written (l.take j) a := by
  rw [List.take_add_one, List.getElem?_eq_getElem hj]
  simp only [Option.toList_some]
  exact written_snoc _ _ _
set_option maxRecDepth 100000 in
theorem rwritten_b {w : World} {v : Value} {l : List (Int × Int)} (hv : Sl 45 2 encC w v l) (hl : l.length ≤ 9223372036854775807) (a : Int) :
    Calls Try.prog 88 #[v, .int .u64 a] w fun x w' => x = .returned (.tuple #[.int .u64 ((written l a).getD 0), .bool (written l a).isSome]) ∧ w' = w := by
  obtain ⟨A, cap, rfl, hc⟩ := hv.shape
  have w0 := IntWalk.i64_in (n := (l.length : Int) - 1) (by omega)
  have hlen : (l.length : Int) ≤ 9223372036854775807 := by omega
  go_enter Try.func88, Try.ntmps88
  go_wp2
  go_loopg [6] l.length (fun gk c6 wr => gk ≤ l.length ∧ c6 = .int .i64 ((gk : Int) - 1) ∧ wr = w ∧ written (l.take gk) a = written l a)
  case atStart => exact ⟨Nat.le_refl _, by simp, rfl, by rw [List.take_length]⟩
  case round =>
    obtain ⟨hj, rfl, rfl, hw⟩ := hrel
    cases gk with
    | zero =>
      rw [List.take_zero, written_nil] at hw
      replace hw := Lib.hid hw
      go_wp2
      refine bodyPost_ret (v := .tuple #[.int .u64 0, .bool false]) (by simp [results, Try.results88, go_sem]) rfl ⟨by rw [← hw.out]; rfl, rfl⟩
    | succ k =>
      have hk : k < l.length := by omega
      obtain ⟨g, o, e, hlt, hcl⟩ := hv.cell encC_len (by omega) hk
      subst e
      have d0 := (hcl k hk 0 (by omega)).1
      have d1 := (hcl k hk 1 (by omega)).1
      rw [written_take hk] at hw
      generalize l[k] = p at *
      obtain ⟨p1, p2⟩ := p
      simp only [encC, List.getElem?_cons_zero, List.getElem?_cons_succ, Nat.add_zero] at d0 d1
      rw [← Nat.add_assoc] at d1
      dsimp only at hw
      have e1 : (((k + 1 : Nat) : Int) - 1) = (k : Int) := by omega
      rw [e1]
      have hk0 : (0 : Int) ≤ (k : Int) := by omega
      have hk1 : (k : Int) < (l.length : Int) := by omega
      have w1 := IntWalk.i64_in (n := (k : Int) - 1) (by omega)
      clear hcl e1 w0
      by_cases hp : p1 = a
      · have hp1 : (p1 == a) = true := by simpa using hp
        rw [if_pos hp] at hw
        replace hw := Lib.hid hw
        replace hp := Lib.hid hp
        go_wp2
        refine bodyPost_ret (v := .tuple #[.int .u64 p2, .bool true]) (by simp [results, Try.results88, go_sem]) rfl ⟨by rw [← hw.out]; rfl, rfl⟩
      · have hp1 : (p1 == a) = false := by simpa using hp
        rw [if_neg hp] at hw
        replace hw := Lib.hid hw
        replace hp := Lib.hid hp
        go_wp2
        go_roundg k
        case measure => omega
        case rel => exact ⟨by omega, by simp, rfl, hw.out⟩
end Go.Proofs.Ytloiadhdkgkjkaa
/- The document's world: is what is said of Writes so? by contract. -/
namespace Go.Proofs.Ytloiadhdkgkjkaa
open Go.RowKit
set_option maxHeartbeats 40000000
set_option linter.unusedVariables false
set_option linter.unusedSimpArgs false
set_option maxRecDepth 100000 in
theorem rown_b {B b : Nat} {w : World} {s : St} {wv : Nat → Value} (h : RefW B w b s wv) {t : Nat} (ht : t < 8) (hl : (s.th t).ws.length ≤ 9223372036854775807) (e : Ev) :
    Calls Try.prog 79 #[.pointer (some ⟨b, t * 3, none⟩), evV e] w fun x w' => x = .returned (.bool (ownOk (s.th t) e)) ∧ Below w.heap.size w w' := by
  obtain ⟨th, kd, ad, wd, ow, er⟩ := e
  have hb1 := Lib.hid ((Below.refl w.heap.size w).alloc (Nat.le_refl _) (.cells #[.int .i64 th, .int .i64 kd, .int .u64 ad, .int .u64 wd, .bool ow, .int .i64 er] 61))
  have hB := h.blk.alloc (.cells #[.int .i64 th, .int .i64 kd, .int .u64 ad, .int .u64 wd, .bool ow, .int .i64 er] 61)
  have hS := (h.ws t ht).alloc (.cells #[.int .i64 th, .int .i64 kd, .int .u64 ad, .int .u64 wd, .bool ow, .int .i64 er] 61)
  have hE := Blk.new w 61 #[.int .i64 th, .int .i64 kd, .int .u64 ad, .int .u64 wd, .bool ow, .int .i64 er]
  have c0 := (hB.fcell (i := t * 3) (by omega)).trans (congrArg some (gR_how ht))
  have c2 := (hB.fcell (i := t * 3 + 2) (by omega)).trans (congrArg some (gR_ws ht))
  obtain ⟨A, cap, hwv, hc⟩ := (h.ws t ht).shape
  rw [hwv] at c2 hS
  clear hwv h hB
  have CW := Lib.hid (fun n => rwritten_b (hS.drewN n) hl ad)
  clear hS
  unfold evV
  dsimp only
  obtain ⟨r, hr⟩ : ∃ r, ownOk (s.th t) ⟨th, kd, ad, wd, ow, er⟩ = r := ⟨_, rfl⟩
  rw [hr]
  unfold ownOk at hr
  dsimp only at hr
  generalize (s.th t).ws = l at *
  generalize (s.th t).how = how at *
  replace hr := Lib.hid hr
  by_cases h2 : kd = 2
  · subst h2
    obtain ⟨ok, hok⟩ : ∃ ok, (written l ad).isSome = ok := ⟨_, rfl⟩
    obtain ⟨x, hx⟩ : ∃ x, (written l ad).getD 0 = x := ⟨_, rfl⟩
    rw [hok, hx] at CW
    have fin : r = (ok == ow && (!ok || x == wd)) := by
      rw [← hr.out, if_pos rfl, ← hok, ← hx]
      cases written l ad with
      | none => cases ow <;> simp
      | some y => cases ow <;> simp
    replace fin := Lib.hid fin
    have e3 := Lib.hid (fun n m => (show ((((w.alloc (.cells #[.int .i64 th, .int .i64 2, .int .u64 ad, .int .u64 wd, .bool ow, .int .i64 er] 61)).drewN n).drewN m).cell? ⟨w.heap.size, 3, none⟩ = some (.int .u64 wd)) from (hE.cell 3).trans rfl))
    have e4 := Lib.hid (fun n m => (show ((((w.alloc (.cells #[.int .i64 th, .int .i64 2, .int .u64 ad, .int .u64 wd, .bool ow, .int .i64 er] 61)).drewN n).drewN m).cell? ⟨w.heap.size, 4, none⟩ = some (.bool ow)) from (hE.cell 4).trans rfl))
    clear hE
    go_enter Try.func79, Try.ntmps79
    go_wp2
    refine wp_region_mixH (fun _ => True) [3, 3, 3, 1, 3, 1, 2, 3, 3, 3, 3, 3] (List.range 12) (by kernel_rfl) (by kernel_rfl) (fun _ _ h => h) trivial ?_
    (repeat ((first | refine wpMixH_pure rfl rfl (fun K hK => ?_) | refine wpMixH_loc rfl rfl (fun K hK => ?_) | refine wpMixH_any rfl rfl (fun K hK => ?_)); go_simp; refine hK _ _ ?_; clear hK K))
    refine wpMixH_loud rfl rfl (fun n1 K hK => ?_)
    go_wp2_with fail
    refine (CW.out _).mono ?_
    rintro _ _ ⟨rfl, rfl⟩
    go_wp2
    refine hK _ _ (fun _ => trivial) ?_; clear hK K
    (repeat ((first | refine wpMixH_pure rfl rfl (fun K hK => ?_) | refine wpMixH_loc rfl rfl (fun K hK => ?_) | refine wpMixH_any rfl rfl (fun K hK => ?_)); go_simp; refine hK _ _ ?_; clear hK K))
    refine wpMixH_nil (fun n2 => ?_)
    have e3 := e3.out (1 + n1) n2
    have e4 := e4.out (1 + n1) n2
    replace hok := Lib.hid hok
    replace hx := Lib.hid hx
    cases ok
    · cases ow
      · go_wp2
        go_ret
        exact ⟨ret_bool fin.out.symm, below_drewNs hb1.out _⟩
      · go_wp2
        go_ret
        exact ⟨ret_bool fin.out.symm, below_drewNs hb1.out _⟩
    · cases ow
      · go_wp2
        go_ret
        exact ⟨ret_bool fin.out.symm, below_drewNs hb1.out _⟩
      · go_wp2
        go_ret
        exact ⟨ret_bool fin.out.symm, below_drewNs hb1.out _⟩
  have f2 : (kd == 2) = false := by simpa using h2
  by_cases h5 : kd = 5
  · subst h5
    go_enter Try.func79, Try.ntmps79
    go_wp2
    go_ret
    refine ⟨ret_bool ?_, hb1.out⟩
    rw [← hr.out]
    cases l <;> simp <;> omega
  have f5 : (kd == 5) = false := by simpa using h5
  by_cases h6 : kd = 6
  · subst h6
    by_cases hx : how = 2
    · subst hx
      go_enter Try.func79, Try.ntmps79
      go_wp2
      go_ret
      exact ⟨by rw [← hr.out]; simp, hb1.out⟩
    · have hx1 : ((how : Int) == 2) = false := by simp; omega
      go_enter Try.func79, Try.ntmps79
      go_wp2
      go_ret
      refine ⟨ret_bool ?_, hb1.out⟩
      rw [← hr.out]
      cases l <;> simp [hx] <;> omega
  have f6 : (kd == 6) = false := by simpa using h6
  go_enter Try.func79, Try.ntmps79
  go_wp2
  go_ret
  exact ⟨by rw [← hr.out]; simp [h2, h5, h6], hb1.out⟩
end Go.Proofs.Ytloiadhdkgkjkaa
/- The document's histories: is an event in form? by contract. -/
namespace Go.Proofs.Ytloiadhdkgkjkaa
open Go.RowKit
set_option maxHeartbeats 4000000
set_option linter.unusedVariables false
set_option linter.unusedSimpArgs false
theorem rpair_b (k : Int) (w : World) : Calls Try.prog 86 #[.int .i64 k] w fun x w' => x = .returned (.bool (pairK k)) ∧ w' = w := by
  by_cases h2 : k = 2
  · subst h2
    go_enter Try.func86, Try.ntmps86
    go_wp2
    go_ret
    exact ⟨rfl, rfl⟩
  by_cases h3 : k = 3
  · subst h3
    go_enter Try.func86, Try.ntmps86
    go_wp2
    go_ret
    exact ⟨rfl, rfl⟩
  by_cases h10 : k = 10
  · subst h10
    go_enter Try.func86, Try.ntmps86
    go_wp2
    go_ret
    exact ⟨rfl, rfl⟩
  have k2 : (k == 2) = false := by simpa using h2
  have k3 : (k == 3) = false := by simpa using h3
  have k10 : (k == 10) = false := by simpa using h10
  go_enter Try.func86, Try.ntmps86
  go_wp2
  go_ret
  exact ⟨by simp [pairK, k2, k3, k10], rfl⟩
theorem rsingle_b (k : Int) (w : World) : Calls Try.prog 87 #[.int .i64 k] w fun x w' => x = .returned (.bool (singK k)) ∧ w' = w := by
  by_cases h2 : k = 1
  · subst h2
    go_enter Try.func87, Try.ntmps87
    go_wp2
    go_ret
    exact ⟨rfl, rfl⟩
  by_cases h3 : k = 4
  · subst h3
    go_enter Try.func87, Try.ntmps87
    go_wp2
    go_ret
    exact ⟨rfl, rfl⟩
  have k2 : (k == 1) = false := by simpa using h2
  have k3 : (k == 4) = false := by simpa using h3
  go_enter Try.func87, Try.ntmps87
  go_wp2
  go_ret
  exact ⟨by simp [singK, k2, k3], rfl⟩
set_option maxRecDepth 100000 in
theorem rformed_b (e : Ev) (w : World) (hw0 : 0 ≤ e.wd) :
    Calls Try.prog 75 #[evV e] w fun x w' => x = .returned (.bool (fmd e)) ∧ Below w.heap.size w w' := by
  obtain ⟨th, kd, ad, wd, ow, er⟩ := e
  dsimp only at hw0
  have hbel : Below w.heap.size w (w.alloc (.cells #[.int .i64 th, .int .i64 kd, .int .u64 ad, .int .u64 wd, .bool ow, .int .i64 er] 61)) := (Below.refl _ _).alloc (Nat.le_refl _) _
  unfold evV
  dsimp only
  have PB := Lib.hid rpair_b
  have SB := Lib.hid rsingle_b
  by_cases hth : th < 0
  · go_enter Try.func75, Try.ntmps75
    go_wp2
    go_ret
    exact ⟨by simp [fmd]; omega, (Below.refl _ _).alloc (Nat.le_refl _) _⟩
  by_cases hth8 : 8 ≤ th
  · go_enter Try.func75, Try.ntmps75
    go_wp2
    go_ret
    exact ⟨by simp [fmd]; omega, (Below.refl _ _).alloc (Nat.le_refl _) _⟩
  by_cases hk1 : kd < 1
  · go_enter Try.func75, Try.ntmps75
    go_wp2
    go_ret
    exact ⟨by simp [fmd]; omega, (Below.refl _ _).alloc (Nat.le_refl _) _⟩
  by_cases hk12 : 12 < kd
  · go_enter Try.func75, Try.ntmps75
    go_wp2
    go_ret
    exact ⟨by simp [fmd]; omega, (Below.refl _ _).alloc (Nat.le_refl _) _⟩
  have hk : kd = 1 ∨ kd = 2 ∨ kd = 3 ∨ kd = 4 ∨ kd = 5 ∨ kd = 6 ∨ kd = 7 ∨ kd = 8 ∨ kd = 9 ∨ kd = 10 ∨ kd = 11 ∨ kd = 12 := by omega
  rcases hk with rfl | rfl | rfl | rfl | rfl | rfl | rfl | rfl | rfl | rfl | rfl | rfl
  · have pk : pairK 1 = false := rfl
    have sk : singK 1 = true := rfl
    by_cases ha : ad = 0
    case neg =>
      have ha1 : (ad != 0) = true := by simpa using ha
      go_enter Try.func75, Try.ntmps75
      go_wp2_with fail
      refine (PB.out _ _).mono ?_
      rintro _ _ ⟨rfl, rfl⟩
      simp only [pk]
      go_wp2
      go_ret
      exact ⟨by simp [fmd, pairK, singK, ha], (Below.refl _ _).alloc (Nat.le_refl _) _⟩
    have ha1 : (ad != 0) = false := by simpa using ha
    cases ow
    case true =>
      go_enter Try.func75, Try.ntmps75
      go_wp2_with fail
      refine (PB.out _ _).mono ?_
      rintro _ _ ⟨rfl, rfl⟩
      simp only [pk]
      go_wp2_with fail
      refine (PB.out _ _).mono ?_
      rintro _ _ ⟨rfl, rfl⟩
      simp only [pk]
      go_wp2_with fail
      refine (SB.out _ _).mono ?_
      rintro _ _ ⟨rfl, rfl⟩
      simp only [sk]
      go_wp2
      go_ret
      exact ⟨by simp [fmd, pairK, singK], (Below.refl _ _).alloc (Nat.le_refl _) _⟩
    by_cases hm : wd % 2 = 0
    case neg =>
      have hm0 : wd.tmod 2 = wd % 2 := Int.tmod_eq_emod_of_nonneg hw0
      have hm1 : (wd.tmod 2 != 0) = true := by rw [hm0]; simpa using hm
      go_enter Try.func75, Try.ntmps75
      go_wp2_with fail
      refine (PB.out _ _).mono ?_
      rintro _ _ ⟨rfl, rfl⟩
      simp only [pk]
      go_wp2_with fail
      refine (PB.out _ _).mono ?_
      rintro _ _ ⟨rfl, rfl⟩
      simp only [pk]
      go_wp2_with fail
      refine (SB.out _ _).mono ?_
      rintro _ _ ⟨rfl, rfl⟩
      simp only [sk]
      go_wp2
      go_ret
      exact ⟨by simp [fmd, pairK, singK, hm], (Below.refl _ _).alloc (Nat.le_refl _) _⟩
    have hm0 : wd.tmod 2 = wd % 2 := Int.tmod_eq_emod_of_nonneg hw0
    have hm1 : (wd.tmod 2 != 0) = false := by rw [hm0]; simpa using hm
    go_enter Try.func75, Try.ntmps75
    go_wp2_with fail
    refine (PB.out _ _).mono ?_
    rintro _ _ ⟨rfl, rfl⟩
    simp only [pk]
    go_wp2_with fail
    refine (PB.out _ _).mono ?_
    rintro _ _ ⟨rfl, rfl⟩
    simp only [pk]
    go_wp2_with fail
    refine (SB.out _ _).mono ?_
    rintro _ _ ⟨rfl, rfl⟩
    simp only [sk]
    go_wp2
    go_ret
    exact ⟨ret_bool (by rw [Bool.eq_iff_iff]; simp [fmd, pairK, singK, ha, hm] <;> omega), (Below.refl _ _).alloc (Nat.le_refl _) _⟩
  · have pk : pairK 2 = true := rfl
    have sk : singK 2 = false := rfl
    go_enter Try.func75, Try.ntmps75
    go_wp2_with fail
    refine (PB.out _ _).mono ?_
    rintro _ _ ⟨rfl, rfl⟩
    simp only [pk]
    go_wp2_with fail
    refine (PB.out _ _).mono ?_
    rintro _ _ ⟨rfl, rfl⟩
    simp only [pk]
    go_wp2
    go_ret
    exact ⟨ret_bool (by rw [Bool.eq_iff_iff]; simp [fmd, pairK, singK] <;> omega), (Below.refl _ _).alloc (Nat.le_refl _) _⟩
  · have pk : pairK 3 = true := rfl
    have sk : singK 3 = false := rfl
    cases ow
    case true =>
      go_enter Try.func75, Try.ntmps75
      go_wp2_with fail
      refine (PB.out _ _).mono ?_
      rintro _ _ ⟨rfl, rfl⟩
      simp only [pk]
      go_wp2_with fail
      refine (PB.out _ _).mono ?_
      rintro _ _ ⟨rfl, rfl⟩
      simp only [pk]
      go_wp2
      go_ret
      exact ⟨by simp [fmd, pairK, singK], (Below.refl _ _).alloc (Nat.le_refl _) _⟩
    go_enter Try.func75, Try.ntmps75
    go_wp2_with fail
    refine (PB.out _ _).mono ?_
    rintro _ _ ⟨rfl, rfl⟩
    simp only [pk]
    go_wp2_with fail
    refine (PB.out _ _).mono ?_
    rintro _ _ ⟨rfl, rfl⟩
    simp only [pk]
    go_wp2
    go_ret
    exact ⟨ret_bool (by rw [Bool.eq_iff_iff]; simp [fmd, pairK, singK] <;> omega), (Below.refl _ _).alloc (Nat.le_refl _) _⟩
  · have pk : pairK 4 = false := rfl
    have sk : singK 4 = true := rfl
    by_cases ha : ad = 0
    case neg =>
      have ha1 : (ad != 0) = true := by simpa using ha
      go_enter Try.func75, Try.ntmps75
      go_wp2_with fail
      refine (PB.out _ _).mono ?_
      rintro _ _ ⟨rfl, rfl⟩
      simp only [pk]
      go_wp2
      go_ret
      exact ⟨by simp [fmd, pairK, singK, ha], (Below.refl _ _).alloc (Nat.le_refl _) _⟩
    have ha1 : (ad != 0) = false := by simpa using ha
    cases ow
    case true =>
      go_enter Try.func75, Try.ntmps75
      go_wp2_with fail
      refine (PB.out _ _).mono ?_
      rintro _ _ ⟨rfl, rfl⟩
      simp only [pk]
      go_wp2_with fail
      refine (PB.out _ _).mono ?_
      rintro _ _ ⟨rfl, rfl⟩
      simp only [pk]
      go_wp2_with fail
      refine (SB.out _ _).mono ?_
      rintro _ _ ⟨rfl, rfl⟩
      simp only [sk]
      go_wp2
      go_ret
      exact ⟨by simp [fmd, pairK, singK], (Below.refl _ _).alloc (Nat.le_refl _) _⟩
    by_cases hm : wd % 2 = 0
    case neg =>
      have hm0 : wd.tmod 2 = wd % 2 := Int.tmod_eq_emod_of_nonneg hw0
      have hm1 : (wd.tmod 2 != 0) = true := by rw [hm0]; simpa using hm
      go_enter Try.func75, Try.ntmps75
      go_wp2_with fail
      refine (PB.out _ _).mono ?_
      rintro _ _ ⟨rfl, rfl⟩
      simp only [pk]
      go_wp2_with fail
      refine (PB.out _ _).mono ?_
      rintro _ _ ⟨rfl, rfl⟩
      simp only [pk]
      go_wp2_with fail
      refine (SB.out _ _).mono ?_
      rintro _ _ ⟨rfl, rfl⟩
      simp only [sk]
      go_wp2
      go_ret
      exact ⟨by simp [fmd, pairK, singK, hm], (Below.refl _ _).alloc (Nat.le_refl _) _⟩
    have hm0 : wd.tmod 2 = wd % 2 := Int.tmod_eq_emod_of_nonneg hw0
    have hm1 : (wd.tmod 2 != 0) = false := by rw [hm0]; simpa using hm
    go_enter Try.func75, Try.ntmps75
    go_wp2_with fail
    refine (PB.out _ _).mono ?_
    rintro _ _ ⟨rfl, rfl⟩
    simp only [pk]
    go_wp2_with fail
    refine (PB.out _ _).mono ?_
    rintro _ _ ⟨rfl, rfl⟩
    simp only [pk]
    go_wp2_with fail
    refine (SB.out _ _).mono ?_
    rintro _ _ ⟨rfl, rfl⟩
    simp only [sk]
    go_wp2
    go_ret
    exact ⟨ret_bool (by rw [Bool.eq_iff_iff]; simp [fmd, pairK, singK, ha, hm] <;> omega), (Below.refl _ _).alloc (Nat.le_refl _) _⟩
  · have pk : pairK 5 = false := rfl
    have sk : singK 5 = false := rfl
    by_cases ha : ad = 0
    case neg =>
      have ha1 : (ad != 0) = true := by simpa using ha
      go_enter Try.func75, Try.ntmps75
      go_wp2_with fail
      refine (PB.out _ _).mono ?_
      rintro _ _ ⟨rfl, rfl⟩
      simp only [pk]
      go_wp2
      go_ret
      exact ⟨by simp [fmd, pairK, singK, ha], (Below.refl _ _).alloc (Nat.le_refl _) _⟩
    have ha1 : (ad != 0) = false := by simpa using ha
    by_cases hd : wd = 0
    case neg =>
      have hd1 : (wd != 0) = true := by simpa using hd
      go_enter Try.func75, Try.ntmps75
      go_wp2_with fail
      refine (PB.out _ _).mono ?_
      rintro _ _ ⟨rfl, rfl⟩
      simp only [pk]
      go_wp2_with fail
      refine (PB.out _ _).mono ?_
      rintro _ _ ⟨rfl, rfl⟩
      simp only [pk]
      go_wp2_with fail
      refine (SB.out _ _).mono ?_
      rintro _ _ ⟨rfl, rfl⟩
      simp only [sk]
      go_wp2
      go_ret
      exact ⟨by simp [fmd, pairK, singK, hd], (Below.refl _ _).alloc (Nat.le_refl _) _⟩
    have hd1 : (wd != 0) = false := by simpa using hd
    cases ow
    case true =>
      go_enter Try.func75, Try.ntmps75
      go_wp2_with fail
      refine (PB.out _ _).mono ?_
      rintro _ _ ⟨rfl, rfl⟩
      simp only [pk]
      go_wp2_with fail
      refine (PB.out _ _).mono ?_
      rintro _ _ ⟨rfl, rfl⟩
      simp only [pk]
      go_wp2_with fail
      refine (SB.out _ _).mono ?_
      rintro _ _ ⟨rfl, rfl⟩
      simp only [sk]
      go_wp2
      go_ret
      exact ⟨by simp [fmd, pairK, singK], (Below.refl _ _).alloc (Nat.le_refl _) _⟩
    go_enter Try.func75, Try.ntmps75
    go_wp2_with fail
    refine (PB.out _ _).mono ?_
    rintro _ _ ⟨rfl, rfl⟩
    simp only [pk]
    go_wp2_with fail
    refine (PB.out _ _).mono ?_
    rintro _ _ ⟨rfl, rfl⟩
    simp only [pk]
    go_wp2_with fail
    refine (SB.out _ _).mono ?_
    rintro _ _ ⟨rfl, rfl⟩
    simp only [sk]
    go_wp2
    go_ret
    exact ⟨ret_bool (by rw [Bool.eq_iff_iff]; simp [fmd, pairK, singK, ha, hd] <;> omega), (Below.refl _ _).alloc (Nat.le_refl _) _⟩
  · have pk : pairK 6 = false := rfl
    have sk : singK 6 = true := rfl
    by_cases ha : ad = 0
    case neg =>
      have ha1 : (ad != 0) = true := by simpa using ha
      go_enter Try.func75, Try.ntmps75
      go_wp2_with fail
      refine (PB.out _ _).mono ?_
      rintro _ _ ⟨rfl, rfl⟩
      simp only [pk]
      go_wp2
      go_ret
      exact ⟨by simp [fmd, pairK, singK, ha], (Below.refl _ _).alloc (Nat.le_refl _) _⟩
    have ha1 : (ad != 0) = false := by simpa using ha
    cases ow
    case true =>
      go_enter Try.func75, Try.ntmps75
      go_wp2_with fail
      refine (PB.out _ _).mono ?_
      rintro _ _ ⟨rfl, rfl⟩
      simp only [pk]
      go_wp2_with fail
      refine (PB.out _ _).mono ?_
      rintro _ _ ⟨rfl, rfl⟩
      simp only [pk]
      go_wp2_with fail
      refine (SB.out _ _).mono ?_
      rintro _ _ ⟨rfl, rfl⟩
      simp only [sk]
      go_wp2
      go_ret
      exact ⟨by simp [fmd, pairK, singK], (Below.refl _ _).alloc (Nat.le_refl _) _⟩
    go_enter Try.func75, Try.ntmps75
    go_wp2_with fail
    refine (PB.out _ _).mono ?_
    rintro _ _ ⟨rfl, rfl⟩
    simp only [pk]
    go_wp2_with fail
    refine (PB.out _ _).mono ?_
    rintro _ _ ⟨rfl, rfl⟩
    simp only [pk]
    go_wp2_with fail
    refine (SB.out _ _).mono ?_
    rintro _ _ ⟨rfl, rfl⟩
    simp only [sk]
    go_wp2
    go_ret
    exact ⟨ret_bool (by rw [Bool.eq_iff_iff]; simp [fmd, pairK, singK, ha] <;> omega), (Below.refl _ _).alloc (Nat.le_refl _) _⟩
  · have pk : pairK 7 = false := rfl
    have sk : singK 7 = false := rfl
    by_cases ha : ad = 0
    case neg =>
      have ha1 : (ad != 0) = true := by simpa using ha
      go_enter Try.func75, Try.ntmps75
      go_wp2_with fail
      refine (PB.out _ _).mono ?_
      rintro _ _ ⟨rfl, rfl⟩
      simp only [pk]
      go_wp2
      go_ret
      exact ⟨by simp [fmd, pairK, singK, ha], (Below.refl _ _).alloc (Nat.le_refl _) _⟩
    have ha1 : (ad != 0) = false := by simpa using ha
    by_cases hd : wd = 0
    case neg =>
      have hd1 : (wd != 0) = true := by simpa using hd
      go_enter Try.func75, Try.ntmps75
      go_wp2_with fail
      refine (PB.out _ _).mono ?_
      rintro _ _ ⟨rfl, rfl⟩
      simp only [pk]
      go_wp2_with fail
      refine (PB.out _ _).mono ?_
      rintro _ _ ⟨rfl, rfl⟩
      simp only [pk]
      go_wp2_with fail
      refine (SB.out _ _).mono ?_
      rintro _ _ ⟨rfl, rfl⟩
      simp only [sk]
      go_wp2
      go_ret
      exact ⟨by simp [fmd, pairK, singK, hd], (Below.refl _ _).alloc (Nat.le_refl _) _⟩
    have hd1 : (wd != 0) = false := by simpa using hd
    cases ow
    case true =>
      go_enter Try.func75, Try.ntmps75
      go_wp2_with fail
      refine (PB.out _ _).mono ?_
      rintro _ _ ⟨rfl, rfl⟩
      simp only [pk]
      go_wp2_with fail
      refine (PB.out _ _).mono ?_
      rintro _ _ ⟨rfl, rfl⟩
      simp only [pk]
      go_wp2_with fail
      refine (SB.out _ _).mono ?_
      rintro _ _ ⟨rfl, rfl⟩
      simp only [sk]
      go_wp2
      go_ret
      exact ⟨by simp [fmd, pairK, singK], (Below.refl _ _).alloc (Nat.le_refl _) _⟩
    go_enter Try.func75, Try.ntmps75
    go_wp2_with fail
    refine (PB.out _ _).mono ?_
    rintro _ _ ⟨rfl, rfl⟩
    simp only [pk]
    go_wp2_with fail
    refine (PB.out _ _).mono ?_
    rintro _ _ ⟨rfl, rfl⟩
    simp only [pk]
    go_wp2_with fail
    refine (SB.out _ _).mono ?_
    rintro _ _ ⟨rfl, rfl⟩
    simp only [sk]
    go_wp2
    go_ret
    exact ⟨ret_bool (by rw [Bool.eq_iff_iff]; simp [fmd, pairK, singK, ha, hd] <;> omega), (Below.refl _ _).alloc (Nat.le_refl _) _⟩
  · have pk : pairK 8 = false := rfl
    have sk : singK 8 = false := rfl
    by_cases ha : ad = 0
    case neg =>
      have ha1 : (ad != 0) = true := by simpa using ha
      go_enter Try.func75, Try.ntmps75
      go_wp2_with fail
      refine (PB.out _ _).mono ?_
      rintro _ _ ⟨rfl, rfl⟩
      simp only [pk]
      go_wp2
      go_ret
      exact ⟨by simp [fmd, pairK, singK, ha], (Below.refl _ _).alloc (Nat.le_refl _) _⟩
    have ha1 : (ad != 0) = false := by simpa using ha
    by_cases hd : wd = 0
    case neg =>
      have hd1 : (wd != 0) = true := by simpa using hd
      go_enter Try.func75, Try.ntmps75
      go_wp2_with fail
      refine (PB.out _ _).mono ?_
      rintro _ _ ⟨rfl, rfl⟩
      simp only [pk]
      go_wp2_with fail
      refine (PB.out _ _).mono ?_
      rintro _ _ ⟨rfl, rfl⟩
      simp only [pk]
      go_wp2_with fail
      refine (SB.out _ _).mono ?_
      rintro _ _ ⟨rfl, rfl⟩
      simp only [sk]
      go_wp2
      go_ret
      exact ⟨by simp [fmd, pairK, singK, hd], (Below.refl _ _).alloc (Nat.le_refl _) _⟩
    have hd1 : (wd != 0) = false := by simpa using hd
    cases ow
    case true =>
      go_enter Try.func75, Try.ntmps75
      go_wp2_with fail
      refine (PB.out _ _).mono ?_
      rintro _ _ ⟨rfl, rfl⟩
      simp only [pk]
      go_wp2_with fail
      refine (PB.out _ _).mono ?_
      rintro _ _ ⟨rfl, rfl⟩
      simp only [pk]
      go_wp2_with fail
      refine (SB.out _ _).mono ?_
      rintro _ _ ⟨rfl, rfl⟩
      simp only [sk]
      go_wp2
      go_ret
      exact ⟨by simp [fmd, pairK, singK], (Below.refl _ _).alloc (Nat.le_refl _) _⟩
    go_enter Try.func75, Try.ntmps75
    go_wp2_with fail
    refine (PB.out _ _).mono ?_
    rintro _ _ ⟨rfl, rfl⟩
    simp only [pk]
    go_wp2_with fail
    refine (PB.out _ _).mono ?_
    rintro _ _ ⟨rfl, rfl⟩
    simp only [pk]
    go_wp2_with fail
    refine (SB.out _ _).mono ?_
    rintro _ _ ⟨rfl, rfl⟩
    simp only [sk]
    go_wp2
    go_ret
    exact ⟨ret_bool (by rw [Bool.eq_iff_iff]; simp [fmd, pairK, singK, ha, hd] <;> omega), (Below.refl _ _).alloc (Nat.le_refl _) _⟩
  · have pk : pairK 9 = false := rfl
    have sk : singK 9 = false := rfl
    by_cases ha : ad = 0
    case neg =>
      have ha1 : (ad != 0) = true := by simpa using ha
      go_enter Try.func75, Try.ntmps75
      go_wp2_with fail
      refine (PB.out _ _).mono ?_
      rintro _ _ ⟨rfl, rfl⟩
      simp only [pk]
      go_wp2
      go_ret
      exact ⟨by simp [fmd, pairK, singK, ha], (Below.refl _ _).alloc (Nat.le_refl _) _⟩
    have ha1 : (ad != 0) = false := by simpa using ha
    by_cases hd : wd = 0
    case neg =>
      have hd1 : (wd != 0) = true := by simpa using hd
      go_enter Try.func75, Try.ntmps75
      go_wp2_with fail
      refine (PB.out _ _).mono ?_
      rintro _ _ ⟨rfl, rfl⟩
      simp only [pk]
      go_wp2_with fail
      refine (PB.out _ _).mono ?_
      rintro _ _ ⟨rfl, rfl⟩
      simp only [pk]
      go_wp2_with fail
      refine (SB.out _ _).mono ?_
      rintro _ _ ⟨rfl, rfl⟩
      simp only [sk]
      go_wp2
      go_ret
      exact ⟨by simp [fmd, pairK, singK, hd], (Below.refl _ _).alloc (Nat.le_refl _) _⟩
    have hd1 : (wd != 0) = false := by simpa using hd
    cases ow
    case true =>
      go_enter Try.func75, Try.ntmps75
      go_wp2_with fail
      refine (PB.out _ _).mono ?_
      rintro _ _ ⟨rfl, rfl⟩
      simp only [pk]
      go_wp2_with fail
      refine (PB.out _ _).mono ?_
      rintro _ _ ⟨rfl, rfl⟩
      simp only [pk]
      go_wp2_with fail
      refine (SB.out _ _).mono ?_
      rintro _ _ ⟨rfl, rfl⟩
      simp only [sk]
      go_wp2
      go_ret
      exact ⟨by simp [fmd, pairK, singK], (Below.refl _ _).alloc (Nat.le_refl _) _⟩
    by_cases h4 : er = 4
    case pos =>
      subst h4
      go_enter Try.func75, Try.ntmps75
      go_wp2_with fail
      refine (PB.out _ _).mono ?_
      rintro _ _ ⟨rfl, rfl⟩
      simp only [pk]
      go_wp2_with fail
      refine (PB.out _ _).mono ?_
      rintro _ _ ⟨rfl, rfl⟩
      simp only [pk]
      go_wp2_with fail
      refine (SB.out _ _).mono ?_
      rintro _ _ ⟨rfl, rfl⟩
      simp only [sk]
      go_wp2
      go_ret
      exact ⟨by simp [fmd, pairK, singK, ha, hd] <;> omega, (Below.refl _ _).alloc (Nat.le_refl _) _⟩
    have f4 : (er == 4) = false := by simpa using h4
    by_cases h5 : er = 5
    case pos =>
      subst h5
      go_enter Try.func75, Try.ntmps75
      go_wp2_with fail
      refine (PB.out _ _).mono ?_
      rintro _ _ ⟨rfl, rfl⟩
      simp only [pk]
      go_wp2_with fail
      refine (PB.out _ _).mono ?_
      rintro _ _ ⟨rfl, rfl⟩
      simp only [pk]
      go_wp2_with fail
      refine (SB.out _ _).mono ?_
      rintro _ _ ⟨rfl, rfl⟩
      simp only [sk]
      go_wp2
      go_ret
      exact ⟨by simp [fmd, pairK, singK, ha, hd] <;> omega, (Below.refl _ _).alloc (Nat.le_refl _) _⟩
    have f5 : (er == 5) = false := by simpa using h5
    by_cases h6 : er = 6
    case pos =>
      subst h6
      go_enter Try.func75, Try.ntmps75
      go_wp2_with fail
      refine (PB.out _ _).mono ?_
      rintro _ _ ⟨rfl, rfl⟩
      simp only [pk]
      go_wp2_with fail
      refine (PB.out _ _).mono ?_
      rintro _ _ ⟨rfl, rfl⟩
      simp only [pk]
      go_wp2_with fail
      refine (SB.out _ _).mono ?_
      rintro _ _ ⟨rfl, rfl⟩
      simp only [sk]
      go_wp2
      go_ret
      exact ⟨by simp [fmd, pairK, singK, ha, hd] <;> omega, (Below.refl _ _).alloc (Nat.le_refl _) _⟩
    have f6 : (er == 6) = false := by simpa using h6
    go_enter Try.func75, Try.ntmps75
    go_wp2_with fail
    refine (PB.out _ _).mono ?_
    rintro _ _ ⟨rfl, rfl⟩
    simp only [pk]
    go_wp2_with fail
    refine (PB.out _ _).mono ?_
    rintro _ _ ⟨rfl, rfl⟩
    simp only [pk]
    go_wp2_with fail
    refine (SB.out _ _).mono ?_
    rintro _ _ ⟨rfl, rfl⟩
    simp only [sk]
    go_wp2
    go_ret
    exact ⟨ret_bool (by rw [Bool.eq_iff_iff]; simp [fmd, pairK, singK, ha, hd]; omega), (Below.refl _ _).alloc (Nat.le_refl _) _⟩
  · have pk : pairK 10 = true := rfl
    have sk : singK 10 = false := rfl
    cases ow
    case true =>
      go_enter Try.func75, Try.ntmps75
      go_wp2_with fail
      refine (PB.out _ _).mono ?_
      rintro _ _ ⟨rfl, rfl⟩
      simp only [pk]
      go_wp2_with fail
      refine (PB.out _ _).mono ?_
      rintro _ _ ⟨rfl, rfl⟩
      simp only [pk]
      go_wp2
      go_ret
      exact ⟨by simp [fmd, pairK, singK], (Below.refl _ _).alloc (Nat.le_refl _) _⟩
    go_enter Try.func75, Try.ntmps75
    go_wp2_with fail
    refine (PB.out _ _).mono ?_
    rintro _ _ ⟨rfl, rfl⟩
    simp only [pk]
    go_wp2_with fail
    refine (PB.out _ _).mono ?_
    rintro _ _ ⟨rfl, rfl⟩
    simp only [pk]
    go_wp2
    go_ret
    exact ⟨ret_bool (by rw [Bool.eq_iff_iff]; simp [fmd, pairK, singK] <;> omega), (Below.refl _ _).alloc (Nat.le_refl _) _⟩
  · have pk : pairK 11 = true := rfl
    have sk : singK 11 = false := rfl
    cases ow
    case true =>
      go_enter Try.func75, Try.ntmps75
      go_wp2_with fail
      refine (PB.out _ _).mono ?_
      rintro _ _ ⟨rfl, rfl⟩
      simp only [pk]
      go_wp2_with fail
      refine (PB.out _ _).mono ?_
      rintro _ _ ⟨rfl, rfl⟩
      simp only [pk]
      go_wp2
      go_ret
      exact ⟨by simp [fmd, pairK, singK], (Below.refl _ _).alloc (Nat.le_refl _) _⟩
    go_enter Try.func75, Try.ntmps75
    go_wp2_with fail
    refine (PB.out _ _).mono ?_
    rintro _ _ ⟨rfl, rfl⟩
    simp only [pk]
    go_wp2_with fail
    refine (PB.out _ _).mono ?_
    rintro _ _ ⟨rfl, rfl⟩
    simp only [pk]
    go_wp2
    go_ret
    exact ⟨ret_bool (by rw [Bool.eq_iff_iff]; simp [fmd, pairK, singK] <;> omega), (Below.refl _ _).alloc (Nat.le_refl _) _⟩
  · have pk : pairK 12 = false := rfl
    have sk : singK 12 = false := rfl
    by_cases ha : ad = 0
    case neg =>
      have ha1 : (ad != 0) = true := by simpa using ha
      go_enter Try.func75, Try.ntmps75
      go_wp2_with fail
      refine (PB.out _ _).mono ?_
      rintro _ _ ⟨rfl, rfl⟩
      simp only [pk]
      go_wp2
      go_ret
      exact ⟨by simp [fmd, pairK, singK, ha], (Below.refl _ _).alloc (Nat.le_refl _) _⟩
    have ha1 : (ad != 0) = false := by simpa using ha
    by_cases hd : wd = 0
    case neg =>
      have hd1 : (wd != 0) = true := by simpa using hd
      go_enter Try.func75, Try.ntmps75
      go_wp2_with fail
      refine (PB.out _ _).mono ?_
      rintro _ _ ⟨rfl, rfl⟩
      simp only [pk]
      go_wp2_with fail
      refine (PB.out _ _).mono ?_
      rintro _ _ ⟨rfl, rfl⟩
      simp only [pk]
      go_wp2_with fail
      refine (SB.out _ _).mono ?_
      rintro _ _ ⟨rfl, rfl⟩
      simp only [sk]
      go_wp2
      go_ret
      exact ⟨by simp [fmd, pairK, singK, hd], (Below.refl _ _).alloc (Nat.le_refl _) _⟩
    have hd1 : (wd != 0) = false := by simpa using hd
    cases ow
    case true =>
      go_enter Try.func75, Try.ntmps75
      go_wp2_with fail
      refine (PB.out _ _).mono ?_
      rintro _ _ ⟨rfl, rfl⟩
      simp only [pk]
      go_wp2_with fail
      refine (PB.out _ _).mono ?_
      rintro _ _ ⟨rfl, rfl⟩
      simp only [pk]
      go_wp2_with fail
      refine (SB.out _ _).mono ?_
      rintro _ _ ⟨rfl, rfl⟩
      simp only [sk]
      go_wp2
      go_ret
      exact ⟨by simp [fmd, pairK, singK], (Below.refl _ _).alloc (Nat.le_refl _) _⟩
    go_enter Try.func75, Try.ntmps75
    go_wp2_with fail
    refine (PB.out _ _).mono ?_
    rintro _ _ ⟨rfl, rfl⟩
    simp only [pk]
    go_wp2_with fail
    refine (PB.out _ _).mono ?_
    rintro _ _ ⟨rfl, rfl⟩
    simp only [pk]
    go_wp2_with fail
    refine (SB.out _ _).mono ?_
    rintro _ _ ⟨rfl, rfl⟩
    simp only [sk]
    go_wp2
    go_ret
    exact ⟨ret_bool (by rw [Bool.eq_iff_iff]; simp [fmd, pairK, singK, ha, hd] <;> omega), (Below.refl _ _).alloc (Nat.le_refl _) _⟩
end Go.Proofs.Ytloiadhdkgkjkaa
