/- Slices of structs some of whose fields are slices of words: opened field by field. -/
import Derived.Test.YteoebfjhadmnbaaPSt12
import Derived.Test.YteoebfjhadmnbaaPSt14
import Derived.Test.YteoebfjhadmnbaaPSt16
namespace Go.Proofs.Yteoebfjhadmnbaa
open Go.ChangeShapes Go.WideShapes Go.RowKit Go.Deep
set_option linter.unusedVariables false
section
variable {P : Program} {H : Type} {enc : TypeId × Value → H} {w : World} {base : Nat} {spare : Nat → Bool} {held : Bool}
theorem weights_all {e : TypeId} {d : DataW H} : ∀ {l : List (DataW H)}, d ∈ l → ∀ x ∈ d.weights P e, x ∈ DataW.weightsAll P e l
  | y :: l, hd, x, hx => by
    rw [DataW.weightsAll]
    rcases List.mem_cons.1 hd with rfl | h
    · exact List.mem_append_left _ hx
    · exact List.mem_append_right _ (weights_all h x hx)
theorem weights_each {d : DataW H} {t : TypeId} : ∀ {ts : List TypeId} {l : List (DataW H)} {j : Nat}, ts[j]? = some t → l[j]? = some d → ∀ x ∈ d.weights P t, x ∈ DataW.weightsEach P ts l
  | t' :: ts, y :: l, 0, ht, hd, x, hx => by
    simp only [List.getElem?_cons_zero, Option.some.injEq] at ht hd
    subst ht hd
    rw [DataW.weightsEach]
    exact List.mem_append_left _ hx
  | t' :: ts, y :: l, j + 1, ht, hd, x, hx => by
    rw [DataW.weightsEach]
    exact List.mem_append_right _ (weights_each (by simpa using ht) (by simpa using hd) x hx)
  | [], _, _, ht, _, _, _ => by simp at ht
  | _ :: _, [], _, _, hd, _, _ => by simp at hd
theorem open_fields {ts : List TypeId} {ds : List (DataW H)} {j : Nat} {t e : TypeId} {A : Option Addr} {len cap : Nat} {d : DataW H} {p : List MemPlace} (hsz : (DataW.weightsEach P ts ds).all (· ≤ reachBytes) = true) (hj : ts[j]? = some t) (hd : ds[j]? = some d)
    {fs : Array Field} (ht : P.underlying t = some (.slice e)) (he : P.underlying e = some (.struct fs)) (hone : oneCellFields P fs = true) (hC : P.cellsOf e = fs.size)
    (h : DataW.Trod enc P w base spare held t (.slice A len cap) d p) : (A = none → len = 0 ∧ cap = 0) ∧ len * P.bytesOf e ≤ 140737488351232 ∧
      ∀ ad, A = some ad → ∀ i, i < len → ∀ (j : Nat) (f : Field), fs[j]? = some f → ∃ v y n, w.cell? (ad.add (i * fs.size + j)) = some v ∧ DataW.trod enc P w base spare held n f.type [v] = some y ∧ ∀ x ∈ y.1.weights P f.type, x ≤ 140737488351232 := by
  obtain ⟨fuel, hf⟩ := h
  have hall : ∀ x ∈ DataW.weightsEach P ts ds, x ≤ 140737488351232 := fun x hx => by
    have := List.all_eq_true.1 hsz x hx
    exact of_decide_eq_true this
  have hdw := weights_each (P := P) hj hd
  rcases open_slice_fields ht he hone hC hf with ⟨hcs, hx⟩ | ⟨a, l, c, m, D, Pl, hcs, _, hl, hm, hmm, hx, hel⟩
  · simp [Value.cells] at hcs
    obtain ⟨rfl, rfl, rfl⟩ := hcs
    exact ⟨fun _ => ⟨rfl, rfl⟩, by simp, (fun ad h => nomatch h)⟩
  · simp [Value.cells] at hcs
    obtain ⟨rfl, rfl, rfl⟩ := hcs
    have hlm : len ≤ m := by rw [hmm]; split <;> omega
    simp only [Prod.mk.injEq] at hx
    have hw : d.weights P t = (((List.range len).map D).length + ((List.range (m - len)).map fun j => D (len + j)).length) * P.bytesOf e :: (DataW.weightsAll P e ((List.range len).map D) ++ DataW.weightsAll P e ((List.range (m - len)).map fun j => D (len + j))) := by
      rw [hx.1, DataW.weights]
      simp only [ht]
    refine ⟨(fun h => nomatch h), ?_, fun ad h i hi j' f hf' => ?_⟩
    · have := hall _ (hdw _ (by rw [hw]; exact List.mem_cons_self))
      simp only [List.length_map, List.length_range] at this
      exact Nat.le_trans (Nat.mul_le_mul_right _ (by omega)) this
    · injection h with h
      subst h
      obtain ⟨ys, n, hD, _, hlen, hfl⟩ := hel i (by omega)
      obtain ⟨v, y, hcell, hy, ht'⟩ := hfl j' f hf'
      refine ⟨v, y, n, hcell, ht', fun x hx2 => hall x (hdw x ?_)⟩
      rw [hw]
      refine List.mem_cons_of_mem _ (List.mem_append_left _ (weights_all (d := D i) (List.mem_map.2 ⟨i, List.mem_range.2 hi, rfl⟩) x ?_))
      rw [hD, DataW.weights]
      simp only [he]
      exact weights_each (j := j') (by simpa using congrArg (Option.map Field.type) hf') (by rw [List.getElem?_map, hy]; rfl) x hx2
theorem words_field {t e : TypeId} {n : Nat} {v : Value} {y : DataW H × List MemPlace} (ht : P.underlying t = some (.slice e)) (he : P.underlying e = some (.int .u64)) (hc : P.cellsOf e = 1) (hb : P.bytesOf e = 8)
    (h : DataW.trod enc P w base spare held n t [v] = some y) (hw : ∀ x ∈ y.1.weights P t, x ≤ 140737488351232) : ∃ A l c, v = .slice A l.length c ∧ WordsIn w A l c := by
  rcases open_ints ht he hc h with ⟨hcs, hx⟩ | ⟨a, l, c, zs, hcs, _, hl, hm, hz, hx, hcell, hwz⟩
  · injection hcs with hcs
    subst hcs
    exact ⟨none, [], 0, rfl, fun _ => ⟨rfl, rfl⟩, (fun ad h => nomatch h), by simp, by simp, by simp⟩
  · injection hcs with hcs
    subst hcs
    have hlz : l ≤ zs.length := by rw [hz]; split <;> omega
    have h1 : y.1 = .slice (lits .u64 (zs.take l)) (lits .u64 (zs.drop l)) := by rw [hx]
    have := hw _ (by rw [h1, DataW.weights]; simp only [ht]; exact List.mem_cons_self)
    rw [hb] at this
    simp only [lits, List.length_map, List.length_take, List.length_drop] at this
    have el : (zs.take l).length = l := by rw [List.length_take]; omega
    refine ⟨some a, zs.take l, c, by rw [el], (fun h => nomatch h), fun ad h i hi => ?_, fun z hz => ?_, by rw [el]; omega, by rw [el]; omega⟩
    · injection h with h
      subst h
      rw [el] at hi
      rw [hcell i (by omega)]
      simp [List.getD_eq_getElem?_getD, hi]
    · have := hwz z (List.mem_of_mem_take hz)
      simp [Lit.wf, IntKind.min, IntKind.max, IntKind.signed, IntKind.bits] at this
      omega
theorem int_field {t : TypeId} {n : Nat} {v : Value} {k : IntKind} {y : DataW H × List MemPlace} (ht : P.underlying t = some (.int k)) (h : DataW.trod enc P w base spare held n t [v] = some y) : ∃ z, v = .int k z ∧ (Lit.int k z).wf = true := by
  obtain ⟨z, hz, _, hw⟩ := DataW.trod_int ht h
  injection hz with hz
  exact ⟨z, hz, hw⟩
end
end Go.Proofs.Yteoebfjhadmnbaa
/- Histories that come in, opened. -/
namespace Go.Proofs.Yteoebfjhadmnbaa
open Go.ChangeShapes Go.WideShapes Go.RowKit Go.Deep
set_option linter.unusedVariables false
theorem bool_field {P : Program} {H : Type} {enc : TypeId × Value → H} {w : World} {base : Nat} {spare : Nat → Bool} {held : Bool} {t : TypeId} {n : Nat} {v : Value} {y : DataW H × List MemPlace} (ht : P.underlying t = some .bool) (h : DataW.trod enc P w base spare held n t [v] = some y) : ∃ b, v = .bool b := by
  obtain ⟨b, hb, _⟩ := DataW.trod_bool ht h
  injection hb with hb
  exact ⟨b, hb⟩
theorem open_events {H : Type} {enc : TypeId × Value → H} {w : World} {base : Nat} {spare : Nat → Bool} {held : Bool} {ts : List TypeId} {ds : List (DataW H)} {j : Nat} {A : Option Addr} {len cap : Nat} {d : DataW H} {p : List MemPlace}
    (hsz : (DataW.weightsEach Try.prog ts ds).all (· ≤ reachBytes) = true) (hj : ts[j]? = some 22) (hd : ds[j]? = some d)
    (h : DataW.Trod enc Try.prog w base spare held 22 (.slice A len cap) d p) : ∃ l : List Ev, l.length = len ∧ LiesV w (.slice A len cap) l ∧ (∀ e ∈ l, EvWf e) ∧ len * 48 ≤ 140737488351232 := by
  have hlc : len ≤ cap := by
    obtain ⟨fuel, hf⟩ := h
    rcases open_slice_fields Try.underlying22 Try.underlying27 (by kernel_rfl) (by kernel_rfl) hf with ⟨hcs, hx⟩ | ⟨a, l, c, m, D, Pl, hcs, _, hl, _⟩
    · simp [Value.cells] at hcs
      omega
    · simp [Value.cells] at hcs
      obtain ⟨_, rfl, rfl⟩ := hcs
      exact hl
  obtain ⟨h1, h2, h3⟩ := open_fields hsz hj hd Try.underlying22 Try.underlying27 (by kernel_rfl) (by kernel_rfl) h
  have hb : Try.prog.bytesOf 27 = 48 := by kernel_rfl
  rw [hb] at h2
  cases A with
  | none =>
    obtain ⟨rfl, rfl⟩ := h1 rfl
    exact ⟨[], rfl, ⟨none, 0, rfl, Nat.le_refl _, fun _ => rfl, by simp, by simp, fun j hj => by simp at hj⟩, by simp, h2⟩
  | some ad =>
    have key : ∀ i, ∃ e : Ev, i < len → EvWf e ∧ ∀ c, c < 6 → w.cell? (ad.add (i * 6 + c)) = (encV e)[c]? := fun i => by
      by_cases hi : i < len
      · have q := h3 ad rfl i hi
        obtain ⟨v0, y0, n0, c0, t0, _⟩ := q 0 _ rfl
        obtain ⟨v1, y1, n1, c1, t1, _⟩ := q 1 _ rfl
        obtain ⟨v2, y2, n2, c2, t2, _⟩ := q 2 _ rfl
        obtain ⟨v3, y3, n3, c3, t3, _⟩ := q 3 _ rfl
        obtain ⟨v4, y4, n4, c4, t4, _⟩ := q 4 _ rfl
        obtain ⟨v5, y5, n5, c5, t5, _⟩ := q 5 _ rfl
        obtain ⟨z0, rfl, w0⟩ := int_field Try.underlying3 t0
        obtain ⟨z1, rfl, w1⟩ := int_field Try.underlying23 t1
        obtain ⟨z2, rfl, w2⟩ := int_field Try.underlying24 t2
        obtain ⟨z3, rfl, w3⟩ := int_field Try.underlying24 t3
        obtain ⟨z4, rfl⟩ := bool_field Try.underlying4 t4
        obtain ⟨z5, rfl, w5⟩ := int_field Try.underlying25 t5
        refine ⟨⟨z0, z1, z2, z3, z4, z5⟩, fun _ => ⟨⟨bd_i64 w0, bd_i64 w1, bd_u64 w2, bd_u64 w3, bd_i64 w5⟩, fun c hc => ?_⟩⟩
        have hcc : c = 0 ∨ c = 1 ∨ c = 2 ∨ c = 3 ∨ c = 4 ∨ c = 5 := by omega
        rcases hcc with rfl | rfl | rfl | rfl | rfl | rfl
        · exact c0
        · exact c1
        · exact c2
        · exact c3
        · exact c4
        · exact c5
      · exact ⟨Ev.zero, fun h => absurd h hi⟩
    obtain ⟨f, hf⟩ := Classical.axiomOfChoice key
    have hll : ((List.range len).map f).length = len := by simp
    have hwf : ∀ e ∈ (List.range len).map f, EvWf e := fun e he => by
      obtain ⟨i, hi, rfl⟩ := List.mem_map.1 he
      exact (hf i (List.mem_range.1 hi)).1
    refine ⟨(List.range len).map f, hll, ⟨some ad, cap, by rw [hll], by rw [hll]; exact hlc, (fun h => nomatch h), hwf, by rw [hll]; omega, fun j hj => ?_⟩, hwf, h2⟩
    have hj' : j < len := by rw [hll] at hj; exact hj
    have h0 := (hf 0 (by omega)).2 0 (by omega)
    have e0 := spotless (h0.trans rfl)
    have e1 : ad = ⟨ad.block, ad.off, none⟩ := by
      have : ad.add (0 * 6 + 0) = ad := by unfold Addr.add; rw [if_pos rfl]
      rw [this] at e0
      simpa using e0
    have hlt : ad.block < w.heap.size := by
      refine Nat.lt_of_not_le fun hh => ?_
      rw [e1, Addr.add_lit] at h0
      unfold World.cell? at h0
      rw [Array.getElem?_eq_none hh] at h0
      cases h0
    refine ⟨ad.block, ad.off, by rw [← e1], hlt, fun c hc => ?_⟩
    have := (hf j hj').2 c hc
    rw [e1, Addr.add_lit, ← Nat.add_assoc] at this
    rw [List.getElem_map, List.getElem_range]
    exact this
end Go.Proofs.Yteoebfjhadmnbaa
/- The law StatsCounts: its statement out of its walk. Whatever the input, it answers true, and the input reads as before. -/
namespace Go.Proofs.Yteoebfjhadmnbaa.statsCounts
open Go.ChangeShapes Go.WideShapes Go.ChangeAt Go.RowKit Go.Deep
set_option linter.unusedVariables false
theorem own : ownKnob Try.prog.godebug = none := by kernel_rfl
theorem laidOut : laidOutB Try.prog = true := by kernel_rfl
set_option maxRecDepth 100000 in
theorem lifted (os : Os) (started : os.Started) (H : Type) (enc : TypeId × Value → H) :
    ReturnsInHanded {} Try.checked os 4 .any (Rows.statsCountsSpec.pre6 enc Try.prog Try.f4 Rows.statsCountsRow.domain false) (Rows.statsCountsSpec.post enc Try.prog Try.f4 false true false false) := by
  refine returnsInHanded_of_change_sized (C := Try.checked) own started (by kernel_rfl) Try.func4
    (ChangeSpec.witness6 (enc := enc) (C := Try.checked) false ⟨#[], #[.slice none 0 0], []⟩ 8 (by kernel_rfl) (by kernel_rfl) (by kernel_rfl) (by kernel_rfl)) ?_
  intro W base args ds gs before hval0 hW hcnd hsz0 _
  have hval : ∀ (j : Nat) t v, Try.f4.params[j]? = some t → args[j]? = some v → Value.okWide Try.prog W .any base t v := hval0
  have hsz : (DataW.weightsEach Try.prog (Try.f4.params.toList ++ Rows.statsCountsSpec.plain.varTypes Try.prog) (ds ++ gs)).all (· ≤ reachBytes) = true := hsz0
  have hW' := hW
  obtain ⟨p, q, hA0, hV, rfl, hfz, hnd⟩ := hW
  have hA : DataW.TrodAll enc Try.prog W 0 (fun _ => true) true Try.f4.params.toList args.toList ds p := hA0
  rw [Try.params4] at hA hval hsz
  obtain ⟨v0, vs0, d0, ds0, p0, q0, hargs, rfl, rfl, h0, r0⟩ := trodAll_cons hA
  obtain ⟨rfl, rfl, rfl⟩ := trodAll_nil r0
  obtain rfl : args = #[v0] := by cases args; simp_all
  obtain ⟨rfl, rfl⟩ := trodVars_none hV
  obtain ⟨a0, len0, cap0, rfl⟩ := okWide_slice Try.underlying22 (hval 0 22 v0 rfl rfl)
  have k0 := h0
  have lt0 : ∀ x ∈ p0, x.block < W.heap.size := by obtain ⟨m, hm⟩ := k0; exact DataW.trod_lt m _ _ _ hm
  obtain ⟨l0, rfl, w0, -, -⟩ := open_events hsz (j := 0) rfl rfl h0
  clear hA0 hval0 hsz0
  refine (statsCounts_law known_b w0).mono fun e W' ⟨he, bel⟩ => ?_
  subst he
  exact ⟨_, rfl, _, _, _, [], _, [], hW', trodAll_mk1 (shut_bool Try.underlying4 _), (trodAll_cons_mk (Below.trod laidOut (by kernel_rfl) (of_decide_eq_true (by kernel_rfl)) k0 bel lt0) trodAll_mk0), rfl, bel.frame _, fun h => by cases h⟩

theorem proved : Rows.StatsCountsSaid :=
  OpenClaim.holds_of_wide 4 Try.f4 rfl rfl rfl rfl rfl rfl rfl ⟨rfl, rfl, rfl, rfl, rfl⟩ rfl rfl rfl rfl rfl (by kernel_rfl) Try.func4 (by kernel_rfl)
    (of_decide_eq_true (by kernel_rfl)) (by unfold Func.isWrapper; first | (rw [if_pos (by decide +kernel)]; kernel_rfl) | (rw [if_neg (by decide +kernel)]; exact ⟨rfl, rfl⟩))
    (fun os started H enc _ => lifted os started H enc)
end Go.Proofs.Yteoebfjhadmnbaa.statsCounts
