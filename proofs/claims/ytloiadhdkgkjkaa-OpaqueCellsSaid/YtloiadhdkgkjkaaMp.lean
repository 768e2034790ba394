/- Maps with whole numbers as keys, of the call's own: what block b holds, as a function of the key; look-up, store, length, by their runs and at the operation. -/
import Derived.Test.YtloiadhdkgkjkaaBase
import Derived.MapKept
import Derived.Maps.RangeRun
import Derived.Maps.Own
import Derived.Carry
namespace Go.Proofs.Ytloiadhdkgkjkaa
open Go.RowKit Go.MapKept Go.ChangeMaps
set_option linter.unusedVariables false

/-- Block b is a map of at most n entries, whose keys are of kind q; f says what stands at each. -/
def Mp (w : World) (b : Nat) (q : IntKind) (n : Nat) (f : Int → Option Value) : Prop :=
  ∃ es clock, w.heap[b]? = some (.map es clock) ∧ es.size ≤ n ∧ Stamped es clock ∧ (∀ x ∈ es.toList, ∃ k, x.key = .int q k ∧ f k = some x.val) ∧ (∀ k, f k ≠ none → ∃ x ∈ es.toList, x.key = .int q k)
section
variable {P : Program} {w w' : World} {b n : Nat} {q : IntKind} {f : Int → Option Value}
theorem Mp.new (w : World) (q : IntKind) : Mp (w.alloc (.map #[] 0)) w.heap.size q 0 (fun _ => none) :=
  ⟨#[], 0, heap_alloc_new w _, by simp, stamped_empty 0, by simp, by simp⟩
theorem Mp.lt (h : Mp w b q n f) : b < w.heap.size := by
  obtain ⟨es, clock, h, _⟩ := h
  rcases Nat.lt_or_ge b w.heap.size with hl | hg
  · exact hl
  · rw [Array.getElem?_eq_none hg] at h; cases h
theorem Mp.keep (h : Mp w b q n f) (hk : w'.heap[b]? = w.heap[b]?) : Mp w' b q n f := by
  obtain ⟨es, clock, h, r⟩ := h
  exact ⟨es, clock, hk.trans h, r⟩
theorem Mp.alloc (h : Mp w b q n f) (o : Obj) : Mp (w.alloc o) b q n f := h.keep (Below.heap_alloc w o b h.lt)
theorem Mp.drewN (h : Mp w b q n f) (m : Nat) : Mp (w.drewN m) b q n f := h
theorem Mp.far (h : Mp w b q n f) {p : Addr} (hp : b ≠ p.block) (u : Value) : Mp (w.setCell p u) b q n f := h.keep (Below.heap_setCell w p u b hp)
theorem Mp.fr {F F' : Nat → Prop} (h : Mp w b q n f) (hf : Fr F w F' w') (hF : ¬ F b) : Mp w' b q n f := h.keep (hf.block b h.lt hF)
theorem Mp.mono (h : Mp w b q n f) {m : Nat} (hm : n ≤ m) : Mp w b q m f := by
  obtain ⟨es, clock, h, h2, r⟩ := h
  exact ⟨es, clock, h, by omega, r⟩
theorem Mp.congr {g : Int → Option Value} (h : Mp w b q n f) (hg : ∀ k, g k = f k) : Mp w b q n g := by
  obtain rfl : g = f := funext hg
  exact h
/-- It is no row of cells. -/
theorem Mp.ne_ {k : Nat} {t : TypeId} {cs : Array Value} (h : Mp w b q n f) (hb : Blk w k t cs) : b ≠ k := by
  rintro rfl
  obtain ⟨es, clock, h, _⟩ := h
  unfold Blk at hb
  rw [h] at hb
  cases hb
theorem Mp.ne_row {B : Nat} {e : TypeId} {size m : Nat} {v : Value} {xs : List Value} (h : Mp w b q n f) (hr : Rowv w B e size v m xs) : v.ownBlock ≠ some b := by
  rcases hr.2 with ⟨rfl, _⟩ | ⟨g, off, cap, cur, rfl, h2, h3, _⟩
  · exact fun h => nomatch h
  · intro hk
    obtain rfl : g = b := by simpa [Value.ownBlock] using hk
    obtain ⟨es, clock, h, _⟩ := h
    rw [h] at h3
    cases h3
theorem Mp.find (h : Mp w b q n f) (a : Int) : ∃ es clock, w.heap[b]? = some (.map es clock) ∧ es.size ≤ n ∧ Stamped es clock ∧ (∀ x ∈ es.toList, IsKey (.int q) x.key) ∧
    ((f a = none ∧ Instr.findNow (.int q) (.int q a) es.toList 0 = some none ∧ ∀ x ∈ es.toList, x.key ≠ .int q a) ∨ ∃ j x, es.toList[j]? = some x ∧ x.key = .int q a ∧ f a = some x.val ∧ Instr.findNow (.int q) (.int q a) es.toList 0 = some (some (j, x.val))) := by
  obtain ⟨es, clock, hb, hn, hs, h1, h2⟩ := h
  have hk : ∀ x ∈ es.toList, IsKey (.int q) x.key := fun x hx => by
    obtain ⟨k, e, _⟩ := h1 x hx
    rw [e]
    simp [IsKey]
  refine ⟨es, clock, hb, hn, hs, hk, ?_⟩
  rcases findNow_spec (d := .int q) (k := .int q a) (by simp [IsKey]) es.toList 0 hk with ⟨g1, g2⟩ | ⟨j, x, g1, g2, g3⟩
  · left
    refine ⟨?_, g1, g2⟩
    cases hf : f a with
    | none => rfl
    | some v =>
      obtain ⟨x, hx, e⟩ := h2 a (by rw [hf]; simp)
      exact absurd e (g2 x hx)
  · right
    obtain ⟨k, e, hf⟩ := h1 x (List.mem_of_getElem? g2)
    rw [g3] at e
    injection e with _ e
    subst e
    exact ⟨j, x, g2, g3, hf, by simpa using g1⟩
/-- 'm[k]', 'm[k], ok'. -/
theorem Mp.lookup (h : Mp w b q n f) {t k e : TypeId} (ht : P.underlying t = some (.map k e)) (hk : P.underlying k = some (.int q)) {z : Value} (hz : (zeroValue e).run P w = .ok z w) (a : Int) (c : Bool) :
    (Instr.lookup t (.map (some b)) (.int q a) c).run P w = .ok (if c then .tuple #[(f a).getD z, .bool (f a).isSome] else (f a).getD z) w := by
  obtain ⟨es, clock, hb, hn, hs, hks, hh⟩ := h.find a
  have hc : (Instr.checkKey es.isEmpty 10000 k (.int q a)).run P w = .ok () w := run_checkKey (k := .int q a) hk (by simp [IsKey]) _ 9999
  rcases hh with ⟨e0, g1, _⟩ | ⟨j, x, g1, g2, g3, g4⟩
  · have := run_findKey (P := P) (w := w) hk g1
    rw [e0]
    cases c <;> simp [Instr.lookup, run_underlying ht, MapKept.run_getObj_map hb, hc, this, hz, Result.andThen]
  · have := run_findKey (P := P) (w := w) hk g4
    rw [g3]
    cases c <;> simp [Instr.lookup, run_underlying ht, MapKept.run_getObj_map hb, hc, this, Result.andThen]
theorem mem_modify_at {es : Array MapEntry} {i : Nat} {g : MapEntry → MapEntry} {x : MapEntry} (hx : x ∈ (es.modify i g).toList) : ∃ j e, es.toList[j]? = some e ∧ x = if i = j then g e else e := by
  obtain ⟨j, hj⟩ := List.mem_iff_getElem?.1 hx
  rw [Array.getElem?_toList, Array.getElem?_modify] at hj
  by_cases hij : i = j
  · rw [if_pos hij] at hj
    cases he : es[j]? with
    | none => simp [he] at hj
    | some e => simp [he] at hj; exact ⟨j, e, by simpa using he, by rw [if_pos hij, hj]⟩
  · rw [if_neg hij] at hj
    exact ⟨j, x, by simpa using hj, by rw [if_neg hij]⟩
theorem stamped_keys {es : Array MapEntry} {clock : Nat} (h : Stamped es clock) {i j : Nat} {x y : MapEntry} (hi : es.toList[i]? = some x) (hj : es.toList[j]? = some y) (e : x.key = y.key) : i = j := by
  have hn := h.2.2
  have h1 : (es.toList.map (·.key))[i]? = some x.key := by rw [List.getElem?_map, hi]; rfl
  have h2 : (es.toList.map (·.key))[j]? = some y.key := by rw [List.getElem?_map, hj]; rfl
  have hl : i < (es.toList.map (·.key)).length := (List.getElem?_eq_some_iff.1 h1).1
  exact (List.getElem?_inj hl hn).1 (by rw [h1, h2, e])
/-- 'm[k] = v'. -/
theorem Mp.update (h : Mp w b q n f) {t k e : TypeId} (ht : P.underlying t = some (.map k e)) (hk : P.underlying k = some (.int q)) (a : Int) (v : Value) :
    ∃ w', (Instr.mapUpdate t (.map (some b)) (.int q a) v).run P w = .ok () w' ∧ Mp w' b q (n + 1) (fun k => if k = a then some v else f k) ∧ w.grownBy w' (some b) ∧ w'.heap.size = w.heap.size := by
  have h0 := h
  obtain ⟨es, clock, hb, hn, hs, hks, hh⟩ := h.find a
  obtain ⟨es0, clock0, hb0, _, _, k1, k2⟩ := h0
  obtain ⟨rfl, rfl⟩ : es0 = es ∧ clock0 = clock := by
    rw [hb] at hb0
    injection hb0 with hb0
    injection hb0 with e1 e2
    exact ⟨e1.symm, e2.symm⟩
  have hc : (Instr.checkKey false 10000 k (.int q a)).run P w = .ok () w := run_checkKey (k := .int q a) hk (by simp [IsKey]) _ 9999
  rcases hh with ⟨e0, g1, g2⟩ | ⟨j, x, g1, g2, g3, g4⟩
  · have := run_findKey (P := P) (w := w) hk g1
    refine ⟨setBlock w b (.map (es0.push { key := .int q a, val := v, born := clock0 }) (clock0 + 1)), by simp [Instr.mapUpdate, run_underlying ht, MapKept.run_getObj_map hb, hc, this, MapKept.run_setObj_map _ hb, Result.andThen, setBlock], ?_, ⟨rfl, rfl, rfl, by simp [setBlock], fun i _ hi => heap_setBlock_other hb _ (fun e => hi (by rw [e]))⟩, by simp [setBlock]⟩
    refine ⟨_, _, heap_setBlock_same hb _, by simp; omega, stamped_push hs g2, fun y hy => ?_, fun k hkk => ?_⟩
    · rw [Array.toList_push, List.mem_append, List.mem_singleton] at hy
      rcases hy with hy | rfl
      · obtain ⟨k', e1, e2⟩ := k1 y hy
        refine ⟨k', e1, ?_⟩
        dsimp only
        rw [if_neg (fun e3 : k' = a => g2 y hy (by rw [e1, e3]))]
        exact e2
      · exact ⟨a, rfl, by simp⟩
    · by_cases hka : k = a
      · exact ⟨_, by rw [Array.toList_push, List.mem_append, List.mem_singleton]; exact .inr rfl, by rw [hka]⟩
      · dsimp only at hkk
        rw [if_neg hka] at hkk
        obtain ⟨y, hy, e⟩ := k2 k hkk
        exact ⟨y, by rw [Array.toList_push, List.mem_append]; exact .inl hy, e⟩
  · have := run_findKey (P := P) (w := w) hk g4
    have hj : es0[j]? = some x := by simpa using g1
    refine ⟨setBlock w b (.map (es0.modify j fun e => { e with key := .int q a, val := v }) clock0), ?_, ?_, ⟨rfl, rfl, rfl, by simp [setBlock], fun i _ hi => heap_setBlock_other hb _ (fun e => hi (by rw [e]))⟩, by simp [setBlock]⟩
    · have hst := run_keyThatStays (P := P) (w := w) (d := .int q) (k := .int q a) (by simp [IsKey])
      simp [Instr.mapUpdate, run_underlying ht, MapKept.run_getObj_map hb, hc, this, hj, g2, hst, MapKept.run_setObj_map _ hb, Result.andThen, setBlock]
    · refine ⟨_, _, heap_setBlock_same hb _, by simp; omega, stamped_modify hs j _ (fun _ _ => rfl) (fun y _ hy => by rw [hj] at hy; injection hy with hy; subst hy; exact g2.symm), fun y hy => ?_, fun k hkk => ?_⟩
      · obtain ⟨i, y0, hi, rfl⟩ := mem_modify_at hy
        by_cases hij : j = i
        · rw [if_pos hij]
          exact ⟨a, rfl, by simp⟩
        · rw [if_neg hij]
          obtain ⟨k', e1, e2⟩ := k1 y0 (List.mem_of_getElem? hi)
          refine ⟨k', e1, ?_⟩
          dsimp only
          rw [if_neg (fun e3 : k' = a => hij (stamped_keys hs g1 hi (by rw [g2, e1, e3])))]
          exact e2
      · have hmem : ∀ i y0, es0.toList[i]? = some y0 → (if j = i then { y0 with key := .int q a, val := v } else y0) ∈ (es0.modify j fun e => { e with key := .int q a, val := v }).toList := fun i y0 hi => by
          rw [List.mem_iff_getElem?]
          refine ⟨i, ?_⟩
          rw [Array.getElem?_toList, Array.getElem?_modify]
          have : es0[i]? = some y0 := by simpa using hi
          by_cases hij : j = i
          · rw [if_pos hij, if_pos hij, this]; rfl
          · rw [if_neg hij, if_neg hij, this]
        by_cases hka : k = a
        · exact ⟨_, hmem j x g1, by rw [if_pos rfl, hka]⟩
        · dsimp only at hkk
          rw [if_neg hka] at hkk
          obtain ⟨y, hy, e⟩ := k2 k hkk
          obtain ⟨i, hi⟩ := List.mem_iff_getElem?.1 hy
          refine ⟨_, hmem i y hi, ?_⟩
          by_cases hij : j = i
          · subst hij
            rw [g1] at hi
            injection hi with hi
            subst hi
            rw [g2] at e
            injection e with _ e
            exact absurd e.symm hka
          · rw [if_neg hij]; exact e
/-- 'len(m)'. -/
theorem Mp.len (h : Mp w b q n f) {t k e : TypeId} (ht : P.underlying t = some (.map k e)) (ty : TypeId) : ∃ m : Nat, (Builtin.len_ #[t] ty #[.map (some b)]).run P w = .ok (.int .i64 m) w ∧ m ≤ n ∧ (m = 0 ↔ ∀ k, f k = none) := by
  obtain ⟨es, clock, hb, hn, hs, h1, h2⟩ := h
  refine ⟨es.size, by simp [Builtin.len_, run_underlying ht, MapKept.run_getObj_map hb, goInt, Result.andThen], hn, fun h0 k => ?_, fun h0 => ?_⟩
  · cases hf : f k with
    | none => rfl
    | some v =>
      obtain ⟨x, hx, _⟩ := h2 k (by rw [hf]; simp)
      rw [Array.eq_empty_of_size_eq_zero h0] at hx
      simp at hx
  · rcases Nat.eq_zero_or_pos es.size with h' | h'
    · exact h'
    · obtain ⟨k, _, e⟩ := h1 es[0] (by simp)
      rw [h0 k] at e
      cases e
end
section
variable {P : Program} (w : World) {ops : Array Oper} {rest : List Oper} {o : Oper} {a : Act} {Q : Exit → Act → World → Prop}
theorem wpList_lookup_mp (hg : o.guard = none) (m x : Operand) (t : TypeId) (c : Bool) (hop : o.op = Op.lookup t m x c) (k e : TypeId) (q : IntKind) (ht : P.underlying t = some (.map k e)) (hk : P.underlying k = some (.int q)) {z : Value} (hz : (zeroValue e).run P w = .ok z w)
    (b n : Nat) (f : Int → Option Value) (hm : a.eval m = .map (some b)) (h : Mp w b q n f) (key : Int) (hx : a.eval x = .int q key)
    (hK : wpList P ops Q rest (a.put o.dst (if c then .tuple #[(f key).getD z, .bool (f key).isSome] else (f key).getD z)) w) :
    wpList P ops Q (o :: rest) a w := by
  refine wpList_plain hg fun K' hK' => ?_
  have hrun := h.lookup ht hk hz key c
  generalize hv : (if c then Value.tuple #[(f key).getD z, .bool (f key).isSome] else (f key).getD z) = v at hrun hK
  unfold Oper.wp
  simp [execOp, hop, hm, hx, hrun, Result.andThen]
  exact hK' _ _ hK
theorem wpList_mapUpdate_mp (hg : o.guard = none) (m x v : Operand) (t : TypeId) (hop : o.op = Op.mapUpdate t m x v) (k e : TypeId) (q : IntKind) (ht : P.underlying t = some (.map k e)) (hk : P.underlying k = some (.int q))
    (b n : Nat) (f : Int → Option Value) (hm : a.eval m = .map (some b)) (h : Mp w b q n f) (key : Int) (val : Value) (hx : a.eval x = .int q key) (hv : a.eval v = val)
    (hK : ∀ w', Mp w' b q (n + 1) (fun k => if k = key then some val else f k) → w.grownBy w' (some b) → w'.heap.size = w.heap.size → wpList P ops Q rest (a.put o.dst undef) w') :
    wpList P ops Q (o :: rest) a w := by
  refine wpList_plain hg fun K' hK' => ?_
  obtain ⟨w', hrun, r1, r2, r3⟩ := h.update ht hk key val
  unfold Oper.wp
  simp [execOp, hop, hm, hx, hv, hrun, Result.andThen]
  exact hK' _ _ (hK w' r1 r2 r3)
theorem wpList_len_mp (hg : o.guard = none) (m : Operand) (t : TypeId) (hop : o.op = Op.call { callee := Callee.builtin Builtin.len, args := #[m], argTypes := #[t] }) (k e : TypeId) (q : IntKind) (ht : P.underlying t = some (.map k e))
    (b n : Nat) (f : Int → Option Value) (hm : a.eval m = .map (some b)) (h : Mp w b q n f)
    (hK : ∀ m : Nat, m ≤ n → (m = 0 ↔ ∀ k, f k = none) → wpList P ops Q rest (a.put o.dst (.int .i64 m)) w) :
    wpList P ops Q (o :: rest) a w := by
  refine wpList_plain hg fun K' hK' => ?_
  obtain ⟨m, hrun, r1, r2⟩ := h.len ht o.type
  unfold Oper.wp
  simp [execOp, hop, resolve, invoke, builtin, hm, hrun, Result.andThen]
  exact hK' _ _ (hK m r1 r2)
end
end Go.Proofs.Ytloiadhdkgkjkaa
