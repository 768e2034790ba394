/- Maps with whole numbers as keys, of the call's own: what block b holds, as a function of the key; look-up, store, length, by their runs and at the operation. -/
import Derived.MapKept
import Derived.Maps.RangeRun
import Derived.Maps.Own
import Derived.Carry
import Derived.Test.YteoebfjhadmnbaaPSt1
import Derived.Test.YteoebfjhadmnbaaPSt2
import Derived.Test.YteoebfjhadmnbaaPSt3
import Derived.Test.YteoebfjhadmnbaaPSt5
namespace Go.Proofs.Yteoebfjhadmnbaa
open Go.RowKit Go.MapKept Go.ChangeMaps
set_option linter.unusedVariables false

/-- Block b is a map of at most n entries, whose keys are of kind q; f says what stands at each. -/
def Mp (w : World) (b : Nat) (q : IntKind) (n : Nat) (f : Int → Option Value) : Prop :=
  ∃ es clock, w.heap[b]? = some (.map es clock) ∧ es.size ≤ n ∧ Stamped es clock ∧ (∀ x ∈ es.toList, ∃ k, x.key = .int q k ∧ f k = some x.val) ∧ (∀ k, f k ≠ none → ∃ x ∈ es.toList, x.key = .int q k)
section
variable {P : Program} {w w' : World} {b n : Nat} {q : IntKind} {f : Int → Option Value}
theorem Mp.new (w : World) (q : IntKind) : Mp (w.alloc (.map #[] 0)) w.heap.size q 0 (fun _ => none) :=
  ⟨#[], 0, heap_alloc_new w _, by simp, stamped_empty 0, by simp, by simp⟩
theorem Mp.lt (h : Mp w b q n f) : b < w.heap.size := by
  obtain ⟨es, clock, h, _⟩ := h
  rcases Nat.lt_or_ge b w.heap.size with hl | hg
  · exact hl
  · rw [Array.getElem?_eq_none hg] at h; cases h
theorem Mp.keep (h : Mp w b q n f) (hk : w'.heap[b]? = w.heap[b]?) : Mp w' b q n f := by
  obtain ⟨es, clock, h, r⟩ := h
  exact ⟨es, clock, hk.trans h, r⟩
theorem Mp.alloc (h : Mp w b q n f) (o : Obj) : Mp (w.alloc o) b q n f := h.keep (Below.heap_alloc w o b h.lt)
theorem Mp.drewN (h : Mp w b q n f) (m : Nat) : Mp (w.drewN m) b q n f := h
theorem Mp.far (h : Mp w b q n f) {p : Addr} (hp : b ≠ p.block) (u : Value) : Mp (w.setCell p u) b q n f := h.keep (Below.heap_setCell w p u b hp)
theorem Mp.fr {F F' : Nat → Prop} (h : Mp w b q n f) (hf : Fr F w F' w') (hF : ¬ F b) : Mp w' b q n f := h.keep (hf.block b h.lt hF)
theorem Mp.mono (h : Mp w b q n f) {m : Nat} (hm : n ≤ m) : Mp w b q m f := by
  obtain ⟨es, clock, h, h2, r⟩ := h
  exact ⟨es, clock, h, by omega, r⟩
theorem Mp.congr {g : Int → Option Value} (h : Mp w b q n f) (hg : ∀ k, g k = f k) : Mp w b q n g := by
  obtain rfl : g = f := funext hg
  exact h
/-- It is no row of cells. -/
theorem Mp.ne_ {k : Nat} {t : TypeId} {cs : Array Value} (h : Mp w b q n f) (hb : Blk w k t cs) : b ≠ k := by
  rintro rfl
  obtain ⟨es, clock, h, _⟩ := h
  unfold Blk at hb
  rw [h] at hb
  cases hb
theorem Mp.ne_row {B : Nat} {e : TypeId} {size m : Nat} {v : Value} {xs : List Value} (h : Mp w b q n f) (hr : Rowv w B e size v m xs) : v.ownBlock ≠ some b := by
  rcases hr.2 with ⟨rfl, _⟩ | ⟨g, off, cap, cur, rfl, h2, h3, _⟩
  · exact fun h => nomatch h
  · intro hk
    obtain rfl : g = b := by simpa [Value.ownBlock] using hk
    obtain ⟨es, clock, h, _⟩ := h
    rw [h] at h3
    cases h3
theorem Mp.find (h : Mp w b q n f) (a : Int) : ∃ es clock, w.heap[b]? = some (.map es clock) ∧ es.size ≤ n ∧ Stamped es clock ∧ (∀ x ∈ es.toList, IsKey (.int q) x.key) ∧
    ((f a = none ∧ Instr.findNow (.int q) (.int q a) es.toList 0 = some none ∧ ∀ x ∈ es.toList, x.key ≠ .int q a) ∨ ∃ j x, es.toList[j]? = some x ∧ x.key = .int q a ∧ f a = some x.val ∧ Instr.findNow (.int q) (.int q a) es.toList 0 = some (some (j, x.val))) := by
  obtain ⟨es, clock, hb, hn, hs, h1, h2⟩ := h
  have hk : ∀ x ∈ es.toList, IsKey (.int q) x.key := fun x hx => by
    obtain ⟨k, e, _⟩ := h1 x hx
    rw [e]
    simp [IsKey]
  refine ⟨es, clock, hb, hn, hs, hk, ?_⟩
  rcases findNow_spec (d := .int q) (k := .int q a) (by simp [IsKey]) es.toList 0 hk with ⟨g1, g2⟩ | ⟨j, x, g1, g2, g3⟩
  · left
    refine ⟨?_, g1, g2⟩
    cases hf : f a with
    | none => rfl
    | some v =>
      obtain ⟨x, hx, e⟩ := h2 a (by rw [hf]; simp)
      exact absurd e (g2 x hx)
  · right
    obtain ⟨k, e, hf⟩ := h1 x (List.mem_of_getElem? g2)
    rw [g3] at e
    injection e with _ e
    subst e
    exact ⟨j, x, g2, g3, hf, by simpa using g1⟩
/-- 'm[k]', 'm[k], ok'. -/
theorem Mp.lookup (h : Mp w b q n f) {t k e : TypeId} (ht : P.underlying t = some (.map k e)) (hk : P.underlying k = some (.int q)) {z : Value} (hz : (zeroValue e).run P w = .ok z w) (a : Int) (c : Bool) :
    (Instr.lookup t (.map (some b)) (.int q a) c).run P w = .ok (if c then .tuple #[(f a).getD z, .bool (f a).isSome] else (f a).getD z) w := by
  obtain ⟨es, clock, hb, hn, hs, hks, hh⟩ := h.find a
  have hc : (Instr.checkKey es.isEmpty 10000 k (.int q a)).run P w = .ok () w := run_checkKey (k := .int q a) hk (by simp [IsKey]) _ 9999
  rcases hh with ⟨e0, g1, _⟩ | ⟨j, x, g1, g2, g3, g4⟩
  · have := run_findKey (P := P) (w := w) hk g1
    rw [e0]
    cases c <;> simp [Instr.lookup, run_underlying ht, MapKept.run_getObj_map hb, hc, this, hz, Result.andThen]
  · have := run_findKey (P := P) (w := w) hk g4
    rw [g3]
    cases c <;> simp [Instr.lookup, run_underlying ht, MapKept.run_getObj_map hb, hc, this, Result.andThen]
theorem mem_modify_at {es : Array MapEntry} {i : Nat} {g : MapEntry → MapEntry} {x : MapEntry} (hx : x ∈ (es.modify i g).toList) : ∃ j e, es.toList[j]? = some e ∧ x = if i = j then g e else e := by
  obtain ⟨j, hj⟩ := List.mem_iff_getElem?.1 hx
  rw [Array.getElem?_toList, Array.getElem?_modify] at hj
  by_cases hij : i = j
  · rw [if_pos hij] at hj
    cases he : es[j]? with
    | none => simp [he] at hj
    | some e => simp [he] at hj; exact ⟨j, e, by simpa using he, by rw [if_pos hij, hj]⟩
  · rw [if_neg hij] at hj
    exact ⟨j, x, by simpa using hj, by rw [if_neg hij]⟩
theorem stamped_keys {es : Array MapEntry} {clock : Nat} (h : Stamped es clock) {i j : Nat} {x y : MapEntry} (hi : es.toList[i]? = some x) (hj : es.toList[j]? = some y) (e : x.key = y.key) : i = j := by
  have hn := h.2.2
  have h1 : (es.toList.map (·.key))[i]? = some x.key := by rw [List.getElem?_map, hi]; rfl
  have h2 : (es.toList.map (·.key))[j]? = some y.key := by rw [List.getElem?_map, hj]; rfl
  have hl : i < (es.toList.map (·.key)).length := (List.getElem?_eq_some_iff.1 h1).1
  exact (List.getElem?_inj hl hn).1 (by rw [h1, h2, e])
/-- 'm[k] = v'. -/
theorem Mp.update (h : Mp w b q n f) {t k e : TypeId} (ht : P.underlying t = some (.map k e)) (hk : P.underlying k = some (.int q)) (a : Int) (v : Value) :
    ∃ w', (Instr.mapUpdate t (.map (some b)) (.int q a) v).run P w = .ok () w' ∧ Mp w' b q (n + 1) (fun k => if k = a then some v else f k) ∧ w.grownBy w' (some b) ∧ w'.heap.size = w.heap.size := by
  have h0 := h
  obtain ⟨es, clock, hb, hn, hs, hks, hh⟩ := h.find a
  obtain ⟨es0, clock0, hb0, _, _, k1, k2⟩ := h0
  obtain ⟨rfl, rfl⟩ : es0 = es ∧ clock0 = clock := by
    rw [hb] at hb0
    injection hb0 with hb0
    injection hb0 with e1 e2
    exact ⟨e1.symm, e2.symm⟩
  have hc : (Instr.checkKey false 10000 k (.int q a)).run P w = .ok () w := run_checkKey (k := .int q a) hk (by simp [IsKey]) _ 9999
  rcases hh with ⟨e0, g1, g2⟩ | ⟨j, x, g1, g2, g3, g4⟩
  · have := run_findKey (P := P) (w := w) hk g1
    refine ⟨setBlock w b (.map (es0.push { key := .int q a, val := v, born := clock0 }) (clock0 + 1)), by simp [Instr.mapUpdate, run_underlying ht, MapKept.run_getObj_map hb, hc, this, MapKept.run_setObj_map _ hb, Result.andThen, setBlock], ?_, ⟨rfl, rfl, rfl, by simp [setBlock], fun i _ hi => heap_setBlock_other hb _ (fun e => hi (by rw [e]))⟩, by simp [setBlock]⟩
    refine ⟨_, _, heap_setBlock_same hb _, by simp; omega, stamped_push hs g2, fun y hy => ?_, fun k hkk => ?_⟩
    · rw [Array.toList_push, List.mem_append, List.mem_singleton] at hy
      rcases hy with hy | rfl
      · obtain ⟨k', e1, e2⟩ := k1 y hy
        refine ⟨k', e1, ?_⟩
        dsimp only
        rw [if_neg (fun e3 : k' = a => g2 y hy (by rw [e1, e3]))]
        exact e2
      · exact ⟨a, rfl, by simp⟩
    · by_cases hka : k = a
      · exact ⟨_, by rw [Array.toList_push, List.mem_append, List.mem_singleton]; exact .inr rfl, by rw [hka]⟩
      · dsimp only at hkk
        rw [if_neg hka] at hkk
        obtain ⟨y, hy, e⟩ := k2 k hkk
        exact ⟨y, by rw [Array.toList_push, List.mem_append]; exact .inl hy, e⟩
  · have := run_findKey (P := P) (w := w) hk g4
    have hj : es0[j]? = some x := by simpa using g1
    refine ⟨setBlock w b (.map (es0.modify j fun e => { e with key := .int q a, val := v }) clock0), ?_, ?_, ⟨rfl, rfl, rfl, by simp [setBlock], fun i _ hi => heap_setBlock_other hb _ (fun e => hi (by rw [e]))⟩, by simp [setBlock]⟩
    · have hst := run_keyThatStays (P := P) (w := w) (d := .int q) (k := .int q a) (by simp [IsKey])
      simp [Instr.mapUpdate, run_underlying ht, MapKept.run_getObj_map hb, hc, this, hj, g2, hst, MapKept.run_setObj_map _ hb, Result.andThen, setBlock]
    · refine ⟨_, _, heap_setBlock_same hb _, by simp; omega, stamped_modify hs j _ (fun _ _ => rfl) (fun y _ hy => by rw [hj] at hy; injection hy with hy; subst hy; exact g2.symm), fun y hy => ?_, fun k hkk => ?_⟩
      · obtain ⟨i, y0, hi, rfl⟩ := mem_modify_at hy
        by_cases hij : j = i
        · rw [if_pos hij]
          exact ⟨a, rfl, by simp⟩
        · rw [if_neg hij]
          obtain ⟨k', e1, e2⟩ := k1 y0 (List.mem_of_getElem? hi)
          refine ⟨k', e1, ?_⟩
          dsimp only
          rw [if_neg (fun e3 : k' = a => hij (stamped_keys hs g1 hi (by rw [g2, e1, e3])))]
          exact e2
      · have hmem : ∀ i y0, es0.toList[i]? = some y0 → (if j = i then { y0 with key := .int q a, val := v } else y0) ∈ (es0.modify j fun e => { e with key := .int q a, val := v }).toList := fun i y0 hi => by
          rw [List.mem_iff_getElem?]
          refine ⟨i, ?_⟩
          rw [Array.getElem?_toList, Array.getElem?_modify]
          have : es0[i]? = some y0 := by simpa using hi
          by_cases hij : j = i
          · rw [if_pos hij, if_pos hij, this]; rfl
          · rw [if_neg hij, if_neg hij, this]
        by_cases hka : k = a
        · exact ⟨_, hmem j x g1, by rw [if_pos rfl, hka]⟩
        · dsimp only at hkk
          rw [if_neg hka] at hkk
          obtain ⟨y, hy, e⟩ := k2 k hkk
          obtain ⟨i, hi⟩ := List.mem_iff_getElem?.1 hy
          refine ⟨_, hmem i y hi, ?_⟩
          by_cases hij : j = i
          · subst hij
            rw [g1] at hi
            injection hi with hi
            subst hi
            rw [g2] at e
            injection e with _ e
            exact absurd e.symm hka
          · rw [if_neg hij]; exact e
/-- 'len(m)'. -/
theorem Mp.len (h : Mp w b q n f) {t k e : TypeId} (ht : P.underlying t = some (.map k e)) (ty : TypeId) : ∃ m : Nat, (Builtin.len_ #[t] ty #[.map (some b)]).run P w = .ok (.int .i64 m) w ∧ m ≤ n ∧ (m = 0 ↔ ∀ k, f k = none) := by
  obtain ⟨es, clock, hb, hn, hs, h1, h2⟩ := h
  refine ⟨es.size, by simp [Builtin.len_, run_underlying ht, MapKept.run_getObj_map hb, goInt, Result.andThen], hn, fun h0 k => ?_, fun h0 => ?_⟩
  · cases hf : f k with
    | none => rfl
    | some v =>
      obtain ⟨x, hx, _⟩ := h2 k (by rw [hf]; simp)
      rw [Array.eq_empty_of_size_eq_zero h0] at hx
      simp at hx
  · rcases Nat.eq_zero_or_pos es.size with h' | h'
    · exact h'
    · obtain ⟨k, _, e⟩ := h1 es[0] (by simp)
      rw [h0 k] at e
      cases e
end
section
variable {P : Program} (w : World) {ops : Array Oper} {rest : List Oper} {o : Oper} {a : Act} {Q : Exit → Act → World → Prop}
theorem wpList_lookup_mp (hg : o.guard = none) (m x : Operand) (t : TypeId) (c : Bool) (hop : o.op = Op.lookup t m x c) (k e : TypeId) (q : IntKind) (ht : P.underlying t = some (.map k e)) (hk : P.underlying k = some (.int q)) {z : Value} (hz : (zeroValue e).run P w = .ok z w)
    (b n : Nat) (f : Int → Option Value) (hm : a.eval m = .map (some b)) (h : Mp w b q n f) (key : Int) (hx : a.eval x = .int q key)
    (hK : wpList P ops Q rest (a.put o.dst (if c then .tuple #[(f key).getD z, .bool (f key).isSome] else (f key).getD z)) w) :
    wpList P ops Q (o :: rest) a w := by
  refine wpList_plain hg fun K' hK' => ?_
  have hrun := h.lookup ht hk hz key c
  generalize hv : (if c then Value.tuple #[(f key).getD z, .bool (f key).isSome] else (f key).getD z) = v at hrun hK
  unfold Oper.wp
  simp [execOp, hop, hm, hx, hrun, Result.andThen]
  exact hK' _ _ hK
theorem wpList_mapUpdate_mp (hg : o.guard = none) (m x v : Operand) (t : TypeId) (hop : o.op = Op.mapUpdate t m x v) (k e : TypeId) (q : IntKind) (ht : P.underlying t = some (.map k e)) (hk : P.underlying k = some (.int q))
    (b n : Nat) (f : Int → Option Value) (hm : a.eval m = .map (some b)) (h : Mp w b q n f) (key : Int) (val : Value) (hx : a.eval x = .int q key) (hv : a.eval v = val)
    (hK : ∀ w', Mp w' b q (n + 1) (fun k => if k = key then some val else f k) → w.grownBy w' (some b) → w'.heap.size = w.heap.size → wpList P ops Q rest (a.put o.dst undef) w') :
    wpList P ops Q (o :: rest) a w := by
  refine wpList_plain hg fun K' hK' => ?_
  obtain ⟨w', hrun, r1, r2, r3⟩ := h.update ht hk key val
  unfold Oper.wp
  simp [execOp, hop, hm, hx, hv, hrun, Result.andThen]
  exact hK' _ _ (hK w' r1 r2 r3)
theorem wpList_len_mp (hg : o.guard = none) (m : Operand) (t : TypeId) (hop : o.op = Op.call { callee := Callee.builtin Builtin.len, args := #[m], argTypes := #[t] }) (k e : TypeId) (q : IntKind) (ht : P.underlying t = some (.map k e))
    (b n : Nat) (f : Int → Option Value) (hm : a.eval m = .map (some b)) (h : Mp w b q n f)
    (hK : ∀ m : Nat, m ≤ n → (m = 0 ↔ ∀ k, f k = none) → wpList P ops Q rest (a.put o.dst (.int .i64 m)) w) :
    wpList P ops Q (o :: rest) a w := by
  refine wpList_plain hg fun K' hK' => ?_
  obtain ⟨m, hrun, r1, r2⟩ := h.len ht o.type
  unfold Oper.wp
  simp [execOp, hop, resolve, invoke, builtin, hm, hrun, Result.andThen]
  exact hK' _ _ (hK m r1 r2)
end
end Go.Proofs.Yteoebfjhadmnbaa
/- The look over a history in memory. -/
namespace Go.Proofs.Yteoebfjhadmnbaa
open Go.RowKit
set_option maxHeartbeats 4000000
set_option linter.unusedVariables false
set_option linter.unusedSimpArgs false

/-- n cells, as a function of their place. -/
def ofF (n : Nat) (g : Nat → Value) : Array Value := ((List.range n).map g).toArray
theorem ofF_get {n i : Nat} {g : Nat → Value} (h : i < n) : (ofF n g)[i]? = some (g i) := by simp [ofF, h]
theorem ofF_size (n : Nat) (g : Nat → Value) : (ofF n g).size = n := by simp [ofF]
theorem ofF_congr {n : Nat} {g g' : Nat → Value} (h : ∀ j, j < n → g j = g' j) : ofF n g = ofF n g' := by
  unfold ofF
  congr 1
  exact List.map_congr_left fun j hj => h j (List.mem_range.1 hj)
theorem ofF_set (n i : Nat) (g : Nat → Value) (v : Value) : (ofF n g).setIfInBounds i v = ofF n (fun j => if j = i then v else g j) := by
  apply Array.ext_getElem?
  intro j
  rw [Array.getElem?_setIfInBounds, ofF_size]
  by_cases hj : j < n
  · rw [ofF_get hj, ofF_get hj]
    by_cases hij : i = j
    · subst hij
      simp [hj]
    · rw [if_neg hij, if_neg (fun h => hij h.symm)]
  · rw [Array.getElem?_eq_none (by rw [ofF_size]; omega), Array.getElem?_eq_none (by rw [ofF_size]; omega)]
    split <;> simp_all
theorem Blk.fcell {w : World} {b n i : Nat} {t : TypeId} {g : Nat → Value} (h : Blk w b t (ofF n g)) (hi : i < n) : w.cell? ⟨b, i, none⟩ = some (g i) := by rw [h.cell, ofF_get hi]
theorem Blk.fset {w : World} {b n : Nat} {t : TypeId} {g : Nat → Value} (h : Blk w b t (ofF n g)) (i : Nat) (v : Value) : Blk (w.setCell ⟨b, i, none⟩ v) b t (ofF n (fun j => if j = i then v else g j)) := by
  rw [← ofF_set]
  exact h.set_ i v
theorem Blk.fcongr {w : World} {b n : Nat} {t : TypeId} {g g' : Nat → Value} (h : Blk w b t (ofF n g)) (hg : ∀ j, j < n → g j = g' j) : Blk w b t (ofF n g') := by
  rw [← ofF_congr hg]
  exact h

def thv (t : Th) (m : Option Nat) (j : Nat) : Value := if j = 0 then .int .i64 t.how else if j = 1 then .int .u64 t.sn else if j = 2 then .map m else .int .i64 t.tr
def gL (s : St) (m : Nat → Option Nat) (tv : Value) (i : Nat) : Value :=
  if i < 52 then .int .i64 (tb (i / 13) ((i % 13 : Nat) : Int))
  else if i < 84 then thv (s.th ((i - 52) / 4)) (m ((i - 52) / 4)) ((i - 52) % 4)
  else if i = 84 then .int .u64 s.num else if i = 85 then .int .i64 s.hold else tv
section
variable {s : St} {m : Nat → Option Nat} {tv : Value} {t : Nat}
theorem gL_tb {h k : Nat} (hh : h < 4) (hk : k < 13) : gL s m tv (h * 13 + k) = .int .i64 (tb h k) := by
  unfold gL
  rw [if_pos (by omega), show (h * 13 + k) / 13 = h by omega, show (h * 13 + k) % 13 = k by omega]
theorem gL_how (ht : t < 8) : gL s m tv (52 + t * 4) = .int .i64 (s.th t).how := by
  unfold gL
  rw [if_neg (by omega), if_pos (by omega), show (52 + t * 4 - 52) / 4 = t by omega, show (52 + t * 4 - 52) % 4 = 0 by omega]
  rfl
theorem gL_sn (ht : t < 8) : gL s m tv (52 + t * 4 + 1) = .int .u64 (s.th t).sn := by
  unfold gL
  rw [if_neg (by omega), if_pos (by omega), show (52 + t * 4 + 1 - 52) / 4 = t by omega, show (52 + t * 4 + 1 - 52) % 4 = 1 by omega]
  rfl
theorem gL_ws (ht : t < 8) : gL s m tv (52 + t * 4 + 2) = .map (m t) := by
  unfold gL
  rw [if_neg (by omega), if_pos (by omega), show (52 + t * 4 + 2 - 52) / 4 = t by omega, show (52 + t * 4 + 2 - 52) % 4 = 2 by omega]
  rfl
theorem gL_tr (ht : t < 8) : gL s m tv (52 + t * 4 + 3) = .int .i64 (s.th t).tr := by
  unfold gL
  rw [if_neg (by omega), if_pos (by omega), show (52 + t * 4 + 3 - 52) / 4 = t by omega, show (52 + t * 4 + 3 - 52) % 4 = 3 by omega]
  rfl
end
/-- What a map of an attempt's writes holds. -/
def wfun (l : List (Int × Int)) (k : Int) : Option Value := (written l k).map (.int .u64)
def liveT (t : Th) : Prop := t.how = 1 ∨ t.how = 2
def encT (x : Tr) : List Value := [.int .i64 x.th, .int .i64 x.first, .int .i64 x.last, .int .u64 x.sn, .int .i64 x.how, .int .i64 x.rd, .int .i64 x.wr]
theorem encT_len (x : Tr) : (encT x).length = 7 := rfl
theorem encT_one (x : Tr) : ∀ u ∈ encT x, u.oneCell' = true := by
  intro u hu
  simp only [encT, List.mem_cons, List.not_mem_nil, or_false] at hu
  rcases hu with rfl | rfl | rfl | rfl | rfl | rfl | rfl <;> rfl
/-- What stands in memory is the look s; B: nothing of it lies below. -/
structure LookW (B : Nat) (w : World) (b : Nat) (s : St) (n : Nat) (m : Nat → Option Nat) (tv : Value) : Prop where
  blk : Blk w b 95 (ofF 87 (gL s m tv))
  tries : Sl 74 7 encT w tv s.tries
  maps : ∀ t, t < 8 → liveT (s.th t) → ∃ mb, m t = some mb ∧ B ≤ mb ∧ Mp w mb .u64 n (wfun (s.th t).ws)
  apart : ∀ t t', t < 8 → t' < 8 → liveT (s.th t) → liveT (s.th t') → t ≠ t' → m t ≠ m t'
  geb : B ≤ b
  get : ∀ k, own tv k → B ≤ k
/-- Bounds of a look's numbers. -/
structure StBd (s : St) (n : Nat) : Prop where
  num : 0 ≤ s.num ∧ s.num ≤ n
  hold : -1 ≤ s.hold ∧ s.hold < 8
  how : ∀ t, (s.th t).how < 4
  sn : ∀ t, 0 ≤ (s.th t).sn ∧ (s.th t).sn ≤ 18446744073709551615
  tr : ∀ t, liveT (s.th t) → (s.th t).tr < s.tries.length
  len : s.tries.length ≤ n
  cnt : ∀ x ∈ s.tries, x.rd ≤ n ∧ x.wr ≤ n
theorem LookW.keep {B : Nat} {w w' : World} {b : Nat} {s : St} {n : Nat} {m : Nat → Option Nat} {tv : Value} (h : LookW B w b s n m tv) (hk : ∀ k, B ≤ k → k < w.heap.size → w'.heap[k]? = w.heap[k]?) : LookW B w' b s n m tv where
  blk := (hk b h.geb h.blk.lt).trans h.blk
  tries := h.tries.keep fun k hk' => hk k (h.get k hk') (h.tries.lt k hk')
  maps := fun t ht hl => let ⟨mb, h1, h2, h3⟩ := h.maps t ht hl; ⟨mb, h1, h2, h3.keep (hk mb h2 h3.lt)⟩
  apart := h.apart
  geb := h.geb
  get := h.get
theorem LookW.below {B : Nat} {w w' : World} {b : Nat} {s : St} {n : Nat} {m : Nat → Option Nat} {tv : Value} (h : LookW B w b s n m tv) (hb : Below w.heap.size w w') : LookW B w' b s n m tv := h.keep fun k _ hk => hb.block k hk
end Go.Proofs.Yteoebfjhadmnbaa
/- The look over a history in memory: one store at a time. -/
namespace Go.Proofs.Yteoebfjhadmnbaa
open Go.RowKit
set_option maxHeartbeats 4000000
set_option linter.unusedVariables false
set_option linter.unusedSimpArgs false

def St.setT (s : St) (t : Nat) (x : Th) : St := ⟨fun k => if k = t then x else s.th k, s.num, s.hold, s.tries⟩
def St.setL (s : St) (l : List Tr) : St := ⟨s.th, s.num, s.hold, l⟩
def St.setN (s : St) (a : Int) : St := ⟨s.th, a, s.hold, s.tries⟩
def St.setH (s : St) (a : Int) : St := ⟨s.th, s.num, a, s.tries⟩
theorem St.setT_at (s : St) (t : Nat) (x : Th) : (s.setT t x).th t = x := by simp [St.setT]
theorem St.setT_ne (s : St) {t k : Nat} (x : Th) (h : k ≠ t) : (s.setT t x).th k = s.th k := by simp [St.setT, h]
theorem gL_th {s : St} {m m' : Nat → Option Nat} {tv : Value} {t c : Nat} {v : Value} {x : Th} (ht : t < 8) (hc : c < 4) (hm : ∀ k, k ≠ t → m' k = m k) (h1 : thv x (m' t) c = v) (h2 : ∀ d, d < 4 → d ≠ c → thv x (m' t) d = thv (s.th t) (m t) d) :
    ∀ j, j < 87 → (if j = 52 + t * 4 + c then v else gL s m tv j) = gL (s.setT t x) m' tv j := by
  intro j hj
  unfold gL St.setT
  dsimp only
  by_cases h52 : j < 52
  · rw [if_neg (by omega), if_pos h52, if_pos h52]
  rw [if_neg h52, if_neg h52]
  by_cases h84 : j < 84
  · rw [if_pos h84, if_pos h84]
    by_cases hq : (j - 52) / 4 = t
    · rw [if_pos hq, hq]
      by_cases hr : (j - 52) % 4 = c
      · rw [if_pos (by omega), hr, h1]
      · rw [if_neg (by omega), h2 _ (by omega) hr]
    · rw [if_neg (by omega), if_neg hq, hm _ hq]
  · rw [if_neg (by omega), if_neg h84, if_neg h84]
section
variable {B b n : Nat} {w : World} {s : St} {m : Nat → Option Nat} {tv : Value}
theorem LookW.ne_tries (h : LookW B w b s n m tv) : ¬ own tv b := h.tries.ne_ h.blk (by decide)
theorem LookW.mono (h : LookW B w b s n m tv) {n' : Nat} (hn : n ≤ n') : LookW B w b s n' m tv :=
  ⟨h.blk, h.tries, fun t ht hl => let ⟨mb, a, b, c⟩ := h.maps t ht hl; ⟨mb, a, b, c.mono hn⟩, h.apart, h.geb, h.get⟩
theorem LookW.alloc (h : LookW B w b s n m tv) (o : Obj) : LookW B (w.alloc o) b s n m tv := h.keep fun k _ hk => Below.heap_alloc w o k hk
theorem LookW.drewN (h : LookW B w b s n m tv) (j : Nat) : LookW B (w.drewN j) b s n m tv := h.keep fun _ _ _ => rfl
/-- A store into the look itself that turns no map's place. -/
theorem LookW.setB (h : LookW B w b s n m tv) (i : Nat) (v : Value) {s' : St} (hg : ∀ j, j < 87 → (if j = i then v else gL s m tv j) = gL s' m tv j) (htr : s'.tries = s.tries)
    (hm : ∀ t, t < 8 → liveT (s'.th t) → ∃ mb, m t = some mb ∧ B ≤ mb ∧ Mp w mb .u64 n (wfun (s'.th t).ws)) (ha : ∀ t t', t < 8 → t' < 8 → liveT (s'.th t) → liveT (s'.th t') → t ≠ t' → m t ≠ m t') : LookW B (w.setCell ⟨b, i, none⟩ v) b s' n m tv where
  blk := (h.blk.fset i v).fcongr hg
  tries := by rw [htr]; exact h.tries.set h.ne_tries v
  maps := fun t ht hl => let ⟨mb, a, b', c⟩ := hm t ht hl; ⟨mb, a, b', c.far (c.ne_ h.blk) v⟩
  apart := ha
  geb := h.geb
  get := h.get
theorem LookW.setSn (h : LookW B w b s n m tv) {t : Nat} (ht : t < 8) (x : Int) : LookW B (w.setCell ⟨b, 52 + t * 4 + 1, none⟩ (.int .u64 x)) b (s.setT t ⟨(s.th t).how, x, (s.th t).ws, (s.th t).tr⟩) n m tv := by
  have e : ∀ k, ((s.setT t ⟨(s.th t).how, x, (s.th t).ws, (s.th t).tr⟩).th k).how = (s.th k).how ∧ ((s.setT t ⟨(s.th t).how, x, (s.th t).ws, (s.th t).tr⟩).th k).ws = (s.th k).ws := fun k => by
    by_cases hk : k = t
    · subst hk; rw [St.setT_at]; exact ⟨rfl, rfl⟩
    · rw [St.setT_ne _ _ hk]; exact ⟨rfl, rfl⟩
  refine h.setB _ _ (gL_th ht (by decide) (fun _ _ => rfl) rfl fun d hd hne => ?_) rfl (fun t' ht' hl => ?_) fun t1 t2 h1 h2 l1 l2 hne => ?_
  · unfold thv; rw [if_neg hne, if_neg hne]
  · rw [(e t').2]
    exact h.maps t' ht' (by unfold liveT at *; rwa [(e t').1] at hl)
  · exact h.apart t1 t2 h1 h2 (by unfold liveT at *; rwa [(e t1).1] at l1) (by unfold liveT at *; rwa [(e t2).1] at l2) hne
theorem LookW.setTr (h : LookW B w b s n m tv) {t : Nat} (ht : t < 8) (x : Nat) : LookW B (w.setCell ⟨b, 52 + t * 4 + 3, none⟩ (.int .i64 x)) b (s.setT t ⟨(s.th t).how, (s.th t).sn, (s.th t).ws, x⟩) n m tv := by
  have e : ∀ k, ((s.setT t ⟨(s.th t).how, (s.th t).sn, (s.th t).ws, x⟩).th k).how = (s.th k).how ∧ ((s.setT t ⟨(s.th t).how, (s.th t).sn, (s.th t).ws, x⟩).th k).ws = (s.th k).ws := fun k => by
    by_cases hk : k = t
    · subst hk; rw [St.setT_at]; exact ⟨rfl, rfl⟩
    · rw [St.setT_ne _ _ hk]; exact ⟨rfl, rfl⟩
  refine h.setB _ _ (gL_th ht (by decide) (fun _ _ => rfl) rfl fun d hd hne => ?_) rfl (fun t' ht' hl => ?_) fun t1 t2 h1 h2 l1 l2 hne => ?_
  · unfold thv
    obtain rfl | rfl | rfl : d = 0 ∨ d = 1 ∨ d = 2 := by omega
    all_goals rfl
  · rw [(e t').2]
    exact h.maps t' ht' (by unfold liveT at *; rwa [(e t').1] at hl)
  · exact h.apart t1 t2 h1 h2 (by unfold liveT at *; rwa [(e t1).1] at l1) (by unfold liveT at *; rwa [(e t2).1] at l2) hne
/-- How the thread is turns; where it lives then, its map is there. -/
theorem LookW.setHow (h : LookW B w b s n m tv) {t : Nat} (ht : t < 8) (x : Nat) (hl : x = 1 ∨ x = 2 → (∃ mb, m t = some mb ∧ B ≤ mb ∧ Mp w mb .u64 n (wfun (s.th t).ws)) ∧ ∀ k, k < 8 → k ≠ t → liveT (s.th k) → m k ≠ m t) :
    LookW B (w.setCell ⟨b, 52 + t * 4, none⟩ (.int .i64 x)) b (s.setT t ⟨x, (s.th t).sn, (s.th t).ws, (s.th t).tr⟩) n m tv := by
  refine h.setB _ _ (gL_th (c := 0) ht (by decide) (fun _ _ => rfl) rfl fun d hd hne => ?_) rfl (fun t' ht' hl' => ?_) fun t1 t2 h1 h2 l1 l2 hne => ?_
  · unfold thv
    obtain rfl | rfl | rfl : d = 1 ∨ d = 2 ∨ d = 3 := by omega
    all_goals rfl
  · by_cases hk : t' = t
    · subst hk
      rw [St.setT_at] at hl' ⊢
      exact (hl hl').1
    · rw [St.setT_ne _ _ hk] at hl' ⊢
      exact h.maps t' ht' hl'
  · by_cases k1 : t1 = t
    · subst k1
      rw [St.setT_at] at l1
      rw [St.setT_ne _ _ (Ne.symm hne)] at l2
      exact ((hl l1).2 t2 h2 (Ne.symm hne) l2).symm
    · rw [St.setT_ne _ _ k1] at l1
      by_cases k2 : t2 = t
      · subst k2
        rw [St.setT_at] at l2
        exact (hl l2).2 t1 h1 k1 l1
      · rw [St.setT_ne _ _ k2] at l2
        exact h.apart t1 t2 h1 h2 l1 l2 hne
/-- A new map of writes, of a thread that does not live yet. -/
theorem LookW.setWs (h : LookW B w b s n m tv) {t : Nat} (ht : t < 8) (hnl : ¬ liveT (s.th t)) (x : Option Nat) (ws : List (Int × Int)) : LookW B (w.setCell ⟨b, 52 + t * 4 + 2, none⟩ (.map x)) b (s.setT t ⟨(s.th t).how, (s.th t).sn, ws, (s.th t).tr⟩) n (fun k => if k = t then x else m k) tv where
  blk := (h.blk.fset _ _).fcongr (gL_th ht (by decide) (fun k hk => by rw [if_neg hk]) (by simp [thv]) fun d hd hne => by
    unfold thv
    obtain rfl | rfl | rfl : d = 0 ∨ d = 1 ∨ d = 3 := by omega
    all_goals rfl)
  tries := h.tries.set h.ne_tries _
  maps := fun t' ht' hl => by
    by_cases hk : t' = t
    · subst hk
      rw [St.setT_at] at hl
      exact absurd hl hnl
    · rw [St.setT_ne _ _ hk] at hl ⊢
      obtain ⟨mb, a, b', c⟩ := h.maps t' ht' hl
      exact ⟨mb, by rw [if_neg hk]; exact a, b', c.far (c.ne_ h.blk) _⟩
  apart := fun t1 t2 h1 h2 l1 l2 hne => by
    have n1 : t1 ≠ t := fun e => by subst e; rw [St.setT_at] at l1; exact hnl l1
    have n2 : t2 ≠ t := fun e => by subst e; rw [St.setT_at] at l2; exact hnl l2
    rw [St.setT_ne _ _ n1] at l1
    rw [St.setT_ne _ _ n2] at l2
    rw [if_neg n1, if_neg n2]
    exact h.apart t1 t2 h1 h2 l1 l2 hne
  geb := h.geb
  get := h.get
theorem LookW.setNum (h : LookW B w b s n m tv) (x : Int) : LookW B (w.setCell ⟨b, 84, none⟩ (.int .u64 x)) b (s.setN x) n m tv :=
  h.setB _ _ (fun j hj => by
    unfold gL St.setN
    dsimp only
    by_cases e : j = 84
    · subst e; rfl
    · rw [if_neg e]
      simp [e]) rfl h.maps h.apart
theorem LookW.setHold (h : LookW B w b s n m tv) (x : Int) : LookW B (w.setCell ⟨b, 85, none⟩ (.int .i64 x)) b (s.setH x) n m tv :=
  h.setB _ _ (fun j hj => by
    unfold gL St.setH
    dsimp only
    by_cases e : j = 85
    · subst e; rfl
    · rw [if_neg e]
      simp [e]) rfl h.maps h.apart
/-- The slice of attempts turns. -/
theorem LookW.setTv (h : LookW B w b s n m tv) {tv' : Value} {l : List Tr} (hS : Sl 74 7 encT w tv' l) (hB : ∀ k, own tv' k → B ≤ k) : LookW B (w.setCell ⟨b, 86, none⟩ tv') b (s.setL l) n m tv' where
  blk := (h.blk.fset _ _).fcongr fun j hj => by
    unfold gL St.setL
    dsimp only
    by_cases e : j = 86
    · subst e; rfl
    · rw [if_neg e]
      repeat' split
      all_goals first | rfl | omega
  tries := hS.set (hS.ne_ h.blk (by decide)) _
  maps := fun t ht hl => let ⟨mb, a, b', c⟩ := h.maps t ht hl; ⟨mb, a, b', c.far (c.ne_ h.blk) _⟩
  apart := h.apart
  geb := h.geb
  get := hB
/-- A store into an attempt. -/
theorem LookW.setX {g off len cap tr : Nat} (h : LookW B w b s n m (.slice (some ⟨g, off, none⟩) len cap)) (hi : tr < s.tries.length) {j : Nat} (hj : j < 7) (u : Value) (x' : Tr) (hx : encT x' = (encT (s.tries[tr]'hi)).set j u) :
    LookW B (w.setCell ⟨g, off + tr * 7 + j, none⟩ u) b (s.setL (s.tries.set tr x')) n m (.slice (some ⟨g, off, none⟩) len cap) where
  blk := by
    have hne := h.ne_tries
    exact (h.blk.far (p := ⟨g, off + tr * 7 + j, none⟩) (fun e => hne (by simp [own, Value.ownBlock, e])) u).fcongr fun j _ => rfl
  tries := by
    have := h.tries.upd encT_len hi hj u x' hx
    rw [Nat.add_assoc]
    exact this
  maps := fun t ht hl => by
    obtain ⟨mb, a, b', c⟩ := h.maps t ht hl
    refine ⟨mb, a, b', c.far (fun e => c.ne_row h.tries ?_) u⟩
    simp [Value.ownBlock, e]
  apart := h.apart
  geb := h.geb
  get := h.get
theorem LookW.c_x {g off len cap tr : Nat} (h : LookW B w b s n m (.slice (some ⟨g, off, none⟩) len cap)) (hi : tr < s.tries.length) {j : Nat} (hj : j < 7) : w.cell? ⟨g, off + tr * 7 + j, none⟩ = (encT (s.tries[tr]'hi))[j]? ∧ w.frozen? ⟨g, off + tr * 7 + j, none⟩ = false := by
  obtain ⟨g', off', e, _, hc⟩ := h.tries.cell encT_len (by decide) hi
  injection e with e
  injection e with e1 e2
  subst e1 e2
  rw [Nat.add_assoc]
  exact hc tr hi j hj
section
variable {t : Nat} {x : Th}
theorem LookW.c_how (h : LookW B w b s n m tv) (ht : t < 8) (hx : s.th t = x) : w.cell? ⟨b, 52 + t * 4, none⟩ = some (.int .i64 x.how) := (h.blk.fcell (by omega)).trans (by rw [gL_how ht, hx])
theorem LookW.c_sn (h : LookW B w b s n m tv) (ht : t < 8) (hx : s.th t = x) : w.cell? ⟨b, 52 + t * 4 + 1, none⟩ = some (.int .u64 x.sn) := (h.blk.fcell (by omega)).trans (by rw [gL_sn ht, hx])
theorem LookW.c_ws (h : LookW B w b s n m tv) (ht : t < 8) {mp : Option Nat} (hx : m t = mp) : w.cell? ⟨b, 52 + t * 4 + 2, none⟩ = some (.map mp) := (h.blk.fcell (by omega)).trans (by rw [gL_ws ht, hx])
theorem LookW.c_tr (h : LookW B w b s n m tv) (ht : t < 8) (hx : s.th t = x) : w.cell? ⟨b, 52 + t * 4 + 3, none⟩ = some (.int .i64 x.tr) := (h.blk.fcell (by omega)).trans (by rw [gL_tr ht, hx])
theorem LookW.c_num (h : LookW B w b s n m tv) : w.cell? ⟨b, 84, none⟩ = some (.int .u64 s.num) := h.blk.fcell (i := 84) (by omega)
theorem LookW.c_hold (h : LookW B w b s n m tv) : w.cell? ⟨b, 85, none⟩ = some (.int .i64 s.hold) := h.blk.fcell (i := 85) (by omega)
theorem LookW.c_tv (h : LookW B w b s n m tv) : w.cell? ⟨b, 86, none⟩ = some tv := h.blk.fcell (i := 86) (by omega)
theorem LookW.c_tb (h : LookW B w b s n m tv) {i hw k a : Nat} (hh : hw < 4) (hk : k < 13) (hi : i = hw * 13 + k) (ha : tb hw k = a) : w.cell? ⟨b, i, none⟩ = some (.int .i64 a) := by
  subst hi
  exact (h.blk.fcell (by omega)).trans (by rw [gL_tb hh hk, ha])
theorem LookW.fz (h : LookW B w b s n m tv) (i : Nat) : w.frozen? ⟨b, i, none⟩ = false := h.blk.frozen i
end
/-- A write laid into its map. -/
theorem LookW.put {w' : World} {t mb : Nat} (h : LookW B w b s n m tv) (ht : t < 8) (hl : liveT (s.th t)) (hm : m t = some mb) (hg : w.grownBy w' (some mb)) {ad wd : Int} (hM : Mp w' mb .u64 (n + 1) (fun k => if k = ad then some (.int .u64 wd) else wfun (s.th t).ws k)) :
    LookW B w' b (s.setT t ⟨(s.th t).how, (s.th t).sn, (s.th t).ws ++ [(ad, wd)], (s.th t).tr⟩) (n + 1) m tv := by
  obtain ⟨mb', hm', hB', hM'⟩ := h.maps t ht hl
  obtain rfl : mb' = mb := by rw [hm] at hm'; injection hm' with e; exact e.symm
  have hnb := hM'.ne_ h.blk
  have e : ∀ k, ((s.setT t ⟨(s.th t).how, (s.th t).sn, (s.th t).ws ++ [(ad, wd)], (s.th t).tr⟩).th k).how = (s.th k).how := fun k => by
    by_cases hk : k = t
    · subst hk; rw [St.setT_at]
    · rw [St.setT_ne _ _ hk]
  refine ⟨?_, ?_, fun t' ht' hl' => ?_, fun t1 t2 h1 h2 l1 l2 hne => ?_, h.geb, h.get⟩
  · refine (h.blk.grown hg (fun e => hnb (by injection e with e; exact e.symm))).fcongr fun j hj => ?_
    unfold gL St.setT
    dsimp only
    by_cases hq : (j - 52) / 4 = t
    · rw [if_pos hq, hq]
      have : thv ⟨(s.th t).how, (s.th t).sn, (s.th t).ws ++ [(ad, wd)], (s.th t).tr⟩ (m t) ((j - 52) % 4) = thv (s.th t) (m t) ((j - 52) % 4) := rfl
      rw [this]
    · rw [if_neg hq]
  · exact h.tries.keep fun k hk => hg.block k (h.tries.lt k hk) fun e => by
      injection e with e
      subst e
      exact hM'.ne_row h.tries hk
  · by_cases hk : t' = t
    · subst hk
      refine ⟨mb', hm, hB', hM.congr fun k => ?_⟩
      rw [St.setT_at]
      unfold wfun
      dsimp only
      rw [written_snoc]
      by_cases hka : k = ad
      · rw [if_pos hka.symm, if_pos hka]; rfl
      · rw [if_neg (fun e => hka e.symm), if_neg hka]
    · have hl2 : liveT (s.th t') := by unfold liveT at *; rwa [e t'] at hl'
      obtain ⟨mb2, a2, b2, c2⟩ := h.maps t' ht' hl2
      rw [St.setT_ne _ _ hk]
      refine ⟨mb2, a2, b2, (c2.keep (hg.block mb2 c2.lt fun e => ?_)).mono (by omega)⟩
      injection e with e
      subst e
      exact h.apart t' t ht' ht hl2 hl hk (by rw [a2, hm])
  · exact h.apart t1 t2 h1 h2 (by unfold liveT at *; rwa [e t1] at l1) (by unfold liveT at *; rwa [e t2] at l2) hne
end
theorem modify_set {α : Type} (f : α → α) : ∀ (l : List α) (i : Nat) (h : i < l.length), l.modify i f = l.set i (f (l[i]'h))
  | x :: l, 0, h => by simp
  | x :: l, i + 1, h => by
    rw [List.modify_succ_cons, modify_set f l i (by simpa using h)]
    rfl
theorem take_in {s : St} {t i : Nat} {e : Ev} {T : Th} (hth : s.th t = T) (hx : T.tr < s.tries.length) (hne : T.how ≠ 0) (hk : e.kd ≠ 1) (he : e.th = (t : Int)) :
    take s i e = ⟨fun j => if j = t then tkT T e s.tries.length else s.th j, if e.kd = 6 ∧ T.how = 2 then e.wd else s.num, if e.kd = 5 then e.th else if e.kd = 6 ∧ T.how = 2 then -1 else s.hold, s.tries.set T.tr (updT (s.tries[T.tr]'hx) i e)⟩ := by
  unfold take
  dsimp only
  rw [he, Int.toNat_natCast, hth, if_pos (show T.how ≠ 0 ∨ e.kd = 1 from .inl hne)]
  have e1 : (tkT T e s.tries.length).tr = T.tr := by unfold tkT; simp [hk]
  rw [if_neg hk, e1, modify_set _ _ _ hx]
end Go.Proofs.Yteoebfjhadmnbaa
/- (*events.look).take by contract: kind by kind (printed by ev/mktake.py). -/
namespace Go.Proofs.Yteoebfjhadmnbaa
open Go.RowKit
set_option maxHeartbeats 4000000
set_option linter.unusedVariables false
set_option linter.unusedSimpArgs false
section
variable {B b n : Nat} {w : World} {s : St} {m : Nat → Option Nat} {tv : Value}
set_option maxRecDepth 100000 in
theorem take_loaded (h : LookW B w b s n m tv) (hBw : B ≤ w.heap.size) (hs : StBd s n) (hn : n ≤ 1152921504606846976) {t i : Nat} {ad wd er : Int} {ow : Bool} (ht : t < 8) {sn : Int} {ws : List (Int × Int)} {tr : Nat} (hth : s.th t = ⟨0, sn, ws, tr⟩) :
    Calls Try.prog 57 #[.pointer (some ⟨b, 0, none⟩), .int .i64 i, evV ⟨t, 10, ad, wd, ow, er⟩] w fun x w' => x = .returned (.tuple #[]) ∧ Below B w w' ∧ ∃ m' tv', LookW B w' b (take s i ⟨t, 10, ad, wd, ow, er⟩) (n + 1) m' tv' := by
  have hb1 : Hid (Below B w (w.alloc (.cells #[.int .i64 t, .int .i64 10, .int .u64 ad, .int .u64 wd, .bool ow, .int .i64 er] 27))) := Lib.hid ((Below.refl _ w).alloc hBw _)
  have hL1 := h.alloc (.cells #[.int .i64 t, .int .i64 10, .int .u64 ad, .int .u64 wd, .bool ow, .int .i64 er] 27)
  have hE1 := Blk.new w 27 #[.int .i64 t, .int .i64 10, .int .u64 ad, .int .u64 wd, .bool ow, .int .i64 er]
  have hbe : b ≠ w.heap.size := Nat.ne_of_lt h.blk.lt
  generalize hW1 : w.alloc (.cells #[.int .i64 t, .int .i64 10, .int .u64 ad, .int .u64 wd, .bool ow, .int .i64 er] 27) = w1 at *
  replace hW1 := Lib.hid hW1
  have ht' : (t : Int) < 8 := by omega
  have c_how1 := hL1.c_how ht (hth)
  have fz52t41 := hL1.fz (52 + t * 4)
  have c_tb1 := hL1.c_tb (i := 10) (hw := 0) (k := 10) (a := 1) (by decide) (by decide) rfl (by decide)
  have e01 := (hE1.cell 0).trans (show _ = some (.int .i64 t) from rfl)
  have e11 := (hE1.cell 1).trans (show _ = some (.int .i64 10) from rfl)
  have hst : Hid (take s i ⟨t, 10, ad, wd, ow, er⟩ = s.setT t ⟨0, (s.th t).sn, (s.th t).ws, (s.th t).tr⟩) := Lib.hid (by unfold take tkT St.setT; simp [hth, tb])
  replace hL1 := Lib.hid hL1
  replace hth := Lib.hid hth
  unfold evV
  dsimp only at *
  have hgb := h.geb
  clear h hs hn hE1
  go_enter Try.func57, Try.ntmps57
  go_wp2
  rw [hW1.out]
  refine wp_region_mixH (fun _ => True) [3, 3, 1, 3, 3, 3, 3] (List.range 7) (by kernel_rfl) (by kernel_rfl) (fun _ _ h => h) trivial ?_; (repeat (first | ((first | refine wpMixH_pure rfl rfl (fun K hK => ?_) | refine wpMixH_loc rfl rfl (fun K hK => ?_) | refine wpMixH_any rfl rfl (fun K hK => ?_)); go_simp; refine hK _ _ ?_; clear hK K) | (refine wpMixH_skip rfl (by go_simp) (fun K hK => ?_); go_simp; refine hK _ _ ?_; clear hK K) | fail)); refine wpMixH_nil (fun n1 => ?_)
  go_wp2
  refine wp_region_mixH (fun _ => True) [3, 3, 3, 3, 3, 1, 3, 1, 3, 3, 3, 3, 1, 3, 3, 3, 2] (List.range 17) (by kernel_rfl) (by kernel_rfl) (fun _ _ h => h) trivial ?_
  repeat ((first | refine wpMixH_pure rfl rfl (fun K hK => ?_) | refine wpMixH_loc rfl rfl (fun K hK => ?_) | refine wpMixH_any rfl rfl (fun K hK => ?_)); go_simp; refine hK _ _ ?_; clear hK K)
  refine wpMixH_loud rfl rfl (fun n9 K hK => ?_)
  go_wp2
  refine hK _ _ (fun _ => trivial) ?_; clear hK K
  refine wpMixH_nil (fun n10 => ?_)
  go_wp2
  refine bodyPost_end (results_none rfl _ _ _) rfl ⟨rfl, ?_, ?_⟩
  · exact below_drewNs ((below_drewNs hb1.out _).setCell hgb _) _
  · refine ⟨m, tv, ?_⟩
    rw [hst.out]
    exact (((hL1.out.drewN _).setHow ht 0 (fun h => absurd h (by decide))).drewN _).mono (Nat.le_succ _)
set_option maxRecDepth 100000 in
theorem take_stored (h : LookW B w b s n m tv) (hBw : B ≤ w.heap.size) (hs : StBd s n) (hn : n ≤ 1152921504606846976) {t i : Nat} {ad wd er : Int} {ow : Bool} (ht : t < 8) {sn : Int} {ws : List (Int × Int)} {tr : Nat} (hth : s.th t = ⟨0, sn, ws, tr⟩) :
    Calls Try.prog 57 #[.pointer (some ⟨b, 0, none⟩), .int .i64 i, evV ⟨t, 11, ad, wd, ow, er⟩] w fun x w' => x = .returned (.tuple #[]) ∧ Below B w w' ∧ ∃ m' tv', LookW B w' b (take s i ⟨t, 11, ad, wd, ow, er⟩) (n + 1) m' tv' := by
  have hb1 : Hid (Below B w (w.alloc (.cells #[.int .i64 t, .int .i64 11, .int .u64 ad, .int .u64 wd, .bool ow, .int .i64 er] 27))) := Lib.hid ((Below.refl _ w).alloc hBw _)
  have hL1 := h.alloc (.cells #[.int .i64 t, .int .i64 11, .int .u64 ad, .int .u64 wd, .bool ow, .int .i64 er] 27)
  have hE1 := Blk.new w 27 #[.int .i64 t, .int .i64 11, .int .u64 ad, .int .u64 wd, .bool ow, .int .i64 er]
  have hbe : b ≠ w.heap.size := Nat.ne_of_lt h.blk.lt
  generalize hW1 : w.alloc (.cells #[.int .i64 t, .int .i64 11, .int .u64 ad, .int .u64 wd, .bool ow, .int .i64 er] 27) = w1 at *
  replace hW1 := Lib.hid hW1
  have ht' : (t : Int) < 8 := by omega
  have c_how1 := hL1.c_how ht (hth)
  have fz52t41 := hL1.fz (52 + t * 4)
  have c_tb1 := hL1.c_tb (i := 11) (hw := 0) (k := 11) (a := 1) (by decide) (by decide) rfl (by decide)
  have e01 := (hE1.cell 0).trans (show _ = some (.int .i64 t) from rfl)
  have e11 := (hE1.cell 1).trans (show _ = some (.int .i64 11) from rfl)
  have hst : Hid (take s i ⟨t, 11, ad, wd, ow, er⟩ = s.setT t ⟨0, (s.th t).sn, (s.th t).ws, (s.th t).tr⟩) := Lib.hid (by unfold take tkT St.setT; simp [hth, tb])
  replace hL1 := Lib.hid hL1
  replace hth := Lib.hid hth
  unfold evV
  dsimp only at *
  have hgb := h.geb
  clear h hs hn hE1
  go_enter Try.func57, Try.ntmps57
  go_wp2
  rw [hW1.out]
  refine wp_region_mixH (fun _ => True) [3, 3, 1, 3, 3, 3, 3] (List.range 7) (by kernel_rfl) (by kernel_rfl) (fun _ _ h => h) trivial ?_; (repeat (first | ((first | refine wpMixH_pure rfl rfl (fun K hK => ?_) | refine wpMixH_loc rfl rfl (fun K hK => ?_) | refine wpMixH_any rfl rfl (fun K hK => ?_)); go_simp; refine hK _ _ ?_; clear hK K) | (refine wpMixH_skip rfl (by go_simp) (fun K hK => ?_); go_simp; refine hK _ _ ?_; clear hK K) | fail)); refine wpMixH_nil (fun n1 => ?_)
  go_wp2
  refine wp_region_mixH (fun _ => True) [3, 3, 3, 3, 3, 1, 3, 1, 3, 3, 3, 3, 1, 3, 3, 3, 2] (List.range 17) (by kernel_rfl) (by kernel_rfl) (fun _ _ h => h) trivial ?_
  repeat ((first | refine wpMixH_pure rfl rfl (fun K hK => ?_) | refine wpMixH_loc rfl rfl (fun K hK => ?_) | refine wpMixH_any rfl rfl (fun K hK => ?_)); go_simp; refine hK _ _ ?_; clear hK K)
  refine wpMixH_loud rfl rfl (fun n9 K hK => ?_)
  go_wp2
  refine hK _ _ (fun _ => trivial) ?_; clear hK K
  refine wpMixH_nil (fun n10 => ?_)
  go_wp2
  refine bodyPost_end (results_none rfl _ _ _) rfl ⟨rfl, ?_, ?_⟩
  · exact below_drewNs ((below_drewNs hb1.out _).setCell hgb _) _
  · refine ⟨m, tv, ?_⟩
    rw [hst.out]
    exact (((hL1.out.drewN _).setHow ht 0 (fun h => absurd h (by decide))).drewN _).mono (Nat.le_succ _)
set_option maxRecDepth 100000 in
theorem take_halted (h : LookW B w b s n m tv) (hBw : B ≤ w.heap.size) (hs : StBd s n) (hn : n ≤ 1152921504606846976) {t i : Nat} {ad wd er : Int} {ow : Bool} (ht : t < 8) {sn : Int} {ws : List (Int × Int)} {tr : Nat} (hth : s.th t = ⟨0, sn, ws, tr⟩) :
    Calls Try.prog 57 #[.pointer (some ⟨b, 0, none⟩), .int .i64 i, evV ⟨t, 12, ad, wd, ow, er⟩] w fun x w' => x = .returned (.tuple #[]) ∧ Below B w w' ∧ ∃ m' tv', LookW B w' b (take s i ⟨t, 12, ad, wd, ow, er⟩) (n + 1) m' tv' := by
  have hb1 : Hid (Below B w (w.alloc (.cells #[.int .i64 t, .int .i64 12, .int .u64 ad, .int .u64 wd, .bool ow, .int .i64 er] 27))) := Lib.hid ((Below.refl _ w).alloc hBw _)
  have hL1 := h.alloc (.cells #[.int .i64 t, .int .i64 12, .int .u64 ad, .int .u64 wd, .bool ow, .int .i64 er] 27)
  have hE1 := Blk.new w 27 #[.int .i64 t, .int .i64 12, .int .u64 ad, .int .u64 wd, .bool ow, .int .i64 er]
  have hbe : b ≠ w.heap.size := Nat.ne_of_lt h.blk.lt
  generalize hW1 : w.alloc (.cells #[.int .i64 t, .int .i64 12, .int .u64 ad, .int .u64 wd, .bool ow, .int .i64 er] 27) = w1 at *
  replace hW1 := Lib.hid hW1
  have ht' : (t : Int) < 8 := by omega
  have c_how1 := hL1.c_how ht (hth)
  have fz52t41 := hL1.fz (52 + t * 4)
  have c_tb1 := hL1.c_tb (i := 12) (hw := 0) (k := 12) (a := 4) (by decide) (by decide) rfl (by decide)
  have e01 := (hE1.cell 0).trans (show _ = some (.int .i64 t) from rfl)
  have e11 := (hE1.cell 1).trans (show _ = some (.int .i64 12) from rfl)
  have hst : Hid (take s i ⟨t, 12, ad, wd, ow, er⟩ = s.setT t ⟨3, (s.th t).sn, (s.th t).ws, (s.th t).tr⟩) := Lib.hid (by unfold take tkT St.setT; simp [hth, tb])
  replace hL1 := Lib.hid hL1
  replace hth := Lib.hid hth
  unfold evV
  dsimp only at *
  have hgb := h.geb
  clear h hs hn hE1
  go_enter Try.func57, Try.ntmps57
  go_wp2
  rw [hW1.out]
  refine wp_region_mixH (fun _ => True) [3, 3, 1, 3, 3, 3, 3] (List.range 7) (by kernel_rfl) (by kernel_rfl) (fun _ _ h => h) trivial ?_; (repeat (first | ((first | refine wpMixH_pure rfl rfl (fun K hK => ?_) | refine wpMixH_loc rfl rfl (fun K hK => ?_) | refine wpMixH_any rfl rfl (fun K hK => ?_)); go_simp; refine hK _ _ ?_; clear hK K) | (refine wpMixH_skip rfl (by go_simp) (fun K hK => ?_); go_simp; refine hK _ _ ?_; clear hK K) | fail)); refine wpMixH_nil (fun n1 => ?_)
  go_wp2
  refine wp_region_mixH (fun _ => True) [3, 3, 3, 3, 3, 1, 3, 1, 3, 3, 3, 3, 1, 3, 3, 3, 2] (List.range 17) (by kernel_rfl) (by kernel_rfl) (fun _ _ h => h) trivial ?_
  repeat ((first | refine wpMixH_pure rfl rfl (fun K hK => ?_) | refine wpMixH_loc rfl rfl (fun K hK => ?_) | refine wpMixH_any rfl rfl (fun K hK => ?_)); go_simp; refine hK _ _ ?_; clear hK K)
  refine wpMixH_loud rfl rfl (fun n9 K hK => ?_)
  go_wp2
  refine hK _ _ (fun _ => trivial) ?_; clear hK K
  refine wpMixH_nil (fun n10 => ?_)
  go_wp2
  refine bodyPost_end (results_none rfl _ _ _) rfl ⟨rfl, ?_, ?_⟩
  · exact below_drewNs ((below_drewNs hb1.out _).setCell hgb _) _
  · refine ⟨m, tv, ?_⟩
    rw [hst.out]
    exact (((hL1.out.drewN _).setHow ht 3 (fun h => absurd h (by decide))).drewN _).mono (Nat.le_succ _)
set_option maxRecDepth 100000 in
theorem take_fail0 (h : LookW B w b s n m tv) (hBw : B ≤ w.heap.size) (hs : StBd s n) (hn : n ≤ 1152921504606846976) {t i : Nat} {ad wd er : Int} {ow : Bool} (ht : t < 8) {sn : Int} {ws : List (Int × Int)} {tr : Nat} (hth : s.th t = ⟨0, sn, ws, tr⟩) :
    Calls Try.prog 57 #[.pointer (some ⟨b, 0, none⟩), .int .i64 i, evV ⟨t, 9, ad, wd, ow, er⟩] w fun x w' => x = .returned (.tuple #[]) ∧ Below B w w' ∧ ∃ m' tv', LookW B w' b (take s i ⟨t, 9, ad, wd, ow, er⟩) (n + 1) m' tv' := by
  have hb1 : Hid (Below B w (w.alloc (.cells #[.int .i64 t, .int .i64 9, .int .u64 ad, .int .u64 wd, .bool ow, .int .i64 er] 27))) := Lib.hid ((Below.refl _ w).alloc hBw _)
  have hL1 := h.alloc (.cells #[.int .i64 t, .int .i64 9, .int .u64 ad, .int .u64 wd, .bool ow, .int .i64 er] 27)
  have hE1 := Blk.new w 27 #[.int .i64 t, .int .i64 9, .int .u64 ad, .int .u64 wd, .bool ow, .int .i64 er]
  have hbe : b ≠ w.heap.size := Nat.ne_of_lt h.blk.lt
  generalize hW1 : w.alloc (.cells #[.int .i64 t, .int .i64 9, .int .u64 ad, .int .u64 wd, .bool ow, .int .i64 er] 27) = w1 at *
  replace hW1 := Lib.hid hW1
  have ht' : (t : Int) < 8 := by omega
  have c_how1 := hL1.c_how ht (hth)
  have fz52t41 := hL1.fz (52 + t * 4)
  have c_tb1 := hL1.c_tb (i := 9) (hw := 0) (k := 9) (a := 4) (by decide) (by decide) rfl (by decide)
  have e01 := (hE1.cell 0).trans (show _ = some (.int .i64 t) from rfl)
  have e11 := (hE1.cell 1).trans (show _ = some (.int .i64 9) from rfl)
  have hst : Hid (take s i ⟨t, 9, ad, wd, ow, er⟩ = s.setT t ⟨3, (s.th t).sn, (s.th t).ws, (s.th t).tr⟩) := Lib.hid (by unfold take tkT St.setT; simp [hth, tb])
  replace hL1 := Lib.hid hL1
  replace hth := Lib.hid hth
  unfold evV
  dsimp only at *
  have hgb := h.geb
  clear h hs hn hE1
  go_enter Try.func57, Try.ntmps57
  go_wp2
  rw [hW1.out]
  refine wp_region_mixH (fun _ => True) [3, 3, 1, 3, 3, 3, 3] (List.range 7) (by kernel_rfl) (by kernel_rfl) (fun _ _ h => h) trivial ?_; (repeat (first | ((first | refine wpMixH_pure rfl rfl (fun K hK => ?_) | refine wpMixH_loc rfl rfl (fun K hK => ?_) | refine wpMixH_any rfl rfl (fun K hK => ?_)); go_simp; refine hK _ _ ?_; clear hK K) | (refine wpMixH_skip rfl (by go_simp) (fun K hK => ?_); go_simp; refine hK _ _ ?_; clear hK K) | fail)); refine wpMixH_nil (fun n1 => ?_)
  go_wp2
  refine wp_region_mixH (fun _ => True) [3, 3, 3, 3, 3, 1, 3, 1, 3, 3, 3, 3, 1, 3, 3, 3, 2] (List.range 17) (by kernel_rfl) (by kernel_rfl) (fun _ _ h => h) trivial ?_
  repeat ((first | refine wpMixH_pure rfl rfl (fun K hK => ?_) | refine wpMixH_loc rfl rfl (fun K hK => ?_) | refine wpMixH_any rfl rfl (fun K hK => ?_)); go_simp; refine hK _ _ ?_; clear hK K)
  refine wpMixH_loud rfl rfl (fun n9 K hK => ?_)
  go_wp2
  refine hK _ _ (fun _ => trivial) ?_; clear hK K
  refine wpMixH_nil (fun n10 => ?_)
  go_wp2
  refine bodyPost_end (results_none rfl _ _ _) rfl ⟨rfl, ?_, ?_⟩
  · exact below_drewNs ((below_drewNs hb1.out _).setCell hgb _) _
  · refine ⟨m, tv, ?_⟩
    rw [hst.out]
    exact (((hL1.out.drewN _).setHow ht 3 (fun h => absurd h (by decide))).drewN _).mono (Nat.le_succ _)
end
end Go.Proofs.Yteoebfjhadmnbaa
/- (*events.look).take by contract: kind by kind (printed by ev/mktake.py). -/
namespace Go.Proofs.Yteoebfjhadmnbaa
open Go.RowKit
set_option maxHeartbeats 4000000
set_option linter.unusedVariables false
set_option linter.unusedSimpArgs false
section
variable {B b n : Nat} {w : World} {s : St} {m : Nat → Option Nat} {tv : Value}
set_option maxRecDepth 100000 in
theorem take_stale (h : LookW B w b s n m tv) (hBw : B ≤ w.heap.size) (hs : StBd s n) (hn : n ≤ 1152921504606846976) {t i : Nat} {ad wd er : Int} {ow : Bool} (ht : t < 8) {sn : Int} {ws : List (Int × Int)} {tr : Nat} (hth : s.th t = ⟨1, sn, ws, tr⟩) :
    Calls Try.prog 57 #[.pointer (some ⟨b, 0, none⟩), .int .i64 i, evV ⟨t, 7, ad, wd, ow, er⟩] w fun x w' => x = .returned (.tuple #[]) ∧ Below B w w' ∧ ∃ m' tv', LookW B w' b (take s i ⟨t, 7, ad, wd, ow, er⟩) (n + 1) m' tv' := by
  have hb1 : Hid (Below B w (w.alloc (.cells #[.int .i64 t, .int .i64 7, .int .u64 ad, .int .u64 wd, .bool ow, .int .i64 er] 27))) := Lib.hid ((Below.refl _ w).alloc hBw _)
  have hL1 := h.alloc (.cells #[.int .i64 t, .int .i64 7, .int .u64 ad, .int .u64 wd, .bool ow, .int .i64 er] 27)
  have hE1 := Blk.new w 27 #[.int .i64 t, .int .i64 7, .int .u64 ad, .int .u64 wd, .bool ow, .int .i64 er]
  have hbe : b ≠ w.heap.size := Nat.ne_of_lt h.blk.lt
  have hx := hs.tr t (by unfold liveT; rw [hth]; simp)
  rw [hth] at hx
  dsimp only at hx
  have hcn := hs.cnt _ (List.getElem_mem hx)
  have hget := h.get
  obtain ⟨A, cap, rfl, hcap⟩ := h.tries.shape
  obtain ⟨g, off, rfl, hg, -⟩ := h.tries.cell encT_len (by decide) hx
  have hgB : B ≤ g := hget g (by simp [own, Value.ownBlock])
  have hge : g ≠ w.heap.size := Nat.ne_of_lt hg
  have hx' : (tr : Int) < (s.tries.length : Int) := by omega
  clear hcap hget hg
  generalize hW1 : w.alloc (.cells #[.int .i64 t, .int .i64 7, .int .u64 ad, .int .u64 wd, .bool ow, .int .i64 er] 27) = w1 at *
  replace hW1 := Lib.hid hW1
  have ht' : (t : Int) < 8 := by omega
  have c_how1 := hL1.c_how ht (hth)
  have c_tv1 := hL1.c_tv
  have c_tr1 := hL1.c_tr ht (hth)
  have e01 := (hE1.cell 0).trans (show _ = some (.int .i64 t) from rfl)
  have e11 := (hE1.cell 1).trans (show _ = some (.int .i64 7) from rfl)
  have f21 := (hL1.c_x (j := 2) hx (by decide)).2
  generalize hx0 : s.tries[tr] = x0 at *
  have x21 := (hL1.c_x (j := 2) hx (by decide)).1.trans (show _ = some (Value.int .i64 x0.last) from by rw [hx0]; rfl)
  have hup : Hid (take s i ⟨t, 7, ad, wd, ow, er⟩ = ⟨fun j => if j = t then tkT ⟨1, sn, ws, tr⟩ ⟨t, 7, ad, wd, ow, er⟩ s.tries.length else s.th j, if (7 : Int) = 6 ∧ 1 = 2 then wd else s.num, if (7 : Int) = 5 then t else if (7 : Int) = 6 ∧ 1 = 2 then -1 else s.hold, s.tries.set tr (updT x0 i ⟨t, 7, ad, wd, ow, er⟩)⟩) := Lib.hid ((take_in hth hx (by simp) (by simp) rfl).trans (by rw [hx0]))
  have hL2 : ∀ j, LookW B ((w1.drewN j).setCell ⟨g, off + tr * 7 + 2, none⟩ (.int .i64 i)) b (s.setL (s.tries.set tr ⟨x0.th, x0.first, i, x0.sn, x0.how, x0.rd, x0.wr⟩)) n m (.slice (some ⟨g, off, none⟩) s.tries.length cap) := fun j => (hL1.drewN j).setX hx (by decide) _ _ (by rw [hx0]; rfl)
  have hE2 : ∀ j, Blk ((w1.drewN j).setCell ⟨g, off + tr * 7 + 2, none⟩ (.int .i64 i)) w.heap.size 27 #[.int .i64 t, .int .i64 7, .int .u64 ad, .int .u64 wd, .bool ow, .int .i64 er] := fun j => (hE1.drewN j).far (p := ⟨g, off + tr * 7 + 2, none⟩) hge.symm _
  have hx2 : tr < (s.tries.set tr ⟨x0.th, x0.first, i, x0.sn, x0.how, x0.rd, x0.wr⟩).length := by simpa using hx
  have hgb := h.geb
  have hth2 : (s.setL (s.tries.set tr ⟨x0.th, x0.first, i, x0.sn, x0.how, x0.rd, x0.wr⟩)).th t = ⟨1, sn, ws, tr⟩ := hth
  have e12 := fun j => ((hE2 j).cell 1).trans (show _ = some (.int .i64 7) from rfl)
  have f42 := fun j => ((hL2 j).c_x (j := 4) hx2 (by decide)).2
  have x42 := fun j => ((hL2 j).c_x (j := 4) hx2 (by decide)).1.trans (show _ = some (.int .i64 x0.how) from by simp only [St.setL, List.getElem_set_self, encT]; rfl)
  have hL3 : ∀ j, LookW B (((w1.drewN j).setCell ⟨g, off + tr * 7 + 2, none⟩ (.int .i64 i)).setCell ⟨g, off + tr * 7 + 4, none⟩ (.int .i64 7)) b ((s.setL (s.tries.set tr ⟨x0.th, x0.first, i, x0.sn, x0.how, x0.rd, x0.wr⟩)).setL ((s.tries.set tr ⟨x0.th, x0.first, i, x0.sn, x0.how, x0.rd, x0.wr⟩).set tr ⟨x0.th, x0.first, i, x0.sn, 7, x0.rd, x0.wr⟩)) n m (.slice (some ⟨g, off, none⟩) s.tries.length cap) := fun j => (hL2 j).setX hx2 (by decide) _ _ (by simp only [St.setL, List.getElem_set_self, encT]; rfl)
  have hE3 : ∀ j, Blk (((w1.drewN j).setCell ⟨g, off + tr * 7 + 2, none⟩ (.int .i64 i)).setCell ⟨g, off + tr * 7 + 4, none⟩ (.int .i64 7)) w.heap.size 27 #[.int .i64 t, .int .i64 7, .int .u64 ad, .int .u64 wd, .bool ow, .int .i64 er] := fun j => (hE2 j).far (p := ⟨g, off + tr * 7 + 4, none⟩) hge.symm _
  have hth3 : ((s.setL (s.tries.set tr ⟨x0.th, x0.first, i, x0.sn, x0.how, x0.rd, x0.wr⟩)).setL ((s.tries.set tr ⟨x0.th, x0.first, i, x0.sn, x0.how, x0.rd, x0.wr⟩).set tr ⟨x0.th, x0.first, i, x0.sn, 7, x0.rd, x0.wr⟩)).th t = ⟨1, sn, ws, tr⟩ := hth
  have c_how3 := fun j => (hL3 j).c_how ht (hth3)
  have c_tb3 := fun j => (hL3 j).c_tb (i := 20) (hw := 1) (k := 7) (a := 1) (by decide) (by decide) rfl (by decide)
  have e13 := fun j => ((hE3 j).cell 1).trans (show _ = some (.int .i64 7) from rfl)
  have fz52t43 := fun j => (hL3 j).fz (52 + t * 4)
  have hst : Hid (take s i ⟨t, 7, ad, wd, ow, er⟩ = ((s.setL (s.tries.set tr ⟨x0.th, x0.first, i, x0.sn, x0.how, x0.rd, x0.wr⟩)).setL ((s.tries.set tr ⟨x0.th, x0.first, i, x0.sn, x0.how, x0.rd, x0.wr⟩).set tr ⟨x0.th, x0.first, i, x0.sn, 7, x0.rd, x0.wr⟩)).setT t ⟨0, sn, ws, tr⟩) := Lib.hid (by rw [hup.out]; simp only [St.setT, St.setL, St.setN, St.setH, tkT, updT, tb, List.set_set]; simp)
  replace hL1 := Lib.hid hL1
  replace hL2 := Lib.hid hL2
  replace hL3 := Lib.hid hL3
  replace hth := Lib.hid hth
  replace hx0 := Lib.hid hx0
  unfold evV
  dsimp only at *
  clear h hs hn hE1 hE2 hth2 hup hx2 hE3 hth3 hcn
  go_enter Try.func57, Try.ntmps57
  go_wp2
  rw [hW1.out]
  refine wp_region_mixH (fun _ => True) [3, 3, 1, 3, 3, 3, 3] (List.range 7) (by kernel_rfl) (by kernel_rfl) (fun _ _ h => h) trivial ?_; (repeat (first | ((first | refine wpMixH_pure rfl rfl (fun K hK => ?_) | refine wpMixH_loc rfl rfl (fun K hK => ?_) | refine wpMixH_any rfl rfl (fun K hK => ?_)); go_simp; refine hK _ _ ?_; clear hK K) | (refine wpMixH_skip rfl (by go_simp) (fun K hK => ?_); go_simp; refine hK _ _ ?_; clear hK K) | fail)); refine wpMixH_nil (fun n1 => ?_)
  go_wp2
  refine wp_region_mixH (fun _ => True) [3, 3, 3, 1, 3, 3, 3, 1, 3, 3] (List.range 10) (by kernel_rfl) (by kernel_rfl) (fun _ _ h => h) trivial ?_; (repeat (first | ((first | refine wpMixH_pure rfl rfl (fun K hK => ?_) | refine wpMixH_loc rfl rfl (fun K hK => ?_) | refine wpMixH_any rfl rfl (fun K hK => ?_)); go_simp; refine hK _ _ ?_; clear hK K) | (refine wpMixH_skip rfl (by go_simp) (fun K hK => ?_); go_simp; refine hK _ _ ?_; clear hK K) | fail)); refine wpMixH_nil (fun n2 => ?_)
  go_wp2
  refine wp_region_mixH (fun _ => True) [3, 3, 3, 3, 3, 1, 3, 1, 3, 3, 3, 3, 1, 3, 3, 3, 2] (List.range 17) (by kernel_rfl) (by kernel_rfl) (fun _ _ h => h) trivial ?_
  repeat ((first | refine wpMixH_pure rfl rfl (fun K hK => ?_) | refine wpMixH_loc rfl rfl (fun K hK => ?_) | refine wpMixH_any rfl rfl (fun K hK => ?_)); go_simp; refine hK _ _ ?_; clear hK K)
  refine wpMixH_loud rfl rfl (fun n9 K hK => ?_)
  go_wp2
  refine hK _ _ (fun _ => trivial) ?_; clear hK K
  refine wpMixH_nil (fun n10 => ?_)
  go_wp2
  refine bodyPost_end (results_none rfl _ _ _) rfl ⟨rfl, ?_, ?_⟩
  · exact below_drewNs ((below_drewNs (((below_drewNs hb1.out _).setCell hgB _).setCell hgB _) _).setCell hgb _) _
  · refine ⟨m, (.slice (some ⟨g, off, none⟩) s.tries.length cap), ?_⟩
    rw [hst.out]
    have FIN : ∀ j j2 j3, LookW B ((((((w1.drewN j).setCell ⟨g, off + tr * 7 + 2, none⟩ (.int .i64 i)).setCell ⟨g, off + tr * 7 + 4, none⟩ (.int .i64 7)).drewN j2).setCell ⟨b, 52 + t * 4, none⟩ (.int .i64 (0 : Nat))).drewN j3) b (((s.setL (s.tries.set tr ⟨x0.th, x0.first, i, x0.sn, x0.how, x0.rd, x0.wr⟩)).setL ((s.tries.set tr ⟨x0.th, x0.first, i, x0.sn, x0.how, x0.rd, x0.wr⟩).set tr ⟨x0.th, x0.first, i, x0.sn, 7, x0.rd, x0.wr⟩)).setT t ⟨0, sn, ws, tr⟩) (n + 1) m (.slice (some ⟨g, off, none⟩) s.tries.length cap) := fun j j2 j3 => by
      have hfin := (((hL3.out j).drewN j2).setHow ht 0 (fun h => absurd h (by decide)))
      rw [show ((s.setL (s.tries.set tr ⟨x0.th, x0.first, i, x0.sn, x0.how, x0.rd, x0.wr⟩)).setL ((s.tries.set tr ⟨x0.th, x0.first, i, x0.sn, x0.how, x0.rd, x0.wr⟩).set tr ⟨x0.th, x0.first, i, x0.sn, 7, x0.rd, x0.wr⟩)).th t = _ from hth.out] at hfin
      exact (hfin.drewN j3).mono (Nat.le_succ _)
    exact FIN _ _ _
end
end Go.Proofs.Yteoebfjhadmnbaa
