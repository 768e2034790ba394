/- events.table by contract: ranges over map literals, whatever their order. -/
import Derived.Test.YtloiadhdkgkjkaaEvC
import Derived.Deep.LoopGhost
import Derived.Maps.RangeRun
import Derived.Laws.IdiomCopy
import Derived.Outline
namespace Go.Proofs.Ytloiadhdkgkjkaa
open Go.RowKit Go.ChangeMaps
set_option maxHeartbeats 4000000
set_option linter.unusedVariables false
set_option linter.unusedSimpArgs false
section
variable {P : Program} {ops : Array Oper} {rest : List Oper} {o : Oper} {a : Act} {Q : Exit → Act → World → Prop} {w : World}
/-- A store of a whole row. -/
theorem wpList_store_row (hgd : o.guard = none) (ty : TypeId) (x y : Operand) (ho : o.op = .store ty x y) (g : Nat) (hx : a.eval x = .pointer (some ⟨g, 0, none⟩)) (cs cur : Array Value) (hy : a.eval y = .agg cs) (e : TypeId) (hb : Blk w g e cur) (hs : cur.size = cs.size)
    (hi : (P.info? ty).map (·.size) = some cs.size) (h1 : ∀ v ∈ cs.toList, v.oneCell' = true) (h : ∀ w', Blk w' g e cs → w.grownBy w' (some g) → w'.heap.size = w.heap.size → wpList P ops Q rest (a.put o.dst undef) w') : wpList P ops Q (o :: rest) a w := by
  refine wpList_plain hgd fun K hK => ?_
  cases hq : P.info? ty with
  | none => simp [hq] at hi
  | some i =>
    have hs' : i.size = cs.size := by simpa [hq] using hi
    have hrun : (storeVar ty ⟨g, 0, none⟩ (.agg cs)).run P w = .ok () (w.setCells g 0 cs.toList) := by
      have hst := run_storeCells_cells (P := P) g 0 cs.toList 0 w (fun j hj => by rw [hb.cell]; simp at hj ⊢; omega) (fun j _ => hb.frozen _) h1
      simp [storeVar, sizeOf, typeInfo, hq, hs', Value.cells, Sem.run_bind, hst]
    obtain ⟨q1, q2, q3, q4, q5, q6⟩ := heap_setCells g cs.toList 0 w cur hb
    have hall : setAll cur 0 cs.toList = cs := by
      apply Array.ext_getElem?
      intro j
      rw [setAll_get]
      by_cases hj : j < cs.size
      · rw [if_pos ⟨by omega, by simp; omega, by omega⟩]; simp
      · rw [if_neg (by simp; omega), Array.getElem?_eq_none (by omega), Array.getElem?_eq_none (by omega)]
    rw [hall] at q1
    unfold Oper.wp execOp
    simp only [ho, hx, hy, Instr.storeAt, Instr.sureAddr, Sem.run_bind, Sem.run_pure, Result.andThen_ok, hrun]
    exact hK _ _ (h _ q1 ⟨q4, q5, q6, by rw [q3]; exact Nat.le_refl _, fun k _ hk => q2 k (fun e => hk (by rw [e]))⟩ q3)
theorem run_insert_new {t k e : TypeId} {q : IntKind} (ht : P.underlying t = some (.map k e)) (hk : P.underlying k = some (.int q)) {r : Nat} {W : World} {es : Array MapEntry} {c : Nat} {x : Int} {v : Value} (hr : W.heap.size = r)
    (hn : Instr.findNow (.int q) (.int q x) es.toList 0 = some none) : (Instr.mapUpdate t (.map (some r)) (.int q x) v).run P (W.alloc (.map es c)) = .ok () (W.alloc (.map (es.push ⟨.int q x, v, c⟩) (c + 1))) := by
  subst hr
  have hb : (W.alloc (.map es c)).heap[W.heap.size]? = some (.map es c) := heap_alloc_new W _
  have hc : (Instr.checkKey false 10000 k (.int q x)).run P (W.alloc (.map es c)) = .ok () (W.alloc (.map es c)) := MapKept.run_checkKey (k := .int q x) hk (by simp [MapKept.IsKey]) _ 9999
  have hf := MapKept.run_findKey (P := P) (w := W.alloc (.map es c)) hk hn
  have e1 : setBlock (W.alloc (.map es c)) W.heap.size (.map (es.push ⟨.int q x, v, c⟩) (c + 1)) = W.alloc (.map (es.push ⟨.int q x, v, c⟩) (c + 1)) := by
    unfold setBlock World.alloc
    simp only
    congr 1
    apply Array.ext_getElem?
    intro j
    rw [Array.getElem?_setIfInBounds]
    simp only [Array.getElem?_push, Array.size_push]
    by_cases hj : W.heap.size = j
    · subst hj; simp
    · rw [if_neg hj, if_neg (fun h => hj h.symm), if_neg (fun h => hj h.symm)]
  rw [← e1]
  simp [Instr.mapUpdate, run_underlying ht, MapKept.run_getObj_map hb, hc, hf, MapKept.run_setObj_map _ hb, Result.andThen, setBlock]
theorem run_range_map {t k e : TypeId} (ht : P.underlying t = some (.map k e)) {r : Nat} {es : Array MapEntry} {c : Nat} (hb : w.heap[r]? = some (.map es c)) :
    (Instr.range t (.map (some r))).run P w = .ok (.pointer (some ⟨w.heap.size, 0, none⟩)) (w.alloc (.mapIter (some r) c #[] c)) := by
  simp [Instr.range, run_underlying ht, MapKept.run_getObj_map hb, Result.andThen]
theorem left_mem {es : Array MapEntry} {seen : Array Nat} {x : MapEntry} (h : x ∈ (leftOf es seen).toList) : x ∈ es.toList ∧ seen.contains x.born = false := by
  unfold leftOf at h
  simpa using h
theorem left_lt {es : Array MapEntry} {seen : Array Nat} {x : MapEntry} (h : x ∈ (leftOf es seen).toList) : (leftOf es (seen.push x.born)).size < (leftOf es seen).size := by
  have e1 : (leftOf es (seen.push x.born)).toList = (leftOf es seen).toList.filter (fun y => !(y.born == x.born)) := by
    unfold leftOf
    simp only [Array.toList_filter, List.filter_filter]
    congr 1
    funext y
    by_cases h1 : y.born = x.born
    · simp [h1]
    · have : (y.born == x.born) = false := by simpa using h1
      simp [h1]
  have e2 : (leftOf es (seen.push x.born)).size = ((leftOf es seen).toList.filter (fun y => !(y.born == x.born))).length := by rw [← e1]; simp
  rw [e2, ← Array.length_toList]
  exact List.length_filter_lt_length_iff_exists.2 ⟨x, h, by simp⟩
/-- The next entry of a map that stays as it is. -/
theorem wpList_next_lit (hg : o.guard = none) (it : Operand) (hop : o.op = Op.next it false) (r bm since c0 clock : Nat) (seen : Array Nat) (es : Array MapEntry) (hit : a.eval it = .pointer (some ⟨r, 0, none⟩))
    (hr : w.heap[r]? = some (.mapIter (some bm) since seen c0)) (hb : w.heap[bm]? = some (.map es clock)) (hold : ∀ x ∈ es.toList, x.born < since) (hsc : since ≤ c0) (hnd : (es.toList.map (·.born)).Nodup) (hne : r ≠ bm)
    (hDone : (leftOf es seen).size = 0 → wpList P ops Q rest (a.put o.dst (.tuple #[.bool false])) w)
    (hMore : ∀ x, x ∈ (leftOf es seen).toList → ∀ w', w'.heap[r]? = some (.mapIter (some bm) since (seen.push x.born) clock) → w.grownBy w' (some r) → w'.heap.size = w.heap.size → (Instr.entry (.pointer (some ⟨r, 0, none⟩))).run P w' = .ok (.tuple #[x.key, x.val]) w' →
      wpList P ops Q rest (a.put o.dst (.tuple #[.bool true, x.key, x.val])) w') :
    wpList P ops Q (o :: rest) a w := by
  refine wpList_plain hg fun K' hK' => ?_
  unfold Oper.wp
  rcases run_next_at (P := P) w o.type r bm since c0 seen es clock hr hb hold hsc with ⟨h0, hrun⟩ | ⟨x, hx, w1, hw1, hrun⟩
  · simp [execOp, hop, hit, hrun, Result.andThen]
    exact hK' _ _ (hDone h0)
  · have hr1 : w1.heap[r]? = some (.mapIter (some bm) since seen c0) := by rcases hw1 with rfl | rfl <;> exact hr
    have hb1 : w1.heap[bm]? = some (.map es clock) := by rcases hw1 with rfl | rfl <;> exact hb
    have hgr : w.grownBy (setBlock w1 r (.mapIter (some bm) since (seen.push x.born) clock)) (some r) := by
      rcases hw1 with rfl | rfl
      · exact ⟨rfl, rfl, rfl, by simp [setBlock], fun i _ hi => (MapKept.heap_set hr1).2 i (fun e => hi (by rw [e]))⟩
      · exact ⟨rfl, rfl, rfl, by simp [setBlock], fun i _ hi => (MapKept.heap_set hr1).2 i (fun e => hi (by rw [e]))⟩
    simp [execOp, hop, hit, hrun, Result.andThen]
    refine hK' _ _ (hMore x hx _ (MapKept.heap_set hr1).1 hgr (by rcases hw1 with rfl | rfl <;> simp [setBlock]) ?_)
    exact run_entry_at _ r bm since seen es clock x (MapKept.heap_set hr1).1 (((MapKept.heap_set hr1).2 _ hne.symm).trans hb1) (left_mem hx).1 hnd
end
end Go.Proofs.Ytloiadhdkgkjkaa
