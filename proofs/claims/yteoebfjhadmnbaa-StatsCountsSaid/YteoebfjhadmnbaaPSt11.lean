/- events.table by contract: ranges over map literals, whatever their order. -/
import Derived.Deep.LoopGhost
import Derived.Maps.RangeRun
import Derived.Laws.IdiomCopy
import Derived.Outline
import Derived.Test.YteoebfjhadmnbaaPSt6
import Derived.Test.YteoebfjhadmnbaaPSt8
import Derived.Test.YteoebfjhadmnbaaPSt10
namespace Go.Proofs.Yteoebfjhadmnbaa
open Go.RowKit Go.ChangeMaps
set_option maxHeartbeats 4000000
set_option linter.unusedVariables false
set_option linter.unusedSimpArgs false
section
variable {P : Program} {ops : Array Oper} {rest : List Oper} {o : Oper} {a : Act} {Q : Exit → Act → World → Prop} {w : World}
/-- A store of a whole row. -/
theorem wpList_store_row (hgd : o.guard = none) (ty : TypeId) (x y : Operand) (ho : o.op = .store ty x y) (g : Nat) (hx : a.eval x = .pointer (some ⟨g, 0, none⟩)) (cs cur : Array Value) (hy : a.eval y = .agg cs) (e : TypeId) (hb : Blk w g e cur) (hs : cur.size = cs.size)
    (hi : (P.info? ty).map (·.size) = some cs.size) (h1 : ∀ v ∈ cs.toList, v.oneCell' = true) (h : ∀ w', Blk w' g e cs → w.grownBy w' (some g) → w'.heap.size = w.heap.size → wpList P ops Q rest (a.put o.dst undef) w') : wpList P ops Q (o :: rest) a w := by
  refine wpList_plain hgd fun K hK => ?_
  cases hq : P.info? ty with
  | none => simp [hq] at hi
  | some i =>
    have hs' : i.size = cs.size := by simpa [hq] using hi
    have hrun : (storeVar ty ⟨g, 0, none⟩ (.agg cs)).run P w = .ok () (w.setCells g 0 cs.toList) := by
      have hst := run_storeCells_cells (P := P) g 0 cs.toList 0 w (fun j hj => by rw [hb.cell]; simp at hj ⊢; omega) (fun j _ => hb.frozen _) h1
      simp [storeVar, sizeOf, typeInfo, hq, hs', Value.cells, Sem.run_bind, hst]
    obtain ⟨q1, q2, q3, q4, q5, q6⟩ := heap_setCells g cs.toList 0 w cur hb
    have hall : setAll cur 0 cs.toList = cs := by
      apply Array.ext_getElem?
      intro j
      rw [setAll_get]
      by_cases hj : j < cs.size
      · rw [if_pos ⟨by omega, by simp; omega, by omega⟩]; simp
      · rw [if_neg (by simp; omega), Array.getElem?_eq_none (by omega), Array.getElem?_eq_none (by omega)]
    rw [hall] at q1
    unfold Oper.wp execOp
    simp only [ho, hx, hy, Instr.storeAt, Instr.sureAddr, Sem.run_bind, Sem.run_pure, Result.andThen_ok, hrun]
    exact hK _ _ (h _ q1 ⟨q4, q5, q6, by rw [q3]; exact Nat.le_refl _, fun k _ hk => q2 k (fun e => hk (by rw [e]))⟩ q3)
theorem run_insert_new {t k e : TypeId} {q : IntKind} (ht : P.underlying t = some (.map k e)) (hk : P.underlying k = some (.int q)) {r : Nat} {W : World} {es : Array MapEntry} {c : Nat} {x : Int} {v : Value} (hr : W.heap.size = r)
    (hn : Instr.findNow (.int q) (.int q x) es.toList 0 = some none) : (Instr.mapUpdate t (.map (some r)) (.int q x) v).run P (W.alloc (.map es c)) = .ok () (W.alloc (.map (es.push ⟨.int q x, v, c⟩) (c + 1))) := by
  subst hr
  have hb : (W.alloc (.map es c)).heap[W.heap.size]? = some (.map es c) := heap_alloc_new W _
  have hc : (Instr.checkKey false 10000 k (.int q x)).run P (W.alloc (.map es c)) = .ok () (W.alloc (.map es c)) := MapKept.run_checkKey (k := .int q x) hk (by simp [MapKept.IsKey]) _ 9999
  have hf := MapKept.run_findKey (P := P) (w := W.alloc (.map es c)) hk hn
  have e1 : setBlock (W.alloc (.map es c)) W.heap.size (.map (es.push ⟨.int q x, v, c⟩) (c + 1)) = W.alloc (.map (es.push ⟨.int q x, v, c⟩) (c + 1)) := by
    unfold setBlock World.alloc
    simp only
    congr 1
    apply Array.ext_getElem?
    intro j
    rw [Array.getElem?_setIfInBounds]
    simp only [Array.getElem?_push, Array.size_push]
    by_cases hj : W.heap.size = j
    · subst hj; simp
    · rw [if_neg hj, if_neg (fun h => hj h.symm), if_neg (fun h => hj h.symm)]
  rw [← e1]
  simp [Instr.mapUpdate, run_underlying ht, MapKept.run_getObj_map hb, hc, hf, MapKept.run_setObj_map _ hb, Result.andThen, setBlock]
theorem run_range_map {t k e : TypeId} (ht : P.underlying t = some (.map k e)) {r : Nat} {es : Array MapEntry} {c : Nat} (hb : w.heap[r]? = some (.map es c)) :
    (Instr.range t (.map (some r))).run P w = .ok (.pointer (some ⟨w.heap.size, 0, none⟩)) (w.alloc (.mapIter (some r) c #[] c)) := by
  simp [Instr.range, run_underlying ht, MapKept.run_getObj_map hb, Result.andThen]
theorem left_mem {es : Array MapEntry} {seen : Array Nat} {x : MapEntry} (h : x ∈ (leftOf es seen).toList) : x ∈ es.toList ∧ seen.contains x.born = false := by
  unfold leftOf at h
  simpa using h
theorem left_lt {es : Array MapEntry} {seen : Array Nat} {x : MapEntry} (h : x ∈ (leftOf es seen).toList) : (leftOf es (seen.push x.born)).size < (leftOf es seen).size := by
  have e1 : (leftOf es (seen.push x.born)).toList = (leftOf es seen).toList.filter (fun y => !(y.born == x.born)) := by
    unfold leftOf
    simp only [Array.toList_filter, List.filter_filter]
    congr 1
    funext y
    by_cases h1 : y.born = x.born
    · simp [h1]
    · have : (y.born == x.born) = false := by simpa using h1
      simp [h1]
  have e2 : (leftOf es (seen.push x.born)).size = ((leftOf es seen).toList.filter (fun y => !(y.born == x.born))).length := by rw [← e1]; simp
  rw [e2, ← Array.length_toList]
  exact List.length_filter_lt_length_iff_exists.2 ⟨x, h, by simp⟩
/-- The next entry of a map that stays as it is. -/
theorem wpList_next_lit (hg : o.guard = none) (it : Operand) (hop : o.op = Op.next it false) (r bm since c0 clock : Nat) (seen : Array Nat) (es : Array MapEntry) (hit : a.eval it = .pointer (some ⟨r, 0, none⟩))
    (hr : w.heap[r]? = some (.mapIter (some bm) since seen c0)) (hb : w.heap[bm]? = some (.map es clock)) (hold : ∀ x ∈ es.toList, x.born < since) (hsc : since ≤ c0) (hnd : (es.toList.map (·.born)).Nodup) (hne : r ≠ bm)
    (hDone : (leftOf es seen).size = 0 → wpList P ops Q rest (a.put o.dst (.tuple #[.bool false])) w)
    (hMore : ∀ x, x ∈ (leftOf es seen).toList → ∀ w', w'.heap[r]? = some (.mapIter (some bm) since (seen.push x.born) clock) → w.grownBy w' (some r) → w'.heap.size = w.heap.size → (Instr.entry (.pointer (some ⟨r, 0, none⟩))).run P w' = .ok (.tuple #[x.key, x.val]) w' →
      wpList P ops Q rest (a.put o.dst (.tuple #[.bool true, x.key, x.val])) w') :
    wpList P ops Q (o :: rest) a w := by
  refine wpList_plain hg fun K' hK' => ?_
  unfold Oper.wp
  rcases run_next_at (P := P) w o.type r bm since c0 seen es clock hr hb hold hsc with ⟨h0, hrun⟩ | ⟨x, hx, w1, hw1, hrun⟩
  · simp [execOp, hop, hit, hrun, Result.andThen]
    exact hK' _ _ (hDone h0)
  · have hr1 : w1.heap[r]? = some (.mapIter (some bm) since seen c0) := by rcases hw1 with rfl | rfl <;> exact hr
    have hb1 : w1.heap[bm]? = some (.map es clock) := by rcases hw1 with rfl | rfl <;> exact hb
    have hgr : w.grownBy (setBlock w1 r (.mapIter (some bm) since (seen.push x.born) clock)) (some r) := by
      rcases hw1 with rfl | rfl
      · exact ⟨rfl, rfl, rfl, by simp [setBlock], fun i _ hi => (MapKept.heap_set hr1).2 i (fun e => hi (by rw [e]))⟩
      · exact ⟨rfl, rfl, rfl, by simp [setBlock], fun i _ hi => (MapKept.heap_set hr1).2 i (fun e => hi (by rw [e]))⟩
    simp [execOp, hop, hit, hrun, Result.andThen]
    refine hK' _ _ (hMore x hx _ (MapKept.heap_set hr1).1 hgr (by rcases hw1 with rfl | rfl <;> simp [setBlock]) ?_)
    exact run_entry_at _ r bm since seen es clock x (MapKept.heap_set hr1).1 (((MapKept.heap_set hr1).2 _ hne.symm).trans hb1) (left_mem hx).1 hnd
end
end Go.Proofs.Yteoebfjhadmnbaa
/- events.table by contract. -/
namespace Go.Proofs.Yteoebfjhadmnbaa
open Go.RowKit Go.ChangeMaps
set_option maxHeartbeats 4000000
set_option linter.unusedVariables false
set_option linter.unusedSimpArgs false

def esA : Array MapEntry := #[⟨.int .i64 1, .int .i64 1, 0⟩, ⟨.int .i64 10, .int .i64 0, 1⟩, ⟨.int .i64 11, .int .i64 0, 2⟩, ⟨.int .i64 9, .int .i64 3, 3⟩, ⟨.int .i64 12, .int .i64 3, 4⟩]
def esB : Array MapEntry := #[⟨.int .i64 2, .int .i64 1, 0⟩, ⟨.int .i64 3, .int .i64 1, 1⟩, ⟨.int .i64 4, .int .i64 1, 2⟩, ⟨.int .i64 5, .int .i64 2, 3⟩, ⟨.int .i64 6, .int .i64 0, 4⟩, ⟨.int .i64 7, .int .i64 0, 5⟩, ⟨.int .i64 8, .int .i64 0, 6⟩, ⟨.int .i64 9, .int .i64 3, 7⟩]
def bornA (j : Nat) : Nat := if j = 1 then 0 else if j = 10 then 1 else if j = 11 then 2 else if j = 9 then 3 else if j = 12 then 4 else 100
def bornB (j : Nat) : Nat := if 2 ≤ j ∧ j ≤ 9 then j - 2 else 100
def gA (seen : Array Nat) (j : Nat) : Value := if j < 13 ∧ seen.contains (bornA j) = true then .int .i64 (tb 0 j) else .int .i64 0
def gB (seen : Array Nat) (j : Nat) : Value := if j < 13 then .int .i64 (tb 0 j) else if j < 26 ∧ seen.contains (bornB (j - 13)) = true then .int .i64 (tb 1 ((j - 13 : Nat) : Int)) else .int .i64 0
def gT (j : Nat) : Value := if j = 2 * 13 + 6 then .int .i64 1 else if j < 13 then .int .i64 (tb 0 j) else if j < 26 then .int .i64 (tb 1 ((j - 13 : Nat) : Int)) else .int .i64 0
theorem left_zero {es : Array MapEntry} {seen : Array Nat} (h : (leftOf es seen).size = 0) {x : MapEntry} (hx : x ∈ es.toList) : seen.contains x.born = true := by
  cases hc : seen.contains x.born with
  | true => rfl
  | false =>
    have : x ∈ (leftOf es seen).toList := by unfold leftOf; simp; exact ⟨by simpa using hx, by simpa using hc⟩
    rw [Array.eq_empty_of_size_eq_zero h] at this
    simp at this
theorem gA_zero : ofF 52 (gA #[]) = ofF 52 (fun _ => .int .i64 0) := ofF_congr fun j _ => by unfold gA; simp
theorem gA_done {seen : Array Nat} (h : (leftOf esA seen).size = 0) (h5 : seen.contains 100 = false) : ofF 52 (gA seen) = ofF 52 (gB #[]) := ofF_congr fun j hj => by
  have hc : ∀ x ∈ esA.toList, seen.contains x.born = true := fun x hx => left_zero h hx
  simp only [esA, List.forall_mem_cons] at hc
  obtain ⟨c0, c1, c2, c3, c4, -⟩ := hc
  unfold gA gB bornA
  by_cases h13 : j < 13
  · have : j = 0 ∨ j = 1 ∨ j = 2 ∨ j = 3 ∨ j = 4 ∨ j = 5 ∨ j = 6 ∨ j = 7 ∨ j = 8 ∨ j = 9 ∨ j = 10 ∨ j = 11 ∨ j = 12 := by omega
    rcases this with rfl | rfl | rfl | rfl | rfl | rfl | rfl | rfl | rfl | rfl | rfl | rfl | rfl
    all_goals simp_all [tb]
  · simp [h13]
theorem gB_done {seen : Array Nat} (h : (leftOf esB seen).size = 0) (h5 : seen.contains 100 = false) : ofF 52 (fun j => if j = 2 * 13 + 6 then .int .i64 1 else gB seen j) = ofF 52 gT := ofF_congr fun j hj => by
  have hc : ∀ x ∈ esB.toList, seen.contains x.born = true := fun x hx => left_zero h hx
  simp only [esB, List.forall_mem_cons] at hc
  obtain ⟨c0, c1, c2, c3, c4, c5, c6, c7, -⟩ := hc
  unfold gB gT bornB
  by_cases h26 : 13 ≤ j ∧ j < 26
  · obtain ⟨k, rfl⟩ : ∃ k, j = 13 + k := ⟨j - 13, by omega⟩
    have : k = 0 ∨ k = 1 ∨ k = 2 ∨ k = 3 ∨ k = 4 ∨ k = 5 ∨ k = 6 ∨ k = 7 ∨ k = 8 ∨ k = 9 ∨ k = 10 ∨ k = 11 ∨ k = 12 := by omega
    rcases this with rfl | rfl | rfl | rfl | rfl | rfl | rfl | rfl | rfl | rfl | rfl | rfl | rfl
    all_goals simp_all [tb]
  · by_cases h13 : j < 13
    · simp [h13]
    · rw [if_neg h13, if_neg h13, if_neg (show ¬ (j < 26 ∧ _) from fun h => h26 ⟨by omega, h.1⟩), if_neg (show ¬ j < 26 by omega)]
theorem gT_eq {s : St} {m : Nat → Option Nat} {tv : Value} {j : Nat} (hj : j < 52) : gT j = gL s m tv j := by
  unfold gT gL
  rw [if_pos hj]
  have h0 : ∀ k : Nat, tb 2 k = if k = 6 then 1 else 0 := fun k => by unfold tb; simp; norm_cast
  have h3 : ∀ k : Nat, tb 3 k = 0 := fun k => by unfold tb; simp
  by_cases h1 : j < 13
  · rw [if_neg (by omega), if_pos h1, show j / 13 = 0 by omega, show j % 13 = j by omega]
  · by_cases h2 : j < 26
    · rw [if_neg (by omega), if_neg h1, if_pos h2, show j / 13 = 1 by omega, show j % 13 = j - 13 by omega]
    · by_cases h4 : j < 39
      · rw [show j / 13 = 2 by omega, show j % 13 = j - 26 by omega, h0]
        by_cases h5 : j = 2 * 13 + 6
        · rw [if_pos h5, if_pos (by omega)]; rfl
        · rw [if_neg h5, if_neg h1, if_neg h2, if_neg (by omega)]; rfl
      · rw [show j / 13 = 3 by omega, h3, if_neg (by omega), if_neg h1, if_neg h2]; rfl
end Go.Proofs.Yteoebfjhadmnbaa
/- events.table by contract: the walk. -/
namespace Go.Proofs.Yteoebfjhadmnbaa
open Go.RowKit Go.ChangeMaps
set_option maxHeartbeats 4000000
set_option linter.unusedVariables false
set_option linter.unusedSimpArgs false
theorem gA_push {seen : Array Nat} {k b : Nat} (hk : k < 13) (hb : bornA k = b) (hb5 : b < 5) : ∀ j, j < 52 → (if j = k then .int .i64 (tb 0 k) else gA seen j) = gA (seen.push b) j := by
  intro j hj
  unfold gA
  by_cases hjk : j = k
  · subst hjk
    rw [if_pos rfl, if_pos ⟨hk, by rw [hb]; simp⟩]
  · rw [if_neg hjk]
    have : (seen.push b).contains (bornA j) = seen.contains (bornA j) := by
      have hne : bornA j ≠ b := fun e => hjk (by
        unfold bornA at e hb
        repeat' split at e
        all_goals (repeat' split at hb)
        all_goals omega)
      rw [Bool.eq_iff_iff]
      simp [hne]
    rw [this]
theorem gB_push {seen : Array Nat} {k b : Nat} (hk : 13 ≤ k ∧ k < 26) (hb : bornB (k - 13) = b) (hb5 : b < 8) : ∀ j, j < 52 → (if j = k then .int .i64 (tb 1 ((k - 13 : Nat) : Int)) else gB seen j) = gB (seen.push b) j := by
  intro j hj
  unfold gB
  by_cases hjk : j = k
  · subst hjk
    rw [if_pos rfl, if_neg (by omega), if_pos ⟨hk.2, by rw [hb]; simp⟩]
  · rw [if_neg hjk]
    by_cases h13 : j < 13
    · rw [if_pos h13, if_pos h13]
    rw [if_neg h13, if_neg h13]
    have : (seen.push b).contains (bornB (j - 13)) = seen.contains (bornB (j - 13)) := by
      have hne : bornB (j - 13) ≠ b := fun e => hjk (by
        unfold bornB at e hb
        repeat' split at e
        all_goals (repeat' split at hb)
        all_goals omega)
      rw [Bool.eq_iff_iff]
      simp [hne]
    rw [this]
theorem push100 {seen : Array Nat} {b : Nat} (h : seen.contains 100 = false) (hb : b ≠ 100) : (seen.push b).contains 100 = false := by
  have h1 : ¬ (100 ∈ seen) := by simpa using h
  simp [h1, Ne.symm hb]
theorem heap2 (w : World) (c d : Obj) : ((w.alloc c).alloc d).heap[w.heap.size]? = some c ∧ ((w.alloc c).alloc d).heap[w.heap.size + 1]? = some d := by
  refine ⟨?_, ?_⟩
  · rw [Below.heap_alloc _ _ _ (by simp)]
    exact heap_alloc_new w c
  · have := heap_alloc_new (w.alloc c) d
    rwa [World.size_alloc] at this
theorem row_lt {w : World} {r : Nat} {o : Obj} (h : w.heap[r]? = some o) : r < w.heap.size := by
  rcases Nat.lt_or_ge r w.heap.size with h1 | h1
  · exact h1
  · rw [Array.getElem?_eq_none h1] at h; cases h
theorem left_new (es : Array MapEntry) : (leftOf es #[]).size = es.size := by unfold leftOf; simp
theorem heap4 (w : World) (a b c d : Obj) : ((((w.alloc a).alloc b).alloc c).alloc d).heap[w.heap.size]? = some a ∧ ((((w.alloc a).alloc b).alloc c).alloc d).heap[w.heap.size + 1]? = some b ∧ ((((w.alloc a).alloc b).alloc c).alloc d).heap[w.heap.size + 1 + 1]? = some c ∧ ((((w.alloc a).alloc b).alloc c).alloc d).heap[w.heap.size + 1 + 1 + 1]? = some d ∧ Below w.heap.size w ((((w.alloc a).alloc b).alloc c).alloc d) := by
  refine ⟨?_, ?_, ?_, ?_, ((((Below.refl _ _).alloc (Nat.le_refl _) _).alloc (by simp) _).alloc (by simp; omega) _).alloc (by simp; omega) _⟩
  · rw [Below.heap_alloc _ _ _ (by simp; omega), Below.heap_alloc _ _ _ (by simp; omega), Below.heap_alloc _ _ _ (by simp)]
    exact heap_alloc_new w a
  · rw [Below.heap_alloc _ _ _ (by simp), Below.heap_alloc _ _ _ (by simp)]
    have := heap_alloc_new (w.alloc a) b
    rwa [World.size_alloc] at this
  · rw [Below.heap_alloc _ _ _ (by simp)]
    have := heap_alloc_new ((w.alloc a).alloc b) c
    rwa [World.size_alloc, World.size_alloc] at this
  · have := heap_alloc_new (((w.alloc a).alloc b).alloc c) d
    rwa [World.size_alloc, World.size_alloc, World.size_alloc] at this
set_option maxRecDepth 100000 in
theorem table_b (w : World) : Calls Try.prog 55 #[] w fun x w' => x = .returned (.agg (ofF 52 gT)) ∧ Below w.heap.size w w' := by
  have hmm : ∀ W : World, (Instr.makeMap 123 none).run Try.prog W = .ok (.map (some W.heap.size)) (W.alloc (.map #[] 0)) := fun W => by simp [Instr.makeMap]
  have hiA0 : ∀ (W : World) (r : Nat), W.heap.size = r → (Instr.mapUpdate 123 (.map (some r)) (.int .i64 1) (.int .i64 1)).run Try.prog (W.alloc (.map #[] 0)) = .ok () (W.alloc (.map #[⟨.int .i64 1, .int .i64 1, 0⟩] 1)) := fun W r h => run_insert_new Try.underlying123 Try.underlying23 h rfl
  have hiA1 : ∀ (W : World) (r : Nat), W.heap.size = r → (Instr.mapUpdate 123 (.map (some r)) (.int .i64 10) (.int .i64 0)).run Try.prog (W.alloc (.map #[⟨.int .i64 1, .int .i64 1, 0⟩] 1)) = .ok () (W.alloc (.map #[⟨.int .i64 1, .int .i64 1, 0⟩, ⟨.int .i64 10, .int .i64 0, 1⟩] 2)) := fun W r h => run_insert_new Try.underlying123 Try.underlying23 h rfl
  have hiA2 : ∀ (W : World) (r : Nat), W.heap.size = r → (Instr.mapUpdate 123 (.map (some r)) (.int .i64 11) (.int .i64 0)).run Try.prog (W.alloc (.map #[⟨.int .i64 1, .int .i64 1, 0⟩, ⟨.int .i64 10, .int .i64 0, 1⟩] 2)) = .ok () (W.alloc (.map #[⟨.int .i64 1, .int .i64 1, 0⟩, ⟨.int .i64 10, .int .i64 0, 1⟩, ⟨.int .i64 11, .int .i64 0, 2⟩] 3)) := fun W r h => run_insert_new Try.underlying123 Try.underlying23 h rfl
  have hiA3 : ∀ (W : World) (r : Nat), W.heap.size = r → (Instr.mapUpdate 123 (.map (some r)) (.int .i64 9) (.int .i64 3)).run Try.prog (W.alloc (.map #[⟨.int .i64 1, .int .i64 1, 0⟩, ⟨.int .i64 10, .int .i64 0, 1⟩, ⟨.int .i64 11, .int .i64 0, 2⟩] 3)) = .ok () (W.alloc (.map #[⟨.int .i64 1, .int .i64 1, 0⟩, ⟨.int .i64 10, .int .i64 0, 1⟩, ⟨.int .i64 11, .int .i64 0, 2⟩, ⟨.int .i64 9, .int .i64 3, 3⟩] 4)) := fun W r h => run_insert_new Try.underlying123 Try.underlying23 h rfl
  have hiA4 : ∀ (W : World) (r : Nat), W.heap.size = r → (Instr.mapUpdate 123 (.map (some r)) (.int .i64 12) (.int .i64 3)).run Try.prog (W.alloc (.map #[⟨.int .i64 1, .int .i64 1, 0⟩, ⟨.int .i64 10, .int .i64 0, 1⟩, ⟨.int .i64 11, .int .i64 0, 2⟩, ⟨.int .i64 9, .int .i64 3, 3⟩] 4)) = .ok () (W.alloc (.map #[⟨.int .i64 1, .int .i64 1, 0⟩, ⟨.int .i64 10, .int .i64 0, 1⟩, ⟨.int .i64 11, .int .i64 0, 2⟩, ⟨.int .i64 9, .int .i64 3, 3⟩, ⟨.int .i64 12, .int .i64 3, 4⟩] 5)) := fun W r h => run_insert_new Try.underlying123 Try.underlying23 h rfl
  have hrA : ∀ (W : World) (r : Nat), W.heap.size = r → (Instr.range 123 (.map (some r))).run Try.prog (W.alloc (.map #[⟨.int .i64 1, .int .i64 1, 0⟩, ⟨.int .i64 10, .int .i64 0, 1⟩, ⟨.int .i64 11, .int .i64 0, 2⟩, ⟨.int .i64 9, .int .i64 3, 3⟩, ⟨.int .i64 12, .int .i64 3, 4⟩] 5)) = .ok (.pointer (some ⟨r + 1, 0, none⟩)) ((W.alloc (.map #[⟨.int .i64 1, .int .i64 1, 0⟩, ⟨.int .i64 10, .int .i64 0, 1⟩, ⟨.int .i64 11, .int .i64 0, 2⟩, ⟨.int .i64 9, .int .i64 3, 3⟩, ⟨.int .i64 12, .int .i64 3, 4⟩] 5)).alloc (.mapIter (some r) 5 #[] 5)) := fun W r h => by subst h; exact (run_range_map Try.underlying123 (heap_alloc_new W _)).trans (by simp)
  have hiB0 : ∀ (W : World) (r : Nat), W.heap.size = r → (Instr.mapUpdate 123 (.map (some r)) (.int .i64 2) (.int .i64 1)).run Try.prog (W.alloc (.map #[] 0)) = .ok () (W.alloc (.map #[⟨.int .i64 2, .int .i64 1, 0⟩] 1)) := fun W r h => run_insert_new Try.underlying123 Try.underlying23 h rfl
  have hiB1 : ∀ (W : World) (r : Nat), W.heap.size = r → (Instr.mapUpdate 123 (.map (some r)) (.int .i64 3) (.int .i64 1)).run Try.prog (W.alloc (.map #[⟨.int .i64 2, .int .i64 1, 0⟩] 1)) = .ok () (W.alloc (.map #[⟨.int .i64 2, .int .i64 1, 0⟩, ⟨.int .i64 3, .int .i64 1, 1⟩] 2)) := fun W r h => run_insert_new Try.underlying123 Try.underlying23 h rfl
  have hiB2 : ∀ (W : World) (r : Nat), W.heap.size = r → (Instr.mapUpdate 123 (.map (some r)) (.int .i64 4) (.int .i64 1)).run Try.prog (W.alloc (.map #[⟨.int .i64 2, .int .i64 1, 0⟩, ⟨.int .i64 3, .int .i64 1, 1⟩] 2)) = .ok () (W.alloc (.map #[⟨.int .i64 2, .int .i64 1, 0⟩, ⟨.int .i64 3, .int .i64 1, 1⟩, ⟨.int .i64 4, .int .i64 1, 2⟩] 3)) := fun W r h => run_insert_new Try.underlying123 Try.underlying23 h rfl
  have hiB3 : ∀ (W : World) (r : Nat), W.heap.size = r → (Instr.mapUpdate 123 (.map (some r)) (.int .i64 5) (.int .i64 2)).run Try.prog (W.alloc (.map #[⟨.int .i64 2, .int .i64 1, 0⟩, ⟨.int .i64 3, .int .i64 1, 1⟩, ⟨.int .i64 4, .int .i64 1, 2⟩] 3)) = .ok () (W.alloc (.map #[⟨.int .i64 2, .int .i64 1, 0⟩, ⟨.int .i64 3, .int .i64 1, 1⟩, ⟨.int .i64 4, .int .i64 1, 2⟩, ⟨.int .i64 5, .int .i64 2, 3⟩] 4)) := fun W r h => run_insert_new Try.underlying123 Try.underlying23 h rfl
  have hiB4 : ∀ (W : World) (r : Nat), W.heap.size = r → (Instr.mapUpdate 123 (.map (some r)) (.int .i64 6) (.int .i64 0)).run Try.prog (W.alloc (.map #[⟨.int .i64 2, .int .i64 1, 0⟩, ⟨.int .i64 3, .int .i64 1, 1⟩, ⟨.int .i64 4, .int .i64 1, 2⟩, ⟨.int .i64 5, .int .i64 2, 3⟩] 4)) = .ok () (W.alloc (.map #[⟨.int .i64 2, .int .i64 1, 0⟩, ⟨.int .i64 3, .int .i64 1, 1⟩, ⟨.int .i64 4, .int .i64 1, 2⟩, ⟨.int .i64 5, .int .i64 2, 3⟩, ⟨.int .i64 6, .int .i64 0, 4⟩] 5)) := fun W r h => run_insert_new Try.underlying123 Try.underlying23 h rfl
  have hiB5 : ∀ (W : World) (r : Nat), W.heap.size = r → (Instr.mapUpdate 123 (.map (some r)) (.int .i64 7) (.int .i64 0)).run Try.prog (W.alloc (.map #[⟨.int .i64 2, .int .i64 1, 0⟩, ⟨.int .i64 3, .int .i64 1, 1⟩, ⟨.int .i64 4, .int .i64 1, 2⟩, ⟨.int .i64 5, .int .i64 2, 3⟩, ⟨.int .i64 6, .int .i64 0, 4⟩] 5)) = .ok () (W.alloc (.map #[⟨.int .i64 2, .int .i64 1, 0⟩, ⟨.int .i64 3, .int .i64 1, 1⟩, ⟨.int .i64 4, .int .i64 1, 2⟩, ⟨.int .i64 5, .int .i64 2, 3⟩, ⟨.int .i64 6, .int .i64 0, 4⟩, ⟨.int .i64 7, .int .i64 0, 5⟩] 6)) := fun W r h => run_insert_new Try.underlying123 Try.underlying23 h rfl
  have hiB6 : ∀ (W : World) (r : Nat), W.heap.size = r → (Instr.mapUpdate 123 (.map (some r)) (.int .i64 8) (.int .i64 0)).run Try.prog (W.alloc (.map #[⟨.int .i64 2, .int .i64 1, 0⟩, ⟨.int .i64 3, .int .i64 1, 1⟩, ⟨.int .i64 4, .int .i64 1, 2⟩, ⟨.int .i64 5, .int .i64 2, 3⟩, ⟨.int .i64 6, .int .i64 0, 4⟩, ⟨.int .i64 7, .int .i64 0, 5⟩] 6)) = .ok () (W.alloc (.map #[⟨.int .i64 2, .int .i64 1, 0⟩, ⟨.int .i64 3, .int .i64 1, 1⟩, ⟨.int .i64 4, .int .i64 1, 2⟩, ⟨.int .i64 5, .int .i64 2, 3⟩, ⟨.int .i64 6, .int .i64 0, 4⟩, ⟨.int .i64 7, .int .i64 0, 5⟩, ⟨.int .i64 8, .int .i64 0, 6⟩] 7)) := fun W r h => run_insert_new Try.underlying123 Try.underlying23 h rfl
  have hiB7 : ∀ (W : World) (r : Nat), W.heap.size = r → (Instr.mapUpdate 123 (.map (some r)) (.int .i64 9) (.int .i64 3)).run Try.prog (W.alloc (.map #[⟨.int .i64 2, .int .i64 1, 0⟩, ⟨.int .i64 3, .int .i64 1, 1⟩, ⟨.int .i64 4, .int .i64 1, 2⟩, ⟨.int .i64 5, .int .i64 2, 3⟩, ⟨.int .i64 6, .int .i64 0, 4⟩, ⟨.int .i64 7, .int .i64 0, 5⟩, ⟨.int .i64 8, .int .i64 0, 6⟩] 7)) = .ok () (W.alloc (.map #[⟨.int .i64 2, .int .i64 1, 0⟩, ⟨.int .i64 3, .int .i64 1, 1⟩, ⟨.int .i64 4, .int .i64 1, 2⟩, ⟨.int .i64 5, .int .i64 2, 3⟩, ⟨.int .i64 6, .int .i64 0, 4⟩, ⟨.int .i64 7, .int .i64 0, 5⟩, ⟨.int .i64 8, .int .i64 0, 6⟩, ⟨.int .i64 9, .int .i64 3, 7⟩] 8)) := fun W r h => run_insert_new Try.underlying123 Try.underlying23 h rfl
  have hrB : ∀ (W : World) (r : Nat), W.heap.size = r → (Instr.range 123 (.map (some r))).run Try.prog (W.alloc (.map #[⟨.int .i64 2, .int .i64 1, 0⟩, ⟨.int .i64 3, .int .i64 1, 1⟩, ⟨.int .i64 4, .int .i64 1, 2⟩, ⟨.int .i64 5, .int .i64 2, 3⟩, ⟨.int .i64 6, .int .i64 0, 4⟩, ⟨.int .i64 7, .int .i64 0, 5⟩, ⟨.int .i64 8, .int .i64 0, 6⟩, ⟨.int .i64 9, .int .i64 3, 7⟩] 8)) = .ok (.pointer (some ⟨r + 1, 0, none⟩)) ((W.alloc (.map #[⟨.int .i64 2, .int .i64 1, 0⟩, ⟨.int .i64 3, .int .i64 1, 1⟩, ⟨.int .i64 4, .int .i64 1, 2⟩, ⟨.int .i64 5, .int .i64 2, 3⟩, ⟨.int .i64 6, .int .i64 0, 4⟩, ⟨.int .i64 7, .int .i64 0, 5⟩, ⟨.int .i64 8, .int .i64 0, 6⟩, ⟨.int .i64 9, .int .i64 3, 7⟩] 8)).alloc (.mapIter (some r) 8 #[] 8)) := fun W r h => by subst h; exact (run_range_map Try.underlying123 (heap_alloc_new W _)).trans (by simp)
  have hz1 : w.heap.size + 1 + 1 + 1 ≠ w.heap.size + 1 + 1 := by omega
  go_enter Try.func55, Try.ntmps55
  go_wp2
  go_loopg [2, 3] 5 (fun gk ck cv wr => ∃ (seen : Array Nat) (c0 : Nat), gk = (leftOf esA seen).size ∧ 5 ≤ c0 ∧ Hid (seen.contains 100 = false) ∧ Hid (wr.heap[w.heap.size + 1 + 1 + 1]? = some (.mapIter (some (w.heap.size + 1 + 1)) 5 seen c0)) ∧ Hid (wr.heap[w.heap.size + 1 + 1]? = some (.map esA 5)) ∧ Hid (Blk wr (w.heap.size + 1) 89 (ofF 52 (gA seen))) ∧ Hid (Blk wr (w.heap.size) 89 (ofF 52 fun _ => .int .i64 0)) ∧ Hid (Below w.heap.size w wr))
  case atStart =>
    obtain ⟨q0, q1, q2, q3, qb⟩ := heap4 w (.cells (ofF 52 fun _ => .int .i64 0) 89) (.cells (ofF 52 fun _ => .int .i64 0) 89) (.map esA 5) (.mapIter (some (w.heap.size + 1 + 1)) 5 #[] 5)
    exact ⟨#[], 5, (left_new esA).symm, Nat.le_refl _, Lib.hid (by simp), Lib.hid q3, Lib.hid q2, Lib.hid (by rw [gA_zero]; exact q1), Lib.hid q0, Lib.hid qb⟩
  case round =>
    obtain ⟨seen, c0, rfl, hc0, h100, hit, hmp, hbt, hbz, hbel⟩ := hrel
    go_wp2_with (refine wpList_next_lit rfl (.tmp 8) rfl (w.heap.size + 1 + 1 + 1) (w.heap.size + 1 + 1) 5 c0 5 seen esA rfl hit.out hmp.out (by decide) hc0 (by decide) hz1 (fun hdone => ?_) (fun x hx w' hit' hg' hz' hen => ?_))
    · have hz2 : wr.heap.size + 1 ≠ wr.heap.size := by omega
      have hs1 := hbt.out.lt
      have hs2 := hbel.out.size
      obtain ⟨wo, rfl⟩ : ∃ wo : World, wo = wr := ⟨_, rfl⟩
      go_loopg [4, 5] 8 (fun gk ck cv wx => ∃ (seen : Array Nat) (c0 : Nat), gk = (leftOf esB seen).size ∧ 8 ≤ c0 ∧ Hid (seen.contains 100 = false) ∧ Hid (wx.heap[wo.heap.size + 1]? = some (.mapIter (some wo.heap.size) 8 seen c0)) ∧ Hid (wx.heap[wo.heap.size]? = some (.map esB 8)) ∧ Hid (Blk wx (w.heap.size + 1) 89 (ofF 52 (gB seen))) ∧ Hid (Blk wx w.heap.size 89 (ofF 52 fun _ => .int .i64 0)) ∧ Hid (Below w.heap.size w wx))
      case atStart =>
        obtain ⟨q0, q1⟩ := heap2 wo (.map esB 8) (.mapIter (some wo.heap.size) 8 #[] 8)
        exact ⟨#[], 8, (left_new esB).symm, Nat.le_refl _, Lib.hid (by simp), Lib.hid q1, Lib.hid q0, Lib.hid (by rw [← gA_done hdone h100.out]; exact (hbt.out.alloc _).alloc _), Lib.hid ((hbz.out.alloc _).alloc _), Lib.hid ((hbel.out.alloc hs2 _).alloc (by simp; omega) _)⟩
      case round =>
        clear hit hmp hbt hbz hbel h100 hdone hc0
        obtain ⟨seen, c0, rfl, hc0, h100, hit, hmp, hbt, hbz, hbel⟩ := hrel
        have c32 := hbt.out.fcell (i := 32) (by decide)
        have f32 := hbt.out.frozen 32
        have hbt3 : Hid (Blk (wr.setCell ⟨w.heap.size + 1, 32, none⟩ (.int .i64 1)) (w.heap.size + 1) 89 (ofF 52 (fun j => if j = 2 * 13 + 6 then .int .i64 1 else gB seen j))) := Lib.hid (hbt.out.fset 32 (.int .i64 1))
        have hbz3 : Hid (Blk (wr.setCell ⟨w.heap.size + 1, 32, none⟩ (.int .i64 1)) w.heap.size 89 (ofF 52 fun _ => .int .i64 0)) := Lib.hid (hbz.out.far (p := ⟨w.heap.size + 1, 32, none⟩) (by simp) _)
        have hbel3 : Hid (Below w.heap.size w (wr.setCell ⟨w.heap.size + 1, 32, none⟩ (.int .i64 1))) := Lib.hid (hbel.out.setCell (Nat.le_succ _) _)
        have hoc : ∀ v ∈ (ofF 52 (fun j => if j = 2 * 13 + 6 then .int .i64 1 else gB seen j)).toList, v.oneCell' = true := by
          intro v hv
          simp only [ofF, List.mem_map, List.mem_range] at hv
          obtain ⟨j, hj, rfl⟩ := hv
          unfold gB
          repeat' split
          all_goals rfl
        replace hoc := Lib.hid hoc
        go_wp2_with (first | (refine wpList_next_lit rfl (.tmp 21) rfl (wo.heap.size + 1) wo.heap.size 8 c0 8 seen esB rfl hit.out hmp.out (by decide) hc0 (by decide) hz2 (fun hdone => ?_) (fun x hx w' hit' hg' hz' hen => ?_)) | (refine wpList_load_row rfl 89 (.tmp 1) rfl (w.heap.size + 1) rfl 89 _ (0, 0) _ hbt3.out Try.underlying89 rfl (by rw [ofF_size]; kernel_rfl) ?_; refine wpList_store_row rfl 89 (.tmp 0) (.tmp 34) rfl w.heap.size rfl _ _ rfl 89 hbz3.out (by rw [ofF_size, ofF_size]) (by rw [ofF_size]; kernel_rfl) hoc.out (fun w5 hb5 hg5 hz5 => ?_)))
        · have hb6 := below_grown hbel3.out hg5 (Nat.le_refl _) hbz3.out.lt
          rw [gB_done hdone h100.out] at hb5
          refine bodyPost_ret (results_cell_row rfl _ _ w.heap.size 89 _ (0, 0) _ rfl hb5 Try.underlying89 rfl (by rw [ofF_size]; kernel_rfl)) rfl ⟨rfl, hb6⟩
        · obtain ⟨hxm, hxs⟩ := left_mem hx
          have hlt := Lib.hid (left_lt hx)
          clear hx
          have hbt' := hbt.out.grown hg' (show some (w.heap.size + 1) ≠ some (wo.heap.size + 1) from fun e => by injection e with e; omega)
          have hbz' := Lib.hid (hbz.out.grown hg' (show some w.heap.size ≠ some (wo.heap.size + 1) from fun e => by injection e with e; omega))
          have hmp' := Lib.hid ((hg'.block _ (row_lt hmp.out) (by simp)).trans hmp.out)
          have hbel' := Lib.hid (below_grown hbel.out hg' (by omega) (row_lt hit.out))
          replace hit' := Lib.hid hit'
          replace hg' := Lib.hid hg'
          replace hz' := Lib.hid hz'
          simp only [esB, List.mem_cons, List.not_mem_nil, or_false] at hxm
          clear hit hmp hbt hbz hbel
          rcases hxm with rfl | rfl | rfl | rfl | rfl | rfl | rfl | rfl
          · have c1 := hbt'.fcell (i := 15) (by decide)
            have f1 := hbt'.frozen 15
            have hB2 := Lib.hid ((hbt'.fset 15 (.int .i64 2)).fcongr (gB_push (k := 15) (b := 0) (by decide) rfl (by decide)))
            clear hbt'
            go_wp2
            go_roundg (leftOf esB (seen.push 0)).size
            case measure => exact hlt.out
            case rel => exact ⟨seen.push 0, 8, rfl, Nat.le_refl _, Lib.hid (push100 h100.out (by decide)), Lib.hid ((Below.heap_setCell _ _ _ _ (show wo.heap.size + 1 ≠ w.heap.size + 1 by omega)).trans hit'.out), Lib.hid ((Below.heap_setCell _ _ _ _ (show wo.heap.size ≠ w.heap.size + 1 by omega)).trans hmp'.out), hB2, Lib.hid (hbz'.out.far (p := ⟨w.heap.size + 1, 15, none⟩) (by simp) _), Lib.hid (hbel'.out.setCell (Nat.le_succ _) _)⟩
          · have c1 := hbt'.fcell (i := 16) (by decide)
            have f1 := hbt'.frozen 16
            have hB2 := Lib.hid ((hbt'.fset 16 (.int .i64 2)).fcongr (gB_push (k := 16) (b := 1) (by decide) rfl (by decide)))
            clear hbt'
            go_wp2
            go_roundg (leftOf esB (seen.push 1)).size
            case measure => exact hlt.out
            case rel => exact ⟨seen.push 1, 8, rfl, Nat.le_refl _, Lib.hid (push100 h100.out (by decide)), Lib.hid ((Below.heap_setCell _ _ _ _ (show wo.heap.size + 1 ≠ w.heap.size + 1 by omega)).trans hit'.out), Lib.hid ((Below.heap_setCell _ _ _ _ (show wo.heap.size ≠ w.heap.size + 1 by omega)).trans hmp'.out), hB2, Lib.hid (hbz'.out.far (p := ⟨w.heap.size + 1, 16, none⟩) (by simp) _), Lib.hid (hbel'.out.setCell (Nat.le_succ _) _)⟩
          · have c1 := hbt'.fcell (i := 17) (by decide)
            have f1 := hbt'.frozen 17
            have hB2 := Lib.hid ((hbt'.fset 17 (.int .i64 2)).fcongr (gB_push (k := 17) (b := 2) (by decide) rfl (by decide)))
            clear hbt'
            go_wp2
            go_roundg (leftOf esB (seen.push 2)).size
            case measure => exact hlt.out
            case rel => exact ⟨seen.push 2, 8, rfl, Nat.le_refl _, Lib.hid (push100 h100.out (by decide)), Lib.hid ((Below.heap_setCell _ _ _ _ (show wo.heap.size + 1 ≠ w.heap.size + 1 by omega)).trans hit'.out), Lib.hid ((Below.heap_setCell _ _ _ _ (show wo.heap.size ≠ w.heap.size + 1 by omega)).trans hmp'.out), hB2, Lib.hid (hbz'.out.far (p := ⟨w.heap.size + 1, 17, none⟩) (by simp) _), Lib.hid (hbel'.out.setCell (Nat.le_succ _) _)⟩
          · have c1 := hbt'.fcell (i := 18) (by decide)
            have f1 := hbt'.frozen 18
            have hB2 := Lib.hid ((hbt'.fset 18 (.int .i64 3)).fcongr (gB_push (k := 18) (b := 3) (by decide) rfl (by decide)))
            clear hbt'
            go_wp2
            go_roundg (leftOf esB (seen.push 3)).size
            case measure => exact hlt.out
            case rel => exact ⟨seen.push 3, 8, rfl, Nat.le_refl _, Lib.hid (push100 h100.out (by decide)), Lib.hid ((Below.heap_setCell _ _ _ _ (show wo.heap.size + 1 ≠ w.heap.size + 1 by omega)).trans hit'.out), Lib.hid ((Below.heap_setCell _ _ _ _ (show wo.heap.size ≠ w.heap.size + 1 by omega)).trans hmp'.out), hB2, Lib.hid (hbz'.out.far (p := ⟨w.heap.size + 1, 18, none⟩) (by simp) _), Lib.hid (hbel'.out.setCell (Nat.le_succ _) _)⟩
          · have c1 := hbt'.fcell (i := 19) (by decide)
            have f1 := hbt'.frozen 19
            have hB2 := Lib.hid ((hbt'.fset 19 (.int .i64 1)).fcongr (gB_push (k := 19) (b := 4) (by decide) rfl (by decide)))
            clear hbt'
            go_wp2
            go_roundg (leftOf esB (seen.push 4)).size
            case measure => exact hlt.out
            case rel => exact ⟨seen.push 4, 8, rfl, Nat.le_refl _, Lib.hid (push100 h100.out (by decide)), Lib.hid ((Below.heap_setCell _ _ _ _ (show wo.heap.size + 1 ≠ w.heap.size + 1 by omega)).trans hit'.out), Lib.hid ((Below.heap_setCell _ _ _ _ (show wo.heap.size ≠ w.heap.size + 1 by omega)).trans hmp'.out), hB2, Lib.hid (hbz'.out.far (p := ⟨w.heap.size + 1, 19, none⟩) (by simp) _), Lib.hid (hbel'.out.setCell (Nat.le_succ _) _)⟩
          · have c1 := hbt'.fcell (i := 20) (by decide)
            have f1 := hbt'.frozen 20
            have hB2 := Lib.hid ((hbt'.fset 20 (.int .i64 1)).fcongr (gB_push (k := 20) (b := 5) (by decide) rfl (by decide)))
            clear hbt'
            go_wp2
            go_roundg (leftOf esB (seen.push 5)).size
            case measure => exact hlt.out
            case rel => exact ⟨seen.push 5, 8, rfl, Nat.le_refl _, Lib.hid (push100 h100.out (by decide)), Lib.hid ((Below.heap_setCell _ _ _ _ (show wo.heap.size + 1 ≠ w.heap.size + 1 by omega)).trans hit'.out), Lib.hid ((Below.heap_setCell _ _ _ _ (show wo.heap.size ≠ w.heap.size + 1 by omega)).trans hmp'.out), hB2, Lib.hid (hbz'.out.far (p := ⟨w.heap.size + 1, 20, none⟩) (by simp) _), Lib.hid (hbel'.out.setCell (Nat.le_succ _) _)⟩
          · have c1 := hbt'.fcell (i := 21) (by decide)
            have f1 := hbt'.frozen 21
            have hB2 := Lib.hid ((hbt'.fset 21 (.int .i64 1)).fcongr (gB_push (k := 21) (b := 6) (by decide) rfl (by decide)))
            clear hbt'
            go_wp2
            go_roundg (leftOf esB (seen.push 6)).size
            case measure => exact hlt.out
            case rel => exact ⟨seen.push 6, 8, rfl, Nat.le_refl _, Lib.hid (push100 h100.out (by decide)), Lib.hid ((Below.heap_setCell _ _ _ _ (show wo.heap.size + 1 ≠ w.heap.size + 1 by omega)).trans hit'.out), Lib.hid ((Below.heap_setCell _ _ _ _ (show wo.heap.size ≠ w.heap.size + 1 by omega)).trans hmp'.out), hB2, Lib.hid (hbz'.out.far (p := ⟨w.heap.size + 1, 21, none⟩) (by simp) _), Lib.hid (hbel'.out.setCell (Nat.le_succ _) _)⟩
          · have c1 := hbt'.fcell (i := 22) (by decide)
            have f1 := hbt'.frozen 22
            have hB2 := Lib.hid ((hbt'.fset 22 (.int .i64 4)).fcongr (gB_push (k := 22) (b := 7) (by decide) rfl (by decide)))
            clear hbt'
            go_wp2
            go_roundg (leftOf esB (seen.push 7)).size
            case measure => exact hlt.out
            case rel => exact ⟨seen.push 7, 8, rfl, Nat.le_refl _, Lib.hid (push100 h100.out (by decide)), Lib.hid ((Below.heap_setCell _ _ _ _ (show wo.heap.size + 1 ≠ w.heap.size + 1 by omega)).trans hit'.out), Lib.hid ((Below.heap_setCell _ _ _ _ (show wo.heap.size ≠ w.heap.size + 1 by omega)).trans hmp'.out), hB2, Lib.hid (hbz'.out.far (p := ⟨w.heap.size + 1, 22, none⟩) (by simp) _), Lib.hid (hbel'.out.setCell (Nat.le_succ _) _)⟩
    · obtain ⟨hxm, hxs⟩ := left_mem hx
      have hlt := Lib.hid (left_lt hx)
      clear hx
      have hbt' := hbt.out.grown hg' (by simp)
      have hbz' := Lib.hid (hbz.out.grown hg' (by simp; omega))
      have hmp' := Lib.hid ((hg'.block _ (row_lt hmp.out) (by simp)).trans hmp.out)
      have hbel' := Lib.hid (below_grown hbel.out hg' (by omega) (row_lt hit.out))
      replace hit' := Lib.hid hit'
      replace hg' := Lib.hid hg'
      replace hz' := Lib.hid hz'
      simp only [esA, List.mem_cons, List.not_mem_nil, or_false] at hxm
      clear hit hmp hbt hbz hbel
      rcases hxm with rfl | rfl | rfl | rfl | rfl
      · have c1 := hbt'.fcell (i := 1) (by decide)
        have f1 := hbt'.frozen 1
        have hB2 := Lib.hid ((hbt'.fset 1 (.int .i64 2)).fcongr (gA_push (k := 1) (b := 0) (by decide) rfl (by decide)))
        clear hbt'
        go_wp2
        go_roundg (leftOf esA (seen.push 0)).size
        case measure => exact hlt.out
        case rel => exact ⟨seen.push 0, 5, rfl, Nat.le_refl _, Lib.hid (push100 h100.out (by decide)), Lib.hid ((Below.heap_setCell _ _ _ _ (show w.heap.size + 1 + 1 + 1 ≠ w.heap.size + 1 by omega)).trans hit'.out), Lib.hid ((Below.heap_setCell _ _ _ _ (show w.heap.size + 1 + 1 ≠ w.heap.size + 1 by omega)).trans hmp'.out), hB2, Lib.hid (hbz'.out.far (p := ⟨w.heap.size + 1, 1, none⟩) (by simp) _), Lib.hid (hbel'.out.setCell (Nat.le_succ _) _)⟩
      · have c1 := hbt'.fcell (i := 10) (by decide)
        have f1 := hbt'.frozen 10
        have hB2 := Lib.hid ((hbt'.fset 10 (.int .i64 1)).fcongr (gA_push (k := 10) (b := 1) (by decide) rfl (by decide)))
        clear hbt'
        go_wp2
        go_roundg (leftOf esA (seen.push 1)).size
        case measure => exact hlt.out
        case rel => exact ⟨seen.push 1, 5, rfl, Nat.le_refl _, Lib.hid (push100 h100.out (by decide)), Lib.hid ((Below.heap_setCell _ _ _ _ (show w.heap.size + 1 + 1 + 1 ≠ w.heap.size + 1 by omega)).trans hit'.out), Lib.hid ((Below.heap_setCell _ _ _ _ (show w.heap.size + 1 + 1 ≠ w.heap.size + 1 by omega)).trans hmp'.out), hB2, Lib.hid (hbz'.out.far (p := ⟨w.heap.size + 1, 10, none⟩) (by simp) _), Lib.hid (hbel'.out.setCell (Nat.le_succ _) _)⟩
      · have c1 := hbt'.fcell (i := 11) (by decide)
        have f1 := hbt'.frozen 11
        have hB2 := Lib.hid ((hbt'.fset 11 (.int .i64 1)).fcongr (gA_push (k := 11) (b := 2) (by decide) rfl (by decide)))
        clear hbt'
        go_wp2
        go_roundg (leftOf esA (seen.push 2)).size
        case measure => exact hlt.out
        case rel => exact ⟨seen.push 2, 5, rfl, Nat.le_refl _, Lib.hid (push100 h100.out (by decide)), Lib.hid ((Below.heap_setCell _ _ _ _ (show w.heap.size + 1 + 1 + 1 ≠ w.heap.size + 1 by omega)).trans hit'.out), Lib.hid ((Below.heap_setCell _ _ _ _ (show w.heap.size + 1 + 1 ≠ w.heap.size + 1 by omega)).trans hmp'.out), hB2, Lib.hid (hbz'.out.far (p := ⟨w.heap.size + 1, 11, none⟩) (by simp) _), Lib.hid (hbel'.out.setCell (Nat.le_succ _) _)⟩
      · have c1 := hbt'.fcell (i := 9) (by decide)
        have f1 := hbt'.frozen 9
        have hB2 := Lib.hid ((hbt'.fset 9 (.int .i64 4)).fcongr (gA_push (k := 9) (b := 3) (by decide) rfl (by decide)))
        clear hbt'
        go_wp2
        go_roundg (leftOf esA (seen.push 3)).size
        case measure => exact hlt.out
        case rel => exact ⟨seen.push 3, 5, rfl, Nat.le_refl _, Lib.hid (push100 h100.out (by decide)), Lib.hid ((Below.heap_setCell _ _ _ _ (show w.heap.size + 1 + 1 + 1 ≠ w.heap.size + 1 by omega)).trans hit'.out), Lib.hid ((Below.heap_setCell _ _ _ _ (show w.heap.size + 1 + 1 ≠ w.heap.size + 1 by omega)).trans hmp'.out), hB2, Lib.hid (hbz'.out.far (p := ⟨w.heap.size + 1, 9, none⟩) (by simp) _), Lib.hid (hbel'.out.setCell (Nat.le_succ _) _)⟩
      · have c1 := hbt'.fcell (i := 12) (by decide)
        have f1 := hbt'.frozen 12
        have hB2 := Lib.hid ((hbt'.fset 12 (.int .i64 4)).fcongr (gA_push (k := 12) (b := 4) (by decide) rfl (by decide)))
        clear hbt'
        go_wp2
        go_roundg (leftOf esA (seen.push 4)).size
        case measure => exact hlt.out
        case rel => exact ⟨seen.push 4, 5, rfl, Nat.le_refl _, Lib.hid (push100 h100.out (by decide)), Lib.hid ((Below.heap_setCell _ _ _ _ (show w.heap.size + 1 + 1 + 1 ≠ w.heap.size + 1 by omega)).trans hit'.out), Lib.hid ((Below.heap_setCell _ _ _ _ (show w.heap.size + 1 + 1 ≠ w.heap.size + 1 by omega)).trans hmp'.out), hB2, Lib.hid (hbz'.out.far (p := ⟨w.heap.size + 1, 12, none⟩) (by simp) _), Lib.hid (hbel'.out.setCell (Nat.le_succ _) _)⟩
end Go.Proofs.Yteoebfjhadmnbaa
/- A history that lies in memory; events.goOver by contract. -/
namespace Go.Proofs.Yteoebfjhadmnbaa
open Go.RowKit
set_option maxHeartbeats 4000000
set_option linter.unusedVariables false
set_option linter.unusedSimpArgs false
/-- The slice v reads as the events l. -/
def LiesV (w : World) (v : Value) (l : List Ev) : Prop := ∃ A cp, v = .slice A l.length cp ∧ l.length ≤ cp ∧ (A = none → cp = 0) ∧ (∀ e ∈ l, EvWf e) ∧ l.length * 48 ≤ 140737488351232 + 48 ∧ ∀ j (hj : j < l.length), ∃ g o, A = some ⟨g, o, none⟩ ∧ g < w.heap.size ∧ ∀ c, c < 6 → w.cell? ⟨g, o + j * 6 + c, none⟩ = (encV (l[j]'hj))[c]?
section
variable {w w' : World} {v : Value} {l : List Ev}
theorem LiesV.keep (h : LiesV w v l) (hs : ∀ k, own v k → k < w.heap.size → w'.heap[k]? = w.heap[k]?) (hz : w.heap.size ≤ w'.heap.size) : LiesV w' v l := by
  obtain ⟨A, cp, rfl, hc, h0, hw, hl, h⟩ := h
  refine ⟨A, cp, rfl, hc, h0, hw, hl, fun j hj => ?_⟩
  obtain ⟨g, o, rfl, hlt, k0⟩ := h j hj
  have e := hs g (by simp [own, Value.ownBlock]) hlt
  refine ⟨g, o, rfl, by omega, fun c hc => ?_⟩
  have k1 := k0 c hc
  unfold World.cell? at *
  simp only [e]
  exact k1
theorem LiesV.below (h : LiesV w v l) {B : Nat} (hb : Below B w w') (hB : w.heap.size ≤ B) : LiesV w' v l := h.keep (fun k _ hk => hb.block k (by omega)) hb.size
theorem LiesV.drewN (h : LiesV w v l) (n : Nat) : LiesV (w.drewN n) v l := h
theorem LiesV.shape (h : LiesV w v l) : ∃ A cp, v = .slice A l.length cp ∧ l.length ≤ cp := by
  obtain ⟨A, cp, h1, h2, _⟩ := h
  exact ⟨A, cp, h1, h2⟩
end
theorem wpList_build_ {P : Program} {ops : Array Oper} {rest : List Oper} {o : Oper} {a : Act} {Q : Exit → Act → World → Prop} {w : World} (hg : o.guard = none) (t : TypeId) (parts : Array (Nat × Operand)) (ho : o.op = .build t parts) (ps : Array (Nat × Value)) (hp : (parts.map fun p => (p.1, a.eval p.2)) = ps) (v : Value)
    (hrun : (Instr.build t ps).run P w = .ok v w) (h : wpList P ops Q rest (a.put o.dst v) w) : wpList P ops Q (o :: rest) a w := by
  refine wpList_plain hg fun K hK => ?_
  unfold Oper.wp
  subst hp
  simp only [execOp, ho]
  rw [show (do let x ← Instr.build t (parts.map fun (i, x) => (i, a.eval x)); pure (Next.value x) : Sem Next).run P w = .ok (.value v) w from by simp [hrun, Result.andThen]]
  exact hK _ _ h
theorem LookW.base {B B' b n : Nat} {w : World} {s : St} {m : Nat → Option Nat} {tv : Value} (h : LookW B w b s n m tv) (hB : B' ≤ B) : LookW B' w b s n m tv :=
  ⟨h.blk, h.tries, fun t ht hl => let ⟨mb, a, b, c⟩ := h.maps t ht hl; ⟨mb, a, Nat.le_trans hB b, c⟩, h.apart, Nat.le_trans hB h.geb, fun k hk => Nat.le_trans hB (h.get k hk)⟩
set_option maxRecDepth 100000 in
theorem goOver_b {w : World} {A : Option Addr} {cp : Nat} {l : List Ev} (hL : LiesV w (.slice A l.length cp) l) :
    Calls Try.prog 48 #[.slice A l.length cp] w fun x w' => Below w.heap.size w w' ∧ ((okTo l l.length ∧ ∃ b m tv, x = .returned (.tuple #[.pointer (some ⟨b, 0, none⟩), .agg #[.int .i64 (-1), .int .i64 0]]) ∧ LookW w.heap.size w' b (rn l l.length) l.length m tv) ∨
      (∃ n, n < l.length ∧ okTo l n ∧ wrong (rn l n) (evAt l n) ≠ 0 ∧ x = .returned (.tuple #[.pointer none, .agg #[.int .i64 n, .int .i64 (wrong (rn l n) (evAt l n))]]))) := by
  have hT := Lib.hid table_b
  have hlen : (l.length : Int) ≤ 9223372036854775807 := by obtain ⟨_, _, _, _, _, _, h, _⟩ := hL; omega
  have hbt : Try.prog.built 95 [(0, .agg (ofF 52 gT)), (3, .int .i64 (-1))] = some (ofF 87 (gL St.zero (fun _ => none) (.slice none 0 0))) := by kernel_rfl
  have hbd := fun W => run_build (P := Try.prog) W 95 #[(0, .agg (ofF 52 gT)), (3, .int .i64 (-1))] _ hbt
  clear hbt
  generalize hlk : ofF 87 (gL St.zero (fun _ => none) (.slice none 0 0)) = lk at *
  generalize ofF 52 gT = tbl at *
  replace hlk := Lib.hid hlk
  replace hL := Lib.hid hL
  have B0 := Lib.hid (Blk.new w 30 #[.int .i64 0, .int .i64 0])
  have bel0 : Hid (Below w.heap.size w (w.alloc (.cells #[.int .i64 0, .int .i64 0] 30))) := Lib.hid ((Below.refl _ _).alloc (Nat.le_refl _) _)
  go_enter Try.func48, Try.ntmps48
  go_wp2_with fail
  rename_i K1 hK1 K2 hK2
  refine (hT.out _).mono ?_
  rintro _ w1 ⟨rfl, hb1⟩
  have B1 := Lib.hid (B0.out.below hb1 B0.out.lt)
  have bel1 := Lib.hid (bel0.out.trans (hb1.mono (by simp)))
  have hsz1 : w.heap.size ≤ w1.heap.size := bel1.out.size
  have hBlt : w.heap.size < w1.heap.size := B1.out.lt
  clear hb1 B0 bel0 hT
  replace hbd := Lib.hid hbd
  dsimp only
  refine hK2 _ _ ?_
  refine wpList_build_ rfl 95 _ rfl #[(0, .agg tbl), (3, .int .i64 (-1))] (by first | (go_simp; done) | simp [Act.eval]) (.agg lk) (hbd.out _) ?_
  clear hK2 K2
  go_wp2_with fail
  go_loopw [13] (fun i wr => ∃ (k : Nat) (m : Nat → Option Nat) (tv : Value), k ≤ l.length ∧ i = .int .i64 k ∧ Hid (okTo l k) ∧ Hid (LookW w1.heap.size wr w1.heap.size (rn l k) k m tv) ∧ Hid (Below w.heap.size w wr) ∧ Hid (Blk wr w.heap.size 30 #[.int .i64 0, .int .i64 0])) (fun i _ => l.length - (intOf i).toNat)
  case atStart =>
    refine ⟨0, fun _ => none, .slice none 0 0, Nat.zero_le _, rfl, Lib.hid fun j hj => by omega, Lib.hid ⟨?_, Sl.nil _, fun t ht hl => by simp [rn, St.zero, liveT] at hl, fun t t' ht ht' hl => by simp [rn, St.zero, liveT] at hl, Nat.le_refl _, fun k hk => by simp [own, Value.ownBlock] at hk⟩, Lib.hid (bel1.out.alloc hsz1 _), Lib.hid (B1.out.alloc _)⟩
    have := Blk.new w1 95 lk
    have e9 := hlk.out
    rw [← e9] at this ⊢
    exact this
  case round =>
    obtain ⟨k, m, tv, hk, rfl, hok, hLk, hbl, hBz⟩ := hrel
    clear B1 bel1 hbd
    by_cases hlt : k < l.length
    · obtain ⟨A', cp', eA, hcp, hA0, hwf, hl48, hcl⟩ := hL.out.below hbl.out (Nat.le_refl _)
      injection eA with e1 e2 e3
      subst e1 e3
      have hewf := hwf _ (List.getElem_mem hlt)
      have hev : Hid (evAt l k = l[k]) := Lib.hid (by unfold evAt; rw [List.getD_eq_getElem?_getD, List.getElem?_eq_getElem hlt]; rfl)
      have hinv := inv_rn hwf hk hok.out
      obtain ⟨g, o, rfl, hg, hc⟩ := hcl k hlt
      generalize hee : l[k] = e at *
      have d0 := hc 0 (by decide)
      have d1 := hc 1 (by decide)
      have d2 := hc 2 (by decide)
      have d3 := hc 3 (by decide)
      have d4 := hc 4 (by decide)
      have d5 := hc 5 (by decide)
      have hn60 : k ≤ 1152921504606846976 := by omega
      have hln : ((rn l k).tries.length + 1) * 56 ≤ 140737488355328 := by
        have := hinv.two
        have := lives_le (rn l k)
        omega
      have hW := Lib.hid (fun W (hW : LookW w1.heap.size W w1.heap.size (rn l k) k m tv) => wrong_b hW hinv.bd hn60 e hewf)
      have hTk := Lib.hid (fun W (hW : LookW w1.heap.size W w1.heap.size (rn l k) k m tv) (hB : w1.heap.size ≤ W.heap.size) (h0 : wrong (rn l k) e = 0) => take_b hW hB hinv.bd hn60 hln e h0 k)
      obtain ⟨th, kd, ad, wd, ow, er⟩ := e
      unfold evV at hW hTk
      simp only [encV, List.getElem?_cons_zero, List.getElem?_cons_succ, Nat.add_zero] at d0 d1 d2 d3 d4 d5
      dsimp only at hW hTk
      have hLA := Lib.hid (hLk.out.alloc (.cells #[.int .i64 th, .int .i64 kd, .int .u64 ad, .int .u64 wd, .bool ow, .int .i64 er] 27))
      have hBA := Lib.hid (hBz.out.alloc (.cells #[.int .i64 th, .int .i64 kd, .int .u64 ad, .int .u64 wd, .bool ow, .int .i64 er] 27))
      have hEA := Lib.hid (Blk.new wr 27 #[.int .i64 th, .int .i64 kd, .int .u64 ad, .int .u64 wd, .bool ow, .int .i64 er])
      have hblA := Lib.hid (hbl.out.alloc hbl.out.size (.cells #[.int .i64 th, .int .i64 kd, .int .u64 ad, .int .u64 wd, .bool ow, .int .i64 er] 27))
      have hlt' : (k : Int) < (l.length : Int) := by omega
      have hbs := hbl.out.size
      clear hcl hc hwf hinv hewf hl48 hn60 hln hLk hbl hBz e2 hcp hA0 hg
      replace hee := Lib.hid hee
      generalize hx : wrong (rn l k) ⟨th, kd, ad, wd, ow, er⟩ = x at *
      replace hx := Lib.hid hx
      have hxc : ((x != 0) = false ∧ x = 0) ∨ ((x != 0) = true ∧ x ≠ 0) := by
        by_cases h : x = 0
        · exact .inl ⟨by simp [h], h⟩
        · exact .inr ⟨by simp [h], h⟩
      rcases hxc with ⟨hx1, hx2⟩ | ⟨hx1, hx2⟩
      · replace hx2 := Lib.hid hx2
        go_wp2_with fail
        refine (hW.out _ hLA.out).mono ?_
        rintro _ w3 ⟨rfl, hb3⟩
        have hL3 := Lib.hid (hLA.out.below hb3)
        have hB3 := Lib.hid (hBA.out.below hb3 hBA.out.lt)
        have hE3 := hEA.out.below hb3 hEA.out.lt
        have hbl3 := Lib.hid (hblA.out.trans (hb3.mono (by have := hblA.out.size; exact this)))
        have e0 := hE3.cell 0
        have e1 := hE3.cell 1
        have e2 := hE3.cell 2
        have e3 := hE3.cell 3
        have e4 := hE3.cell 4
        have e5 := hE3.cell 5
        simp only [List.getElem?_toArray, List.getElem?_cons_zero, List.getElem?_cons_succ] at e0 e1 e2 e3 e4 e5
        clear hb3 hE3 hLA hBA hEA hblA
        go_wp2_with fail
        have hbw3 : w1.heap.size < w3.heap.size := hL3.out.blk.lt
        refine (hTk.out _ hL3.out (Nat.le_of_lt hbw3) hx2.out).mono ?_
        rintro _ w4 ⟨rfl, hb4, m4, tv4, hL4⟩
        have hB4 := Lib.hid (hB3.out.below hb4 hBlt)
        have hbl4 := Lib.hid (hbl3.out.trans (hb4.mono hsz1))
        have hL4' : Hid (LookW w1.heap.size w4 w1.heap.size (rn l (k + 1)) (k + 1) m4 tv4) := Lib.hid (by show LookW _ _ _ (take (rn l k) k (evAt l k)) _ _ _; rw [hev.out]; exact hL4)
        clear hb4 hL4
        go_wp2_with fail
        go_roundw
        case rel => exact ⟨k + 1, m4, tv4, hlt, by go_num, Lib.hid (hok.out.succ (by rw [hev.out, hx.out]; exact hx2.out)), hL4', hbl4, hB4⟩
        case measure => simp [intOf]; omega
      · go_wp2_with fail
        refine (hW.out _ hLA.out).mono ?_
        rintro _ w3 ⟨rfl, hb3⟩
        have hB3 := hBA.out.below hb3 hBA.out.lt
        have hbl3 := Lib.hid (hblA.out.trans (hb3.mono (by have := hblA.out.size; exact this)))
        have b0 := hB3.cell 0
        have b1 := hB3.cell 1
        have f0 := hB3.frozen 0
        have f1 := hB3.frozen 1
        simp only [List.getElem?_toArray, List.getElem?_cons_zero, List.getElem?_cons_succ] at b0 b1
        clear hb3 hLA hBA hEA hblA hB3
        go_wp2
        refine bodyPost_ret (v := .tuple #[.pointer none, .agg #[.int .i64 k, .int .i64 x]]) (by simp [results, Try.results48, go_sem, b0, b1, f0, f1]) rfl ⟨(hbl3.out.setCell (Nat.le_refl _) _).setCell (Nat.le_refl _) _, .inr ⟨k, hlt, hok.out, by rw [hev.out, hx.out]; exact hx2, by rw [hev.out, hx.out]⟩⟩
    · have hkk : k = l.length := by omega
      subst hkk
      have b0 := hBz.out.cell 0
      have b1 := hBz.out.cell 1
      have f0 := hBz.out.frozen 0
      have f1 := hBz.out.frozen 1
      simp only [List.getElem?_toArray, List.getElem?_cons_zero, List.getElem?_cons_succ] at b0 b1
      go_wp2
      refine bodyPost_ret (v := .tuple #[.pointer (some ⟨w1.heap.size, 0, none⟩), .agg #[.int .i64 (-1), .int .i64 0]]) (by simp [results, Try.results48, go_sem, b0, b1, f0, f1]) rfl ⟨(hbl.out.setCell (Nat.le_refl _) _).setCell (Nat.le_refl _) _, .inl ⟨hok.out, w1.heap.size, m, tv, rfl, LookW.base (LookW.keep hLk.out (fun j hj _ => ?_)) hsz1⟩⟩
      rw [Below.heap_setCell _ _ _ _ (show j ≠ w.heap.size by omega), Below.heap_setCell _ _ _ _ (show j ≠ w.heap.size by omega)]
end Go.Proofs.Yteoebfjhadmnbaa
/- events.Tries by contract. -/
namespace Go.Proofs.Yteoebfjhadmnbaa
open Go.RowKit
set_option maxHeartbeats 4000000
set_option linter.unusedVariables false
set_option linter.unusedSimpArgs false
theorem odd_at {l : List Ev} {n : Nat} (hn : n < l.length) (h : okTo l n) (hw : wrong (rn l n) (evAt l n) ≠ 0) : odd l = ((n : Int), wrong (rn l n) (evAt l n)) := odd_bad h hn hw
theorem wrong_vals (s : St) (e : Ev) : wrong s e = 0 ∨ wrong s e = 201 ∨ (230 ≤ wrong s e ∧ wrong s e ≤ 233) := by
  unfold wrong wrg
  repeat' split
  all_goals omega
/-- What Tries answers: the attempts, or none. -/
def triesOf (l : List Ev) : List Tr := if (odd l).2 = 0 then (rn l l.length).tries else []
set_option maxRecDepth 100000 in
theorem tries_b {w : World} {A : Option Addr} {cp : Nat} {l : List Ev} (hL : LiesV w (.slice A l.length cp) l) :
    Calls Try.prog 32 #[.slice A l.length cp] w fun x w' => Below w.heap.size w w' ∧ ((okTo l l.length ∧ ∃ tv, x = .returned (.tuple #[tv, .agg #[.int .i64 (-1), .int .i64 0]]) ∧ Sl 74 7 encT w' tv (rn l l.length).tries ∧ (∀ k, own tv k → w.heap.size ≤ k)) ∨
      (∃ n, n < l.length ∧ okTo l n ∧ wrong (rn l n) (evAt l n) ≠ 0 ∧ x = .returned (.tuple #[.slice none 0 0, .agg #[.int .i64 n, .int .i64 (wrong (rn l n) (evAt l n))]]))) := by
  have B0 := Lib.hid (Blk.new w 30 #[.int .i64 0, .int .i64 0])
  have bel0 : Hid (Below w.heap.size w (w.alloc (.cells #[.int .i64 0, .int .i64 0] 30))) := Lib.hid ((Below.refl _ _).alloc (Nat.le_refl _) _)
  have C := Lib.hid (goOver_b (hL.below bel0.out (Nat.le_refl _)))
  clear hL
  go_enter Try.func32, Try.ntmps32
  go_wp2_with fail
  refine C.out.mono ?_
  rintro e w1 ⟨hb1, (⟨hok, b, m, tv, rfl, hLk⟩ | ⟨n, hn, hok, hw, rfl⟩)⟩
  · have B1 := B0.out.below hb1 B0.out.lt
    have bel1 := bel0.out.trans (hb1.mono (by simp))
    have hbb : w.heap.size < b := by have := hLk.geb; simp at this; omega
    have ctv := (hLk.alloc (.cells #[.int .i64 (-1), .int .i64 0] 30)).c_tv
    have B2 := B1.alloc (.cells #[.int .i64 (-1), .int .i64 0] 30)
    have b0 := B2.cell 0
    have b1 := B2.cell 1
    have f0 := B2.frozen 0
    have f1 := B2.frozen 1
    simp only [List.getElem?_toArray, List.getElem?_cons_zero, List.getElem?_cons_succ] at b0 b1
    have hsz1 : w.heap.size ≤ w1.heap.size := bel1.size
    have hne : w.heap.size ≠ w1.heap.size := Nat.ne_of_lt B1.lt
    have hbel2 := Lib.hid (bel1.alloc hsz1 (.cells #[.int .i64 (-1), .int .i64 0] 30))
    have hS := Lib.hid (hLk.tries.alloc (.cells #[.int .i64 (-1), .int .i64 0] 30))
    have hown : ¬ own tv w.heap.size := fun h => by have := hLk.get _ h; simp at this; omega
    have hget := Lib.hid hLk.get
    have hB2 := Lib.hid B2
    replace hok := Lib.hid hok
    replace B0 := Lib.hid B1
    replace hLk := Lib.hid hLk
    clear bel1 hb1 bel0 C B2 B1
    have hpn : (binOp .eql 85 (.pointer (some ⟨b, 0, none⟩)) (.pointer none)).run Try.prog (w1.alloc (.cells #[.int .i64 (-1), .int .i64 0] 30)) = .ok (.bool false) (w1.alloc (.cells #[.int .i64 (-1), .int .i64 0] 30)) := by
      have := run_eql_pointer_nil (P := Try.prog) (w1.alloc (.cells #[.int .i64 (-1), .int .i64 0] 30)) 85 (some ⟨b, 0, none⟩) (by kernel_rfl)
      exact this
    go_wp2
    refine wp_region_mixH (fun _ => True) [3, 3, 3, 1, 1, 3, 2] (List.range 7) (by kernel_rfl) (by kernel_rfl) (fun _ _ h => h) trivial ?_
    repeat ((first | refine wpMixH_pure rfl rfl (fun K hK => ?_) | refine wpMixH_loc rfl rfl (fun K hK => ?_) | refine wpMixH_any rfl rfl (fun K hK => ?_)); go_simp; refine hK _ _ ?_; clear hK K)
    refine wpMixH_loud rfl rfl (fun n1 K hK => ?_)
    go_wp2
    refine hK _ _ (fun _ => trivial) ?_; clear hK K
    refine wpMixH_nil (fun n2 => ?_)
    go_wp2
    refine bodyPost_ret (v := .tuple #[tv, .agg #[.int .i64 (-1), .int .i64 0]]) (by simp [results, Try.results32, go_sem, b0, b1, f0, f1]) rfl ⟨?_, .inl ⟨hok.out, tv, rfl, ?_, fun k hk => ?_⟩⟩
    · exact below_drewNs (((below_drewNs hbel2.out _).setCell (Nat.le_refl _) _).setCell (Nat.le_refl _) _) _
    · exact Sl.drewN (Sl.set (Sl.set (Sl.drewN hS.out _) (p := ⟨w.heap.size, 0, none⟩) hown _) (p := ⟨w.heap.size, 1, none⟩) hown _) _
    · have := hget.out k hk; simp at this; omega
  · have B1 := B0.out.below hb1 B0.out.lt
    have bel1 := bel0.out.trans (hb1.mono (by simp))
    generalize hxx : wrong (rn l n) (evAt l n) = x at *
    have B2 := B1.alloc (.cells #[.int .i64 n, .int .i64 x] 30)
    have b0 := B2.cell 0
    have b1 := B2.cell 1
    have f0 := B2.frozen 0
    have f1 := B2.frozen 1
    simp only [List.getElem?_toArray, List.getElem?_cons_zero, List.getElem?_cons_succ] at b0 b1
    have hsz1 : w.heap.size ≤ w1.heap.size := bel1.size
    have hne : w.heap.size ≠ w1.heap.size := Nat.ne_of_lt B1.lt
    have hbel2 := Lib.hid (bel1.alloc hsz1 (.cells #[.int .i64 n, .int .i64 x] 30))
    replace hok := Lib.hid hok
    replace hw := Lib.hid hw
    replace hxx := Lib.hid hxx
    have hpn : (binOp .eql 85 (.pointer none) (.pointer none)).run Try.prog (w1.alloc (.cells #[.int .i64 n, .int .i64 x] 30)) = .ok (.bool true) (w1.alloc (.cells #[.int .i64 n, .int .i64 x] 30)) := by
      have := run_eql_pointer_nil (P := Try.prog) (w1.alloc (.cells #[.int .i64 n, .int .i64 x] 30)) 85 none (by kernel_rfl)
      exact this
    clear bel1 hb1 bel0 C B2 B1 B0
    go_wp2
    refine wp_region_mixH (fun _ => True) [1, 3, 2] (List.range 3) (by kernel_rfl) (by kernel_rfl) (fun _ _ h => h) trivial ?_
    repeat ((first | refine wpMixH_pure rfl rfl (fun K hK => ?_) | refine wpMixH_loc rfl rfl (fun K hK => ?_) | refine wpMixH_any rfl rfl (fun K hK => ?_)); go_simp; refine hK _ _ ?_; clear hK K)
    refine wpMixH_loud rfl rfl (fun n1 K hK => ?_)
    go_wp2
    refine hK _ _ (fun _ => trivial) ?_; clear hK K
    refine wpMixH_nil (fun n2 => ?_)
    go_wp2
    refine bodyPost_ret (v := .tuple #[.slice none 0 0, .agg #[.int .i64 n, .int .i64 x]]) (by simp [results, Try.results32, go_sem, b0, b1, f0, f1]) rfl ⟨?_, .inr ⟨n, hn, hok.out, (by rw [hxx.out]; exact hw.out), by rw [hxx.out]⟩⟩
    exact below_drewNs (((below_drewNs hbel2.out _).setCell (Nat.le_refl _) _).setCell (Nat.le_refl _) _) _
end Go.Proofs.Yteoebfjhadmnbaa
