/- events.table by contract: the walk. -/
import Derived.Test.YtloiadhdkgkjkaaEvU
import Derived.Test.YtloiadhdkgkjkaaEvQ
namespace Go.Proofs.Ytloiadhdkgkjkaa
open Go.RowKit Go.ChangeMaps
set_option maxHeartbeats 4000000
set_option linter.unusedVariables false
set_option linter.unusedSimpArgs false
theorem gA_push {seen : Array Nat} {k b : Nat} (hk : k < 13) (hb : bornA k = b) (hb5 : b < 5) : ∀ j, j < 52 → (if j = k then .int .i64 (tb 0 k) else gA seen j) = gA (seen.push b) j := by
  intro j hj
  unfold gA
  by_cases hjk : j = k
  · subst hjk
    rw [if_pos rfl, if_pos ⟨hk, by rw [hb]; simp⟩]
  · rw [if_neg hjk]
    have : (seen.push b).contains (bornA j) = seen.contains (bornA j) := by
      have hne : bornA j ≠ b := fun e => hjk (by
        unfold bornA at e hb
        repeat' split at e
        all_goals (repeat' split at hb)
        all_goals omega)
      rw [Bool.eq_iff_iff]
      simp [hne]
    rw [this]
theorem gB_push {seen : Array Nat} {k b : Nat} (hk : 13 ≤ k ∧ k < 26) (hb : bornB (k - 13) = b) (hb5 : b < 8) : ∀ j, j < 52 → (if j = k then .int .i64 (tb 1 ((k - 13 : Nat) : Int)) else gB seen j) = gB (seen.push b) j := by
  intro j hj
  unfold gB
  by_cases hjk : j = k
  · subst hjk
    rw [if_pos rfl, if_neg (by omega), if_pos ⟨hk.2, by rw [hb]; simp⟩]
  · rw [if_neg hjk]
    by_cases h13 : j < 13
    · rw [if_pos h13, if_pos h13]
    rw [if_neg h13, if_neg h13]
    have : (seen.push b).contains (bornB (j - 13)) = seen.contains (bornB (j - 13)) := by
      have hne : bornB (j - 13) ≠ b := fun e => hjk (by
        unfold bornB at e hb
        repeat' split at e
        all_goals (repeat' split at hb)
        all_goals omega)
      rw [Bool.eq_iff_iff]
      simp [hne]
    rw [this]
theorem push100 {seen : Array Nat} {b : Nat} (h : seen.contains 100 = false) (hb : b ≠ 100) : (seen.push b).contains 100 = false := by
  have h1 : ¬ (100 ∈ seen) := by simpa using h
  simp [h1, Ne.symm hb]
theorem heap2 (w : World) (c d : Obj) : ((w.alloc c).alloc d).heap[w.heap.size]? = some c ∧ ((w.alloc c).alloc d).heap[w.heap.size + 1]? = some d := by
  refine ⟨?_, ?_⟩
  · rw [Below.heap_alloc _ _ _ (by simp)]
    exact heap_alloc_new w c
  · have := heap_alloc_new (w.alloc c) d
    rwa [World.size_alloc] at this
theorem row_lt {w : World} {r : Nat} {o : Obj} (h : w.heap[r]? = some o) : r < w.heap.size := by
  rcases Nat.lt_or_ge r w.heap.size with h1 | h1
  · exact h1
  · rw [Array.getElem?_eq_none h1] at h; cases h
theorem left_new (es : Array MapEntry) : (leftOf es #[]).size = es.size := by unfold leftOf; simp
theorem heap4 (w : World) (a b c d : Obj) : ((((w.alloc a).alloc b).alloc c).alloc d).heap[w.heap.size]? = some a ∧ ((((w.alloc a).alloc b).alloc c).alloc d).heap[w.heap.size + 1]? = some b ∧ ((((w.alloc a).alloc b).alloc c).alloc d).heap[w.heap.size + 1 + 1]? = some c ∧ ((((w.alloc a).alloc b).alloc c).alloc d).heap[w.heap.size + 1 + 1 + 1]? = some d ∧ Below w.heap.size w ((((w.alloc a).alloc b).alloc c).alloc d) := by
  refine ⟨?_, ?_, ?_, ?_, ((((Below.refl _ _).alloc (Nat.le_refl _) _).alloc (by simp) _).alloc (by simp; omega) _).alloc (by simp; omega) _⟩
  · rw [Below.heap_alloc _ _ _ (by simp; omega), Below.heap_alloc _ _ _ (by simp; omega), Below.heap_alloc _ _ _ (by simp)]
    exact heap_alloc_new w a
  · rw [Below.heap_alloc _ _ _ (by simp), Below.heap_alloc _ _ _ (by simp)]
    have := heap_alloc_new (w.alloc a) b
    rwa [World.size_alloc] at this
  · rw [Below.heap_alloc _ _ _ (by simp)]
    have := heap_alloc_new ((w.alloc a).alloc b) c
    rwa [World.size_alloc, World.size_alloc] at this
  · have := heap_alloc_new (((w.alloc a).alloc b).alloc c) d
    rwa [World.size_alloc, World.size_alloc, World.size_alloc] at this
set_option maxRecDepth 100000 in
theorem table_b (w : World) : Calls Try.prog 72 #[] w fun x w' => x = .returned (.agg (ofF 52 gT)) ∧ Below w.heap.size w w' := by
  have hmm : ∀ W : World, (Instr.makeMap 157 none).run Try.prog W = .ok (.map (some W.heap.size)) (W.alloc (.map #[] 0)) := fun W => by simp [Instr.makeMap]
  have hiA0 : ∀ (W : World) (r : Nat), W.heap.size = r → (Instr.mapUpdate 157 (.map (some r)) (.int .i64 1) (.int .i64 1)).run Try.prog (W.alloc (.map #[] 0)) = .ok () (W.alloc (.map #[⟨.int .i64 1, .int .i64 1, 0⟩] 1)) := fun W r h => run_insert_new Try.underlying157 Try.underlying36 h rfl
  have hiA1 : ∀ (W : World) (r : Nat), W.heap.size = r → (Instr.mapUpdate 157 (.map (some r)) (.int .i64 10) (.int .i64 0)).run Try.prog (W.alloc (.map #[⟨.int .i64 1, .int .i64 1, 0⟩] 1)) = .ok () (W.alloc (.map #[⟨.int .i64 1, .int .i64 1, 0⟩, ⟨.int .i64 10, .int .i64 0, 1⟩] 2)) := fun W r h => run_insert_new Try.underlying157 Try.underlying36 h rfl
  have hiA2 : ∀ (W : World) (r : Nat), W.heap.size = r → (Instr.mapUpdate 157 (.map (some r)) (.int .i64 11) (.int .i64 0)).run Try.prog (W.alloc (.map #[⟨.int .i64 1, .int .i64 1, 0⟩, ⟨.int .i64 10, .int .i64 0, 1⟩] 2)) = .ok () (W.alloc (.map #[⟨.int .i64 1, .int .i64 1, 0⟩, ⟨.int .i64 10, .int .i64 0, 1⟩, ⟨.int .i64 11, .int .i64 0, 2⟩] 3)) := fun W r h => run_insert_new Try.underlying157 Try.underlying36 h rfl
  have hiA3 : ∀ (W : World) (r : Nat), W.heap.size = r → (Instr.mapUpdate 157 (.map (some r)) (.int .i64 9) (.int .i64 3)).run Try.prog (W.alloc (.map #[⟨.int .i64 1, .int .i64 1, 0⟩, ⟨.int .i64 10, .int .i64 0, 1⟩, ⟨.int .i64 11, .int .i64 0, 2⟩] 3)) = .ok () (W.alloc (.map #[⟨.int .i64 1, .int .i64 1, 0⟩, ⟨.int .i64 10, .int .i64 0, 1⟩, ⟨.int .i64 11, .int .i64 0, 2⟩, ⟨.int .i64 9, .int .i64 3, 3⟩] 4)) := fun W r h => run_insert_new Try.underlying157 Try.underlying36 h rfl
  have hiA4 : ∀ (W : World) (r : Nat), W.heap.size = r → (Instr.mapUpdate 157 (.map (some r)) (.int .i64 12) (.int .i64 3)).run Try.prog (W.alloc (.map #[⟨.int .i64 1, .int .i64 1, 0⟩, ⟨.int .i64 10, .int .i64 0, 1⟩, ⟨.int .i64 11, .int .i64 0, 2⟩, ⟨.int .i64 9, .int .i64 3, 3⟩] 4)) = .ok () (W.alloc (.map #[⟨.int .i64 1, .int .i64 1, 0⟩, ⟨.int .i64 10, .int .i64 0, 1⟩, ⟨.int .i64 11, .int .i64 0, 2⟩, ⟨.int .i64 9, .int .i64 3, 3⟩, ⟨.int .i64 12, .int .i64 3, 4⟩] 5)) := fun W r h => run_insert_new Try.underlying157 Try.underlying36 h rfl
  have hrA : ∀ (W : World) (r : Nat), W.heap.size = r → (Instr.range 157 (.map (some r))).run Try.prog (W.alloc (.map #[⟨.int .i64 1, .int .i64 1, 0⟩, ⟨.int .i64 10, .int .i64 0, 1⟩, ⟨.int .i64 11, .int .i64 0, 2⟩, ⟨.int .i64 9, .int .i64 3, 3⟩, ⟨.int .i64 12, .int .i64 3, 4⟩] 5)) = .ok (.pointer (some ⟨r + 1, 0, none⟩)) ((W.alloc (.map #[⟨.int .i64 1, .int .i64 1, 0⟩, ⟨.int .i64 10, .int .i64 0, 1⟩, ⟨.int .i64 11, .int .i64 0, 2⟩, ⟨.int .i64 9, .int .i64 3, 3⟩, ⟨.int .i64 12, .int .i64 3, 4⟩] 5)).alloc (.mapIter (some r) 5 #[] 5)) := fun W r h => by subst h; exact (run_range_map Try.underlying157 (heap_alloc_new W _)).trans (by simp)
  have hiB0 : ∀ (W : World) (r : Nat), W.heap.size = r → (Instr.mapUpdate 157 (.map (some r)) (.int .i64 2) (.int .i64 1)).run Try.prog (W.alloc (.map #[] 0)) = .ok () (W.alloc (.map #[⟨.int .i64 2, .int .i64 1, 0⟩] 1)) := fun W r h => run_insert_new Try.underlying157 Try.underlying36 h rfl
  have hiB1 : ∀ (W : World) (r : Nat), W.heap.size = r → (Instr.mapUpdate 157 (.map (some r)) (.int .i64 3) (.int .i64 1)).run Try.prog (W.alloc (.map #[⟨.int .i64 2, .int .i64 1, 0⟩] 1)) = .ok () (W.alloc (.map #[⟨.int .i64 2, .int .i64 1, 0⟩, ⟨.int .i64 3, .int .i64 1, 1⟩] 2)) := fun W r h => run_insert_new Try.underlying157 Try.underlying36 h rfl
  have hiB2 : ∀ (W : World) (r : Nat), W.heap.size = r → (Instr.mapUpdate 157 (.map (some r)) (.int .i64 4) (.int .i64 1)).run Try.prog (W.alloc (.map #[⟨.int .i64 2, .int .i64 1, 0⟩, ⟨.int .i64 3, .int .i64 1, 1⟩] 2)) = .ok () (W.alloc (.map #[⟨.int .i64 2, .int .i64 1, 0⟩, ⟨.int .i64 3, .int .i64 1, 1⟩, ⟨.int .i64 4, .int .i64 1, 2⟩] 3)) := fun W r h => run_insert_new Try.underlying157 Try.underlying36 h rfl
  have hiB3 : ∀ (W : World) (r : Nat), W.heap.size = r → (Instr.mapUpdate 157 (.map (some r)) (.int .i64 5) (.int .i64 2)).run Try.prog (W.alloc (.map #[⟨.int .i64 2, .int .i64 1, 0⟩, ⟨.int .i64 3, .int .i64 1, 1⟩, ⟨.int .i64 4, .int .i64 1, 2⟩] 3)) = .ok () (W.alloc (.map #[⟨.int .i64 2, .int .i64 1, 0⟩, ⟨.int .i64 3, .int .i64 1, 1⟩, ⟨.int .i64 4, .int .i64 1, 2⟩, ⟨.int .i64 5, .int .i64 2, 3⟩] 4)) := fun W r h => run_insert_new Try.underlying157 Try.underlying36 h rfl
  have hiB4 : ∀ (W : World) (r : Nat), W.heap.size = r → (Instr.mapUpdate 157 (.map (some r)) (.int .i64 6) (.int .i64 0)).run Try.prog (W.alloc (.map #[⟨.int .i64 2, .int .i64 1, 0⟩, ⟨.int .i64 3, .int .i64 1, 1⟩, ⟨.int .i64 4, .int .i64 1, 2⟩, ⟨.int .i64 5, .int .i64 2, 3⟩] 4)) = .ok () (W.alloc (.map #[⟨.int .i64 2, .int .i64 1, 0⟩, ⟨.int .i64 3, .int .i64 1, 1⟩, ⟨.int .i64 4, .int .i64 1, 2⟩, ⟨.int .i64 5, .int .i64 2, 3⟩, ⟨.int .i64 6, .int .i64 0, 4⟩] 5)) := fun W r h => run_insert_new Try.underlying157 Try.underlying36 h rfl
  have hiB5 : ∀ (W : World) (r : Nat), W.heap.size = r → (Instr.mapUpdate 157 (.map (some r)) (.int .i64 7) (.int .i64 0)).run Try.prog (W.alloc (.map #[⟨.int .i64 2, .int .i64 1, 0⟩, ⟨.int .i64 3, .int .i64 1, 1⟩, ⟨.int .i64 4, .int .i64 1, 2⟩, ⟨.int .i64 5, .int .i64 2, 3⟩, ⟨.int .i64 6, .int .i64 0, 4⟩] 5)) = .ok () (W.alloc (.map #[⟨.int .i64 2, .int .i64 1, 0⟩, ⟨.int .i64 3, .int .i64 1, 1⟩, ⟨.int .i64 4, .int .i64 1, 2⟩, ⟨.int .i64 5, .int .i64 2, 3⟩, ⟨.int .i64 6, .int .i64 0, 4⟩, ⟨.int .i64 7, .int .i64 0, 5⟩] 6)) := fun W r h => run_insert_new Try.underlying157 Try.underlying36 h rfl
  have hiB6 : ∀ (W : World) (r : Nat), W.heap.size = r → (Instr.mapUpdate 157 (.map (some r)) (.int .i64 8) (.int .i64 0)).run Try.prog (W.alloc (.map #[⟨.int .i64 2, .int .i64 1, 0⟩, ⟨.int .i64 3, .int .i64 1, 1⟩, ⟨.int .i64 4, .int .i64 1, 2⟩, ⟨.int .i64 5, .int .i64 2, 3⟩, ⟨.int .i64 6, .int .i64 0, 4⟩, ⟨.int .i64 7, .int .i64 0, 5⟩] 6)) = .ok () (W.alloc (.map #[⟨.int .i64 2, .int .i64 1, 0⟩, ⟨.int .i64 3, .int .i64 1, 1⟩, ⟨.int .i64 4, .int .i64 1, 2⟩, ⟨.int .i64 5, .int .i64 2, 3⟩, ⟨.int .i64 6, .int .i64 0, 4⟩, ⟨.int .i64 7, .int .i64 0, 5⟩, ⟨.int .i64 8, .int .i64 0, 6⟩] 7)) := fun W r h => run_insert_new Try.underlying157 Try.underlying36 h rfl
  have hiB7 : ∀ (W : World) (r : Nat), W.heap.size = r → (Instr.mapUpdate 157 (.map (some r)) (.int .i64 9) (.int .i64 3)).run Try.prog (W.alloc (.map #[⟨.int .i64 2, .int .i64 1, 0⟩, ⟨.int .i64 3, .int .i64 1, 1⟩, ⟨.int .i64 4, .int .i64 1, 2⟩, ⟨.int .i64 5, .int .i64 2, 3⟩, ⟨.int .i64 6, .int .i64 0, 4⟩, ⟨.int .i64 7, .int .i64 0, 5⟩, ⟨.int .i64 8, .int .i64 0, 6⟩] 7)) = .ok () (W.alloc (.map #[⟨.int .i64 2, .int .i64 1, 0⟩, ⟨.int .i64 3, .int .i64 1, 1⟩, ⟨.int .i64 4, .int .i64 1, 2⟩, ⟨.int .i64 5, .int .i64 2, 3⟩, ⟨.int .i64 6, .int .i64 0, 4⟩, ⟨.int .i64 7, .int .i64 0, 5⟩, ⟨.int .i64 8, .int .i64 0, 6⟩, ⟨.int .i64 9, .int .i64 3, 7⟩] 8)) := fun W r h => run_insert_new Try.underlying157 Try.underlying36 h rfl
  have hrB : ∀ (W : World) (r : Nat), W.heap.size = r → (Instr.range 157 (.map (some r))).run Try.prog (W.alloc (.map #[⟨.int .i64 2, .int .i64 1, 0⟩, ⟨.int .i64 3, .int .i64 1, 1⟩, ⟨.int .i64 4, .int .i64 1, 2⟩, ⟨.int .i64 5, .int .i64 2, 3⟩, ⟨.int .i64 6, .int .i64 0, 4⟩, ⟨.int .i64 7, .int .i64 0, 5⟩, ⟨.int .i64 8, .int .i64 0, 6⟩, ⟨.int .i64 9, .int .i64 3, 7⟩] 8)) = .ok (.pointer (some ⟨r + 1, 0, none⟩)) ((W.alloc (.map #[⟨.int .i64 2, .int .i64 1, 0⟩, ⟨.int .i64 3, .int .i64 1, 1⟩, ⟨.int .i64 4, .int .i64 1, 2⟩, ⟨.int .i64 5, .int .i64 2, 3⟩, ⟨.int .i64 6, .int .i64 0, 4⟩, ⟨.int .i64 7, .int .i64 0, 5⟩, ⟨.int .i64 8, .int .i64 0, 6⟩, ⟨.int .i64 9, .int .i64 3, 7⟩] 8)).alloc (.mapIter (some r) 8 #[] 8)) := fun W r h => by subst h; exact (run_range_map Try.underlying157 (heap_alloc_new W _)).trans (by simp)
  have hz1 : w.heap.size + 1 + 1 + 1 ≠ w.heap.size + 1 + 1 := by omega
  go_enter Try.func72, Try.ntmps72
  go_wp2
  go_loopg [2, 3] 5 (fun gk ck cv wr => ∃ (seen : Array Nat) (c0 : Nat), gk = (leftOf esA seen).size ∧ 5 ≤ c0 ∧ Hid (seen.contains 100 = false) ∧ Hid (wr.heap[w.heap.size + 1 + 1 + 1]? = some (.mapIter (some (w.heap.size + 1 + 1)) 5 seen c0)) ∧ Hid (wr.heap[w.heap.size + 1 + 1]? = some (.map esA 5)) ∧ Hid (Blk wr (w.heap.size + 1) 119 (ofF 52 (gA seen))) ∧ Hid (Blk wr (w.heap.size) 119 (ofF 52 fun _ => .int .i64 0)) ∧ Hid (Below w.heap.size w wr))
  case atStart =>
    obtain ⟨q0, q1, q2, q3, qb⟩ := heap4 w (.cells (ofF 52 fun _ => .int .i64 0) 119) (.cells (ofF 52 fun _ => .int .i64 0) 119) (.map esA 5) (.mapIter (some (w.heap.size + 1 + 1)) 5 #[] 5)
    exact ⟨#[], 5, (left_new esA).symm, Nat.le_refl _, Lib.hid (by simp), Lib.hid q3, Lib.hid q2, Lib.hid (by rw [gA_zero]; exact q1), Lib.hid q0, Lib.hid qb⟩
  case round =>
    obtain ⟨seen, c0, rfl, hc0, h100, hit, hmp, hbt, hbz, hbel⟩ := hrel
    go_wp2_with (refine wpList_next_lit rfl (.tmp 8) rfl (w.heap.size + 1 + 1 + 1) (w.heap.size + 1 + 1) 5 c0 5 seen esA rfl hit.out hmp.out (by decide) hc0 (by decide) hz1 (fun hdone => ?_) (fun x hx w' hit' hg' hz' hen => ?_))
    · have hz2 : wr.heap.size + 1 ≠ wr.heap.size := by omega
      have hs1 := hbt.out.lt
      have hs2 := hbel.out.size
      obtain ⟨wo, rfl⟩ : ∃ wo : World, wo = wr := ⟨_, rfl⟩
      go_loopg [4, 5] 8 (fun gk ck cv wx => ∃ (seen : Array Nat) (c0 : Nat), gk = (leftOf esB seen).size ∧ 8 ≤ c0 ∧ Hid (seen.contains 100 = false) ∧ Hid (wx.heap[wo.heap.size + 1]? = some (.mapIter (some wo.heap.size) 8 seen c0)) ∧ Hid (wx.heap[wo.heap.size]? = some (.map esB 8)) ∧ Hid (Blk wx (w.heap.size + 1) 119 (ofF 52 (gB seen))) ∧ Hid (Blk wx w.heap.size 119 (ofF 52 fun _ => .int .i64 0)) ∧ Hid (Below w.heap.size w wx))
      case atStart =>
        obtain ⟨q0, q1⟩ := heap2 wo (.map esB 8) (.mapIter (some wo.heap.size) 8 #[] 8)
        exact ⟨#[], 8, (left_new esB).symm, Nat.le_refl _, Lib.hid (by simp), Lib.hid q1, Lib.hid q0, Lib.hid (by rw [← gA_done hdone h100.out]; exact (hbt.out.alloc _).alloc _), Lib.hid ((hbz.out.alloc _).alloc _), Lib.hid ((hbel.out.alloc hs2 _).alloc (by simp; omega) _)⟩
      case round =>
        clear hit hmp hbt hbz hbel h100 hdone hc0
        obtain ⟨seen, c0, rfl, hc0, h100, hit, hmp, hbt, hbz, hbel⟩ := hrel
        have c32 := hbt.out.fcell (i := 32) (by decide)
        have f32 := hbt.out.frozen 32
        have hbt3 : Hid (Blk (wr.setCell ⟨w.heap.size + 1, 32, none⟩ (.int .i64 1)) (w.heap.size + 1) 119 (ofF 52 (fun j => if j = 2 * 13 + 6 then .int .i64 1 else gB seen j))) := Lib.hid (hbt.out.fset 32 (.int .i64 1))
        have hbz3 : Hid (Blk (wr.setCell ⟨w.heap.size + 1, 32, none⟩ (.int .i64 1)) w.heap.size 119 (ofF 52 fun _ => .int .i64 0)) := Lib.hid (hbz.out.far (p := ⟨w.heap.size + 1, 32, none⟩) (by simp) _)
        have hbel3 : Hid (Below w.heap.size w (wr.setCell ⟨w.heap.size + 1, 32, none⟩ (.int .i64 1))) := Lib.hid (hbel.out.setCell (Nat.le_succ _) _)
        have hoc : ∀ v ∈ (ofF 52 (fun j => if j = 2 * 13 + 6 then .int .i64 1 else gB seen j)).toList, v.oneCell' = true := by
          intro v hv
          simp only [ofF, List.mem_map, List.mem_range] at hv
          obtain ⟨j, hj, rfl⟩ := hv
          unfold gB
          repeat' split
          all_goals rfl
        replace hoc := Lib.hid hoc
        go_wp2_with (first | (refine wpList_next_lit rfl (.tmp 21) rfl (wo.heap.size + 1) wo.heap.size 8 c0 8 seen esB rfl hit.out hmp.out (by decide) hc0 (by decide) hz2 (fun hdone => ?_) (fun x hx w' hit' hg' hz' hen => ?_)) | (refine wpList_load_row rfl 119 (.tmp 1) rfl (w.heap.size + 1) rfl 119 _ (0, 0) _ hbt3.out Try.underlying119 rfl (by rw [ofF_size]; kernel_rfl) ?_; refine wpList_store_row rfl 119 (.tmp 0) (.tmp 34) rfl w.heap.size rfl _ _ rfl 119 hbz3.out (by rw [ofF_size, ofF_size]) (by rw [ofF_size]; kernel_rfl) hoc.out (fun w5 hb5 hg5 hz5 => ?_)))
        · have hb6 := below_grown hbel3.out hg5 (Nat.le_refl _) hbz3.out.lt
          rw [gB_done hdone h100.out] at hb5
          refine bodyPost_ret (results_cell_row rfl _ _ w.heap.size 119 _ (0, 0) _ rfl hb5 Try.underlying119 rfl (by rw [ofF_size]; kernel_rfl)) rfl ⟨rfl, hb6⟩
        · obtain ⟨hxm, hxs⟩ := left_mem hx
          have hlt := Lib.hid (left_lt hx)
          clear hx
          have hbt' := hbt.out.grown hg' (show some (w.heap.size + 1) ≠ some (wo.heap.size + 1) from fun e => by injection e with e; omega)
          have hbz' := Lib.hid (hbz.out.grown hg' (show some w.heap.size ≠ some (wo.heap.size + 1) from fun e => by injection e with e; omega))
          have hmp' := Lib.hid ((hg'.block _ (row_lt hmp.out) (by simp)).trans hmp.out)
          have hbel' := Lib.hid (below_grown hbel.out hg' (by omega) (row_lt hit.out))
          replace hit' := Lib.hid hit'
          replace hg' := Lib.hid hg'
          replace hz' := Lib.hid hz'
          simp only [esB, List.mem_cons, List.not_mem_nil, or_false] at hxm
          clear hit hmp hbt hbz hbel
          rcases hxm with rfl | rfl | rfl | rfl | rfl | rfl | rfl | rfl
          · have c1 := hbt'.fcell (i := 15) (by decide)
            have f1 := hbt'.frozen 15
            have hB2 := Lib.hid ((hbt'.fset 15 (.int .i64 2)).fcongr (gB_push (k := 15) (b := 0) (by decide) rfl (by decide)))
            clear hbt'
            go_wp2
            go_roundg (leftOf esB (seen.push 0)).size
            case measure => exact hlt.out
            case rel => exact ⟨seen.push 0, 8, rfl, Nat.le_refl _, Lib.hid (push100 h100.out (by decide)), Lib.hid ((Below.heap_setCell _ _ _ _ (show wo.heap.size + 1 ≠ w.heap.size + 1 by omega)).trans hit'.out), Lib.hid ((Below.heap_setCell _ _ _ _ (show wo.heap.size ≠ w.heap.size + 1 by omega)).trans hmp'.out), hB2, Lib.hid (hbz'.out.far (p := ⟨w.heap.size + 1, 15, none⟩) (by simp) _), Lib.hid (hbel'.out.setCell (Nat.le_succ _) _)⟩
          · have c1 := hbt'.fcell (i := 16) (by decide)
            have f1 := hbt'.frozen 16
            have hB2 := Lib.hid ((hbt'.fset 16 (.int .i64 2)).fcongr (gB_push (k := 16) (b := 1) (by decide) rfl (by decide)))
            clear hbt'
            go_wp2
            go_roundg (leftOf esB (seen.push 1)).size
            case measure => exact hlt.out
            case rel => exact ⟨seen.push 1, 8, rfl, Nat.le_refl _, Lib.hid (push100 h100.out (by decide)), Lib.hid ((Below.heap_setCell _ _ _ _ (show wo.heap.size + 1 ≠ w.heap.size + 1 by omega)).trans hit'.out), Lib.hid ((Below.heap_setCell _ _ _ _ (show wo.heap.size ≠ w.heap.size + 1 by omega)).trans hmp'.out), hB2, Lib.hid (hbz'.out.far (p := ⟨w.heap.size + 1, 16, none⟩) (by simp) _), Lib.hid (hbel'.out.setCell (Nat.le_succ _) _)⟩
          · have c1 := hbt'.fcell (i := 17) (by decide)
            have f1 := hbt'.frozen 17
            have hB2 := Lib.hid ((hbt'.fset 17 (.int .i64 2)).fcongr (gB_push (k := 17) (b := 2) (by decide) rfl (by decide)))
            clear hbt'
            go_wp2
            go_roundg (leftOf esB (seen.push 2)).size
            case measure => exact hlt.out
            case rel => exact ⟨seen.push 2, 8, rfl, Nat.le_refl _, Lib.hid (push100 h100.out (by decide)), Lib.hid ((Below.heap_setCell _ _ _ _ (show wo.heap.size + 1 ≠ w.heap.size + 1 by omega)).trans hit'.out), Lib.hid ((Below.heap_setCell _ _ _ _ (show wo.heap.size ≠ w.heap.size + 1 by omega)).trans hmp'.out), hB2, Lib.hid (hbz'.out.far (p := ⟨w.heap.size + 1, 17, none⟩) (by simp) _), Lib.hid (hbel'.out.setCell (Nat.le_succ _) _)⟩
          · have c1 := hbt'.fcell (i := 18) (by decide)
            have f1 := hbt'.frozen 18
            have hB2 := Lib.hid ((hbt'.fset 18 (.int .i64 3)).fcongr (gB_push (k := 18) (b := 3) (by decide) rfl (by decide)))
            clear hbt'
            go_wp2
            go_roundg (leftOf esB (seen.push 3)).size
            case measure => exact hlt.out
            case rel => exact ⟨seen.push 3, 8, rfl, Nat.le_refl _, Lib.hid (push100 h100.out (by decide)), Lib.hid ((Below.heap_setCell _ _ _ _ (show wo.heap.size + 1 ≠ w.heap.size + 1 by omega)).trans hit'.out), Lib.hid ((Below.heap_setCell _ _ _ _ (show wo.heap.size ≠ w.heap.size + 1 by omega)).trans hmp'.out), hB2, Lib.hid (hbz'.out.far (p := ⟨w.heap.size + 1, 18, none⟩) (by simp) _), Lib.hid (hbel'.out.setCell (Nat.le_succ _) _)⟩
          · have c1 := hbt'.fcell (i := 19) (by decide)
            have f1 := hbt'.frozen 19
            have hB2 := Lib.hid ((hbt'.fset 19 (.int .i64 1)).fcongr (gB_push (k := 19) (b := 4) (by decide) rfl (by decide)))
            clear hbt'
            go_wp2
            go_roundg (leftOf esB (seen.push 4)).size
            case measure => exact hlt.out
            case rel => exact ⟨seen.push 4, 8, rfl, Nat.le_refl _, Lib.hid (push100 h100.out (by decide)), Lib.hid ((Below.heap_setCell _ _ _ _ (show wo.heap.size + 1 ≠ w.heap.size + 1 by omega)).trans hit'.out), Lib.hid ((Below.heap_setCell _ _ _ _ (show wo.heap.size ≠ w.heap.size + 1 by omega)).trans hmp'.out), hB2, Lib.hid (hbz'.out.far (p := ⟨w.heap.size + 1, 19, none⟩) (by simp) _), Lib.hid (hbel'.out.setCell (Nat.le_succ _) _)⟩
          · have c1 := hbt'.fcell (i := 20) (by decide)
            have f1 := hbt'.frozen 20
            have hB2 := Lib.hid ((hbt'.fset 20 (.int .i64 1)).fcongr (gB_push (k := 20) (b := 5) (by decide) rfl (by decide)))
            clear hbt'
            go_wp2
            go_roundg (leftOf esB (seen.push 5)).size
            case measure => exact hlt.out
            case rel => exact ⟨seen.push 5, 8, rfl, Nat.le_refl _, Lib.hid (push100 h100.out (by decide)), Lib.hid ((Below.heap_setCell _ _ _ _ (show wo.heap.size + 1 ≠ w.heap.size + 1 by omega)).trans hit'.out), Lib.hid ((Below.heap_setCell _ _ _ _ (show wo.heap.size ≠ w.heap.size + 1 by omega)).trans hmp'.out), hB2, Lib.hid (hbz'.out.far (p := ⟨w.heap.size + 1, 20, none⟩) (by simp) _), Lib.hid (hbel'.out.setCell (Nat.le_succ _) _)⟩
          · have c1 := hbt'.fcell (i := 21) (by decide)
            have f1 := hbt'.frozen 21
            have hB2 := Lib.hid ((hbt'.fset 21 (.int .i64 1)).fcongr (gB_push (k := 21) (b := 6) (by decide) rfl (by decide)))
            clear hbt'
            go_wp2
            go_roundg (leftOf esB (seen.push 6)).size
            case measure => exact hlt.out
            case rel => exact ⟨seen.push 6, 8, rfl, Nat.le_refl _, Lib.hid (push100 h100.out (by decide)), Lib.hid ((Below.heap_setCell _ _ _ _ (show wo.heap.size + 1 ≠ w.heap.size + 1 by omega)).trans hit'.out), Lib.hid ((Below.heap_setCell _ _ _ _ (show wo.heap.size ≠ w.heap.size + 1 by omega)).trans hmp'.out), hB2, Lib.hid (hbz'.out.far (p := ⟨w.heap.size + 1, 21, none⟩) (by simp) _), Lib.hid (hbel'.out.setCell (Nat.le_succ _) _)⟩
          · have c1 := hbt'.fcell (i := 22) (by decide)
            have f1 := hbt'.frozen 22
            have hB2 := Lib.hid ((hbt'.fset 22 (.int .i64 4)).fcongr (gB_push (k := 22) (b := 7) (by decide) rfl (by decide)))
            clear hbt'
            go_wp2
            go_roundg (leftOf esB (seen.push 7)).size
            case measure => exact hlt.out
            case rel => exact ⟨seen.push 7, 8, rfl, Nat.le_refl _, Lib.hid (push100 h100.out (by decide)), Lib.hid ((Below.heap_setCell _ _ _ _ (show wo.heap.size + 1 ≠ w.heap.size + 1 by omega)).trans hit'.out), Lib.hid ((Below.heap_setCell _ _ _ _ (show wo.heap.size ≠ w.heap.size + 1 by omega)).trans hmp'.out), hB2, Lib.hid (hbz'.out.far (p := ⟨w.heap.size + 1, 22, none⟩) (by simp) _), Lib.hid (hbel'.out.setCell (Nat.le_succ _) _)⟩
    · obtain ⟨hxm, hxs⟩ := left_mem hx
      have hlt := Lib.hid (left_lt hx)
      clear hx
      have hbt' := hbt.out.grown hg' (by simp)
      have hbz' := Lib.hid (hbz.out.grown hg' (by simp; omega))
      have hmp' := Lib.hid ((hg'.block _ (row_lt hmp.out) (by simp)).trans hmp.out)
      have hbel' := Lib.hid (below_grown hbel.out hg' (by omega) (row_lt hit.out))
      replace hit' := Lib.hid hit'
      replace hg' := Lib.hid hg'
      replace hz' := Lib.hid hz'
      simp only [esA, List.mem_cons, List.not_mem_nil, or_false] at hxm
      clear hit hmp hbt hbz hbel
      rcases hxm with rfl | rfl | rfl | rfl | rfl
      · have c1 := hbt'.fcell (i := 1) (by decide)
        have f1 := hbt'.frozen 1
        have hB2 := Lib.hid ((hbt'.fset 1 (.int .i64 2)).fcongr (gA_push (k := 1) (b := 0) (by decide) rfl (by decide)))
        clear hbt'
        go_wp2
        go_roundg (leftOf esA (seen.push 0)).size
        case measure => exact hlt.out
        case rel => exact ⟨seen.push 0, 5, rfl, Nat.le_refl _, Lib.hid (push100 h100.out (by decide)), Lib.hid ((Below.heap_setCell _ _ _ _ (show w.heap.size + 1 + 1 + 1 ≠ w.heap.size + 1 by omega)).trans hit'.out), Lib.hid ((Below.heap_setCell _ _ _ _ (show w.heap.size + 1 + 1 ≠ w.heap.size + 1 by omega)).trans hmp'.out), hB2, Lib.hid (hbz'.out.far (p := ⟨w.heap.size + 1, 1, none⟩) (by simp) _), Lib.hid (hbel'.out.setCell (Nat.le_succ _) _)⟩
      · have c1 := hbt'.fcell (i := 10) (by decide)
        have f1 := hbt'.frozen 10
        have hB2 := Lib.hid ((hbt'.fset 10 (.int .i64 1)).fcongr (gA_push (k := 10) (b := 1) (by decide) rfl (by decide)))
        clear hbt'
        go_wp2
        go_roundg (leftOf esA (seen.push 1)).size
        case measure => exact hlt.out
        case rel => exact ⟨seen.push 1, 5, rfl, Nat.le_refl _, Lib.hid (push100 h100.out (by decide)), Lib.hid ((Below.heap_setCell _ _ _ _ (show w.heap.size + 1 + 1 + 1 ≠ w.heap.size + 1 by omega)).trans hit'.out), Lib.hid ((Below.heap_setCell _ _ _ _ (show w.heap.size + 1 + 1 ≠ w.heap.size + 1 by omega)).trans hmp'.out), hB2, Lib.hid (hbz'.out.far (p := ⟨w.heap.size + 1, 10, none⟩) (by simp) _), Lib.hid (hbel'.out.setCell (Nat.le_succ _) _)⟩
      · have c1 := hbt'.fcell (i := 11) (by decide)
        have f1 := hbt'.frozen 11
        have hB2 := Lib.hid ((hbt'.fset 11 (.int .i64 1)).fcongr (gA_push (k := 11) (b := 2) (by decide) rfl (by decide)))
        clear hbt'
        go_wp2
        go_roundg (leftOf esA (seen.push 2)).size
        case measure => exact hlt.out
        case rel => exact ⟨seen.push 2, 5, rfl, Nat.le_refl _, Lib.hid (push100 h100.out (by decide)), Lib.hid ((Below.heap_setCell _ _ _ _ (show w.heap.size + 1 + 1 + 1 ≠ w.heap.size + 1 by omega)).trans hit'.out), Lib.hid ((Below.heap_setCell _ _ _ _ (show w.heap.size + 1 + 1 ≠ w.heap.size + 1 by omega)).trans hmp'.out), hB2, Lib.hid (hbz'.out.far (p := ⟨w.heap.size + 1, 11, none⟩) (by simp) _), Lib.hid (hbel'.out.setCell (Nat.le_succ _) _)⟩
      · have c1 := hbt'.fcell (i := 9) (by decide)
        have f1 := hbt'.frozen 9
        have hB2 := Lib.hid ((hbt'.fset 9 (.int .i64 4)).fcongr (gA_push (k := 9) (b := 3) (by decide) rfl (by decide)))
        clear hbt'
        go_wp2
        go_roundg (leftOf esA (seen.push 3)).size
        case measure => exact hlt.out
        case rel => exact ⟨seen.push 3, 5, rfl, Nat.le_refl _, Lib.hid (push100 h100.out (by decide)), Lib.hid ((Below.heap_setCell _ _ _ _ (show w.heap.size + 1 + 1 + 1 ≠ w.heap.size + 1 by omega)).trans hit'.out), Lib.hid ((Below.heap_setCell _ _ _ _ (show w.heap.size + 1 + 1 ≠ w.heap.size + 1 by omega)).trans hmp'.out), hB2, Lib.hid (hbz'.out.far (p := ⟨w.heap.size + 1, 9, none⟩) (by simp) _), Lib.hid (hbel'.out.setCell (Nat.le_succ _) _)⟩
      · have c1 := hbt'.fcell (i := 12) (by decide)
        have f1 := hbt'.frozen 12
        have hB2 := Lib.hid ((hbt'.fset 12 (.int .i64 4)).fcongr (gA_push (k := 12) (b := 4) (by decide) rfl (by decide)))
        clear hbt'
        go_wp2
        go_roundg (leftOf esA (seen.push 4)).size
        case measure => exact hlt.out
        case rel => exact ⟨seen.push 4, 5, rfl, Nat.le_refl _, Lib.hid (push100 h100.out (by decide)), Lib.hid ((Below.heap_setCell _ _ _ _ (show w.heap.size + 1 + 1 + 1 ≠ w.heap.size + 1 by omega)).trans hit'.out), Lib.hid ((Below.heap_setCell _ _ _ _ (show w.heap.size + 1 + 1 ≠ w.heap.size + 1 by omega)).trans hmp'.out), hB2, Lib.hid (hbz'.out.far (p := ⟨w.heap.size + 1, 12, none⟩) (by simp) _), Lib.hid (hbel'.out.setCell (Nat.le_succ _) _)⟩
end Go.Proofs.Ytloiadhdkgkjkaa
