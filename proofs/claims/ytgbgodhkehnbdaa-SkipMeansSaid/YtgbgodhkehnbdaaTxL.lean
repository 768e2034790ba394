/- Cells that tell what was asked of them: where they lie; a get and a put. -/
import Derived.Test.YtgbgodhkehnbdaaStL
import Derived.Deep.RegionWith
import Derived.Deep.QuietTactic
import Derived.BigQuiet
import Derived.IntWalk
import Derived.Test.YtgbgodhkehnbdaaMix
namespace Go.Proofs.Ytgbgodhkehnbdaa
open Go.RowKit
set_option maxHeartbeats 1000000
set_option linter.unusedVariables false

/-- The block t over these words, and all that was asked; its blocks are those of F. -/
def Txw (w : World) (t : Nat) (F : Nat → Prop) (s : St) : Prop :=
  ∃ g cap vl, Blk w t 32 #[.slice (some ⟨g, 0, none⟩) s.W.length cap, vl, .int .i64 s.good, .int .i64 s.err] ∧
    (∃ cur, Blk w g 33 cur ∧ ∀ i, i < s.W.length → cur[i]? = some (.int .u64 (s.W.getD i 0))) ∧
    Rowv w 0 74 3 vl s.log.length (logCells s.log) ∧ s.W.length ≤ cap ∧ ∀ k, F k ↔ (k = t ∨ k = g ∨ vl.ownBlock = some k)
section
variable {w w' : World} {t : Nat} {F : Nat → Prop} {s : St}
theorem Txw.lt (h : Txw w t F s) : ∀ k, F k → k < w.heap.size := by
  obtain ⟨g, cap, vl, h1, ⟨cur, h2, _⟩, h3, _, h4⟩ := h
  intro k hk
  rcases (h4 k).1 hk with rfl | rfl | hk
  · exact h1.lt
  · exact h2.lt
  · exact (h3.lt hk).2
theorem Txw.own (h : Txw w t F s) : F t := by
  obtain ⟨g, cap, vl, _, _, _, _, h4⟩ := h
  exact (h4 t).2 (.inl rfl)
theorem Txw.keep (h : Txw w t F s) (hk : ∀ k, F k → w'.heap[k]? = w.heap[k]?) : Txw w' t F s := by
  obtain ⟨g, cap, vl, h1, ⟨cur, h2, h2'⟩, h3, h5, h4⟩ := h
  exact ⟨g, cap, vl, (hk t ((h4 t).2 (.inl rfl))).trans h1, ⟨cur, (hk g ((h4 g).2 (.inr (.inl rfl)))).trans h2, h2'⟩, h3.keep fun k hv => hk k ((h4 k).2 (.inr (.inr hv))), h5, h4⟩
theorem Txw.alloc (h : Txw w t F s) (o : Obj) : Txw (w.alloc o) t F s := h.keep fun k hk => Below.heap_alloc w o k (h.lt k hk)
theorem Txw.drew (h : Txw w t F s) : Txw w.drew t F s := h
theorem Txw.drewN (h : Txw w t F s) (n : Nat) : Txw (w.drewN n) t F s := h
theorem Txw.set (h : Txw w t F s) {p : Addr} (hp : ¬ F p.block) (u : Value) : Txw (w.setCell p u) t F s := h.keep fun k hk => Below.heap_setCell w p u k (by rintro rfl; exact hp hk)
theorem Txw.fr (h : Txw w t F s) {G G' : Nat → Prop} (hf : Fr G w G' w') (hG : ∀ k, F k → ¬ G k) : Txw w' t F s := h.keep fun k hk => hf.block k (h.lt k hk) (hG k hk)
theorem Txw.words (h : Txw w t F s) : ∃ g cap, w.cell? ⟨t, 0, none⟩ = some (.slice (some ⟨g, 0, none⟩) s.W.length cap) ∧ F g ∧ s.W.length ≤ cap ∧ ∀ i, i < s.W.length → w.cell? ⟨g, i, none⟩ = some (.int .u64 (s.W.getD i 0)) ∧ w.frozen? ⟨g, i, none⟩ = false := by
  obtain ⟨g, cap, vl, h1, ⟨cur, h2, h2'⟩, h3, h5, h4⟩ := h
  exact ⟨g, cap, by rw [h1.cell]; rfl, (h4 g).2 (.inr (.inl rfl)), h5, fun i hi => ⟨(h2.cell i).trans (h2' i hi), h2.frozen i⟩⟩
/-- A word is set straight. -/
theorem Txw.word (h : Txw w t F s) {g cap : Nat} (hg : w.cell? ⟨t, 0, none⟩ = some (.slice (some ⟨g, 0, none⟩) s.W.length cap)) (i : Nat) (x : Int) (hi : i < s.W.length) : Txw (w.setCell ⟨g, i, none⟩ (.int .u64 x)) t F { s with W := s.W.set i x } := by
  obtain ⟨g', cap', vl, h1, ⟨cur, h2, h2'⟩, h3, h5, h4⟩ := h
  obtain ⟨rfl, rfl⟩ : g' = g ∧ cap' = cap := by
    rw [h1.cell] at hg
    simp at hg
    exact ⟨hg.1, hg.2⟩
  have n1 : t ≠ g' := Blk.ne_ h1 h2 (by decide)
  have n3 : vl.ownBlock ≠ some g' := h3.ne_ h2 (by decide)
  refine ⟨g', cap', vl, by simpa using h1.far n1 _, ⟨_, h2.set_ i _, fun j hj => ?_⟩, h3.keep fun k hk => Below.heap_setCell w _ _ k (by rintro rfl; exact n3 hk), by simpa using h5, h4⟩
  have hl : i < cur.size := by
    have := h2' i hi
    exact (Array.getElem?_eq_some_iff.1 this).1
  simp only [List.length_set] at hj
  rw [Array.getElem?_setIfInBounds]
  by_cases e : i = j
  · subst e
    simp [hl, List.getD_eq_getElem?_getD, hi]
  · rw [if_neg e, h2' j hj]
    simp [List.getD_eq_getElem?_getD, e]
end

theorem acc_info : (Try.prog.info? 74).map (fun i => (i.zero, i.size, i.bytes)) = some (some (.agg #[.bool false, .int .u64 0, .int .u64 0]), 3, 24) := by kernel_rfl

set_option maxRecDepth 20000 in
theorem ask_b {t nb : Nat} {F F0 : Nat → Prop} {s : St} {p : Bool} {a x : Int} {w w0 : World} (hw : Txw w t F s) (hf : Fits s) (hb : Bud s (nb + 1)) (hm : Fr F0 w0 F w) :
    Calls Try.prog 53 #[.pointer (some ⟨t, 0, none⟩), .agg #[.bool p, .int .u64 a, .int .u64 x]] w fun e w' =>
      ∃ er s' F', Hid (sask s (p, a, x) = (er, s')) ∧ Fits s' ∧ Bud s' nb ∧ e = .returned (.int .i64 er) ∧ Txw w' t F' s' ∧ Fr F0 w0 F' w' := by
  obtain ⟨g, cap, vl, h1, ⟨cur, h2, h2'⟩, h3, h5, h4⟩ := hw
  obtain ⟨A, cp, rfl, _, _⟩ := h3.shape
  obtain ⟨i0, hi, hz0, hz1, hz2⟩ := info_parts acc_info
  have hlt := h1.lt
  have d0 := h1.cell 0
  have d1 := h1.cell 1
  have d2 := h1.cell 2
  have d3 := h1.cell 3
  have z1 := h1.frozen 1
  simp only [List.getElem?_toArray, List.getElem?_cons_zero, List.getElem?_cons_succ] at d0 d1 d2 d3
  have hln := hf.len
  have hms := hm.size
  have hbud : s.log.length + 1 ≤ 1099511627776 := by unfold Bud at hb; omega
  have hq1 := Lib.hid (sask_fits hf (p, a, x))
  have hq2 := Lib.hid (sask_bud hb (p, a, x))
  have H1 := Lib.hid h1
  have H2 := Lib.hid h2
  have H3 := Lib.hid h3
  have n1 : t ≠ g := Blk.ne_ h1 h2 (by decide)
  have n3 : (Value.slice A s.log.length cp).ownBlock ≠ some t := h3.ne_ h1 (by decide)
  have n4 : (Value.slice A s.log.length cp).ownBlock ≠ some g := h3.ne_ h2 (by decide)
  have N4 := Lib.hid n4
  have N1 := Lib.hid n1
  clear h1 h2 h3 hf hb
  go_enter Try.func53, Try.ntmps53
  go_wp2
  obtain ⟨w1, hw1⟩ : ∃ u, u = w.alloc (.cells #[.bool p, .int .u64 a, .int .u64 x] 74) := ⟨_, rfl⟩
  have bx : Blk w1 w.heap.size 74 #[.bool p, .int .u64 a, .int .u64 x] := by rw [hw1]; exact Blk.new _ _ _
  have K1 : Hid (Blk w1 t 32 #[.slice (some ⟨g, 0, none⟩) s.W.length cap, .slice A s.log.length cp, .int .i64 s.good, .int .i64 s.err]) := Lib.hid (by rw [hw1]; exact H1.out.alloc _)
  have K2 : Hid (Blk w1 g 33 cur) := Lib.hid (by rw [hw1]; exact H2.out.alloc _)
  have K3 : Hid (Rowv w1 0 74 3 (.slice A s.log.length cp) s.log.length (logCells s.log)) := Lib.hid (by rw [hw1]; exact H3.out.keepLt fun k _ hk _ => Below.heap_alloc _ _ _ hk)
  have hm1 : Hid (Fr F0 w0 F w1) := Lib.hid (by rw [hw1]; exact hm.alloc _)
  have hne : w.heap.size ≠ t := by omega
  have n5 : (Value.slice A s.log.length cp).ownBlock ≠ some w.heap.size := fun e => by have := (H3.out.lt e).2; omega
  rw [← hw1]
  have hsz : w.heap.size < w1.heap.size := bx.lt
  generalize w.heap.size = bb at *
  clear hw1 H1 H2 H3 hm d0 d1 d2 d3 z1
  have e0 := bx.cell 0
  have e1 := bx.cell 1
  have e2 := bx.cell 2
  have d1 := K1.out.cell 1
  simp only [List.getElem?_toArray, List.getElem?_cons_zero, List.getElem?_cons_succ] at d1 e0 e1 e2
  refine wp_region_mix (fun W' => W'.cell? ⟨t, 1, none⟩ = some (.slice A s.log.length cp)) [3, 3, 3, 3, 0, 1, 2, 2, 3, 3, 2] (List.range 11) (by kernel_rfl) (by kernel_rfl) (fun _ _ h => h) d1 ?_
  repeat (first | ((first | refine wpMix_pure rfl rfl (fun K hK => ?_) | refine wpMix_loc rfl rfl (fun K hK => ?_) | refine wpMix_any rfl rfl (fun K hK => ?_)); go_simp; refine hK _ _ ?_; clear hK K) | (refine wpMix_any rfl rfl (fun K hK => ?_); rw [if_pos (by go_simp)]; apply Exists.intro; refine And.intro (fun w2 hS2 => ?_) (hK _ _ ?_); (focus (obtain hs1 := hS2; go_simp; rfl)); clear hK K))
  refine wpMix_loud rfl rfl (fun n K hK => ?_)
  go_wp2
  refine hK _ _ (fun _ => (cell_alloc_ d1)) ?_; clear hK K
  have src := Lib.hid (Src.lit (w1.drewN (1 + n)) (vs := [.bool p, .int .u64 a, .int .u64 x]) (e := 74) (m := 1) (size := 3) rfl (by simp [Value.oneCell']) 1)
  have row := Lib.hid (Rowv.keepLt (w := w1.drewN (1 + n)) (w' := (w1.drewN (1 + n)).alloc (.cells #[.bool p, .int .u64 a, .int .u64 x] 74)) K3.out (fun k _ hk _ => Below.heap_alloc _ _ k hk))
  have g1 := cell_alloc_ (w := w1.drewN (1 + n)) (o := .cells #[.bool p, .int .u64 a, .int .u64 x] 74) d1
  repeat (first | ((first | refine wpMix_pure rfl rfl (fun K hK => ?_) | refine wpMix_loc rfl rfl (fun K hK => ?_) | refine wpMix_any rfl rfl (fun K hK => ?_)); go_simp; refine hK _ _ ?_; clear hK K) | (refine wpMix_any rfl rfl (fun K hK => ?_); rw [if_pos (by go_simp)]; apply Exists.intro; refine And.intro (fun w2 hS2 => ?_) (hK _ _ ?_); (focus (obtain hs1 := hS2; go_simp; rfl)); clear hK K))
  refine wpMix_loud rfl rfl (fun n K hK => ?_)
  refine wpList_app _ rfl (.tmp 9) (.tmp 11) 30 rfl 74 i0 _ 3 24 Try.underlying30 hi hz0 hz1 hz2 rfl (by decide) 0 (.slice A s.log.length cp) s.log.length (logCells s.log) rfl row.out _ 1 [.bool p, .int .u64 a, .int .u64 x] rfl src.out (by unfold maxLen; omega) (by omega) (Nat.zero_le _) ?_
  intro v8 w8 hrow8 hgr8 hown8
  obtain ⟨A8, c8, rfl, hc8, hn8⟩ := hrow8.shape
  have hgr := Lib.hid (grown_undrew (n := n) hgr8)
  clear hgr8
  have k1 : Hid (Blk w8 t 32 #[.slice (some ⟨g, 0, none⟩) s.W.length cap, .slice A s.log.length cp, .int .i64 s.good, .int .i64 s.err]) := Lib.hid (Blk.grown (Blk.alloc ((K1.out).drewN _) _) hgr.out (Ne.symm n3))
  have k2 : Hid (Blk w8 g 33 cur) := Lib.hid (Blk.grown (Blk.alloc ((K2.out).drewN _) _) hgr.out (Ne.symm n4))
  have kx : Hid (Blk w8 bb 74 #[.bool p, .int .u64 a, .int .u64 x]) := Lib.hid (Blk.grown (Blk.alloc ((bx).drewN _) _) hgr.out (Ne.symm n5))
  have g8 := grown_cell hgr.out (Ne.symm n3) g1
  have z8 := k1.out.frozen 1
  have hr8 := Lib.hid hrow8
  have ho8 := Lib.hid hown8
  have hm8 : Hid (Fr F0 w0 F w8) := Lib.hid (((hm1.out.drewN _).alloc _).grown hgr.out (fun k hk => .inl ((h4 k).2 (.inr (.inr hk)))))
  clear hrow8 hown8 bx d1 e0 e1 e2 g1 src row K1 K2 K3 hm1
  refine hK _ _ (fun _ => g8) ?_; clear hK K
  repeat (first | ((first | refine wpMix_pure rfl rfl (fun K hK => ?_) | refine wpMix_loc rfl rfl (fun K hK => ?_) | refine wpMix_any rfl rfl (fun K hK => ?_)); go_simp; refine hK _ _ ?_; clear hK K) | (refine wpMix_any rfl rfl (fun K hK => ?_); rw [if_pos (by go_simp)]; apply Exists.intro; refine And.intro (fun w2 hS2 => ?_) (hK _ _ ?_); (focus (obtain hs1 := hS2; go_simp; rfl)); clear hK K))
  refine wpMix_loud rfl rfl (fun n8 K hK => ?_)
  go_wp2
  refine hK _ _ (fun h => (Bool.false_ne_true ((Eq.symm (by kernel_rfl)).trans h)).elim) ?_; clear hK K
  refine wpMix_nil (fun n9 => ?_)
  obtain ⟨w9, hw9⟩ : ∃ u, u = ((w8.drewN n8).setCell ⟨t, 1, none⟩ (.slice A8 (s.log.length + 1) c8)).drewN n9 := ⟨_, rfl⟩
  have k1' : Hid (Blk w9 t 32 #[.slice (some ⟨g, 0, none⟩) s.W.length cap, .slice A8 (s.log.length + 1) c8, .int .i64 s.good, .int .i64 s.err]) := Lib.hid (by rw [hw9]; exact ((k1.out.drewN n8).set_ 1 _).drewN n9)
  have k2' : Hid (Blk w9 g 33 cur) := Lib.hid (by rw [hw9]; exact ((k2.out.drewN n8).far (Ne.symm n1) _).drewN n9)
  have kx' : Hid (Blk w9 bb 74 #[.bool p, .int .u64 a, .int .u64 x]) := Lib.hid (by rw [hw9]; exact ((kx.out.drewN n8).far hne _).drewN n9)
  have n8t : (Value.slice A8 (s.log.length + 1) c8).ownBlock ≠ some t := hr8.out.ne_ k1.out (by decide)
  have r9 : Hid (Rowv w9 0 74 3 (.slice A8 (s.log.length + 1) c8) (s.log ++ [(p, a, x)]).length (logCells (s.log ++ [(p, a, x)]))) := Lib.hid (by
    rw [hw9, logCells_append]
    simpa [logCells] using ((hr8.out.drewN n8).far (p := ⟨t, 1, none⟩) n8t (.slice A8 (s.log.length + 1) c8)).drewN n9)
  have hm9 : Hid (Fr F0 w0 (fun k => k = t ∨ k = g ∨ (Value.slice A8 (s.log.length + 1) c8).ownBlock = some k) w9) := Lib.hid (by
    rw [hw9]
    refine (((hm8.out.drewN n8).set (p := ⟨t, 1, none⟩) (.inl ((h4 t).2 (.inl rfl))) _).drewN n9).into fun k hk => ?_
    rcases hk with rfl | rfl | hk
    · exact .inl ((h4 _).2 (.inl rfl))
    · exact .inl ((h4 _).2 (.inr (.inl rfl)))
    · rcases ho8.out with e | ⟨k', e, hk'⟩
      · exact .inl ((h4 k).2 (.inr (.inr (e ▸ hk))))
      · rw [hk] at e
        injection e with e
        subst e
        refine .inr (.inr (Nat.le_trans hms ?_))
        simp [World.size_alloc] at hk'
        omega)
  rw [← hw9]
  clear hw9 k1 k2 kx hr8 ho8 hm8 z8 g8 hgr
  have d0 := k1'.out.cell 0
  have d1 := k1'.out.cell 1
  have d2 := k1'.out.cell 2
  have d3 := k1'.out.cell 3
  have e1 := kx'.out.cell 1
  simp only [List.getElem?_toArray, List.getElem?_cons_zero, List.getElem?_cons_succ] at d0 d1 d2 d3 e1
  have hfin : ∀ er nd, sask s (p, a, x) = (er, { s with log := s.log ++ [(p, a, x)] }) → ∃ er' s' F', Hid (sask s (p, a, x) = (er', s')) ∧ Fits s' ∧ Bud s' nb ∧ Ending.returned (.int .i64 er) = .returned (.int .i64 er') ∧ Txw (w9.drewN nd) t F' s' ∧ Fr F0 w0 F' (w9.drewN nd) := fun er nd h =>
    ⟨_, _, _, Lib.hid h, by have := hq1.out; rwa [h] at this, by have := hq2.out; rwa [h] at this, rfl, ⟨g, cap, .slice A8 (s.log.length + 1) c8, k1'.out.drewN nd, ⟨cur, k2'.out.drewN nd, h2'⟩, by simpa using r9.out.drewN nd, h5, fun k => Iff.rfl⟩, hm9.out.drewN nd⟩
  have HF := Lib.hid hfin
  clear hfin hq1 hq2 k1' k2' kx' r9 hm9 h4 h2'
  have c8' : (s.log.length : Int) + 1 ≤ 1099511627776 := by omega
  have hb1 : (decide (s.good < (s.log.length : Int) + 1) = true ∧ s.good < (s.log.length : Int) + 1) ∨ (decide (s.good < (s.log.length : Int) + 1) = false ∧ ¬ s.good < (s.log.length : Int) + 1) := by
    by_cases h : s.good < (s.log.length : Int) + 1
    · exact .inl ⟨decide_eq_true h, h⟩
    · exact .inr ⟨decide_eq_false h, h⟩
  have hb2 : ((s.err != 0) = true ∧ s.err ≠ 0) ∨ ((s.err != 0) = false ∧ s.err = 0) := by
    by_cases h : s.err = 0
    · exact .inr ⟨by simp [h], h⟩
    · exact .inl ⟨by simpa using h, h⟩
  have hb3 : (s.W.length : Int) ≤ a ∨ a < s.W.length := by omega
  have hwr : IntKind.u64.wrap (s.W.length : Int) = (s.W.length : Int) := IntWalk.u64_in _ (by omega)
  rcases hb1 with ⟨hb1, h1⟩ | ⟨hb1, h1⟩
  · rcases hb2 with ⟨hb2, h2⟩ | ⟨hb2, h2⟩
    · have hs := Lib.hid (show sask s (p, a, x) = (s.err, { s with log := s.log ++ [(p, a, x)] }) by unfold sask; rw [if_pos ⟨h1, h2⟩])
      clear hb3
      go_wp2
      go_quiet (fail)
      go_wp2
      go_ret
      exact HF.out _ _ hs.out
    · rcases hb3 with h3 | h3
      · have hs := Lib.hid (show sask s (p, a, x) = (4, { s with log := s.log ++ [(p, a, x)] }) by unfold sask; rw [if_neg (fun h => h.2 h2), if_pos h3])
        clear h2
        go_wp2
        go_quiet (fail)
        go_wp2
        refine wp_region_mix (fun _ => True) [3, 1, 3, 3, 3, 1, 3, 3, 3] (List.range 9) (by kernel_rfl) (by kernel_rfl) (fun _ _ h => h) trivial ?_
        repeat ((first | refine wpMix_pure rfl rfl (fun K hK => ?_) | refine wpMix_loc rfl rfl (fun K hK => ?_) | refine wpMix_any rfl rfl (fun K hK => ?_)); go_simp; refine hK _ _ ?_; clear hK K)
        refine wpMix_nil (fun n => ?_)
        go_wp2
        go_ret
        rw [drewN_drewN]
        exact HF.out _ _ hs.out
      · have hs := Lib.hid (show sask s (p, a, x) = (0, { s with log := s.log ++ [(p, a, x)] }) by unfold sask; rw [if_neg (fun h => h.2 h2), if_neg (by show ¬ (s.W.length : Int) ≤ a; omega)])
        have hb3 : decide ((s.W.length : Int) ≤ a) = false := decide_eq_false (by omega)
        clear h3
        clear h2
        go_wp2
        go_quiet (fail)
        go_wp2
        refine wp_region_mix (fun _ => True) [3, 1, 3, 3, 3, 1, 3, 3, 3] (List.range 9) (by kernel_rfl) (by kernel_rfl) (fun _ _ h => h) trivial ?_
        repeat ((first | refine wpMix_pure rfl rfl (fun K hK => ?_) | refine wpMix_loc rfl rfl (fun K hK => ?_) | refine wpMix_any rfl rfl (fun K hK => ?_)); go_simp; refine hK _ _ ?_; clear hK K)
        refine wpMix_nil (fun n => ?_)
        go_wp2
        go_ret
        rw [drewN_drewN]
        exact HF.out _ _ hs.out
  · clear hb2
    rcases hb3 with h3 | h3
    · have hs := Lib.hid (show sask s (p, a, x) = (4, { s with log := s.log ++ [(p, a, x)] }) by unfold sask; rw [if_neg (fun h => h1 h.1), if_pos h3])
      go_wp2
      go_quiet (fail)
      go_wp2
      refine wp_region_mix (fun _ => True) [3, 1, 3, 3, 3, 1, 3, 3, 3] (List.range 9) (by kernel_rfl) (by kernel_rfl) (fun _ _ h => h) trivial ?_
      repeat ((first | refine wpMix_pure rfl rfl (fun K hK => ?_) | refine wpMix_loc rfl rfl (fun K hK => ?_) | refine wpMix_any rfl rfl (fun K hK => ?_)); go_simp; refine hK _ _ ?_; clear hK K)
      refine wpMix_nil (fun n => ?_)
      go_wp2
      go_ret
      rw [drewN_drewN]
      exact HF.out _ _ hs.out
    · have hs := Lib.hid (show sask s (p, a, x) = (0, { s with log := s.log ++ [(p, a, x)] }) by unfold sask; rw [if_neg (fun h => h1 h.1), if_neg (by show ¬ (s.W.length : Int) ≤ a; omega)])
      have hb3 : decide ((s.W.length : Int) ≤ a) = false := decide_eq_false (by omega)
      clear h3
      go_wp2
      go_quiet (fail)
      go_wp2
      refine wp_region_mix (fun _ => True) [3, 1, 3, 3, 3, 1, 3, 3, 3] (List.range 9) (by kernel_rfl) (by kernel_rfl) (fun _ _ h => h) trivial ?_
      repeat ((first | refine wpMix_pure rfl rfl (fun K hK => ?_) | refine wpMix_loc rfl rfl (fun K hK => ?_) | refine wpMix_any rfl rfl (fun K hK => ?_)); go_simp; refine hK _ _ ?_; clear hK K)
      refine wpMix_nil (fun n => ?_)
      go_wp2
      go_ret
      rw [drewN_drewN]
      exact HF.out _ _ hs.out

/-- What a call leaves behind. -/
def Lft (t n : Nat) (F0 : Nat → Prop) (w0 : World) (s' : St) (w' : World) : Prop := Fits s' ∧ Bud s' n ∧ ∃ F', Txw w' t F' s' ∧ Fr F0 w0 F' w'
theorem Lft.mono {t n m : Nat} {F0 : Nat → Prop} {w0 w' : World} {s' : St} (h : Lft t n F0 w0 s' w') (hm : m ≤ n) : Lft t m F0 w0 s' w' := ⟨h.1, h.2.1.mono hm, h.2.2⟩
theorem Lft.drewN {t n : Nat} {F0 : Nat → Prop} {w0 w' : World} {s' : St} (h : Lft t n F0 w0 s' w') (m : Nat) : Lft t n F0 w0 s' (w'.drewN m) := let ⟨a, b, F', c, d⟩ := h; ⟨a, b, F', c.drewN m, d.drewN m⟩

theorem tget_b {t n : Nat} {F F0 : Nat → Prop} {s : St} {a : Int} {w w0 : World} (hw : Txw w t F s) (hf : Fits s) (hb : Bud s (n + 1)) (ha : 0 ≤ a) (hm : Fr F0 w0 F w) :
    Calls Try.prog 51 #[.pointer (some ⟨t, 0, none⟩), .int .u64 a] w fun e w' =>
      ∃ x er s', Hid (sget s a = (x, er, s')) ∧ 0 ≤ x ∧ x ≤ 18446744073709551615 ∧ e = .returned (.tuple #[.int .u64 x, .int .i64 er]) ∧ Lft t n F0 w0 s' w' := by
  go_enter Try.func51, Try.ntmps51
  go_wp2_with fail
  refine (ask_b hw hf hb hm).mono ?_
  rintro e w1 ⟨er, s1, F1, q, hf1, hb1, rfl, hw1, hm1⟩
  by_cases he : er = 0
  · subst he
    have hin := sask_in (s := s) (false, a, 0) (by rw [q.out]; rfl)
    have hW := sask_W s (false, a, 0)
    rw [q.out] at hW
    simp only at hin hW
    obtain ⟨g, cap, c0, _, hcap, hc⟩ := hw1.words
    obtain ⟨hc1, _⟩ := hc a.toNat (by rw [hW]; omega)
    clear hc
    have hlen : (s1.W.length : Int) ≤ cap := by omega
    have hin' : a < (s1.W.length : Int) := by rw [hW]; exact hin
    have hl := hf1.len
    have hr : Hid (sget s a = (s1.W.getD a.toNat 0, 0, s1)) := Lib.hid (by unfold sget; rw [q.out]; rfl)
    have hbd := getD_bd hf1.words a.toNat
    obtain ⟨x, hx⟩ : ∃ x, s1.W.getD a.toNat 0 = x := ⟨_, rfl⟩
    rw [hx] at hc1 hr hbd
    have hw1' := Lib.hid hw1
    have hm1' := Lib.hid hm1
    clear hw hm hw1 hm1 hx hW q hin
    go_wp2
    go_ret2
    exact ⟨x, 0, s1, hr, hbd.1, hbd.2, rfl, hf1, hb1, F1, hw1'.out, hm1'.out⟩
  · have hz : (er != 0) = true := by simpa using he
    have hr : Hid (sget s a = (0, er, s1)) := Lib.hid (by unfold sget; rw [q.out]; simp only; rw [if_neg (by simp [hz])])
    have hw1' := Lib.hid hw1
    have hm1' := Lib.hid hm1
    clear hw hm hw1 hm1 q he
    go_wp2
    go_ret2
    exact ⟨0, er, s1, hr, by omega, by omega, rfl, hf1, hb1, F1, hw1'.out, hm1'.out⟩

theorem tput_b {t n : Nat} {F F0 : Nat → Prop} {s : St} {a x : Int} {w w0 : World} (hw : Txw w t F s) (hf : Fits s) (hb : Bud s (n + 1)) (ha : 0 ≤ a) (hx : 0 ≤ x) (hx' : x ≤ 18446744073709551615) (hm : Fr F0 w0 F w) :
    Calls Try.prog 52 #[.pointer (some ⟨t, 0, none⟩), .int .u64 a, .int .u64 x] w fun e w' =>
      ∃ er s', Hid (sput s a x = (er, s')) ∧ e = .returned (.int .i64 er) ∧ Lft t n F0 w0 s' w' := by
  have hpf := Lib.hid (sput_fits hf a x ⟨hx, hx'⟩)
  have hpb := Lib.hid (sput_bud hb a x)
  go_enter Try.func52, Try.ntmps52
  go_wp2_with fail
  refine (ask_b hw hf hb hm).mono ?_
  rintro e w1 ⟨er, s1, F1, q, hf1, hb1, rfl, hw1, hm1⟩
  by_cases he : er = 0
  · subst he
    have hin := sask_in (s := s) (true, a, x) (by rw [q.out]; rfl)
    have hW := sask_W s (true, a, x)
    rw [q.out] at hW
    simp only at hin hW
    obtain ⟨g, cap, c0, hFg, hcap, hc⟩ := hw1.words
    obtain ⟨hc1, hz1⟩ := hc a.toNat (by rw [hW]; omega)
    have hlen : (s1.W.length : Int) ≤ cap := by omega
    have hin' : a < (s1.W.length : Int) := by rw [hW]; exact hin
    have hl := hf1.len
    have hr : Hid (sput s a x = (0, { s1 with W := s1.W.set a.toNat x })) := Lib.hid (by unfold sput; rw [q.out]; rfl)
    rw [hr.out] at hpf hpb
    have hset := Lib.hid (hw1.word c0 a.toNat x (by omega))
    have hmset := Lib.hid (hm1.set (p := ⟨g, a.toNat, none⟩) (.inl hFg) (.int .u64 x))
    obtain ⟨y, hy⟩ : ∃ y, s1.W.getD a.toNat 0 = y := ⟨_, rfl⟩
    rw [hy] at hc1
    clear hc hw hm hw1 hm1 hW q hin hy
    go_wp2
    go_ret
    exact ⟨0, _, hr, rfl, hpf.out, hpb.out, F1, hset.out, hmset.out⟩
  · have hz : (er != 0) = true := by simpa using he
    have hz2 : (er == 0) = false := by simpa using he
    have hr : Hid (sput s a x = (er, s1)) := Lib.hid (by unfold sput; rw [q.out]; simp only; rw [if_neg (by simp [hz])])
    have hw1' := Lib.hid hw1
    have hm1' := Lib.hid hm1
    clear hw hm hw1 hm1 q he
    go_wp2
    go_ret
    exact ⟨er, s1, hr, rfl, hf1, hb1, F1, hw1'.out, hm1'.out⟩

@[go_sem] theorem method_get (t : Nat) (w : World) : (method 195 29 (.pointer (some ⟨t, 0, none⟩)) "Get").run Try.prog w = .ok (51, .pointer (some ⟨t, 0, none⟩)) w := by kernel_rfl
@[go_sem] theorem method_put (t : Nat) (w : World) : (method 195 29 (.pointer (some ⟨t, 0, none⟩)) "Put").run Try.prog w = .ok (52, .pointer (some ⟨t, 0, none⟩)) w := by kernel_rfl
@[go_sem] theorem nil_get (t : Nat) (w : World) : (nilAhead 195 29 (.pointer (some ⟨t, 0, none⟩)) "Get").run Try.prog w = .ok (some false) w := by kernel_rfl
@[go_sem] theorem nil_put (t : Nat) (w : World) : (nilAhead 195 29 (.pointer (some ⟨t, 0, none⟩)) "Put").run Try.prog w = .ok (some false) w := by kernel_rfl
theorem uw_bd (x : Int) : 0 ≤ IntKind.u64.wrap x ∧ IntKind.u64.wrap x ≤ 18446744073709551615 := by rw [wrap_u64_mod]; omega
end Go.Proofs.Ytgbgodhkehnbdaa
