/- What the list asks of each key, by contract: each of its closures. -/
import Derived.Test.YtcohopobjppmaaaLiB
namespace Go.Proofs.Ytcohopobjppmaaa
open Go.RowKit
set_option maxHeartbeats 4000000
set_option linter.unusedVariables false
set_option linter.unusedSimpArgs false

/-- A captured word. -/
def JKey (cb : Nat) (key : Int) (w : World) (F G : Nat → Prop) (_l : List Int) : Prop := Blk w cb 23 #[.int .u64 key] ∧ ¬ F cb ∧ ∀ k, G k ↔ k = cb
theorem JKey.lt {cb : Nat} {key : Int} {w : World} {F G : Nat → Prop} {l : List Int} (h : JKey cb key w F G l) : ∀ k, G k → k < w.heap.size ∧ ¬ F k := fun k hk => by
  obtain ⟨a, b, c⟩ := h
  rw [(c k).1 hk]
  exact ⟨a.lt, b⟩
theorem JKey.keep {cb : Nat} {key : Int} {w w' : World} {F F' G : Nat → Prop} {l : List Int} (h : JKey cb key w F G l) (h1 : ∀ k, G k → w'.heap[k]? = w.heap[k]?) (h2 : ∀ k, G k → ¬ F' k) : JKey cb key w' F' G l :=
  ⟨(h1 cb ((h.2.2 cb).2 rfl)).trans h.1, h2 cb ((h.2.2 cb).2 rfl), h.2.2⟩
theorem atc_law (cb : Nat) (key : Int) : PLaw (fun x => decide (x < key)) (JKey cb key) 51 (fun x => #[.int .u64 x] ++ #[.pointer (some ⟨cb, 0, none⟩)]) := by
  refine ⟨fun _ _ => rfl, JKey.lt, JKey.keep, ?_⟩
  intro w F G l x hF hl h1 h2 hj
  have dc := hj.1.cell 0
  simp only [List.getElem?_toArray, List.getElem?_cons_zero] at dc
  have hj' : JKey cb key w F G (l ++ [x]) := hj
  clear hj
  show Calls Try.prog 51 #[.int .u64 x, .pointer (some ⟨cb, 0, none⟩)] w _
  go_enter Try.func51, Try.ntmps51
  go_wp2
  go_ret
  exact ⟨rfl, G, hj', Fr.refl _ _⟩
theorem abovec_law (cb : Nat) (key : Int) : PLaw (fun x => decide (x ≤ key)) (JKey cb key) 43 (fun x => #[.int .u64 x] ++ #[.pointer (some ⟨cb, 0, none⟩)]) := by
  refine ⟨fun _ _ => rfl, JKey.lt, JKey.keep, ?_⟩
  intro w F G l x hF hl h1 h2 hj
  have dc := hj.1.cell 0
  simp only [List.getElem?_toArray, List.getElem?_cons_zero] at dc
  have hj' : JKey cb key w F G (l ++ [x]) := hj
  clear hj
  show Calls Try.prog 43 #[.int .u64 x, .pointer (some ⟨cb, 0, none⟩)] w _
  go_enter Try.func43, Try.ntmps43
  go_wp2
  go_ret
  exact ⟨rfl, G, hj', Fr.refl _ _⟩
/-- Nothing captured. -/
def JNo (_w : World) (_F G : Nat → Prop) (_l : List Int) : Prop := ∀ k, ¬ G k
theorem firstc_law : PLaw (fun _ => false) JNo 44 (fun x => #[.int .u64 x] ++ #[]) := by
  refine ⟨fun _ _ => rfl, fun h k hk => absurd hk (h k), fun h _ _ => h, ?_⟩
  intro w F G l x hF hl h1 h2 hj
  show Calls Try.prog 44 #[.int .u64 x] w _
  go_enter Try.func44, Try.ntmps44
  go_wp2
  go_ret
  exact ⟨rfl, G, hj, Fr.refl _ _⟩
/-- A captured count. -/
def JCnt (cb : Nat) (w : World) (F G : Nat → Prop) (l : List Int) : Prop := Blk w cb 3 #[.int .i64 l.length] ∧ ¬ F cb ∧ ∀ k, G k ↔ k = cb
theorem JCnt.lt {cb : Nat} {w : World} {F G : Nat → Prop} {l : List Int} (h : JCnt cb w F G l) : ∀ k, G k → k < w.heap.size ∧ ¬ F k := fun k hk => by
  obtain ⟨a, b, c⟩ := h
  rw [(c k).1 hk]
  exact ⟨a.lt, b⟩
theorem JCnt.keep {cb : Nat} {w w' : World} {F F' G : Nat → Prop} {l : List Int} (h : JCnt cb w F G l) (h1 : ∀ k, G k → w'.heap[k]? = w.heap[k]?) (h2 : ∀ k, G k → ¬ F' k) : JCnt cb w' F' G l :=
  ⟨(h1 cb ((h.2.2 cb).2 rfl)).trans h.1, h2 cb ((h.2.2 cb).2 rfl), h.2.2⟩
theorem nodesc_law (cb : Nat) : PLaw (fun _ => true) (JCnt cb) 52 (fun x => #[.int .u64 x] ++ #[.pointer (some ⟨cb, 0, none⟩)]) := by
  refine ⟨fun _ _ => rfl, JCnt.lt, JCnt.keep, ?_⟩
  intro w F G l x hF hl h1 h2 hj
  have dc := hj.1.cell 0
  have fz := hj.1.frozen 0
  simp only [List.getElem?_toArray, List.getElem?_cons_zero] at dc
  have hfin : Hid (∃ G', JCnt cb (w.setCell ⟨cb, 0, none⟩ (.int .i64 ((l.length : Int) + 1))) F G' (l ++ [x]) ∧ Fr G w G' (w.setCell ⟨cb, 0, none⟩ (.int .i64 ((l.length : Int) + 1)))) := by
    have hB := hj.1.set_ 0 (.int .i64 ((l.length : Int) + 1))
    exact Lib.hid ⟨G, ⟨by simpa using hB, hj.2.1, hj.2.2⟩, (Fr.refl G w).set (p := ⟨cb, 0, none⟩) (.inl ((hj.2.2 cb).2 rfl)) _⟩
  have hwr : IntKind.i64.wrap ((l.length : Int) + 1) = (l.length : Int) + 1 := IntWalk.i64_in _ (by omega)
  clear hj
  show Calls Try.prog 52 #[.int .u64 x, .pointer (some ⟨cb, 0, none⟩)] w _
  generalize (l.length : Int) = m at *
  go_enter Try.func52, Try.ntmps52
  go_wp2
  go_ret
  exact ⟨rfl, hfin.out⟩
/-- A captured slice of words. -/
def JSl (cb : Nat) (w : World) (F G : Nat → Prop) (l : List Int) : Prop :=
  ∃ A cp, Blk w cb 22 #[.slice A l.length cp] ∧ Wl w (.slice A l.length cp) l ∧ ¬ F cb ∧ (∀ k, G k ↔ (k = cb ∨ own (.slice A l.length cp) k)) ∧ ∀ k, own (.slice A l.length cp) k → ¬ F k ∧ k ≠ cb
theorem JSl.lt {cb : Nat} {w : World} {F G : Nat → Prop} {l : List Int} (h : JSl cb w F G l) : ∀ k, G k → k < w.heap.size ∧ ¬ F k := fun k hk => by
  obtain ⟨A, cp, hB, hv, hF, hG, ho⟩ := h
  rcases (hG k).1 hk with rfl | hk
  · exact ⟨hB.lt, hF⟩
  · exact ⟨hv.lt k hk, (ho k hk).1⟩
theorem JSl.keep {cb : Nat} {w w' : World} {F F' G : Nat → Prop} {l : List Int} (h : JSl cb w F G l) (h1 : ∀ k, G k → w'.heap[k]? = w.heap[k]?) (h2 : ∀ k, G k → ¬ F' k) : JSl cb w' F' G l := by
  obtain ⟨A, cp, hB, hv, hF, hG, ho⟩ := h
  exact ⟨A, cp, (h1 cb ((hG cb).2 (.inl rfl))).trans hB, hv.keep fun k hk => h1 k ((hG k).2 (.inr hk)), h2 cb ((hG cb).2 (.inl rfl)), hG, fun k hk => ⟨h2 k ((hG k).2 (.inr hk)), (ho k hk).2⟩⟩
set_option maxRecDepth 100000 in
theorem keysc_law (cb : Nat) : PLaw (fun _ => true) (JSl cb) 29 (fun x => #[.int .u64 x] ++ #[.pointer (some ⟨cb, 0, none⟩)]) := by
  refine ⟨fun _ _ => rfl, JSl.lt, JSl.keep, ?_⟩
  intro w F G l x hlt hl h1 h2 hj
  obtain ⟨A, cp, hB, hv, hF, hG, ho⟩ := hj
  have dc := hB.cell 0
  simp only [List.getElem?_toArray, List.getElem?_cons_zero] at dc
  have hx := Lib.hid (show (l.length + 1) * 8 ≤ 140737488355328 by omega)
  have HO := Lib.hid ho
  have HG := Lib.hid hG
  have HLT := Lib.hid hlt
  clear ho hG hlt
  show Calls Try.prog 29 #[.int .u64 x, .pointer (some ⟨cb, 0, none⟩)] w _
  go_enter Try.func29, Try.ntmps29
  have hnb : ¬ own (.slice A l.length cp) cb := hv.ne_ hB (by decide)
  go_wp2_with (at_builtin; refine wpList_word w rfl (.tmp 4) (.tmp 6) rfl (.slice A l.length cp) l x rfl hv rfl hx.out ?_; intro A4 c4 w4 hc4 hv4 hm4; have hB4 := hm4.blk hB hnb; have fz4 := hB4.frozen 0; have dc4 := hB4.cell 0; simp only [List.getElem?_toArray, List.getElem?_cons_zero] at dc4)
  have hcb4 : ¬ own (.slice A4 (l.length + 1) c4) cb := hv4.ne_ hB4 (by decide)
  have hB5 := hB4.set_ 0 (.slice A4 (l.length + 1) c4)
  have hv5 := hv4.set (p := ⟨cb, 0, none⟩) hcb4 (.slice A4 (l.length + 1) c4)
  have hm5 : Fr G w (fun k => k = cb ∨ own (.slice A4 (l.length + 1) c4) k) (w4.setCell ⟨cb, 0, none⟩ (.slice A4 (l.length + 1) c4)) := by
    have e1 : Fr G w (own (.slice A4 (l.length + 1) c4)) w4 := hm4.wide fun k hk => (HG.out k).2 (.inr hk)
    have e2 := e1.set (p := ⟨cb, 0, none⟩) (.inr (.inl ((HG.out cb).2 (.inl rfl)))) (.slice A4 (l.length + 1) c4)
    exact e2.into fun k hk => hk.elim (fun h => .inr (.inl ((HG.out k).2 (.inl h)))) .inl
  have ho5 : ∀ k, own (.slice A4 (l.length + 1) c4) k → ¬ F k ∧ k ≠ cb := fun k hk => ⟨fun h2 => (hm4.new k hk).elim (fun h => (HO.out k h).1 h2) fun h => by have := HLT.out k h2; omega, fun e => hcb4 (e ▸ hk)⟩
  have hfin : Hid (∃ G', JSl cb (w4.setCell ⟨cb, 0, none⟩ (.slice A4 (l.length + 1) c4)) F G' (l ++ [x]) ∧ Fr G w G' (w4.setCell ⟨cb, 0, none⟩ (.slice A4 (l.length + 1) c4))) := Lib.hid ⟨_, ⟨A4, c4, by simpa using hB5, by simpa using hv5, hF, fun k => by simp, by simpa using ho5⟩, hm5⟩
  clear hB5 hv5 hm5 ho5 hm4 hv4 hB hv
  go_wp2
  try rw [Exit.noGoto_ret]
  go_ret
  exact ⟨rfl, hfin.out⟩
end Go.Proofs.Ytcohopobjppmaaa
