/- The document's answer to a step of kind 1, 2, 6, by contract. (printed by ans2.py) -/
import Derived.Test.YtcohopobjppmaaaLiZ2
namespace Go.Proofs.Ytcohopobjppmaaa
open Go.RowKit
set_option maxHeartbeats 4000000
set_option linter.unusedVariables false
set_option linter.unusedSimpArgs false

set_option maxRecDepth 100000 in
theorem ans6n_b {on key : Int} {v : Value} {l : List Int} {space : Bool} {w : World} (hL : Lies w v l) (hfl : flat v l.length) (hn : l.length ≤ 60000) (hl0 : l.length = 0) : Calls Try.prog 17 #[v, .agg #[.int .i64 6, .int .i64 on, .int .u64 key], .bool space] w (AnsP v w (0, false, [], 0, l)) := by
  obtain ⟨A, c, rfl, hc, -⟩ := hL.of
  rw [hl0] at hc hL ⊢
  have hfl : Hid (flat (.slice A 0 c) l.length) := Lib.hid (by rw [hl0] at hfl ⊢; exact hfl)
  have hL3 := Lib.hid (((hL.alloc (.cells #[.int .i64 6, .int .i64 on, .int .u64 key] 25)).alloc (.cells #[.int .u64 0, .bool false, .slice none 0 0, .int .i64 0] 29)).alloc (.cells #[.int .u64 0, .bool false, .slice none 0 0, .int .i64 0] 29))
  have hB := Lib.hid ((((Below.refl w.heap.size w).alloc (Nat.le_refl _) (.cells #[.int .i64 6, .int .i64 on, .int .u64 key] 25)).alloc (by simp) (.cells #[.int .u64 0, .bool false, .slice none 0 0, .int .i64 0] 29)).alloc (by simp; omega) (.cells #[.int .u64 0, .bool false, .slice none 0 0, .int .i64 0] 29))
  have hx := (Blk.new (w.alloc (.cells #[.int .i64 6, .int .i64 on, .int .u64 key] 25)) 29 #[.int .u64 0, .bool false, .slice none 0 0, .int .i64 0]).alloc (.cells #[.int .u64 0, .bool false, .slice none 0 0, .int .i64 0] 29)
  rw [show (w.alloc (.cells #[.int .i64 6, .int .i64 on, .int .u64 key] 25)).heap.size = w.heap.size + 1 by simp] at hx
  have x0 := hx.cell 0
  have x1 := hx.cell 1
  have x2 := hx.cell 2
  have x3 := hx.cell 3
  simp only [List.getElem?_toArray, List.getElem?_cons_zero, List.getElem?_cons_succ] at x0 x1 x2 x3
  clear hx
  clear hL hl0
  go_enter Try.func17, Try.ntmps17
  go_wp2_with fail
  refine bodyPost_ret (v := .tuple #[.agg #[.int .u64 0, .bool false, .slice none 0 0, .int .i64 0], .slice A 0 c]) (by simp [results, Try.func17, go_sem, x0, x1, x2, x3]) rfl ?_
  exact ⟨_, _, rfl, Lies.nil _, hL3.out, hfl.out, hB.out, .inr rfl, .inl rfl⟩
set_option maxRecDepth 100000 in
theorem ans6y_b {on key : Int} {v : Value} {l : List Int} {space : Bool} {w : World} (hL : Lies w v l) (hfl : flat v l.length) (hn : l.length ≤ 60000) (hl0 : 0 < l.length) : Calls Try.prog 17 #[v, .agg #[.int .i64 6, .int .i64 on, .int .u64 key], .bool space] w (AnsP v w (l.getD 0 0, true, [], 0, l)) := by
  obtain ⟨A, c, rfl, hc, -⟩ := hL.of
  have hq := (((hL.alloc (.cells #[.int .i64 6, .int .i64 on, .int .u64 key] 25)).alloc (.cells #[.int .u64 0, .bool false, .slice none 0 0, .int .i64 0] 29)).alloc (.cells #[.int .u64 0, .bool false, .slice none 0 0, .int .i64 0] 29)).at_ hl0
  obtain ⟨-, -, g, o, rfl, hcell⟩ := hq
  simp only [Nat.add_zero] at hcell
  generalize hx0 : l.getD 0 0 = x at *
  have hnn : (l.length : Int) ≤ 60000 := by omega
  have hL3 := Lib.hid (((hL.alloc (.cells #[.int .i64 6, .int .i64 on, .int .u64 key] 25)).alloc (.cells #[.int .u64 x, .bool true, .slice none 0 0, .int .i64 0] 29)).alloc (.cells #[.int .u64 x, .bool true, .slice none 0 0, .int .i64 0] 29))
  have hB := Lib.hid ((((Below.refl w.heap.size w).alloc (Nat.le_refl _) (.cells #[.int .i64 6, .int .i64 on, .int .u64 key] 25)).alloc (by simp) (.cells #[.int .u64 x, .bool true, .slice none 0 0, .int .i64 0] 29)).alloc (by simp; omega) (.cells #[.int .u64 x, .bool true, .slice none 0 0, .int .i64 0] 29))
  have hx := (Blk.new (w.alloc (.cells #[.int .i64 6, .int .i64 on, .int .u64 key] 25)) 29 #[.int .u64 x, .bool true, .slice none 0 0, .int .i64 0]).alloc (.cells #[.int .u64 x, .bool true, .slice none 0 0, .int .i64 0] 29)
  rw [show (w.alloc (.cells #[.int .i64 6, .int .i64 on, .int .u64 key] 25)).heap.size = w.heap.size + 1 by simp] at hx
  have x0 := hx.cell 0
  have x1 := hx.cell 1
  have x2 := hx.cell 2
  have x3 := hx.cell 3
  simp only [List.getElem?_toArray, List.getElem?_cons_zero, List.getElem?_cons_succ] at x0 x1 x2 x3
  clear hx
  generalize hnl : l.length = nl at *
  have hnl := Lib.hid hnl
  have hx0 := Lib.hid hx0
  have hl1 : (0 : Int) < nl := by omega
  clear hL
  go_enter Try.func17, Try.ntmps17
  go_wp2_with fail
  refine bodyPost_ret (v := .tuple #[.agg #[.int .u64 x, .bool true, .slice none 0 0, .int .i64 0], .slice (some ⟨g, o, none⟩) nl c]) (by simp [results, Try.func17, go_sem, x0, x1, x2, x3]) rfl ?_
  exact ⟨_, _, rfl, Lies.nil _, hL3.out, (by show flat _ l.length; rw [hnl.out]; exact hfl), hB.out, .inr rfl, .inl rfl⟩
set_option maxRecDepth 100000 in
theorem ans1n_b {on key : Int} {v : Value} {l : List Int} {space : Bool} {w : World} (hL : Lies w v l) (hfl : flat v l.length) (hn : l.length ≤ 60000) (hh : rHas l key = false) : Calls Try.prog 17 #[v, .agg #[.int .i64 1, .int .i64 on, .int .u64 key], .bool false] w (AnsP v w (0, false, [], 9, l)) := by
  have hC := Lib.hid (rhas_b (key := key) (((hL.alloc (.cells #[.int .i64 1, .int .i64 on, .int .u64 key] 25)).alloc (.cells #[.int .u64 0, .bool false, .slice none 0 0, .int .i64 0] 29)).alloc (.cells #[.int .u64 0, .bool false, .slice none 0 0, .int .i64 0] 29)) (by omega))
  rw [hh] at hC
  clear hh
  have hL3 := Lib.hid (((hL.alloc (.cells #[.int .i64 1, .int .i64 on, .int .u64 key] 25)).alloc (.cells #[.int .u64 0, .bool false, .slice none 0 0, .int .i64 9] 29)).alloc (.cells #[.int .u64 0, .bool false, .slice none 0 0, .int .i64 9] 29))
  have hB := Lib.hid ((((Below.refl w.heap.size w).alloc (Nat.le_refl _) (.cells #[.int .i64 1, .int .i64 on, .int .u64 key] 25)).alloc (by simp) (.cells #[.int .u64 0, .bool false, .slice none 0 0, .int .i64 9] 29)).alloc (by simp; omega) (.cells #[.int .u64 0, .bool false, .slice none 0 0, .int .i64 9] 29))
  have hx := (Blk.new (w.alloc (.cells #[.int .i64 1, .int .i64 on, .int .u64 key] 25)) 29 #[.int .u64 0, .bool false, .slice none 0 0, .int .i64 9]).alloc (.cells #[.int .u64 0, .bool false, .slice none 0 0, .int .i64 9] 29)
  rw [show (w.alloc (.cells #[.int .i64 1, .int .i64 on, .int .u64 key] 25)).heap.size = w.heap.size + 1 by simp] at hx
  have x0 := hx.cell 0
  have x1 := hx.cell 1
  have x2 := hx.cell 2
  have x3 := hx.cell 3
  simp only [List.getElem?_toArray, List.getElem?_cons_zero, List.getElem?_cons_succ] at x0 x1 x2 x3
  clear hx
  clear hL
  go_enter Try.func17, Try.ntmps17
  go_wp2_with fail
  refine hC.out.mono ?_
  rintro _ w2 ⟨rfl, rfl⟩
  go_wp2_with fail
  refine bodyPost_ret (v := .tuple #[.agg #[.int .u64 0, .bool false, .slice none 0 0, .int .i64 9], v]) (by simp [results, Try.func17, go_sem, x0, x1, x2, x3]) rfl ?_
  exact ⟨_, _, rfl, Lies.nil _, hL3.out, hfl, hB.out, .inr rfl, .inl rfl⟩
set_option maxRecDepth 100000 in
theorem ans2_b {on key : Int} {v : Value} {l : List Int} {space : Bool} {w : World} (hL : Lies w v l) (hfl : flat v l.length) (hn : l.length ≤ 60000) (hvw : ∀ g o n c, v = .slice (some ⟨g, o, none⟩) n c → g ≠ w.heap.size + 1) : Calls Try.prog 17 #[v, .agg #[.int .i64 2, .int .i64 on, .int .u64 key], .bool space] w (AnsP v w (0, rHas l key, [], 0, rRem l key)) := by
  have hC := Lib.hid (rhas_b (key := key) (((hL.alloc (.cells #[.int .i64 2, .int .i64 on, .int .u64 key] 25)).alloc (.cells #[.int .u64 0, .bool false, .slice none 0 0, .int .i64 0] 29)).alloc (.cells #[.int .u64 0, .bool false, .slice none 0 0, .int .i64 0] 29)) (by omega))
  generalize hbb : rHas l key = b at *
  have hbb := Lib.hid hbb
  have hL3 := Lib.hid (((hL.alloc (.cells #[.int .i64 2, .int .i64 on, .int .u64 key] 25)).alloc (.cells #[.int .u64 0, .bool false, .slice none 0 0, .int .i64 0] 29)).alloc (.cells #[.int .u64 0, .bool b, .slice none 0 0, .int .i64 0] 29))
  have hB := Lib.hid ((((Below.refl w.heap.size w).alloc (Nat.le_refl _) (.cells #[.int .i64 2, .int .i64 on, .int .u64 key] 25)).alloc (by simp) (.cells #[.int .u64 0, .bool false, .slice none 0 0, .int .i64 0] 29)).alloc (by simp; omega) (.cells #[.int .u64 0, .bool b, .slice none 0 0, .int .i64 0] 29))
  have hy1 := (Blk.new (w.alloc (.cells #[.int .i64 2, .int .i64 on, .int .u64 key] 25)) 29 #[.int .u64 0, .bool false, .slice none 0 0, .int .i64 0]).alloc (.cells #[.int .u64 0, .bool b, .slice none 0 0, .int .i64 0] 29)
  have hy2 := (Blk.new ((w.alloc (.cells #[.int .i64 2, .int .i64 on, .int .u64 key] 25)).alloc (.cells #[.int .u64 0, .bool false, .slice none 0 0, .int .i64 0] 29)) 29 #[.int .u64 0, .bool b, .slice none 0 0, .int .i64 0])
  rw [show (w.alloc (.cells #[.int .i64 2, .int .i64 on, .int .u64 key] 25)).heap.size = w.heap.size + 1 by simp] at hy1
  rw [show ((w.alloc (.cells #[.int .i64 2, .int .i64 on, .int .u64 key] 25)).alloc (.cells #[.int .u64 0, .bool false, .slice none 0 0, .int .i64 0] 29)).heap.size = w.heap.size + 1 + 1 by simp] at hy2
  have x0 := hy2.cell 0
  have x1 := hy2.cell 1
  have x2 := hy2.cell 2
  have x3 := hy2.cell 3
  simp only [List.getElem?_toArray, List.getElem?_cons_zero, List.getElem?_cons_succ] at x0 x1 x2 x3
  have hvl : Hid (∀ g o n c, v = .slice (some ⟨g, o, none⟩) n c → g ≠ w.heap.size + 1) := Lib.hid hvw
  have hy1 := Lib.hid hy1
  have hy2 := Lib.hid hy2
  clear hL hvw
  go_enter Try.func17, Try.ntmps17
  go_wp2_with fail
  refine hC.out.mono ?_
  rintro _ w2 ⟨rfl, rfl⟩
  go_wp2_with fail
  refine wp_region_mix (fun W' => W'.cell? ⟨w.heap.size + 1 + 1, 0, none⟩ = some (.int .u64 0) ∧ W'.cell? ⟨w.heap.size + 1 + 1, 1, none⟩ = some (.bool b) ∧ W'.cell? ⟨w.heap.size + 1 + 1, 2, none⟩ = some (.slice none 0 0) ∧ W'.cell? ⟨w.heap.size + 1 + 1, 3, none⟩ = some (.int .i64 0)) [0, 3, 3, 1, 2, 2, 3] (List.range 7) (by kernel_rfl) (by kernel_rfl) (fun _ _ h => h) ⟨x0, x1, x2, x3⟩ ?_
  repeat (first | ((first | refine wpMix_pure rfl rfl (fun K hK => ?_) | refine wpMix_loc rfl rfl (fun K hK => ?_) | refine wpMix_any rfl rfl (fun K hK => ?_)); go_simp; refine hK _ _ ?_; clear hK K) | (refine wpMix_any rfl rfl (fun K hK => ?_); rw [if_pos (by go_simp)]; apply Exists.intro; refine And.intro (fun w2 hS2 => ?_) (hK _ _ ?_); (focus (obtain ⟨hs0, hs1, hs2, hs3⟩ := hS2; go_simp; rfl)); clear hK K))
  refine wpMix_loud rfl rfl (fun m1 K hK => ?_)
  go_wp2_with fail
  refine (rrem_b (key := key) (hL3.out.drewN (1 + m1))  hn).mono ?_
  rintro _ w5 ⟨v5, rfl, L5, hb5, hf5, hor⟩
  have hap : Hid (∀ g o n c, v5 = .slice (some ⟨g, o, none⟩) n c → g ≠ w.heap.size + 1) := Lib.hid (by
    intro g o n c e
    rcases hor with e0 | hor
    · subst e0; exact hvl.out g o n c e
    · have := hor g o n c e; simp [World.drewN] at this; omega)
  have hf5 := Lib.hid hf5
  have hor' : Hid (v5 = v ∨ v5 = .slice none 0 0 ∨ ∀ g o n c, v5 = .slice (some ⟨g, o, none⟩) n c → w.heap.size ≤ g) := Lib.hid (hor.imp id fun h => .inr fun g o n c e => by have := h g o n c e; simp [World.drewN] at this; omega)
  clear hor
  have hlt : (w.heap.size) + 3 ≤ w5.heap.size := by have := hb5.size; simp [World.drewN] at this; omega
  have z2 := hy2.out.drewN (1 + m1) |>.below hb5 (by simp [World.drewN])
  have z1 := hy1.out.drewN (1 + m1) |>.below hb5 (by simp [World.drewN])
  have hB5 := Lib.hid (hB.out.trans (Below.mono (show Below (((w.alloc (.cells #[.int .i64 2, .int .i64 on, .int .u64 key] 25)).alloc (.cells #[.int .u64 0, .bool false, .slice none 0 0, .int .i64 0] 29)).alloc (.cells #[.int .u64 0, .bool b, .slice none 0 0, .int .i64 0] 29)).heap.size (((w.alloc (.cells #[.int .i64 2, .int .i64 on, .int .u64 key] 25)).alloc (.cells #[.int .u64 0, .bool false, .slice none 0 0, .int .i64 0] 29)).alloc (.cells #[.int .u64 0, .bool b, .slice none 0 0, .int .i64 0] 29)) w5 from ⟨hb5.os, hb5.tape, hb5.output, hb5.size, hb5.block⟩) (by simp; omega)))
  have c0 := z2.cell 0
  have d0 := z1.cell 0
  have k0 := z1.frozen 0
  have c1 := z2.cell 1
  have d1 := z1.cell 1
  have k1 := z1.frozen 1
  have c2 := z2.cell 2
  have d2 := z1.cell 2
  have k2 := z1.frozen 2
  have c3 := z2.cell 3
  have d3 := z1.cell 3
  have k3 := z1.frozen 3
  simp only [List.getElem?_toArray, List.getElem?_cons_zero, List.getElem?_cons_succ] at c0 c1 c2 c3 d0 d1 d2 d3
  have z1 := Lib.hid z1
  have z2 := Lib.hid z2
  have L5 := Lib.hid L5
  clear x0 x1 x2 x3 hy1 hy2 hL3 hB hC hb5
  generalize hhh : w.heap.size = h at *
  have hhh := Lib.hid hhh
  go_wp2_with fail
  refine hK _ _ (fun _ => ⟨c0, c1, c2, c3⟩) ?_; clear hK K
  repeat (first | ((first | refine wpMix_pure rfl rfl (fun K hK => ?_) | refine wpMix_loc rfl rfl (fun K hK => ?_) | refine wpMix_any rfl rfl (fun K hK => ?_)); go_simp; refine hK _ _ ?_; clear hK K) | (refine wpMix_any rfl rfl (fun K hK => ?_); rw [if_pos (by go_simp)]; apply Exists.intro; refine And.intro (fun w2 hS2 => ?_) (hK _ _ ?_); (focus (obtain ⟨hs0, hs1, hs2, hs3⟩ := hS2; go_simp; rfl)); clear hK K))
  refine wpMix_loud rfl rfl (fun m2 K hK => ?_)
  go_wp2_with fail
  have t2 := (((((z2.out.drewN m2).far (p := ⟨h + 1, 0, none⟩) (by simp) (.int .u64 0)).far (p := ⟨h + 1, 1, none⟩) (by simp) (.bool b)).far (p := ⟨h + 1, 2, none⟩) (by simp) (.slice none 0 0)).far (p := ⟨h + 1, 3, none⟩) (by simp) (.int .i64 0))
  have y2 := Lib.hid (fun m => Blk.drewN (((((z1.out.drewN m2).set_ 0 (.int .u64 0)).set_ 1 (.bool b)).set_ 2 (.slice none 0 0)).set_ 3 (.int .i64 0)) m)
  have L6 := Lib.hid (fun m => Lies.drewN (((((L5.out.drewN m2).set (p := ⟨h + 1, 0, none⟩) hap.out (.int .u64 0)).set (p := ⟨h + 1, 1, none⟩) hap.out (.bool b)).set (p := ⟨h + 1, 2, none⟩) hap.out (.slice none 0 0)).set (p := ⟨h + 1, 3, none⟩) hap.out (.int .i64 0)) m)
  have hB6 := Lib.hid (fun m => below_drewNs (((((below_drewNs hB5.out m2).setCell (p := ⟨h + 1, 0, none⟩) (by simp) (.int .u64 0)).setCell (p := ⟨h + 1, 1, none⟩) (by simp) (.bool b)).setCell (p := ⟨h + 1, 2, none⟩) (by simp) (.slice none 0 0)).setCell (p := ⟨h + 1, 3, none⟩) (by simp) (.int .i64 0)) m)
  have e0 := t2.cell 0
  have e1 := t2.cell 1
  have e2 := t2.cell 2
  have e3 := t2.cell 3
  simp only [List.getElem?_toArray, List.getElem?_cons_zero, List.getElem?_cons_succ] at e0 e1 e2 e3
  clear t2
  refine hK _ _ (fun _ => ⟨e0, e1, e2, e3⟩) ?_; clear hK K
  repeat ((first | refine wpMix_pure rfl rfl (fun K hK => ?_) | refine wpMix_loc rfl rfl (fun K hK => ?_) | refine wpMix_any rfl rfl (fun K hK => ?_)); go_simp; refine hK _ _ ?_; clear hK K)
  refine wpMix_nil (fun m3 => ?_)
  have yy := y2.out m3
  have x0 := yy.cell 0
  have x1 := yy.cell 1
  have x2 := yy.cell 2
  have x3 := yy.cell 3
  simp at x0 x1 x2 x3
  clear yy
  go_wp2_with fail
  refine bodyPost_ret (v := .tuple #[.agg #[.int .u64 0, .bool b, .slice none 0 0, .int .i64 0], v5]) (by simp [results, Try.func17, go_sem, x0, x1, x2, x3]) rfl ?_
  exact ⟨_, _, rfl, Lies.nil _, L6.out m3, hf5.out, by rw [hhh.out]; exact hB6.out m3, .inr rfl, by rw [hhh.out]; exact hor'.out⟩
set_option maxRecDepth 100000 in
theorem ans1h_b {on key : Int} {v : Value} {l : List Int} {space : Bool} {w : World} (hL : Lies w v l) (hfl : flat v l.length) (hn : l.length ≤ 60000) (hvw : ∀ g o n c, v = .slice (some ⟨g, o, none⟩) n c → g ≠ w.heap.size + 1) (hh : rHas l key = true) : Calls Try.prog 17 #[v, .agg #[.int .i64 1, .int .i64 on, .int .u64 key], .bool space] w (AnsP v w (0, false, [], 0, rIns l key)) := by
  have hC := Lib.hid (rhas_b (key := key) (((hL.alloc (.cells #[.int .i64 1, .int .i64 on, .int .u64 key] 25)).alloc (.cells #[.int .u64 0, .bool false, .slice none 0 0, .int .i64 0] 29)).alloc (.cells #[.int .u64 0, .bool false, .slice none 0 0, .int .i64 0] 29)) (by omega))
  rw [hh] at hC
  clear hh
  have hL3 := Lib.hid (((hL.alloc (.cells #[.int .i64 1, .int .i64 on, .int .u64 key] 25)).alloc (.cells #[.int .u64 0, .bool false, .slice none 0 0, .int .i64 0] 29)).alloc (.cells #[.int .u64 0, .bool false, .slice none 0 0, .int .i64 0] 29))
  have hB := Lib.hid ((((Below.refl w.heap.size w).alloc (Nat.le_refl _) (.cells #[.int .i64 1, .int .i64 on, .int .u64 key] 25)).alloc (by simp) (.cells #[.int .u64 0, .bool false, .slice none 0 0, .int .i64 0] 29)).alloc (by simp; omega) (.cells #[.int .u64 0, .bool false, .slice none 0 0, .int .i64 0] 29))
  have hy1 := (Blk.new (w.alloc (.cells #[.int .i64 1, .int .i64 on, .int .u64 key] 25)) 29 #[.int .u64 0, .bool false, .slice none 0 0, .int .i64 0]).alloc (.cells #[.int .u64 0, .bool false, .slice none 0 0, .int .i64 0] 29)
  have hy2 := (Blk.new ((w.alloc (.cells #[.int .i64 1, .int .i64 on, .int .u64 key] 25)).alloc (.cells #[.int .u64 0, .bool false, .slice none 0 0, .int .i64 0] 29)) 29 #[.int .u64 0, .bool false, .slice none 0 0, .int .i64 0])
  rw [show (w.alloc (.cells #[.int .i64 1, .int .i64 on, .int .u64 key] 25)).heap.size = w.heap.size + 1 by simp] at hy1
  rw [show ((w.alloc (.cells #[.int .i64 1, .int .i64 on, .int .u64 key] 25)).alloc (.cells #[.int .u64 0, .bool false, .slice none 0 0, .int .i64 0] 29)).heap.size = w.heap.size + 1 + 1 by simp] at hy2
  have x0 := hy2.cell 0
  have x1 := hy2.cell 1
  have x2 := hy2.cell 2
  have x3 := hy2.cell 3
  simp only [List.getElem?_toArray, List.getElem?_cons_zero, List.getElem?_cons_succ] at x0 x1 x2 x3
  have hvl : Hid (∀ g o n c, v = .slice (some ⟨g, o, none⟩) n c → g ≠ w.heap.size + 1) := Lib.hid hvw
  have hy1 := Lib.hid hy1
  have hy2 := Lib.hid hy2
  clear hL hvw
  go_enter Try.func17, Try.ntmps17
  go_wp2_with fail
  refine hC.out.mono ?_
  rintro _ w2 ⟨rfl, rfl⟩
  go_wp2_with fail
  refine wp_region_mix (fun W' => W'.cell? ⟨w.heap.size + 1 + 1, 0, none⟩ = some (.int .u64 0) ∧ W'.cell? ⟨w.heap.size + 1 + 1, 1, none⟩ = some (.bool false) ∧ W'.cell? ⟨w.heap.size + 1 + 1, 2, none⟩ = some (.slice none 0 0) ∧ W'.cell? ⟨w.heap.size + 1 + 1, 3, none⟩ = some (.int .i64 0)) [0, 3, 3, 1, 2, 2, 3] (List.range 7) (by kernel_rfl) (by kernel_rfl) (fun _ _ h => h) ⟨x0, x1, x2, x3⟩ ?_
  repeat (first | ((first | refine wpMix_pure rfl rfl (fun K hK => ?_) | refine wpMix_loc rfl rfl (fun K hK => ?_) | refine wpMix_any rfl rfl (fun K hK => ?_)); go_simp; refine hK _ _ ?_; clear hK K) | (refine wpMix_any rfl rfl (fun K hK => ?_); rw [if_pos (by go_simp)]; apply Exists.intro; refine And.intro (fun w2 hS2 => ?_) (hK _ _ ?_); (focus (obtain ⟨hs0, hs1, hs2, hs3⟩ := hS2; go_simp; rfl)); clear hK K))
  refine wpMix_loud rfl rfl (fun m1 K hK => ?_)
  go_wp2_with fail
  refine (rins_b (key := key) (hL3.out.drewN (1 + m1)) hfl hn).mono ?_
  rintro _ w5 ⟨v5, rfl, L5, hb5, hf5, hor⟩
  have hap : Hid (∀ g o n c, v5 = .slice (some ⟨g, o, none⟩) n c → g ≠ w.heap.size + 1) := Lib.hid (by
    intro g o n c e
    rcases hor with e0 | hor
    · subst e0; exact hvl.out g o n c e
    · have := hor g o n c e; simp [World.drewN] at this; omega)
  have hf5 := Lib.hid hf5
  have hor' : Hid (v5 = v ∨ v5 = .slice none 0 0 ∨ ∀ g o n c, v5 = .slice (some ⟨g, o, none⟩) n c → w.heap.size ≤ g) := Lib.hid (hor.imp id fun h => .inr fun g o n c e => by have := h g o n c e; simp [World.drewN] at this; omega)
  clear hor
  have hlt : (w.heap.size) + 3 ≤ w5.heap.size := by have := hb5.size; simp [World.drewN] at this; omega
  have z2 := hy2.out.drewN (1 + m1) |>.below hb5 (by simp [World.drewN])
  have z1 := hy1.out.drewN (1 + m1) |>.below hb5 (by simp [World.drewN])
  have hB5 := Lib.hid (hB.out.trans (Below.mono (show Below (((w.alloc (.cells #[.int .i64 1, .int .i64 on, .int .u64 key] 25)).alloc (.cells #[.int .u64 0, .bool false, .slice none 0 0, .int .i64 0] 29)).alloc (.cells #[.int .u64 0, .bool false, .slice none 0 0, .int .i64 0] 29)).heap.size (((w.alloc (.cells #[.int .i64 1, .int .i64 on, .int .u64 key] 25)).alloc (.cells #[.int .u64 0, .bool false, .slice none 0 0, .int .i64 0] 29)).alloc (.cells #[.int .u64 0, .bool false, .slice none 0 0, .int .i64 0] 29)) w5 from ⟨hb5.os, hb5.tape, hb5.output, hb5.size, hb5.block⟩) (by simp; omega)))
  have c0 := z2.cell 0
  have d0 := z1.cell 0
  have k0 := z1.frozen 0
  have c1 := z2.cell 1
  have d1 := z1.cell 1
  have k1 := z1.frozen 1
  have c2 := z2.cell 2
  have d2 := z1.cell 2
  have k2 := z1.frozen 2
  have c3 := z2.cell 3
  have d3 := z1.cell 3
  have k3 := z1.frozen 3
  simp only [List.getElem?_toArray, List.getElem?_cons_zero, List.getElem?_cons_succ] at c0 c1 c2 c3 d0 d1 d2 d3
  have z1 := Lib.hid z1
  have z2 := Lib.hid z2
  have L5 := Lib.hid L5
  clear x0 x1 x2 x3 hy1 hy2 hL3 hB hC hb5
  generalize hhh : w.heap.size = h at *
  have hhh := Lib.hid hhh
  go_wp2_with fail
  refine hK _ _ (fun _ => ⟨c0, c1, c2, c3⟩) ?_; clear hK K
  repeat (first | ((first | refine wpMix_pure rfl rfl (fun K hK => ?_) | refine wpMix_loc rfl rfl (fun K hK => ?_) | refine wpMix_any rfl rfl (fun K hK => ?_)); go_simp; refine hK _ _ ?_; clear hK K) | (refine wpMix_any rfl rfl (fun K hK => ?_); rw [if_pos (by go_simp)]; apply Exists.intro; refine And.intro (fun w2 hS2 => ?_) (hK _ _ ?_); (focus (obtain ⟨hs0, hs1, hs2, hs3⟩ := hS2; go_simp; rfl)); clear hK K))
  refine wpMix_loud rfl rfl (fun m2 K hK => ?_)
  go_wp2_with fail
  have t2 := (((((z2.out.drewN m2).far (p := ⟨h + 1, 0, none⟩) (by simp) (.int .u64 0)).far (p := ⟨h + 1, 1, none⟩) (by simp) (.bool false)).far (p := ⟨h + 1, 2, none⟩) (by simp) (.slice none 0 0)).far (p := ⟨h + 1, 3, none⟩) (by simp) (.int .i64 0))
  have y2 := Lib.hid (fun m => Blk.drewN (((((z1.out.drewN m2).set_ 0 (.int .u64 0)).set_ 1 (.bool false)).set_ 2 (.slice none 0 0)).set_ 3 (.int .i64 0)) m)
  have L6 := Lib.hid (fun m => Lies.drewN (((((L5.out.drewN m2).set (p := ⟨h + 1, 0, none⟩) hap.out (.int .u64 0)).set (p := ⟨h + 1, 1, none⟩) hap.out (.bool false)).set (p := ⟨h + 1, 2, none⟩) hap.out (.slice none 0 0)).set (p := ⟨h + 1, 3, none⟩) hap.out (.int .i64 0)) m)
  have hB6 := Lib.hid (fun m => below_drewNs (((((below_drewNs hB5.out m2).setCell (p := ⟨h + 1, 0, none⟩) (by simp) (.int .u64 0)).setCell (p := ⟨h + 1, 1, none⟩) (by simp) (.bool false)).setCell (p := ⟨h + 1, 2, none⟩) (by simp) (.slice none 0 0)).setCell (p := ⟨h + 1, 3, none⟩) (by simp) (.int .i64 0)) m)
  have e0 := t2.cell 0
  have e1 := t2.cell 1
  have e2 := t2.cell 2
  have e3 := t2.cell 3
  simp only [List.getElem?_toArray, List.getElem?_cons_zero, List.getElem?_cons_succ] at e0 e1 e2 e3
  clear t2
  refine hK _ _ (fun _ => ⟨e0, e1, e2, e3⟩) ?_; clear hK K
  repeat ((first | refine wpMix_pure rfl rfl (fun K hK => ?_) | refine wpMix_loc rfl rfl (fun K hK => ?_) | refine wpMix_any rfl rfl (fun K hK => ?_)); go_simp; refine hK _ _ ?_; clear hK K)
  refine wpMix_nil (fun m3 => ?_)
  have yy := y2.out m3
  have x0 := yy.cell 0
  have x1 := yy.cell 1
  have x2 := yy.cell 2
  have x3 := yy.cell 3
  simp at x0 x1 x2 x3
  clear yy
  go_wp2_with fail
  refine bodyPost_ret (v := .tuple #[.agg #[.int .u64 0, .bool false, .slice none 0 0, .int .i64 0], v5]) (by simp [results, Try.func17, go_sem, x0, x1, x2, x3]) rfl ?_
  exact ⟨_, _, rfl, Lies.nil _, L6.out m3, hf5.out, by rw [hhh.out]; exact hB6.out m3, .inr rfl, by rw [hhh.out]; exact hor'.out⟩
set_option maxRecDepth 100000 in
theorem ans1y_b {on key : Int} {v : Value} {l : List Int} {space : Bool} {w : World} (hL : Lies w v l) (hfl : flat v l.length) (hn : l.length ≤ 60000) (hvw : ∀ g o n c, v = .slice (some ⟨g, o, none⟩) n c → g ≠ w.heap.size + 1) (hh : rHas l key = false) : Calls Try.prog 17 #[v, .agg #[.int .i64 1, .int .i64 on, .int .u64 key], .bool true] w (AnsP v w (0, true, [], 0, rIns l key)) := by
  have hC := Lib.hid (rhas_b (key := key) (((hL.alloc (.cells #[.int .i64 1, .int .i64 on, .int .u64 key] 25)).alloc (.cells #[.int .u64 0, .bool false, .slice none 0 0, .int .i64 0] 29)).alloc (.cells #[.int .u64 0, .bool false, .slice none 0 0, .int .i64 0] 29)) (by omega))
  rw [hh] at hC
  clear hh
  have hL3 := Lib.hid (((hL.alloc (.cells #[.int .i64 1, .int .i64 on, .int .u64 key] 25)).alloc (.cells #[.int .u64 0, .bool false, .slice none 0 0, .int .i64 0] 29)).alloc (.cells #[.int .u64 0, .bool true, .slice none 0 0, .int .i64 0] 29))
  have hB := Lib.hid ((((Below.refl w.heap.size w).alloc (Nat.le_refl _) (.cells #[.int .i64 1, .int .i64 on, .int .u64 key] 25)).alloc (by simp) (.cells #[.int .u64 0, .bool false, .slice none 0 0, .int .i64 0] 29)).alloc (by simp; omega) (.cells #[.int .u64 0, .bool true, .slice none 0 0, .int .i64 0] 29))
  have hy1 := (Blk.new (w.alloc (.cells #[.int .i64 1, .int .i64 on, .int .u64 key] 25)) 29 #[.int .u64 0, .bool false, .slice none 0 0, .int .i64 0]).alloc (.cells #[.int .u64 0, .bool true, .slice none 0 0, .int .i64 0] 29)
  have hy2 := (Blk.new ((w.alloc (.cells #[.int .i64 1, .int .i64 on, .int .u64 key] 25)).alloc (.cells #[.int .u64 0, .bool false, .slice none 0 0, .int .i64 0] 29)) 29 #[.int .u64 0, .bool true, .slice none 0 0, .int .i64 0])
  rw [show (w.alloc (.cells #[.int .i64 1, .int .i64 on, .int .u64 key] 25)).heap.size = w.heap.size + 1 by simp] at hy1
  rw [show ((w.alloc (.cells #[.int .i64 1, .int .i64 on, .int .u64 key] 25)).alloc (.cells #[.int .u64 0, .bool false, .slice none 0 0, .int .i64 0] 29)).heap.size = w.heap.size + 1 + 1 by simp] at hy2
  have x0 := hy2.cell 0
  have x1 := hy2.cell 1
  have x2 := hy2.cell 2
  have x3 := hy2.cell 3
  simp only [List.getElem?_toArray, List.getElem?_cons_zero, List.getElem?_cons_succ] at x0 x1 x2 x3
  have hvl : Hid (∀ g o n c, v = .slice (some ⟨g, o, none⟩) n c → g ≠ w.heap.size + 1) := Lib.hid hvw
  have hy1 := Lib.hid hy1
  have hy2 := Lib.hid hy2
  clear hL hvw
  go_enter Try.func17, Try.ntmps17
  go_wp2_with fail
  refine hC.out.mono ?_
  rintro _ w2 ⟨rfl, rfl⟩
  go_wp2_with fail
  refine wp_region_mix (fun W' => W'.cell? ⟨w.heap.size + 1 + 1, 0, none⟩ = some (.int .u64 0) ∧ W'.cell? ⟨w.heap.size + 1 + 1, 1, none⟩ = some (.bool true) ∧ W'.cell? ⟨w.heap.size + 1 + 1, 2, none⟩ = some (.slice none 0 0) ∧ W'.cell? ⟨w.heap.size + 1 + 1, 3, none⟩ = some (.int .i64 0)) [0, 3, 3, 1, 2, 2, 3] (List.range 7) (by kernel_rfl) (by kernel_rfl) (fun _ _ h => h) ⟨x0, x1, x2, x3⟩ ?_
  repeat (first | ((first | refine wpMix_pure rfl rfl (fun K hK => ?_) | refine wpMix_loc rfl rfl (fun K hK => ?_) | refine wpMix_any rfl rfl (fun K hK => ?_)); go_simp; refine hK _ _ ?_; clear hK K) | (refine wpMix_any rfl rfl (fun K hK => ?_); rw [if_pos (by go_simp)]; apply Exists.intro; refine And.intro (fun w2 hS2 => ?_) (hK _ _ ?_); (focus (obtain ⟨hs0, hs1, hs2, hs3⟩ := hS2; go_simp; rfl)); clear hK K))
  refine wpMix_loud rfl rfl (fun m1 K hK => ?_)
  go_wp2_with fail
  refine (rins_b (key := key) (hL3.out.drewN (1 + m1)) hfl hn).mono ?_
  rintro _ w5 ⟨v5, rfl, L5, hb5, hf5, hor⟩
  have hap : Hid (∀ g o n c, v5 = .slice (some ⟨g, o, none⟩) n c → g ≠ w.heap.size + 1) := Lib.hid (by
    intro g o n c e
    rcases hor with e0 | hor
    · subst e0; exact hvl.out g o n c e
    · have := hor g o n c e; simp [World.drewN] at this; omega)
  have hf5 := Lib.hid hf5
  have hor' : Hid (v5 = v ∨ v5 = .slice none 0 0 ∨ ∀ g o n c, v5 = .slice (some ⟨g, o, none⟩) n c → w.heap.size ≤ g) := Lib.hid (hor.imp id fun h => .inr fun g o n c e => by have := h g o n c e; simp [World.drewN] at this; omega)
  clear hor
  have hlt : (w.heap.size) + 3 ≤ w5.heap.size := by have := hb5.size; simp [World.drewN] at this; omega
  have z2 := hy2.out.drewN (1 + m1) |>.below hb5 (by simp [World.drewN])
  have z1 := hy1.out.drewN (1 + m1) |>.below hb5 (by simp [World.drewN])
  have hB5 := Lib.hid (hB.out.trans (Below.mono (show Below (((w.alloc (.cells #[.int .i64 1, .int .i64 on, .int .u64 key] 25)).alloc (.cells #[.int .u64 0, .bool false, .slice none 0 0, .int .i64 0] 29)).alloc (.cells #[.int .u64 0, .bool true, .slice none 0 0, .int .i64 0] 29)).heap.size (((w.alloc (.cells #[.int .i64 1, .int .i64 on, .int .u64 key] 25)).alloc (.cells #[.int .u64 0, .bool false, .slice none 0 0, .int .i64 0] 29)).alloc (.cells #[.int .u64 0, .bool true, .slice none 0 0, .int .i64 0] 29)) w5 from ⟨hb5.os, hb5.tape, hb5.output, hb5.size, hb5.block⟩) (by simp; omega)))
  have c0 := z2.cell 0
  have d0 := z1.cell 0
  have k0 := z1.frozen 0
  have c1 := z2.cell 1
  have d1 := z1.cell 1
  have k1 := z1.frozen 1
  have c2 := z2.cell 2
  have d2 := z1.cell 2
  have k2 := z1.frozen 2
  have c3 := z2.cell 3
  have d3 := z1.cell 3
  have k3 := z1.frozen 3
  simp only [List.getElem?_toArray, List.getElem?_cons_zero, List.getElem?_cons_succ] at c0 c1 c2 c3 d0 d1 d2 d3
  have z1 := Lib.hid z1
  have z2 := Lib.hid z2
  have L5 := Lib.hid L5
  clear x0 x1 x2 x3 hy1 hy2 hL3 hB hC hb5
  generalize hhh : w.heap.size = h at *
  have hhh := Lib.hid hhh
  go_wp2_with fail
  refine hK _ _ (fun _ => ⟨c0, c1, c2, c3⟩) ?_; clear hK K
  repeat (first | ((first | refine wpMix_pure rfl rfl (fun K hK => ?_) | refine wpMix_loc rfl rfl (fun K hK => ?_) | refine wpMix_any rfl rfl (fun K hK => ?_)); go_simp; refine hK _ _ ?_; clear hK K) | (refine wpMix_any rfl rfl (fun K hK => ?_); rw [if_pos (by go_simp)]; apply Exists.intro; refine And.intro (fun w2 hS2 => ?_) (hK _ _ ?_); (focus (obtain ⟨hs0, hs1, hs2, hs3⟩ := hS2; go_simp; rfl)); clear hK K))
  refine wpMix_loud rfl rfl (fun m2 K hK => ?_)
  go_wp2_with fail
  have t2 := (((((z2.out.drewN m2).far (p := ⟨h + 1, 0, none⟩) (by simp) (.int .u64 0)).far (p := ⟨h + 1, 1, none⟩) (by simp) (.bool true)).far (p := ⟨h + 1, 2, none⟩) (by simp) (.slice none 0 0)).far (p := ⟨h + 1, 3, none⟩) (by simp) (.int .i64 0))
  have y2 := Lib.hid (fun m => Blk.drewN (((((z1.out.drewN m2).set_ 0 (.int .u64 0)).set_ 1 (.bool true)).set_ 2 (.slice none 0 0)).set_ 3 (.int .i64 0)) m)
  have L6 := Lib.hid (fun m => Lies.drewN (((((L5.out.drewN m2).set (p := ⟨h + 1, 0, none⟩) hap.out (.int .u64 0)).set (p := ⟨h + 1, 1, none⟩) hap.out (.bool true)).set (p := ⟨h + 1, 2, none⟩) hap.out (.slice none 0 0)).set (p := ⟨h + 1, 3, none⟩) hap.out (.int .i64 0)) m)
  have hB6 := Lib.hid (fun m => below_drewNs (((((below_drewNs hB5.out m2).setCell (p := ⟨h + 1, 0, none⟩) (by simp) (.int .u64 0)).setCell (p := ⟨h + 1, 1, none⟩) (by simp) (.bool true)).setCell (p := ⟨h + 1, 2, none⟩) (by simp) (.slice none 0 0)).setCell (p := ⟨h + 1, 3, none⟩) (by simp) (.int .i64 0)) m)
  have e0 := t2.cell 0
  have e1 := t2.cell 1
  have e2 := t2.cell 2
  have e3 := t2.cell 3
  simp only [List.getElem?_toArray, List.getElem?_cons_zero, List.getElem?_cons_succ] at e0 e1 e2 e3
  clear t2
  refine hK _ _ (fun _ => ⟨e0, e1, e2, e3⟩) ?_; clear hK K
  repeat ((first | refine wpMix_pure rfl rfl (fun K hK => ?_) | refine wpMix_loc rfl rfl (fun K hK => ?_) | refine wpMix_any rfl rfl (fun K hK => ?_)); go_simp; refine hK _ _ ?_; clear hK K)
  refine wpMix_nil (fun m3 => ?_)
  have yy := y2.out m3
  have x0 := yy.cell 0
  have x1 := yy.cell 1
  have x2 := yy.cell 2
  have x3 := yy.cell 3
  simp at x0 x1 x2 x3
  clear yy
  go_wp2_with fail
  refine bodyPost_ret (v := .tuple #[.agg #[.int .u64 0, .bool true, .slice none 0 0, .int .i64 0], v5]) (by simp [results, Try.func17, go_sem, x0, x1, x2, x3]) rfl ?_
  exact ⟨_, _, rfl, Lies.nil _, L6.out m3, hf5.out, by rw [hhh.out]; exact hB6.out m3, .inr rfl, by rw [hhh.out]; exact hor'.out⟩
/-- the document's answer to any step -/
theorem ans_b {on key kind : Int} {v : Value} {l : List Int} {space : Bool} {w : World} (hL : Lies w v l) (hfl : flat v l.length) (hn : l.length ≤ 60000) (hvw : ∀ g o n c, v = .slice (some ⟨g, o, none⟩) n c → g ≠ w.heap.size + 1) :
    Calls Try.prog 17 #[v, .agg #[.int .i64 kind, .int .i64 on, .int .u64 key], .bool space] w (AnsP v w (dAns l kind key space)) := by
  by_cases h0 : kind < 1 ∨ 9 < kind
  · have e : dAns l kind key space = (0, false, [], 0, l) := by
      unfold dAns
      rw [if_neg (by omega), if_neg (by omega), if_neg (by omega), if_neg (by omega), if_neg (by omega), if_neg (by omega), if_neg (by omega), if_neg (by omega), if_neg (by omega)]
    rw [e]
    exact ans0_b hL hfl hn h0
  · rcases (show kind = 1 ∨ kind = 2 ∨ kind = 3 ∨ kind = 4 ∨ kind = 5 ∨ kind = 6 ∨ kind = 7 ∨ kind = 8 ∨ kind = 9 by omega) with rfl | rfl | rfl | rfl | rfl | rfl | rfl | rfl | rfl
    · rw [dAns_1]
      cases hh : rHas l key with
      | true =>
        rw [if_neg (by simp)]
        exact ans1h_b (space := space) hL hfl hn hvw hh
      | false =>
        cases space with
        | true =>
          rw [if_neg (by simp)]
          exact ans1y_b (space := true) hL hfl hn hvw hh
        | false =>
          rw [if_pos ⟨rfl, rfl⟩]
          exact ans1n_b (space := false) hL hfl hn hh
    · exact ans2_b hL hfl hn hvw
    · exact ans3_b hL hfl hn
    · exact ans4_b hL hfl hn
    · exact ans5_b hL hfl hn
    · rcases Nat.eq_zero_or_pos l.length with hl | hl
      · obtain rfl : l = [] := List.eq_nil_of_length_eq_zero hl
        exact ans6n_b hL hfl hn rfl
      · have := ans6y_b (on := on) (key := key) (space := space) hL hfl hn hl
        have e : dAns l 6 key space = (l.getD 0 0, true, [], 0, l) := by
          cases l with
          | nil => simp at hl
          | cons x r => rfl
        rw [e]
        exact this
    · exact ans7_b hL hfl hn
    · exact ans8_b hL hfl hn
    · exact ans9_b hL hfl hn

end Go.Proofs.Ytcohopobjppmaaa
