/- A step's call over the document's cells, kind by kind, by contract. (printed by dodo.py) -/
import Derived.Test.YtcohopobjppmaaaLiM
namespace Go.Proofs.Ytcohopobjppmaaa
open Go.RowKit
set_option maxHeartbeats 4000000
set_option linter.unusedVariables false
set_option linter.unusedSimpArgs false
def stepO (k on key : Int) : Obj := .cells #[.int .i64 k, .int .i64 on, .int .u64 key] 25
def replyO : Obj := .cells #[.int .u64 0, .bool false, .slice none 0 0, .int .i64 0] 29
theorem do_pre {t : Nat} {F F0 : Nat → Prop} {s : St} {k on key : Int} {w w0 : World} (hw : Txw w t F s) (hm : Fr F0 w0 F w) :
    Txw (((w.alloc (stepO k on key)).alloc replyO).alloc replyO) t F s ∧ Fr F0 w0 F (((w.alloc (stepO k on key)).alloc replyO).alloc replyO) ∧
    Blk (((w.alloc (stepO k on key)).alloc replyO).alloc replyO) (w.heap.size + 1) 29 #[.int .u64 0, .bool false, .slice none 0 0, .int .i64 0] ∧
    Blk (((w.alloc (stepO k on key)).alloc replyO).alloc replyO) (w.heap.size + 1 + 1) 29 #[.int .u64 0, .bool false, .slice none 0 0, .int .i64 0] ∧
    ¬ F (w.heap.size + 1) ∧ ¬ F (w.heap.size + 1 + 1) ∧ w0.heap.size ≤ w.heap.size ∧ (((w.alloc (stepO k on key)).alloc replyO).alloc replyO).heap.size = w.heap.size + 3 := by
  refine ⟨((hw.alloc _).alloc _).alloc _, ((hm.alloc _).alloc _).alloc _, ?_, ?_, fun c => ?_, fun c => ?_, hm.size, by simp⟩
  · have := (Blk.new (w.alloc (stepO k on key)) 29 #[.int .u64 0, .bool false, .slice none 0 0, .int .i64 0]).alloc replyO
    rw [show (w.alloc (stepO k on key)).heap.size = w.heap.size + 1 by simp] at this
    exact this
  · have := (Blk.new ((w.alloc (stepO k on key)).alloc replyO) 29 #[.int .u64 0, .bool false, .slice none 0 0, .int .i64 0])
    rw [show ((w.alloc (stepO k on key)).alloc replyO).heap.size = w.heap.size + 1 + 1 by simp] at this
    exact this
  · have := hw.lt _ c; omega
  · have := hw.lt _ c; omega

set_option maxRecDepth 100000 in
theorem do1_b {t n N : Nat} {F F0 : Nat → Prop} {s s' : St} {e' a l on key : Int} {w w0 : World} {p' : Pl} {ks' : List Int}
    (hw : Txw w t F s) (hf : Fits s) (hb : Bud s (n + 6 * N + 20)) (hN : N ≤ 60000) (ha : 0 ≤ a) (hl : 0 ≤ l) (hl' : l ≤ 18446744073709551615) (hk : 0 ≤ key) (hk' : key ≤ 18446744073709551615) (hR : hfind (fun x => decide (x < key)) N s 0 l = some (p', ks', e', s')) {b1 : Bool} {e1 : Int} {s2 : St} (hr : lInsR p' e' s' a l key = (b1, e1, s2)) (hm : Fr F0 w0 F w) :
    Calls Try.prog 7 #[.iface 31 (.pointer (some ⟨t, 0, none⟩)), .int .u64 a, .int .u64 l, .agg #[.int .i64 1, .int .i64 on, .int .u64 key]] w fun en w' =>
      en = .returned (.agg #[.int .u64 0, .bool b1, .slice none 0 0, .int .i64 e1]) ∧ Lft t n F0 w0 s2 w' := by
  obtain ⟨T1, hM, x1, x2, hn1, hn2, hs, hsz⟩ := do_pre (k := 1) (on := on) (key := key) hw hm
  unfold stepO replyO at T1 hM x1 x2 hsz
  have T1 := Lib.hid T1
  have hM := Lib.hid hM
  have x1 := Lib.hid x1
  have x2 := Lib.hid x2
  have hs := Lib.hid hs
  have hsz := Lib.hid hsz
  have hr := Lib.hid hr
  clear hw hm
  go_enter Try.func7, Try.ntmps7
  go_wp2_with fail
  refine (insert_b (n := n) T1.out hf (hb.mono (by omega)) hN ha hl hl' hk hk' hR (Fr.refl _ _)).mono ?_
  rw [hr.out]
  clear hr
  rintro _ w2 ⟨rfl, f2, b2, F2, T2, m2⟩
  have nf1 : ¬ F2 (w.heap.size + 1) := fun c => (m2.new _ c).elim hn1 fun c => by have := hsz.out; omega
  have nf2 : ¬ F2 (w.heap.size + 1 + 1) := fun c => (m2.new _ c).elim hn2 fun c => by have := hsz.out; omega
  have y1 := m2.blk x1.out hn1
  have y2 := m2.blk x2.out hn2
  have m3 := Lib.hid (hM.out.trans m2)
  clear T1 hM x1 x2 hsz
  generalize w.heap.size = h at *
  have c0 := y2.cell 0
  have c1 := y2.cell 1
  have c2 := y2.cell 2
  have c3 := y2.cell 3
  have g0 := y2.frozen 0
  have g1 := y2.frozen 1
  have g2 := y2.frozen 2
  have g3 := y2.frozen 3
  have d0 := y1.cell 0
  have d1 := y1.cell 1
  have d2 := y1.cell 2
  have d3 := y1.cell 3
  have k0 := y1.frozen 0
  have k1 := y1.frozen 1
  have k2 := y1.frozen 2
  have k3 := y1.frozen 3
  simp only [List.getElem?_toArray, List.getElem?_cons_zero, List.getElem?_cons_succ] at c0 c1 c2 c3 d0 d1 d2 d3
  have y1 := Lib.hid y1
  have y2 := Lib.hid y2
  have T2 := Lib.hid T2
  have m2 := Lib.hid m2
  clear hR
  have yy := ((((((y1.out.far (p := ⟨h + 1 + 1, 1, none⟩) (by simp) (.bool b1)).far (p := ⟨h + 1 + 1, 3, none⟩) (by simp) (.int .i64 e1)).set_ 0 (.int .u64 0)).set_ 1 (.bool b1)).set_ 2 (.slice none 0 0)).set_ 3 (.int .i64 e1))
  have q0 := yy.cell 0
  have q1 := yy.cell 1
  have q2 := yy.cell 2
  have q3 := yy.cell 3
  simp at q0 q1 q2 q3
  clear yy
  have TT := Lib.hid ((((((T2.out.set (p := ⟨h + 1 + 1, 1, none⟩) nf2 (.bool b1)).set (p := ⟨h + 1 + 1, 3, none⟩) nf2 (.int .i64 e1)).set (p := ⟨h + 1, 0, none⟩) nf1 (.int .u64 0)).set (p := ⟨h + 1, 1, none⟩) nf1 (.bool b1)).set (p := ⟨h + 1, 2, none⟩) nf1 (.slice none 0 0)).set (p := ⟨h + 1, 3, none⟩) nf1 (.int .i64 e1))
  have MM := Lib.hid ((((((m3.out.set (p := ⟨h + 1 + 1, 1, none⟩) (.inr (.inr (by have := hs.out; simp; omega))) (.bool b1)).set (p := ⟨h + 1 + 1, 3, none⟩) (.inr (.inr (by have := hs.out; simp; omega))) (.int .i64 e1)).set (p := ⟨h + 1, 0, none⟩) (.inr (.inr (by have := hs.out; simp; omega))) (.int .u64 0)).set (p := ⟨h + 1, 1, none⟩) (.inr (.inr (by have := hs.out; simp; omega))) (.bool b1)).set (p := ⟨h + 1, 2, none⟩) (.inr (.inr (by have := hs.out; simp; omega))) (.slice none 0 0)).set (p := ⟨h + 1, 3, none⟩) (.inr (.inr (by have := hs.out; simp; omega))) (.int .i64 e1))
  go_wp2_with fail
  refine bodyPost_ret (v := .agg #[.int .u64 0, .bool b1, .slice none 0 0, .int .i64 e1]) (by simp [results, Try.func7, go_sem, q0, q1, q2, q3]) rfl ?_
  exact ⟨rfl, f2, b2, F2, TT.out, MM.out⟩
set_option maxRecDepth 100000 in
theorem do2_b {t n N : Nat} {F F0 : Nat → Prop} {s s' : St} {e' a l on key : Int} {w w0 : World} {p' : Pl} {ks' : List Int}
    (hw : Txw w t F s) (hf : Fits s) (hb : Bud s (n + 6 * N + 20)) (hN : N ≤ 60000) (ha : 0 ≤ a) (hl : 0 ≤ l) (hl' : l ≤ 18446744073709551615) (hk : 0 ≤ key) (hk' : key ≤ 18446744073709551615) (hR : hfind (fun x => decide (x < key)) N s 0 l = some (p', ks', e', s')) {b1 : Bool} {e1 : Int} {s2 : St} (hr : lRemR p' e' s' a l key = (b1, e1, s2)) (hm : Fr F0 w0 F w) :
    Calls Try.prog 7 #[.iface 31 (.pointer (some ⟨t, 0, none⟩)), .int .u64 a, .int .u64 l, .agg #[.int .i64 2, .int .i64 on, .int .u64 key]] w fun en w' =>
      en = .returned (.agg #[.int .u64 0, .bool b1, .slice none 0 0, .int .i64 e1]) ∧ Lft t n F0 w0 s2 w' := by
  obtain ⟨T1, hM, x1, x2, hn1, hn2, hs, hsz⟩ := do_pre (k := 2) (on := on) (key := key) hw hm
  unfold stepO replyO at T1 hM x1 x2 hsz
  have T1 := Lib.hid T1
  have hM := Lib.hid hM
  have x1 := Lib.hid x1
  have x2 := Lib.hid x2
  have hs := Lib.hid hs
  have hsz := Lib.hid hsz
  have hr := Lib.hid hr
  clear hw hm
  go_enter Try.func7, Try.ntmps7
  go_wp2_with fail
  refine (remove_b (n := n) T1.out hf (hb.mono (by omega)) hN ha hl hl' hR (Fr.refl _ _)).mono ?_
  rw [hr.out]
  clear hr
  rintro _ w2 ⟨rfl, f2, b2, F2, T2, m2⟩
  have nf1 : ¬ F2 (w.heap.size + 1) := fun c => (m2.new _ c).elim hn1 fun c => by have := hsz.out; omega
  have nf2 : ¬ F2 (w.heap.size + 1 + 1) := fun c => (m2.new _ c).elim hn2 fun c => by have := hsz.out; omega
  have y1 := m2.blk x1.out hn1
  have y2 := m2.blk x2.out hn2
  have m3 := Lib.hid (hM.out.trans m2)
  clear T1 hM x1 x2 hsz
  generalize w.heap.size = h at *
  have c0 := y2.cell 0
  have c1 := y2.cell 1
  have c2 := y2.cell 2
  have c3 := y2.cell 3
  have g0 := y2.frozen 0
  have g1 := y2.frozen 1
  have g2 := y2.frozen 2
  have g3 := y2.frozen 3
  have d0 := y1.cell 0
  have d1 := y1.cell 1
  have d2 := y1.cell 2
  have d3 := y1.cell 3
  have k0 := y1.frozen 0
  have k1 := y1.frozen 1
  have k2 := y1.frozen 2
  have k3 := y1.frozen 3
  simp only [List.getElem?_toArray, List.getElem?_cons_zero, List.getElem?_cons_succ] at c0 c1 c2 c3 d0 d1 d2 d3
  have y1 := Lib.hid y1
  have y2 := Lib.hid y2
  have T2 := Lib.hid T2
  have m2 := Lib.hid m2
  clear hR
  have yy := ((((((y1.out.far (p := ⟨h + 1 + 1, 1, none⟩) (by simp) (.bool b1)).far (p := ⟨h + 1 + 1, 3, none⟩) (by simp) (.int .i64 e1)).set_ 0 (.int .u64 0)).set_ 1 (.bool b1)).set_ 2 (.slice none 0 0)).set_ 3 (.int .i64 e1))
  have q0 := yy.cell 0
  have q1 := yy.cell 1
  have q2 := yy.cell 2
  have q3 := yy.cell 3
  simp at q0 q1 q2 q3
  clear yy
  have TT := Lib.hid ((((((T2.out.set (p := ⟨h + 1 + 1, 1, none⟩) nf2 (.bool b1)).set (p := ⟨h + 1 + 1, 3, none⟩) nf2 (.int .i64 e1)).set (p := ⟨h + 1, 0, none⟩) nf1 (.int .u64 0)).set (p := ⟨h + 1, 1, none⟩) nf1 (.bool b1)).set (p := ⟨h + 1, 2, none⟩) nf1 (.slice none 0 0)).set (p := ⟨h + 1, 3, none⟩) nf1 (.int .i64 e1))
  have MM := Lib.hid ((((((m3.out.set (p := ⟨h + 1 + 1, 1, none⟩) (.inr (.inr (by have := hs.out; simp; omega))) (.bool b1)).set (p := ⟨h + 1 + 1, 3, none⟩) (.inr (.inr (by have := hs.out; simp; omega))) (.int .i64 e1)).set (p := ⟨h + 1, 0, none⟩) (.inr (.inr (by have := hs.out; simp; omega))) (.int .u64 0)).set (p := ⟨h + 1, 1, none⟩) (.inr (.inr (by have := hs.out; simp; omega))) (.bool b1)).set (p := ⟨h + 1, 2, none⟩) (.inr (.inr (by have := hs.out; simp; omega))) (.slice none 0 0)).set (p := ⟨h + 1, 3, none⟩) (.inr (.inr (by have := hs.out; simp; omega))) (.int .i64 e1))
  go_wp2_with fail
  refine bodyPost_ret (v := .agg #[.int .u64 0, .bool b1, .slice none 0 0, .int .i64 e1]) (by simp [results, Try.func7, go_sem, q0, q1, q2, q3]) rfl ?_
  exact ⟨rfl, f2, b2, F2, TT.out, MM.out⟩
set_option maxRecDepth 100000 in
theorem do3_b {t n N : Nat} {F F0 : Nat → Prop} {s s' : St} {e' a l on key : Int} {w w0 : World} {p' : Pl} {ks' : List Int}
    (hw : Txw w t F s) (hf : Fits s) (hb : Bud s (n + 6 * N + 20)) (hN : N ≤ 60000) (ha : 0 ≤ a) (hl : 0 ≤ l) (hl' : l ≤ 18446744073709551615) (hk : 0 ≤ key) (hk' : key ≤ 18446744073709551615) (hR : hfind (fun x => decide (x < key)) N s 0 l = some (p', ks', e', s')) {b1 : Bool} (hr : there p' key e' = b1) (hm : Fr F0 w0 F w) :
    Calls Try.prog 7 #[.iface 31 (.pointer (some ⟨t, 0, none⟩)), .int .u64 a, .int .u64 l, .agg #[.int .i64 3, .int .i64 on, .int .u64 key]] w fun en w' =>
      en = .returned (.agg #[.int .u64 0, .bool b1, .slice none 0 0, .int .i64 e']) ∧ Lft t n F0 w0 s' w' := by
  obtain ⟨T1, hM, x1, x2, hn1, hn2, hs, hsz⟩ := do_pre (k := 3) (on := on) (key := key) hw hm
  unfold stepO replyO at T1 hM x1 x2 hsz
  have T1 := Lib.hid T1
  have hM := Lib.hid hM
  have x1 := Lib.hid x1
  have x2 := Lib.hid x2
  have hs := Lib.hid hs
  have hsz := Lib.hid hsz
  have hr := Lib.hid hr
  clear hw hm
  go_enter Try.func7, Try.ntmps7
  go_wp2_with fail
  refine (has_b (n := n) T1.out hf (hb.mono (by omega)) hN hl hl' hR (Fr.refl _ _)).mono ?_
  rw [hr.out]
  clear hr
  rintro _ w2 ⟨rfl, f2, b2, F2, T2, m2⟩
  have nf1 : ¬ F2 (w.heap.size + 1) := fun c => (m2.new _ c).elim hn1 fun c => by have := hsz.out; omega
  have nf2 : ¬ F2 (w.heap.size + 1 + 1) := fun c => (m2.new _ c).elim hn2 fun c => by have := hsz.out; omega
  have y1 := m2.blk x1.out hn1
  have y2 := m2.blk x2.out hn2
  have m3 := Lib.hid (hM.out.trans m2)
  clear T1 hM x1 x2 hsz
  generalize w.heap.size = h at *
  have c0 := y2.cell 0
  have c1 := y2.cell 1
  have c2 := y2.cell 2
  have c3 := y2.cell 3
  have g0 := y2.frozen 0
  have g1 := y2.frozen 1
  have g2 := y2.frozen 2
  have g3 := y2.frozen 3
  have d0 := y1.cell 0
  have d1 := y1.cell 1
  have d2 := y1.cell 2
  have d3 := y1.cell 3
  have k0 := y1.frozen 0
  have k1 := y1.frozen 1
  have k2 := y1.frozen 2
  have k3 := y1.frozen 3
  simp only [List.getElem?_toArray, List.getElem?_cons_zero, List.getElem?_cons_succ] at c0 c1 c2 c3 d0 d1 d2 d3
  have y1 := Lib.hid y1
  have y2 := Lib.hid y2
  have T2 := Lib.hid T2
  have m2 := Lib.hid m2
  clear hR
  have yy := ((((((y1.out.far (p := ⟨h + 1 + 1, 1, none⟩) (by simp) (.bool b1)).far (p := ⟨h + 1 + 1, 3, none⟩) (by simp) (.int .i64 e')).set_ 0 (.int .u64 0)).set_ 1 (.bool b1)).set_ 2 (.slice none 0 0)).set_ 3 (.int .i64 e'))
  have q0 := yy.cell 0
  have q1 := yy.cell 1
  have q2 := yy.cell 2
  have q3 := yy.cell 3
  simp at q0 q1 q2 q3
  clear yy
  have TT := Lib.hid ((((((T2.out.set (p := ⟨h + 1 + 1, 1, none⟩) nf2 (.bool b1)).set (p := ⟨h + 1 + 1, 3, none⟩) nf2 (.int .i64 e')).set (p := ⟨h + 1, 0, none⟩) nf1 (.int .u64 0)).set (p := ⟨h + 1, 1, none⟩) nf1 (.bool b1)).set (p := ⟨h + 1, 2, none⟩) nf1 (.slice none 0 0)).set (p := ⟨h + 1, 3, none⟩) nf1 (.int .i64 e'))
  have MM := Lib.hid ((((((m3.out.set (p := ⟨h + 1 + 1, 1, none⟩) (.inr (.inr (by have := hs.out; simp; omega))) (.bool b1)).set (p := ⟨h + 1 + 1, 3, none⟩) (.inr (.inr (by have := hs.out; simp; omega))) (.int .i64 e')).set (p := ⟨h + 1, 0, none⟩) (.inr (.inr (by have := hs.out; simp; omega))) (.int .u64 0)).set (p := ⟨h + 1, 1, none⟩) (.inr (.inr (by have := hs.out; simp; omega))) (.bool b1)).set (p := ⟨h + 1, 2, none⟩) (.inr (.inr (by have := hs.out; simp; omega))) (.slice none 0 0)).set (p := ⟨h + 1, 3, none⟩) (.inr (.inr (by have := hs.out; simp; omega))) (.int .i64 e'))
  go_wp2_with fail
  refine bodyPost_ret (v := .agg #[.int .u64 0, .bool b1, .slice none 0 0, .int .i64 e']) (by simp [results, Try.func7, go_sem, q0, q1, q2, q3]) rfl ?_
  exact ⟨rfl, f2, b2, F2, TT.out, MM.out⟩
set_option maxRecDepth 100000 in
theorem do4_b {t n N : Nat} {F F0 : Nat → Prop} {s s' : St} {e' a l on key : Int} {w w0 : World} {p' : Pl} {ks' : List Int}
    (hw : Txw w t F s) (hf : Fits s) (hb : Bud s (n + 6 * N + 20)) (hN : N ≤ 60000) (ha : 0 ≤ a) (hl : 0 ≤ l) (hl' : l ≤ 18446744073709551615) (hk : 0 ≤ key) (hk' : key ≤ 18446744073709551615) {x : Int} (hR : hget s 0 l = (x, e', s')) (hm : Fr F0 w0 F w) :
    Calls Try.prog 7 #[.iface 31 (.pointer (some ⟨t, 0, none⟩)), .int .u64 a, .int .u64 l, .agg #[.int .i64 4, .int .i64 on, .int .u64 key]] w fun en w' =>
      en = .returned (.agg #[.int .u64 x, .bool false, .slice none 0 0, .int .i64 e']) ∧ Lft t n F0 w0 s' w' := by
  obtain ⟨T1, hM, x1, x2, hn1, hn2, hs, hsz⟩ := do_pre (k := 4) (on := on) (key := key) hw hm
  unfold stepO replyO at T1 hM x1 x2 hsz
  have T1 := Lib.hid T1
  have hM := Lib.hid hM
  have x1 := Lib.hid x1
  have x2 := Lib.hid x2
  have hs := Lib.hid hs
  have hsz := Lib.hid hsz
  clear hw hm
  go_enter Try.func7, Try.ntmps7
  go_wp2_with fail
  refine (len_b (n := n) T1.out hf (hb.mono (by omega)) hl hR (Fr.refl _ _)).mono ?_
  rintro _ w2 ⟨rfl, f2, b2, F2, T2, m2⟩
  have nf1 : ¬ F2 (w.heap.size + 1) := fun c => (m2.new _ c).elim hn1 fun c => by have := hsz.out; omega
  have nf2 : ¬ F2 (w.heap.size + 1 + 1) := fun c => (m2.new _ c).elim hn2 fun c => by have := hsz.out; omega
  have y1 := m2.blk x1.out hn1
  have y2 := m2.blk x2.out hn2
  have m3 := Lib.hid (hM.out.trans m2)
  clear T1 hM x1 x2 hsz
  generalize w.heap.size = h at *
  have c0 := y2.cell 0
  have c1 := y2.cell 1
  have c2 := y2.cell 2
  have c3 := y2.cell 3
  have g0 := y2.frozen 0
  have g1 := y2.frozen 1
  have g2 := y2.frozen 2
  have g3 := y2.frozen 3
  have d0 := y1.cell 0
  have d1 := y1.cell 1
  have d2 := y1.cell 2
  have d3 := y1.cell 3
  have k0 := y1.frozen 0
  have k1 := y1.frozen 1
  have k2 := y1.frozen 2
  have k3 := y1.frozen 3
  simp only [List.getElem?_toArray, List.getElem?_cons_zero, List.getElem?_cons_succ] at c0 c1 c2 c3 d0 d1 d2 d3
  have y1 := Lib.hid y1
  have y2 := Lib.hid y2
  have T2 := Lib.hid T2
  have m2 := Lib.hid m2
  clear hR
  have yy := ((((((y1.out.far (p := ⟨h + 1 + 1, 0, none⟩) (by simp) (.int .u64 x)).far (p := ⟨h + 1 + 1, 3, none⟩) (by simp) (.int .i64 e')).set_ 0 (.int .u64 x)).set_ 1 (.bool false)).set_ 2 (.slice none 0 0)).set_ 3 (.int .i64 e'))
  have q0 := yy.cell 0
  have q1 := yy.cell 1
  have q2 := yy.cell 2
  have q3 := yy.cell 3
  simp at q0 q1 q2 q3
  clear yy
  have TT := Lib.hid ((((((T2.out.set (p := ⟨h + 1 + 1, 0, none⟩) nf2 (.int .u64 x)).set (p := ⟨h + 1 + 1, 3, none⟩) nf2 (.int .i64 e')).set (p := ⟨h + 1, 0, none⟩) nf1 (.int .u64 x)).set (p := ⟨h + 1, 1, none⟩) nf1 (.bool false)).set (p := ⟨h + 1, 2, none⟩) nf1 (.slice none 0 0)).set (p := ⟨h + 1, 3, none⟩) nf1 (.int .i64 e'))
  have MM := Lib.hid ((((((m3.out.set (p := ⟨h + 1 + 1, 0, none⟩) (.inr (.inr (by have := hs.out; simp; omega))) (.int .u64 x)).set (p := ⟨h + 1 + 1, 3, none⟩) (.inr (.inr (by have := hs.out; simp; omega))) (.int .i64 e')).set (p := ⟨h + 1, 0, none⟩) (.inr (.inr (by have := hs.out; simp; omega))) (.int .u64 x)).set (p := ⟨h + 1, 1, none⟩) (.inr (.inr (by have := hs.out; simp; omega))) (.bool false)).set (p := ⟨h + 1, 2, none⟩) (.inr (.inr (by have := hs.out; simp; omega))) (.slice none 0 0)).set (p := ⟨h + 1, 3, none⟩) (.inr (.inr (by have := hs.out; simp; omega))) (.int .i64 e'))
  go_wp2_with fail
  refine bodyPost_ret (v := .agg #[.int .u64 x, .bool false, .slice none 0 0, .int .i64 e']) (by simp [results, Try.func7, go_sem, q0, q1, q2, q3]) rfl ?_
  exact ⟨rfl, f2, b2, F2, TT.out, MM.out⟩
set_option maxRecDepth 100000 in
theorem do5_b {t n N : Nat} {F F0 : Nat → Prop} {s s' : St} {e' a l on key : Int} {w w0 : World} {p' : Pl} {ks' : List Int}
    (hw : Txw w t F s) (hf : Fits s) (hb : Bud s (n + 6 * N + 20)) (hN : N ≤ 60000) (ha : 0 ≤ a) (hl : 0 ≤ l) (hl' : l ≤ 18446744073709551615) (hk : 0 ≤ key) (hk' : key ≤ 18446744073709551615) (hR : hfind (fun x => decide (x ≤ key)) N s 0 l = some (p', ks', e', s')) {xr e1 : Int} {b1 : Bool} (hr : firstOf p' e' = (xr, b1, e1)) (hm : Fr F0 w0 F w) :
    Calls Try.prog 7 #[.iface 31 (.pointer (some ⟨t, 0, none⟩)), .int .u64 a, .int .u64 l, .agg #[.int .i64 5, .int .i64 on, .int .u64 key]] w fun en w' =>
      en = .returned (.agg #[.int .u64 xr, .bool b1, .slice none 0 0, .int .i64 e1]) ∧ Lft t n F0 w0 s' w' := by
  obtain ⟨T1, hM, x1, x2, hn1, hn2, hs, hsz⟩ := do_pre (k := 5) (on := on) (key := key) hw hm
  unfold stepO replyO at T1 hM x1 x2 hsz
  have T1 := Lib.hid T1
  have hM := Lib.hid hM
  have x1 := Lib.hid x1
  have x2 := Lib.hid x2
  have hs := Lib.hid hs
  have hsz := Lib.hid hsz
  have hr := Lib.hid hr
  clear hw hm
  go_enter Try.func7, Try.ntmps7
  go_wp2_with fail
  refine (above_b (n := n) T1.out hf (hb.mono (by omega)) hN hl hl' hR (Fr.refl _ _)).mono ?_
  rw [hr.out]
  clear hr
  rintro _ w2 ⟨rfl, -, f2, b2, F2, T2, m2⟩
  have nf1 : ¬ F2 (w.heap.size + 1) := fun c => (m2.new _ c).elim hn1 fun c => by have := hsz.out; omega
  have nf2 : ¬ F2 (w.heap.size + 1 + 1) := fun c => (m2.new _ c).elim hn2 fun c => by have := hsz.out; omega
  have y1 := m2.blk x1.out hn1
  have y2 := m2.blk x2.out hn2
  have m3 := Lib.hid (hM.out.trans m2)
  clear T1 hM x1 x2 hsz
  generalize w.heap.size = h at *
  have c0 := y2.cell 0
  have c1 := y2.cell 1
  have c2 := y2.cell 2
  have c3 := y2.cell 3
  have g0 := y2.frozen 0
  have g1 := y2.frozen 1
  have g2 := y2.frozen 2
  have g3 := y2.frozen 3
  have d0 := y1.cell 0
  have d1 := y1.cell 1
  have d2 := y1.cell 2
  have d3 := y1.cell 3
  have k0 := y1.frozen 0
  have k1 := y1.frozen 1
  have k2 := y1.frozen 2
  have k3 := y1.frozen 3
  simp only [List.getElem?_toArray, List.getElem?_cons_zero, List.getElem?_cons_succ] at c0 c1 c2 c3 d0 d1 d2 d3
  have y1 := Lib.hid y1
  have y2 := Lib.hid y2
  have T2 := Lib.hid T2
  have m2 := Lib.hid m2
  clear hR
  have yy := (((((((y1.out.far (p := ⟨h + 1 + 1, 0, none⟩) (by simp) (.int .u64 xr)).far (p := ⟨h + 1 + 1, 1, none⟩) (by simp) (.bool b1)).far (p := ⟨h + 1 + 1, 3, none⟩) (by simp) (.int .i64 e1)).set_ 0 (.int .u64 xr)).set_ 1 (.bool b1)).set_ 2 (.slice none 0 0)).set_ 3 (.int .i64 e1))
  have q0 := yy.cell 0
  have q1 := yy.cell 1
  have q2 := yy.cell 2
  have q3 := yy.cell 3
  simp at q0 q1 q2 q3
  clear yy
  have TT := Lib.hid (((((((T2.out.set (p := ⟨h + 1 + 1, 0, none⟩) nf2 (.int .u64 xr)).set (p := ⟨h + 1 + 1, 1, none⟩) nf2 (.bool b1)).set (p := ⟨h + 1 + 1, 3, none⟩) nf2 (.int .i64 e1)).set (p := ⟨h + 1, 0, none⟩) nf1 (.int .u64 xr)).set (p := ⟨h + 1, 1, none⟩) nf1 (.bool b1)).set (p := ⟨h + 1, 2, none⟩) nf1 (.slice none 0 0)).set (p := ⟨h + 1, 3, none⟩) nf1 (.int .i64 e1))
  have MM := Lib.hid (((((((m3.out.set (p := ⟨h + 1 + 1, 0, none⟩) (.inr (.inr (by have := hs.out; simp; omega))) (.int .u64 xr)).set (p := ⟨h + 1 + 1, 1, none⟩) (.inr (.inr (by have := hs.out; simp; omega))) (.bool b1)).set (p := ⟨h + 1 + 1, 3, none⟩) (.inr (.inr (by have := hs.out; simp; omega))) (.int .i64 e1)).set (p := ⟨h + 1, 0, none⟩) (.inr (.inr (by have := hs.out; simp; omega))) (.int .u64 xr)).set (p := ⟨h + 1, 1, none⟩) (.inr (.inr (by have := hs.out; simp; omega))) (.bool b1)).set (p := ⟨h + 1, 2, none⟩) (.inr (.inr (by have := hs.out; simp; omega))) (.slice none 0 0)).set (p := ⟨h + 1, 3, none⟩) (.inr (.inr (by have := hs.out; simp; omega))) (.int .i64 e1))
  go_wp2_with fail
  refine bodyPost_ret (v := .agg #[.int .u64 xr, .bool b1, .slice none 0 0, .int .i64 e1]) (by simp [results, Try.func7, go_sem, q0, q1, q2, q3]) rfl ?_
  exact ⟨rfl, f2, b2, F2, TT.out, MM.out⟩
set_option maxRecDepth 100000 in
theorem do6_b {t n N : Nat} {F F0 : Nat → Prop} {s s' : St} {e' a l on key : Int} {w w0 : World} {p' : Pl} {ks' : List Int}
    (hw : Txw w t F s) (hf : Fits s) (hb : Bud s (n + 6 * N + 20)) (hN : N ≤ 60000) (ha : 0 ≤ a) (hl : 0 ≤ l) (hl' : l ≤ 18446744073709551615) (hk : 0 ≤ key) (hk' : key ≤ 18446744073709551615) (hR : hfind (fun _ => false) N s 0 l = some (p', ks', e', s')) {xr e1 : Int} {b1 : Bool} (hr : firstOf p' e' = (xr, b1, e1)) (hm : Fr F0 w0 F w) :
    Calls Try.prog 7 #[.iface 31 (.pointer (some ⟨t, 0, none⟩)), .int .u64 a, .int .u64 l, .agg #[.int .i64 6, .int .i64 on, .int .u64 key]] w fun en w' =>
      en = .returned (.agg #[.int .u64 xr, .bool b1, .slice none 0 0, .int .i64 e1]) ∧ Lft t n F0 w0 s' w' := by
  obtain ⟨T1, hM, x1, x2, hn1, hn2, hs, hsz⟩ := do_pre (k := 6) (on := on) (key := key) hw hm
  unfold stepO replyO at T1 hM x1 x2 hsz
  have T1 := Lib.hid T1
  have hM := Lib.hid hM
  have x1 := Lib.hid x1
  have x2 := Lib.hid x2
  have hs := Lib.hid hs
  have hsz := Lib.hid hsz
  have hr := Lib.hid hr
  clear hw hm
  go_enter Try.func7, Try.ntmps7
  go_wp2_with fail
  refine (firstk_b (n := n) T1.out hf (hb.mono (by omega)) hN hl hl' hR (Fr.refl _ _)).mono ?_
  rw [hr.out]
  clear hr
  rintro _ w2 ⟨rfl, -, f2, b2, F2, T2, m2⟩
  have nf1 : ¬ F2 (w.heap.size + 1) := fun c => (m2.new _ c).elim hn1 fun c => by have := hsz.out; omega
  have nf2 : ¬ F2 (w.heap.size + 1 + 1) := fun c => (m2.new _ c).elim hn2 fun c => by have := hsz.out; omega
  have y1 := m2.blk x1.out hn1
  have y2 := m2.blk x2.out hn2
  have m3 := Lib.hid (hM.out.trans m2)
  clear T1 hM x1 x2 hsz
  generalize w.heap.size = h at *
  have c0 := y2.cell 0
  have c1 := y2.cell 1
  have c2 := y2.cell 2
  have c3 := y2.cell 3
  have g0 := y2.frozen 0
  have g1 := y2.frozen 1
  have g2 := y2.frozen 2
  have g3 := y2.frozen 3
  have d0 := y1.cell 0
  have d1 := y1.cell 1
  have d2 := y1.cell 2
  have d3 := y1.cell 3
  have k0 := y1.frozen 0
  have k1 := y1.frozen 1
  have k2 := y1.frozen 2
  have k3 := y1.frozen 3
  simp only [List.getElem?_toArray, List.getElem?_cons_zero, List.getElem?_cons_succ] at c0 c1 c2 c3 d0 d1 d2 d3
  have y1 := Lib.hid y1
  have y2 := Lib.hid y2
  have T2 := Lib.hid T2
  have m2 := Lib.hid m2
  clear hR
  have yy := (((((((y1.out.far (p := ⟨h + 1 + 1, 0, none⟩) (by simp) (.int .u64 xr)).far (p := ⟨h + 1 + 1, 1, none⟩) (by simp) (.bool b1)).far (p := ⟨h + 1 + 1, 3, none⟩) (by simp) (.int .i64 e1)).set_ 0 (.int .u64 xr)).set_ 1 (.bool b1)).set_ 2 (.slice none 0 0)).set_ 3 (.int .i64 e1))
  have q0 := yy.cell 0
  have q1 := yy.cell 1
  have q2 := yy.cell 2
  have q3 := yy.cell 3
  simp at q0 q1 q2 q3
  clear yy
  have TT := Lib.hid (((((((T2.out.set (p := ⟨h + 1 + 1, 0, none⟩) nf2 (.int .u64 xr)).set (p := ⟨h + 1 + 1, 1, none⟩) nf2 (.bool b1)).set (p := ⟨h + 1 + 1, 3, none⟩) nf2 (.int .i64 e1)).set (p := ⟨h + 1, 0, none⟩) nf1 (.int .u64 xr)).set (p := ⟨h + 1, 1, none⟩) nf1 (.bool b1)).set (p := ⟨h + 1, 2, none⟩) nf1 (.slice none 0 0)).set (p := ⟨h + 1, 3, none⟩) nf1 (.int .i64 e1))
  have MM := Lib.hid (((((((m3.out.set (p := ⟨h + 1 + 1, 0, none⟩) (.inr (.inr (by have := hs.out; simp; omega))) (.int .u64 xr)).set (p := ⟨h + 1 + 1, 1, none⟩) (.inr (.inr (by have := hs.out; simp; omega))) (.bool b1)).set (p := ⟨h + 1 + 1, 3, none⟩) (.inr (.inr (by have := hs.out; simp; omega))) (.int .i64 e1)).set (p := ⟨h + 1, 0, none⟩) (.inr (.inr (by have := hs.out; simp; omega))) (.int .u64 xr)).set (p := ⟨h + 1, 1, none⟩) (.inr (.inr (by have := hs.out; simp; omega))) (.bool b1)).set (p := ⟨h + 1, 2, none⟩) (.inr (.inr (by have := hs.out; simp; omega))) (.slice none 0 0)).set (p := ⟨h + 1, 3, none⟩) (.inr (.inr (by have := hs.out; simp; omega))) (.int .i64 e1))
  go_wp2_with fail
  refine bodyPost_ret (v := .agg #[.int .u64 xr, .bool b1, .slice none 0 0, .int .i64 e1]) (by simp [results, Try.func7, go_sem, q0, q1, q2, q3]) rfl ?_
  exact ⟨rfl, f2, b2, F2, TT.out, MM.out⟩
set_option maxRecDepth 100000 in
theorem do8_b {t n N : Nat} {F F0 : Nat → Prop} {s s' : St} {e' a l on key : Int} {w w0 : World} {p' : Pl} {ks' : List Int}
    (hw : Txw w t F s) (hf : Fits s) (hb : Bud s (n + 6 * N + 20)) (hN : N ≤ 60000) (ha : 0 ≤ a) (hl : 0 ≤ l) (hl' : l ≤ 18446744073709551615) (hk : 0 ≤ key) (hk' : key ≤ 18446744073709551615) (hR : hfind (fun _ => true) N s 0 l = some (p', ks', e', s')) {xr e1 : Int} {s2 : St} (hr : lClr ks'.length e' s' a l = (xr, e1, s2)) (hm : Fr F0 w0 F w) :
    Calls Try.prog 7 #[.iface 31 (.pointer (some ⟨t, 0, none⟩)), .int .u64 a, .int .u64 l, .agg #[.int .i64 8, .int .i64 on, .int .u64 key]] w fun en w' =>
      en = .returned (.agg #[.int .u64 xr, .bool false, .slice none 0 0, .int .i64 e1]) ∧ Lft t n F0 w0 s2 w' := by
  obtain ⟨T1, hM, x1, x2, hn1, hn2, hs, hsz⟩ := do_pre (k := 8) (on := on) (key := key) hw hm
  unfold stepO replyO at T1 hM x1 x2 hsz
  have T1 := Lib.hid T1
  have hM := Lib.hid hM
  have x1 := Lib.hid x1
  have x2 := Lib.hid x2
  have hs := Lib.hid hs
  have hsz := Lib.hid hsz
  have hr := Lib.hid hr
  clear hw hm
  go_enter Try.func7, Try.ntmps7
  go_wp2_with fail
  refine (clear_b (n := n) T1.out hf (hb.mono (by omega)) hN ha hl hl' hR (Fr.refl _ _)).mono ?_
  rw [hr.out]
  clear hr
  rintro _ w2 ⟨rfl, f2, b2, F2, T2, m2⟩
  have nf1 : ¬ F2 (w.heap.size + 1) := fun c => (m2.new _ c).elim hn1 fun c => by have := hsz.out; omega
  have nf2 : ¬ F2 (w.heap.size + 1 + 1) := fun c => (m2.new _ c).elim hn2 fun c => by have := hsz.out; omega
  have y1 := m2.blk x1.out hn1
  have y2 := m2.blk x2.out hn2
  have m3 := Lib.hid (hM.out.trans m2)
  clear T1 hM x1 x2 hsz
  generalize w.heap.size = h at *
  have c0 := y2.cell 0
  have c1 := y2.cell 1
  have c2 := y2.cell 2
  have c3 := y2.cell 3
  have g0 := y2.frozen 0
  have g1 := y2.frozen 1
  have g2 := y2.frozen 2
  have g3 := y2.frozen 3
  have d0 := y1.cell 0
  have d1 := y1.cell 1
  have d2 := y1.cell 2
  have d3 := y1.cell 3
  have k0 := y1.frozen 0
  have k1 := y1.frozen 1
  have k2 := y1.frozen 2
  have k3 := y1.frozen 3
  simp only [List.getElem?_toArray, List.getElem?_cons_zero, List.getElem?_cons_succ] at c0 c1 c2 c3 d0 d1 d2 d3
  have y1 := Lib.hid y1
  have y2 := Lib.hid y2
  have T2 := Lib.hid T2
  have m2 := Lib.hid m2
  clear hR
  have yy := ((((((y1.out.far (p := ⟨h + 1 + 1, 0, none⟩) (by simp) (.int .u64 xr)).far (p := ⟨h + 1 + 1, 3, none⟩) (by simp) (.int .i64 e1)).set_ 0 (.int .u64 xr)).set_ 1 (.bool false)).set_ 2 (.slice none 0 0)).set_ 3 (.int .i64 e1))
  have q0 := yy.cell 0
  have q1 := yy.cell 1
  have q2 := yy.cell 2
  have q3 := yy.cell 3
  simp at q0 q1 q2 q3
  clear yy
  have TT := Lib.hid ((((((T2.out.set (p := ⟨h + 1 + 1, 0, none⟩) nf2 (.int .u64 xr)).set (p := ⟨h + 1 + 1, 3, none⟩) nf2 (.int .i64 e1)).set (p := ⟨h + 1, 0, none⟩) nf1 (.int .u64 xr)).set (p := ⟨h + 1, 1, none⟩) nf1 (.bool false)).set (p := ⟨h + 1, 2, none⟩) nf1 (.slice none 0 0)).set (p := ⟨h + 1, 3, none⟩) nf1 (.int .i64 e1))
  have MM := Lib.hid ((((((m3.out.set (p := ⟨h + 1 + 1, 0, none⟩) (.inr (.inr (by have := hs.out; simp; omega))) (.int .u64 xr)).set (p := ⟨h + 1 + 1, 3, none⟩) (.inr (.inr (by have := hs.out; simp; omega))) (.int .i64 e1)).set (p := ⟨h + 1, 0, none⟩) (.inr (.inr (by have := hs.out; simp; omega))) (.int .u64 xr)).set (p := ⟨h + 1, 1, none⟩) (.inr (.inr (by have := hs.out; simp; omega))) (.bool false)).set (p := ⟨h + 1, 2, none⟩) (.inr (.inr (by have := hs.out; simp; omega))) (.slice none 0 0)).set (p := ⟨h + 1, 3, none⟩) (.inr (.inr (by have := hs.out; simp; omega))) (.int .i64 e1))
  go_wp2_with fail
  refine bodyPost_ret (v := .agg #[.int .u64 xr, .bool false, .slice none 0 0, .int .i64 e1]) (by simp [results, Try.func7, go_sem, q0, q1, q2, q3]) rfl ?_
  exact ⟨rfl, f2, b2, F2, TT.out, MM.out⟩
end Go.Proofs.Ytcohopobjppmaaa
