/- A step's call over the document's cells: Keys, Drop, and none, by contract. (printed by dodo.py) -/
import Derived.Test.YtcohopobjppmaaaLiT
namespace Go.Proofs.Ytcohopobjppmaaa
open Go.RowKit
set_option maxHeartbeats 2000000
set_option linter.unusedVariables false
set_option linter.unusedSimpArgs false

def lRe (e : Int) (s : St) (a : Int) : Int × Int × St := if e = 0 then lNew s a else (0, e, s)
/-- what is answered behind a Drop -/
def Do9P (t n : Nat) (F0 : Nat → Prop) (w0 : World) (R : Int × Int × St) (en : Ending) (w' : World) : Prop := ∃ x e s3, Hid (R = (x, e, s3)) ∧ en = .returned (.agg #[.int .u64 x, .bool false, .slice none 0 0, .int .i64 e]) ∧ Lft t n F0 w0 s3 w'

set_option maxRecDepth 100000 in
theorem do7_b {t n N : Nat} {F F0 : Nat → Prop} {s s' : St} {e' a l on key : Int} {w w0 : World} {p' : Pl} {ks' : List Int}
    (hw : Txw w t F s) (hf : Fits s) (hb : Bud s (n + 6 * N + 20)) (hN : N ≤ 60000) (ha : 0 ≤ a) (hl : 0 ≤ l) (hl' : l ≤ 18446744073709551615) (hk : 0 ≤ key) (hk' : key ≤ 18446744073709551615) (hR : hfind (fun _ => true) N s 0 l = some (p', ks', e', s')) {lo : List Int} {e1 : Int} (hr : keysOf ks' p' e' = (lo, e1)) (hm : Fr F0 w0 F w) :
    Calls Try.prog 7 #[.iface 31 (.pointer (some ⟨t, 0, none⟩)), .int .u64 a, .int .u64 l, .agg #[.int .i64 7, .int .i64 on, .int .u64 key]] w fun en w' =>
      ∃ v, en = .returned (.agg #[.int .u64 0, .bool false, v, .int .i64 e1]) ∧ LftK t n F0 w0 s' v lo w' := by
  obtain ⟨T1, hM, x1, x2, hn1, hn2, hs, hsz⟩ := do_pre (k := 7) (on := on) (key := key) hw hm
  unfold stepO replyO at T1 hM x1 x2 hsz
  have T1 := Lib.hid T1
  have hM := Lib.hid hM
  have x1 := Lib.hid x1
  have x2 := Lib.hid x2
  have hs := Lib.hid hs
  have hsz := Lib.hid hsz
  have hr := Lib.hid hr
  clear hw hm
  go_enter Try.func7, Try.ntmps7
  go_wp2_with fail
  refine (keys_b (n := n) T1.out hf (hb.mono (by omega)) hN hl hl' hR (Fr.refl _ _)).mono ?_
  rw [hr.out]
  clear hr
  rintro _ w2 ⟨v, rfl, f2, b2, W2, F2, T2, m2, o2⟩
  obtain ⟨A, cp, rfl, -⟩ := W2.shape
  generalize lo.length = ll at *
  have nf1 : ¬ F2 (w.heap.size + 1) := fun c => (m2.new _ (.inl c)).elim hn1 fun c => by have := hsz.out; omega
  have nf2 : ¬ F2 (w.heap.size + 1 + 1) := fun c => (m2.new _ (.inl c)).elim hn2 fun c => by have := hsz.out; omega
  have nv1 : ¬ own (.slice A ll cp) (w.heap.size + 1) := fun c => (m2.new _ (.inr c)).elim hn1 fun c => by have := hsz.out; omega
  have nv2 : ¬ own (.slice A ll cp) (w.heap.size + 1 + 1) := fun c => (m2.new _ (.inr c)).elim hn2 fun c => by have := hsz.out; omega
  have W2 := Lib.hid W2
  have o2 := Lib.hid o2
  have y1 := m2.blk x1.out hn1
  have y2 := m2.blk x2.out hn2
  have m3 := Lib.hid (hM.out.trans m2)
  clear T1 hM x1 x2 hsz
  generalize w.heap.size = h at *
  have c0 := y2.cell 0
  have c1 := y2.cell 1
  have c2 := y2.cell 2
  have c3 := y2.cell 3
  have g0 := y2.frozen 0
  have g1 := y2.frozen 1
  have g2 := y2.frozen 2
  have g3 := y2.frozen 3
  have d0 := y1.cell 0
  have d1 := y1.cell 1
  have d2 := y1.cell 2
  have d3 := y1.cell 3
  have k0 := y1.frozen 0
  have k1 := y1.frozen 1
  have k2 := y1.frozen 2
  have k3 := y1.frozen 3
  simp only [List.getElem?_toArray, List.getElem?_cons_zero, List.getElem?_cons_succ] at c0 c1 c2 c3 d0 d1 d2 d3
  have y1 := Lib.hid y1
  have y2 := Lib.hid y2
  have T2 := Lib.hid T2
  have m2 := Lib.hid m2
  clear hR
  have yy := ((((((y1.out.far (p := ⟨h + 1 + 1, 2, none⟩) (by simp) (.slice A ll cp)).far (p := ⟨h + 1 + 1, 3, none⟩) (by simp) (.int .i64 e1)).set_ 0 (.int .u64 0)).set_ 1 (.bool false)).set_ 2 (.slice A ll cp)).set_ 3 (.int .i64 e1))
  have q0 := yy.cell 0
  have q1 := yy.cell 1
  have q2 := yy.cell 2
  have q3 := yy.cell 3
  simp at q0 q1 q2 q3
  clear yy
  have TT := Lib.hid ((((((T2.out.set (p := ⟨h + 1 + 1, 2, none⟩) nf2 (.slice A ll cp)).set (p := ⟨h + 1 + 1, 3, none⟩) nf2 (.int .i64 e1)).set (p := ⟨h + 1, 0, none⟩) nf1 (.int .u64 0)).set (p := ⟨h + 1, 1, none⟩) nf1 (.bool false)).set (p := ⟨h + 1, 2, none⟩) nf1 (.slice A ll cp)).set (p := ⟨h + 1, 3, none⟩) nf1 (.int .i64 e1))
  have MM := Lib.hid ((((((m3.out.set (p := ⟨h + 1 + 1, 2, none⟩) (.inr (.inr (by have := hs.out; simp; omega))) (.slice A ll cp)).set (p := ⟨h + 1 + 1, 3, none⟩) (.inr (.inr (by have := hs.out; simp; omega))) (.int .i64 e1)).set (p := ⟨h + 1, 0, none⟩) (.inr (.inr (by have := hs.out; simp; omega))) (.int .u64 0)).set (p := ⟨h + 1, 1, none⟩) (.inr (.inr (by have := hs.out; simp; omega))) (.bool false)).set (p := ⟨h + 1, 2, none⟩) (.inr (.inr (by have := hs.out; simp; omega))) (.slice A ll cp)).set (p := ⟨h + 1, 3, none⟩) (.inr (.inr (by have := hs.out; simp; omega))) (.int .i64 e1))
  have VV := Lib.hid ((((((W2.out.set (p := ⟨h + 1 + 1, 2, none⟩) nv2 (.slice A ll cp)).set (p := ⟨h + 1 + 1, 3, none⟩) nv2 (.int .i64 e1)).set (p := ⟨h + 1, 0, none⟩) nv1 (.int .u64 0)).set (p := ⟨h + 1, 1, none⟩) nv1 (.bool false)).set (p := ⟨h + 1, 2, none⟩) nv1 (.slice A ll cp)).set (p := ⟨h + 1, 3, none⟩) nv1 (.int .i64 e1))
  go_wp2_with fail
  refine bodyPost_ret (v := .agg #[.int .u64 0, .bool false, .slice A ll cp, .int .i64 e1]) (by simp [results, Try.func7, go_sem, q0, q1, q2, q3]) rfl ?_
  exact ⟨_, rfl, f2, b2, VV.out, F2, TT.out, MM.out, o2.out⟩
set_option maxRecDepth 100000 in
theorem do9_b {t n N : Nat} {F F0 : Nat → Prop} {s s' : St} {e' a l on key : Int} {w w0 : World} {p' : Pl} {ks' : List Int}
    (hw : Txw w t F s) (hf : Fits s) (hb : Bud s (n + 6 * N + 20)) (hN : N ≤ 60000) (ha : 0 ≤ a) (hl : 0 ≤ l) (hl' : l ≤ 18446744073709551615) (hk : 0 ≤ key) (hk' : key ≤ 18446744073709551615) (hR : hfind (fun _ => true) N s 0 l = some (p', ks', e', s')) {e1 : Int} {s2 : St} (hr : lDrp ks'.length e' s' a l = (e1, s2)) (hm : Fr F0 w0 F w) :
    Calls Try.prog 7 #[.iface 31 (.pointer (some ⟨t, 0, none⟩)), .int .u64 a, .int .u64 l, .agg #[.int .i64 9, .int .i64 on, .int .u64 key]] w fun en w' =>
      Do9P t n F0 w0 (lRe e1 s2 a) en w' := by
  obtain ⟨T1, hM, x1, x2, hn1, hn2, hs, hsz⟩ := do_pre (k := 9) (on := on) (key := key) hw hm
  unfold stepO replyO at T1 hM x1 x2 hsz
  have T1 := Lib.hid T1
  have hM := Lib.hid hM
  have x1 := Lib.hid x1
  have x2 := Lib.hid x2
  have hs := Lib.hid hs
  have hsz := Lib.hid hsz
  have hr := Lib.hid hr
  clear hw hm
  go_enter Try.func7, Try.ntmps7
  go_wp2_with fail
  refine (drop_b (n := n + 6) T1.out hf (hb.mono (by omega)) hN ha hl hl' hR (Fr.refl _ _)).mono ?_
  rw [hr.out]
  clear hr
  rintro _ w2 ⟨rfl, f2, b2, F2, T2, m2⟩
  have nf1 : ¬ F2 (w.heap.size + 1) := fun c => (m2.new _ c).elim hn1 fun c => by have := hsz.out; omega
  have nf2 : ¬ F2 (w.heap.size + 1 + 1) := fun c => (m2.new _ c).elim hn2 fun c => by have := hsz.out; omega
  have y1 := m2.blk x1.out hn1
  have y2 := m2.blk x2.out hn2
  have m3 := Lib.hid (hM.out.trans m2)
  clear T1 hM x1 x2 hsz
  generalize w.heap.size = h at *
  have c0 := y2.cell 0
  have c1 := y2.cell 1
  have c2 := y2.cell 2
  have c3 := y2.cell 3
  have g0 := y2.frozen 0
  have g1 := y2.frozen 1
  have g2 := y2.frozen 2
  have g3 := y2.frozen 3
  have d0 := y1.cell 0
  have d1 := y1.cell 1
  have d2 := y1.cell 2
  have d3 := y1.cell 3
  have k0 := y1.frozen 0
  have k1 := y1.frozen 1
  have k2 := y1.frozen 2
  have k3 := y1.frozen 3
  simp only [List.getElem?_toArray, List.getElem?_cons_zero, List.getElem?_cons_succ] at c0 c1 c2 c3 d0 d1 d2 d3
  have y1 := Lib.hid y1
  have y2 := Lib.hid y2
  have T2 := Lib.hid T2
  have m2 := Lib.hid m2
  clear hR
  by_cases he : e1 = 0
  · subst he
    have T3 := Lib.hid (T2.out.set (p := ⟨h + 1 + 1, 3, none⟩) nf2 (.int .i64 0))
    have y2b := y2.out.set_ 3 (.int .i64 0)
    have y1b := Lib.hid (y1.out.far (p := ⟨h + 1 + 1, 3, none⟩) (by simp) (.int .i64 0))
    have m4 := Lib.hid (m3.out.set (p := ⟨h + 1 + 1, 3, none⟩) (.inr (.inr (by have := hs.out; simp; omega))) (.int .i64 0))
    have y2b := Lib.hid y2b
    go_wp2_with fail
    refine (new_b (n := n) T3.out f2 b2 ha (Fr.refl _ _)).mono ?_
    rintro _ w3 ⟨x3, e3, s3, q3', dx3, dy3, rfl, f3, b3, F3, T3', m5⟩
    have nf1b : ¬ F3 (h + 1) := fun c => (m5.new _ c).elim nf1 fun c => by have := y1b.out.lt; omega
    have nf2b : ¬ F3 (h + 1 + 1) := fun c => (m5.new _ c).elim nf2 fun c => by have := y2b.out.lt; omega
    have y1 := m5.blk y1b.out nf1
    have y2 := m5.blk y2b.out nf2
    have m3 := Lib.hid (m4.out.trans m5)
    have nf1 := nf1b
    have nf2 := nf2b
    have T2 := T3'
    have m2 := m5
    clear c0 c1 c2 c3 g0 g1 g2 g3 d0 d1 d2 d3 k0 k1 k2 k3 nf1b nf2b m4 y1b y2b T3
    clear T3'
    have c0 := y2.cell 0
    have c1 := y2.cell 1
    have c2 := y2.cell 2
    have c3 := y2.cell 3
    have g0 := y2.frozen 0
    have g1 := y2.frozen 1
    have g2 := y2.frozen 2
    have g3 := y2.frozen 3
    have d0 := y1.cell 0
    have d1 := y1.cell 1
    have d2 := y1.cell 2
    have d3 := y1.cell 3
    have k0 := y1.frozen 0
    have k1 := y1.frozen 1
    have k2 := y1.frozen 2
    have k3 := y1.frozen 3
    simp only [List.getElem?_toArray, List.getElem?_cons_zero, List.getElem?_cons_succ, List.setIfInBounds_toArray, List.set_cons_zero, List.set_cons_succ] at c0 c1 c2 c3 d0 d1 d2 d3
    have y1 := Lib.hid y1
    have y2 := Lib.hid y2
    have T2 := Lib.hid T2
    have m2 := Lib.hid m2
    have yy := ((((((y1.out.far (p := ⟨h + 1 + 1, 0, none⟩) (by simp) (.int .u64 x3)).far (p := ⟨h + 1 + 1, 3, none⟩) (by simp) (.int .i64 e3)).set_ 0 (.int .u64 x3)).set_ 1 (.bool false)).set_ 2 (.slice none 0 0)).set_ 3 (.int .i64 e3))
    have q0 := yy.cell 0
    have q1 := yy.cell 1
    have q2 := yy.cell 2
    have q3 := yy.cell 3
    simp at q0 q1 q2 q3
    clear yy
    have TT := Lib.hid ((((((T2.out.set (p := ⟨h + 1 + 1, 0, none⟩) nf2 (.int .u64 x3)).set (p := ⟨h + 1 + 1, 3, none⟩) nf2 (.int .i64 e3)).set (p := ⟨h + 1, 0, none⟩) nf1 (.int .u64 x3)).set (p := ⟨h + 1, 1, none⟩) nf1 (.bool false)).set (p := ⟨h + 1, 2, none⟩) nf1 (.slice none 0 0)).set (p := ⟨h + 1, 3, none⟩) nf1 (.int .i64 e3))
    have MM := Lib.hid ((((((m3.out.set (p := ⟨h + 1 + 1, 0, none⟩) (.inr (.inr (by have := hs.out; simp; omega))) (.int .u64 x3)).set (p := ⟨h + 1 + 1, 3, none⟩) (.inr (.inr (by have := hs.out; simp; omega))) (.int .i64 e3)).set (p := ⟨h + 1, 0, none⟩) (.inr (.inr (by have := hs.out; simp; omega))) (.int .u64 x3)).set (p := ⟨h + 1, 1, none⟩) (.inr (.inr (by have := hs.out; simp; omega))) (.bool false)).set (p := ⟨h + 1, 2, none⟩) (.inr (.inr (by have := hs.out; simp; omega))) (.slice none 0 0)).set (p := ⟨h + 1, 3, none⟩) (.inr (.inr (by have := hs.out; simp; omega))) (.int .i64 e3))
    go_wp2_with fail
    refine bodyPost_ret (v := .agg #[.int .u64 x3, .bool false, .slice none 0 0, .int .i64 e3]) (by simp [results, Try.func7, go_sem, q0, q1, q2, q3]) rfl ?_
    exact ⟨x3, e3, s3, Lib.hid ((show lRe 0 s2 a = lNew s2 a from if_pos rfl).trans q3'.out), rfl, f3, b3, F3, TT.out, MM.out⟩
  · have yy := (((((y1.out.far (p := ⟨h + 1 + 1, 3, none⟩) (by simp) (.int .i64 e1)).set_ 0 (.int .u64 0)).set_ 1 (.bool false)).set_ 2 (.slice none 0 0)).set_ 3 (.int .i64 e1))
    have q0 := yy.cell 0
    have q1 := yy.cell 1
    have q2 := yy.cell 2
    have q3 := yy.cell 3
    simp at q0 q1 q2 q3
    clear yy
    have TT := Lib.hid (((((T2.out.set (p := ⟨h + 1 + 1, 3, none⟩) nf2 (.int .i64 e1)).set (p := ⟨h + 1, 0, none⟩) nf1 (.int .u64 0)).set (p := ⟨h + 1, 1, none⟩) nf1 (.bool false)).set (p := ⟨h + 1, 2, none⟩) nf1 (.slice none 0 0)).set (p := ⟨h + 1, 3, none⟩) nf1 (.int .i64 e1))
    have MM := Lib.hid (((((m3.out.set (p := ⟨h + 1 + 1, 3, none⟩) (.inr (.inr (by have := hs.out; simp; omega))) (.int .i64 e1)).set (p := ⟨h + 1, 0, none⟩) (.inr (.inr (by have := hs.out; simp; omega))) (.int .u64 0)).set (p := ⟨h + 1, 1, none⟩) (.inr (.inr (by have := hs.out; simp; omega))) (.bool false)).set (p := ⟨h + 1, 2, none⟩) (.inr (.inr (by have := hs.out; simp; omega))) (.slice none 0 0)).set (p := ⟨h + 1, 3, none⟩) (.inr (.inr (by have := hs.out; simp; omega))) (.int .i64 e1))
    have z : (e1 == 0) = false := by simpa using he
    have HE := Lib.hid he
    clear he
    go_wp2_with fail
    refine bodyPost_ret (v := .agg #[.int .u64 0, .bool false, .slice none 0 0, .int .i64 e1]) (by simp [results, Try.func7, go_sem, q0, q1, q2, q3]) rfl ?_
    exact ⟨0, e1, s2, Lib.hid (if_neg HE.out), rfl, f2, b2.mono (by omega), F2, TT.out, MM.out⟩
set_option maxRecDepth 100000 in
theorem do0_b {t n N : Nat} {F F0 : Nat → Prop} {s s' : St} {e' a l on key kd : Int} {w w0 : World} {p' : Pl} {ks' : List Int}
    (hw : Txw w t F s) (hf : Fits s) (hb : Bud s (n + 6 * N + 20)) (hN : N ≤ 60000) (ha : 0 ≤ a) (hl : 0 ≤ l) (hl' : l ≤ 18446744073709551615) (hk : 0 ≤ key) (hk' : key ≤ 18446744073709551615) (hkd : kd < 1 ∨ 9 < kd) (hm : Fr F0 w0 F w) :
    Calls Try.prog 7 #[.iface 31 (.pointer (some ⟨t, 0, none⟩)), .int .u64 a, .int .u64 l, .agg #[.int .i64 kd, .int .i64 on, .int .u64 key]] w fun en w' =>
      en = .returned (.agg #[.int .u64 0, .bool false, .slice none 0 0, .int .i64 0]) ∧ Lft t n F0 w0 s w' := by
  obtain ⟨T1, hM, x1, x2, hn1, hn2, hs, hsz⟩ := do_pre (k := kd) (on := on) (key := key) hw hm
  unfold stepO replyO at T1 hM x1 x2 hsz
  have T1 := Lib.hid T1
  have hM := Lib.hid hM
  have x1 := Lib.hid x1
  have x2 := Lib.hid x2
  have hs := Lib.hid hs
  have hsz := Lib.hid hsz
  clear hw hm
  have z1 : (kd == 1) = false := by simp; omega
  have z2 : (kd == 2) = false := by simp; omega
  have z3 : (kd == 3) = false := by simp; omega
  have z4 : (kd == 4) = false := by simp; omega
  have z5 : (kd == 5) = false := by simp; omega
  have z6 : (kd == 6) = false := by simp; omega
  have z7 : (kd == 7) = false := by simp; omega
  have z8 : (kd == 8) = false := by simp; omega
  have z9 : (kd == 9) = false := by simp; omega
  clear hkd
  go_enter Try.func7, Try.ntmps7
  go_wp2_with fail
  have xx := x1.out
  have q0 := xx.cell 0
  have q1 := xx.cell 1
  have q2 := xx.cell 2
  have q3 := xx.cell 3
  clear xx
  simp only [List.getElem?_toArray, List.getElem?_cons_zero, List.getElem?_cons_succ] at q0 q1 q2 q3
  refine bodyPost_ret (v := .agg #[.int .u64 0, .bool false, .slice none 0 0, .int .i64 0]) (by simp [results, Try.func7, go_sem, q0, q1, q2, q3]) rfl ?_
  exact ⟨rfl, hf, hb.mono (by omega), F, T1.out, hM.out⟩
end Go.Proofs.Ytcohopobjppmaaa
