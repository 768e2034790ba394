/- A queue's chain taken out, a part laid back, by contract. -/
import Derived.Test.YtcgdpclhlepofaaPaK
namespace Go.Proofs.Ytcgdpclhlepofaa
open Go.RowKit
set_option maxHeartbeats 4000000
set_option linter.unusedVariables false
set_option linter.unusedSimpArgs false

set_option maxRecDepth 100000 in
theorem pqueue_b {t n : Nat} {F F0 : Nat → Prop} {s : St} {q : Int} {w w0 : World}
    (hw : Txw w t F s) (hf : Fits s) (hb : Bud s (n + 5)) (h1 : 0 ≤ q) (h1' : q ≤ 18446744073709551615) (hm : Fr F0 w0 F w) :
    Calls Try.prog 7 #[.iface 26 (.pointer (some ⟨t, 0, none⟩)), .int .u64 q] w fun e w' =>
      ∃ f c er s', Hid (pQueue q s = (f, c, er, s')) ∧ 0 ≤ f ∧ f ≤ 18446744073709551615 ∧ 0 ≤ c ∧ c ≤ 18446744073709551615 ∧ e = .returned (.tuple #[partv 1 f c er, .int .i64 er]) ∧ Lft t n F0 w0 s' w' := by
  have hE1 : (w.alloc (.cells #[.int .i64 0, .int .u64 0, .int .u64 0] 25)).heap.size = w.heap.size + 1 := by simp
  have hBr := Blk.new w 25 #[.int .i64 0, .int .u64 0, .int .u64 0]
  have hT := (hw.alloc (.cells #[.int .i64 0, .int .u64 0, .int .u64 0] 25)).alloc (.cells (u64s [q, uAdd q 1, uAdd q 2]).toArray 23)
  have hM := (hm.alloc (.cells #[.int .i64 0, .int .u64 0, .int .u64 0] 25)).alloc (.cells (u64s [q, uAdd q 1, uAdd q 2]).toArray 23)
  have hL := Lies.new (w.alloc (.cells #[.int .i64 0, .int .u64 0, .int .u64 0] 25)) [q, uAdd q 1, uAdd q 2] (by simp)
  have hBr2 := hBr.alloc (.cells (u64s [q, uAdd q 1, uAdd q 2]).toArray 23)
  rw [hE1] at hL
  have hFr : ¬ F w.heap.size := fun h => by have := hw.lt _ h; omega
  have hFl : ¬ F (w.heap.size + 1) := fun h => by have := hw.lt _ h; omega
  have hsz : w0.heap.size ≤ w.heap.size := hm.size
  clear hw hm
  go_enter Try.func7, Try.ntmps7
  go_wp2_with fail
  have u1 : ∀ a : Int, IntKind.u64.wrap (q + a) = uAdd q a := fun a => rfl
  simp only [u1]
  refine (pcut_b (kd := 1) (n := n) hT hf (by simpa using hb) hL (by simp) (fun k hk => by
    obtain rfl : w.heap.size + 1 = k := by simpa [own, Value.ownBlock] using hk
    exact hFl) (fun k hk => by
    obtain rfl : w.heap.size + 1 = k := by simpa [own, Value.ownBlock] using hk
    simp) (fun x hx => by
    simp at hx
    rcases hx with rfl | rfl | rfl
    · omega
    · exact uAdd_bd _ _
    · exact uAdd_bd _ _) h1 h1' (uAdd_bd _ _).1 (uAdd_bd _ _).2 (Fr.refl F _)).mono ?_
  rintro _ w3 ⟨f, c, er, s3, q3, df, df', dc, dc', rfl, f3, b3, F3, hT3, hm3⟩
  have hB3 := hm3.blk hBr2 hFr
  have hF3 : ¬ F3 w.heap.size := hm3.not_in hBr2.lt hFr
  have hM3 := hM.trans hm3
  have q3 : Hid (pQueue q s = (f, c, er, s3)) := q3
  have z0 := hB3.frozen 0
  have z1 := hB3.frozen 1
  have z2 := hB3.frozen 2
  have d0 := hB3.cell 0
  have d1 := hB3.cell 1
  have d2 := hB3.cell 2
  simp only [List.getElem?_toArray, List.getElem?_cons_zero, List.getElem?_cons_succ] at d0 d1 d2
  have HFIN : Hid (∀ (a : Int) (b c : Int), Lft t n F0 w0 s3 (((w3.setCell ⟨w.heap.size, 0, none⟩ (.int .i64 a)).setCell ⟨w.heap.size, 1, none⟩ (.int .u64 b)).setCell ⟨w.heap.size, 2, none⟩ (.int .u64 c)) ∧ Blk (((w3.setCell ⟨w.heap.size, 0, none⟩ (.int .i64 a)).setCell ⟨w.heap.size, 1, none⟩ (.int .u64 b)).setCell ⟨w.heap.size, 2, none⟩ (.int .u64 c)) w.heap.size 25 #[.int .i64 a, .int .u64 b, .int .u64 c]) := Lib.hid fun a b c =>
    ⟨⟨f3, b3, F3, ((hT3.set (p := ⟨w.heap.size, 0, none⟩) hF3 _).set (p := ⟨w.heap.size, 1, none⟩) hF3 _).set (p := ⟨w.heap.size, 2, none⟩) hF3 _, ((hM3.set (p := ⟨w.heap.size, 0, none⟩) (.inr (.inr hsz)) _).set (p := ⟨w.heap.size, 1, none⟩) (.inr (.inr hsz)) _).set (p := ⟨w.heap.size, 2, none⟩) (.inr (.inr hsz)) _⟩,
      by simpa using ((hB3.set_ 0 (.int .i64 a)).set_ 1 (.int .u64 b)).set_ 2 (.int .u64 c)⟩
  clear hBr hT hM hL hBr2 hFr hFl hB3 hM3 hm3 hT3 hF3 hf hb
  by_cases he : er = 0
  · subst he
    have hv : partv ((1 : Nat) : Int) f c 0 = .agg #[.int .i64 1, .int .u64 f, .int .u64 c] := if_pos rfl
    rw [hv]
    obtain ⟨hL, hB⟩ := HFIN.out 1 f c
    have hL := Lib.hid hL
    have x0 := hB.cell 0
    have x1 := hB.cell 1
    have x2 := hB.cell 2
    simp only [List.getElem?_toArray, List.getElem?_cons_zero, List.getElem?_cons_succ] at x0 x1 x2
    clear hv hB HFIN
    go_wp2
    refine bodyPost_ret (v := .tuple #[.agg #[.int .i64 1, .int .u64 f, .int .u64 c], .int .i64 0]) (by simp [results, Try.f7, go_sem, x0, x1, x2]) rfl ?_
    exact ⟨f, c, 0, s3, q3, df, df', dc, dc', by unfold partv; rw [if_pos rfl], hL.out⟩
  · rw [partv_no he]
    obtain ⟨hL, hB⟩ := HFIN.out 0 0 0
    have hL := Lib.hid hL
    have x0 := hB.cell 0
    have x1 := hB.cell 1
    have x2 := hB.cell 2
    simp only [List.getElem?_toArray, List.getElem?_cons_zero, List.getElem?_cons_succ] at x0 x1 x2
    have HE := Lib.hid he
    clear hB HFIN he
    go_wp2
    refine bodyPost_ret (v := .tuple #[.agg #[.int .i64 0, .int .u64 0, .int .u64 0], .int .i64 er]) (by simp [results, Try.f7, go_sem, x0, x1, x2]) rfl ?_
    exact ⟨f, c, er, s3, q3, df, df', dc, dc', by rw [partv_no HE.out], hL.out⟩
end Go.Proofs.Ytcgdpclhlepofaa
