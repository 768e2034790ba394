/- A key looked for, by contract. -/
import Derived.Test.YtcohopobjppmaaaLiC
import Derived.Test.YtcohopobjppmaaaLiD
namespace Go.Proofs.Ytcohopobjppmaaa
open Go.RowKit
set_option maxHeartbeats 4000000
set_option linter.unusedVariables false
set_option linter.unusedSimpArgs false

theorem LftF.lift {t h n : Nat} {F0 F1 : Nat → Prop} {w0 w1 w' : World} {J : World → (Nat → Prop) → (Nat → Prop) → List Int → Prop} {s' : St} {e' : Int} {ks : List Int} (k : LftF t h n F1 w1 J s' e' ks w') (hm : Fr F0 w0 F1 w1) : LftF t h n F0 w0 J s' e' ks w' :=
  let ⟨a, b, F', G', c, d, f, g, m⟩ := k; ⟨a, b, F', G', c, d, f, g, hm.trans m⟩
theorem LftF.hand {t h n : Nat} {F0 : Nat → Prop} {w0 w' : World} {J : World → (Nat → Prop) → (Nat → Prop) → List Int → Prop} {s' : St} {e' : Int} {ks : List Int} (k : LftF t h n F0 w0 J s' e' ks w') : LftH t h n F0 w0 s' e' w' :=
  let ⟨a, b, F', G', c, d, f, g, m⟩ := k; ⟨a, b, F', c, d, f, m.into fun k hk => .inl (.inl hk)⟩
theorem LftH.alloc {t h n : Nat} {F0 : Nat → Prop} {w0 w' : World} {s' : St} {e' : Int} (k : LftH t h n F0 w0 s' e' w') (o : Obj) : LftH t h n F0 w0 s' e' (w'.alloc o) :=
  let ⟨a, b, F', c, d, f, m⟩ := k; ⟨a, b, F', c.alloc o, Blk.alloc d o, f, m.alloc o⟩

set_option maxRecDepth 100000 in
theorem at_b {t h n N : Nat} {F F0 : Nat → Prop} {s s' : St} {e e' l key : Int} {w w0 : World} {p' : Pl} {ks' : List Int}
    (hw : Txw w t F s) (hh : Hnd w h t e) (hn : ¬ F h) (hf : Fits s) (hb : Bud s (n + 2 * N + 1)) (hN : N ≤ 60000) (hl : 0 ≤ l) (hl' : l ≤ 18446744073709551615) (hR : hfind (fun x => decide (x < key)) N s e l = some (p', ks', e', s'))
    (hm : Fr F0 w0 (fun k => F k ∨ k = h) w) :
    Calls Try.prog 40 #[.pointer (some ⟨h, 0, none⟩), .int .u64 l, .int .u64 key] w fun en w' =>
      en = .returned (.tuple #[.agg (plc p'), .bool (there p' key e')]) ∧ p'.Bd ∧ LftH t h n F0 w0 s' e' w' := by
  have hcb := (Blk.new w 23 #[.int .u64 key]).alloc (.cells #[.int .u64 0, .int .u64 0, .int .u64 0, .int .u64 0] 81)
  have hrb := Blk.new (w.alloc (.cells #[.int .u64 key] 23)) 81 #[.int .u64 0, .int .u64 0, .int .u64 0, .int .u64 0]
  have hT := (hw.alloc (.cells #[.int .u64 key] 23)).alloc (.cells #[.int .u64 0, .int .u64 0, .int .u64 0, .int .u64 0] 81)
  have hH : Hnd ((w.alloc (.cells #[.int .u64 key] 23)).alloc (.cells #[.int .u64 0, .int .u64 0, .int .u64 0, .int .u64 0] 81)) h t e := Blk.alloc (Blk.alloc hh _) _
  have hM := (hm.alloc (.cells #[.int .u64 key] 23)).alloc (.cells #[.int .u64 0, .int .u64 0, .int .u64 0, .int .u64 0] 81)
  have hE1 : (w.alloc (.cells #[.int .u64 key] 23)).heap.size = w.heap.size + 1 := by simp
  have n1 : ¬ F w.heap.size := fun c => by have := hw.lt _ c; omega
  have n2 : ¬ F (w.heap.size + 1) := fun c => by have := hw.lt _ c; omega
  have hlt := Blk.lt hh
  have n3 : w.heap.size ≠ h := by omega
  have n4 : w.heap.size + 1 ≠ h := by omega
  have s0 := hm.size
  rw [hE1] at hrb
  have hR := Lib.hid hR
  clear hw hh hm
  go_enter Try.func40, Try.ntmps40
  go_wp2_with fail
  generalize hWe : (w.alloc (.cells #[.int .u64 key] 23)).alloc (.cells #[.int .u64 0, .int .u64 0, .int .u64 0, .int .u64 0] 81) = w2 at *
  generalize hce : w.heap.size = cb at *
  have hJ0 : JKey cb key w2 (fun k => F k ∨ k = h) (fun k => k = cb) [] := ⟨hcb, fun c => c.elim n1 n3, fun k => Iff.rfl⟩
  clear hWe hE1
  refine (find_b (F0 := fun k => (F k ∨ k = h) ∨ k = cb) (w0 := w2) (atc_law cb key) hT hH hn hJ0 hf hb hN hl hl' hR.out (Fr.refl _ _)).mono ?_
  rintro _ w6 ⟨rfl, hBd, -, f6, b6, F6, G6, T6, H6, n6, J6, m6⟩
  have hne : ¬ ((F (cb + 1) ∨ cb + 1 = h) ∨ cb + 1 = cb) := fun c => c.elim (fun c => c.elim n2 n4) fun c => by omega
  have hR6 := m6.blk hrb hne
  have hF6 : ¬ F6 (cb + 1) := fun c => (m6.new (cb + 1) (.inl (.inl c))).elim hne fun c => by have := hrb.lt; omega
  have hM6 : Fr F0 w0 (fun k => F6 k ∨ k = h) w6 := by
    have h1 : Fr F0 w0 (fun k => (F k ∨ k = h) ∨ k = cb) w2 := hM.into fun k hk => hk.elim .inl fun c => .inr (.inr (by rw [c]; exact s0))
    exact (h1.trans m6).into fun k hk => .inl (.inl hk)
  have hP := Blk.new w6 81 (plc p')
  have hR7 := hR6.alloc (.cells (plc p') 81)
  have hC7 := Blk.alloc J6.1 (.cells (plc p') 81)
  have hH7 : Hnd (w6.alloc (.cells (plc p') 81)) h t e' := Blk.alloc H6 _
  have hT7 := T6.alloc (.cells (plc p') 81)
  have hM7 := hM6.alloc (.cells (plc p') 81)
  have hrl := hR6.lt
  have hpr : w6.heap.size ≠ cb + 1 := by omega
  have hBd := Lib.hid hBd
  clear hT hH hM hn hb hJ0 hcb hrb m6 T6 H6 J6 hM6 hR6 hf hR
  simp only [plc] at hP hR7 hC7 hH7 hT7 hM7 ⊢
  go_wp2_with fail
  generalize w6.alloc (.cells #[.int .u64 p'.from_, .int .u64 p'.next, .int .u64 p'.key, .int .u64 p'.ahead] 81) = w7 at *
  generalize w6.heap.size = pb at *
  obtain ⟨-, d1, -⟩ := hH7.cells
  have p0 := hP.cell 0
  have p1 := hP.cell 1
  have p2 := hP.cell 2
  have p3 := hP.cell 3
  have k0 := hC7.cell 0
  have r0 := hR7.cell 0
  have r1 := hR7.cell 1
  have r2 := hR7.cell 2
  have r3 := hR7.cell 3
  simp only [List.getElem?_toArray, List.getElem?_cons_zero, List.getElem?_cons_succ] at p0 p1 p2 p3 k0 r0 r1 r2 r3
  have y0 := hR7.frozen 0
  have y1 := hR7.frozen 1
  have y2 := hR7.frozen 2
  have y3 := hR7.frozen 3
  have hcr : cb ≠ cb + 1 := by omega
  have K1 : Hid (∀ m x0 x1 x2 x3, x0 = p'.from_ → x1 = p'.next → x2 = p'.key → x3 = p'.ahead → ((((((w7.drewN m).setCell ⟨cb + 1, 0, none⟩ (.int .u64 x0)).setCell ⟨cb + 1, 1, none⟩ (.int .u64 x1)).setCell ⟨cb + 1, 2, none⟩ (.int .u64 x2)).setCell ⟨cb + 1, 3, none⟩ (.int .u64 x3)).cell? ⟨pb, 2, none⟩ = some (.int .u64 p'.key) ∧ (((((w7.drewN m).setCell ⟨cb + 1, 0, none⟩ (.int .u64 x0)).setCell ⟨cb + 1, 1, none⟩ (.int .u64 x1)).setCell ⟨cb + 1, 2, none⟩ (.int .u64 x2)).setCell ⟨cb + 1, 3, none⟩ (.int .u64 x3)).cell? ⟨cb, 0, none⟩ = some (.int .u64 key))) := Lib.hid fun m x0 x1 x2 x3 _ _ _ _ => by
    have a := ((((hP.drewN m).far (p := ⟨cb + 1, 0, none⟩) hpr (.int .u64 x0)).far (p := ⟨cb + 1, 1, none⟩) hpr (.int .u64 x1)).far (p := ⟨cb + 1, 2, none⟩) hpr (.int .u64 x2)).far (p := ⟨cb + 1, 3, none⟩) hpr (.int .u64 x3)
    have b := ((((hC7.drewN m).far (p := ⟨cb + 1, 0, none⟩) hcr (.int .u64 x0)).far (p := ⟨cb + 1, 1, none⟩) hcr (.int .u64 x1)).far (p := ⟨cb + 1, 2, none⟩) hcr (.int .u64 x2)).far (p := ⟨cb + 1, 3, none⟩) hcr (.int .u64 x3)
    exact ⟨by rw [a.cell]; rfl, by rw [b.cell]; rfl⟩
  have K2 : Hid (∀ m x0 x1 x2 x3, x0 = p'.from_ → x1 = p'.next → x2 = p'.key → x3 = p'.ahead → Blk (((((w7.drewN m).setCell ⟨cb + 1, 0, none⟩ (.int .u64 x0)).setCell ⟨cb + 1, 1, none⟩ (.int .u64 x1)).setCell ⟨cb + 1, 2, none⟩ (.int .u64 x2)).setCell ⟨cb + 1, 3, none⟩ (.int .u64 x3)) (cb + 1) 81 (plc p') ∧ LftH t h n F0 w0 s' e' (((((w7.drewN m).setCell ⟨cb + 1, 0, none⟩ (.int .u64 x0)).setCell ⟨cb + 1, 1, none⟩ (.int .u64 x1)).setCell ⟨cb + 1, 2, none⟩ (.int .u64 x2)).setCell ⟨cb + 1, 3, none⟩ (.int .u64 x3))) := Lib.hid fun m x0 x1 x2 x3 h0 h1 h2 h3 => by
    subst h0 h1 h2 h3
    have a := ((((hR7.drewN m).set_ 0 (.int .u64 p'.from_)).set_ 1 (.int .u64 p'.next)).set_ 2 (.int .u64 p'.key)).set_ 3 (.int .u64 p'.ahead)
    refine ⟨by simpa [plc] using a, f6, b6, F6, ((((hT7.drewN m).set (p := ⟨cb + 1, 0, none⟩) hF6 _).set (p := ⟨cb + 1, 1, none⟩) hF6 _).set (p := ⟨cb + 1, 2, none⟩) hF6 _).set (p := ⟨cb + 1, 3, none⟩) hF6 _, ?_, n6, ?_⟩
    · exact Blk.far (Blk.far (Blk.far (Blk.far (Blk.drewN hH7 m) (p := ⟨cb + 1, 0, none⟩) n4.symm _) (p := ⟨cb + 1, 1, none⟩) n4.symm _) (p := ⟨cb + 1, 2, none⟩) n4.symm _) (p := ⟨cb + 1, 3, none⟩) n4.symm _
    · have hg : w0.heap.size ≤ cb + 1 := by omega
      exact ((((hM7.drewN m).set (p := ⟨cb + 1, 0, none⟩) (.inr (.inr hg)) _).set (p := ⟨cb + 1, 1, none⟩) (.inr (.inr hg)) _).set (p := ⟨cb + 1, 2, none⟩) (.inr (.inr hg)) _).set (p := ⟨cb + 1, 3, none⟩) (.inr (.inr hg)) _
  clear hP hR7 hC7 hH7 hT7 hM7
  have hcs : Hid (((e' == 0) = false) ∨ ((e' == 0) = true ∧ (p'.next != 0) = false) ∨ ((e' == 0) = true ∧ (p'.next != 0) = true)) := Lib.hid (by
    cases (e' == 0) <;> cases (p'.next != 0) <;> simp)
  rcases hcs.out with g1 | ⟨g1, g2⟩ | ⟨g1, g2⟩
  all_goals
    clear hcs
    refine wp_region_mix (fun W' => W'.cell? ⟨pb, 2, none⟩ = some (.int .u64 p'.key) ∧ W'.cell? ⟨cb, 0, none⟩ = some (.int .u64 key)) [1, 3, 3, 3, 1, 3, 3, 3, 1, 3, 3, 3, 3, 0, 0, 3, 3, 2, 3] (List.range 19) (by kernel_rfl) (by kernel_rfl) (fun _ _ h => h) ⟨p2, k0⟩ ?_
    repeat (first | ((first | refine wpMix_pure rfl rfl (fun K hK => ?_) | refine wpMix_loc rfl rfl (fun K hK => ?_) | refine wpMix_any rfl rfl (fun K hK => ?_)); go_simp; refine hK _ _ ?_; clear hK K) | (refine wpMix_any rfl rfl (fun K hK => ?_); rw [if_pos (by go_simp)]; apply Exists.intro; refine And.intro (fun w2 hS2 => ?_) (hK _ _ ?_); (focus (obtain ⟨hs1, hs2⟩ := hS2; go_simp; rfl)); clear hK K))
    refine wpMix_loud rfl rfl (fun m1 K hK => ?_)
    go_wp2
    refine hK _ _ (fun _ => K1.out (1 + m1) _ _ _ _ rfl rfl rfl rfl) ?_; clear hK K
    repeat ((first | refine wpMix_pure rfl rfl (fun K hK => ?_) | refine wpMix_loc rfl rfl (fun K hK => ?_) | refine wpMix_any rfl rfl (fun K hK => ?_)); go_simp; refine hK _ _ ?_; clear hK K)
    refine wpMix_nil (fun m2 => ?_)
    obtain ⟨hBr, hL⟩ := K2.out (1 + m1) _ _ _ _ rfl rfl rfl rfl
    have hL := Lib.hid (hL.drewN m2)
    have hBr := hBr.drewN m2
    have b0 := hBr.cell 0
    have b1 := hBr.cell 1
    have b2 := hBr.cell 2
    have b3 := hBr.cell 3
    simp only [plc, List.getElem?_toArray, List.getElem?_cons_zero, List.getElem?_cons_succ] at b0 b1 b2 b3
    clear hBr K1 K2
    go_wp2
    try rw [Exit.noGoto_ret]
    refine bodyPost_ret (v := .tuple #[.agg (plc p'), .bool (there p' key e')]) (by simp [results, Try.func40, go_sem, b0, b1, b2, b3, plc, there, *]) rfl ?_
    exact ⟨rfl, hBd.out, hL.out⟩
end Go.Proofs.Ytcohopobjppmaaa
