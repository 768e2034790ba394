/- events.Tries by contract. -/
import Derived.Test.YtloiadhdkgkjkaaEvX
namespace Go.Proofs.Ytloiadhdkgkjkaa
open Go.RowKit
set_option maxHeartbeats 4000000
set_option linter.unusedVariables false
set_option linter.unusedSimpArgs false
theorem odd_at {l : List Ev} {n : Nat} (hn : n < l.length) (h : okTo l n) (hw : wrong (rn l n) (evAt l n) ≠ 0) : odd l = ((n : Int), wrong (rn l n) (evAt l n)) := odd_bad h hn hw
theorem wrong_vals (s : St) (e : Ev) : wrong s e = 0 ∨ wrong s e = 201 ∨ (230 ≤ wrong s e ∧ wrong s e ≤ 233) := by
  unfold wrong wrg
  repeat' split
  all_goals omega
/-- What Tries answers: the attempts, or none. -/
def triesOf (l : List Ev) : List Tr := if (odd l).2 = 0 then (rn l l.length).tries else []
set_option maxRecDepth 100000 in
theorem tries_b {w : World} {A : Option Addr} {cp : Nat} {l : List Ev} (hL : LiesV w (.slice A l.length cp) l) :
    Calls Try.prog 48 #[.slice A l.length cp] w fun x w' => Below w.heap.size w w' ∧ ((okTo l l.length ∧ ∃ tv, x = .returned (.tuple #[tv, .agg #[.int .i64 (-1), .int .i64 0]]) ∧ Sl 38 7 encT w' tv (rn l l.length).tries ∧ (∀ k, own tv k → w.heap.size ≤ k)) ∨
      (∃ n, n < l.length ∧ okTo l n ∧ wrong (rn l n) (evAt l n) ≠ 0 ∧ x = .returned (.tuple #[.slice none 0 0, .agg #[.int .i64 n, .int .i64 (wrong (rn l n) (evAt l n))]]))) := by
  have B0 := Lib.hid (Blk.new w 28 #[.int .i64 0, .int .i64 0])
  have bel0 : Hid (Below w.heap.size w (w.alloc (.cells #[.int .i64 0, .int .i64 0] 28))) := Lib.hid ((Below.refl _ _).alloc (Nat.le_refl _) _)
  have C := Lib.hid (goOver_b (hL.below bel0.out (Nat.le_refl _)))
  clear hL
  go_enter Try.func48, Try.ntmps48
  go_wp2_with fail
  refine C.out.mono ?_
  rintro e w1 ⟨hb1, (⟨hok, b, m, tv, rfl, hLk⟩ | ⟨n, hn, hok, hw, rfl⟩)⟩
  · have B1 := B0.out.below hb1 B0.out.lt
    have bel1 := bel0.out.trans (hb1.mono (by simp))
    have hbb : w.heap.size < b := by have := hLk.geb; simp at this; omega
    have ctv := (hLk.alloc (.cells #[.int .i64 (-1), .int .i64 0] 28)).c_tv
    have B2 := B1.alloc (.cells #[.int .i64 (-1), .int .i64 0] 28)
    have b0 := B2.cell 0
    have b1 := B2.cell 1
    have f0 := B2.frozen 0
    have f1 := B2.frozen 1
    simp only [List.getElem?_toArray, List.getElem?_cons_zero, List.getElem?_cons_succ] at b0 b1
    have hsz1 : w.heap.size ≤ w1.heap.size := bel1.size
    have hne : w.heap.size ≠ w1.heap.size := Nat.ne_of_lt B1.lt
    have hbel2 := Lib.hid (bel1.alloc hsz1 (.cells #[.int .i64 (-1), .int .i64 0] 28))
    have hS := Lib.hid (hLk.tries.alloc (.cells #[.int .i64 (-1), .int .i64 0] 28))
    have hown : ¬ own tv w.heap.size := fun h => by have := hLk.get _ h; simp at this; omega
    have hget := Lib.hid hLk.get
    have hB2 := Lib.hid B2
    replace hok := Lib.hid hok
    replace B0 := Lib.hid B1
    replace hLk := Lib.hid hLk
    clear bel1 hb1 bel0 C B2 B1
    have hpn : (binOp .eql 114 (.pointer (some ⟨b, 0, none⟩)) (.pointer none)).run Try.prog (w1.alloc (.cells #[.int .i64 (-1), .int .i64 0] 28)) = .ok (.bool false) (w1.alloc (.cells #[.int .i64 (-1), .int .i64 0] 28)) := by
      have := run_eql_pointer_nil (P := Try.prog) (w1.alloc (.cells #[.int .i64 (-1), .int .i64 0] 28)) 114 (some ⟨b, 0, none⟩) (by kernel_rfl)
      exact this
    go_wp2
    refine wp_region_mixH (fun _ => True) [3, 3, 3, 1, 1, 3, 2] (List.range 7) (by kernel_rfl) (by kernel_rfl) (fun _ _ h => h) trivial ?_
    repeat ((first | refine wpMixH_pure rfl rfl (fun K hK => ?_) | refine wpMixH_loc rfl rfl (fun K hK => ?_) | refine wpMixH_any rfl rfl (fun K hK => ?_)); go_simp; refine hK _ _ ?_; clear hK K)
    refine wpMixH_loud rfl rfl (fun n1 K hK => ?_)
    go_wp2
    refine hK _ _ (fun _ => trivial) ?_; clear hK K
    refine wpMixH_nil (fun n2 => ?_)
    go_wp2
    refine bodyPost_ret (v := .tuple #[tv, .agg #[.int .i64 (-1), .int .i64 0]]) (by simp [results, Try.results48, go_sem, b0, b1, f0, f1]) rfl ⟨?_, .inl ⟨hok.out, tv, rfl, ?_, fun k hk => ?_⟩⟩
    · exact below_drewNs (((below_drewNs hbel2.out _).setCell (Nat.le_refl _) _).setCell (Nat.le_refl _) _) _
    · exact Sl.drewN (Sl.set (Sl.set (Sl.drewN hS.out _) (p := ⟨w.heap.size, 0, none⟩) hown _) (p := ⟨w.heap.size, 1, none⟩) hown _) _
    · have := hget.out k hk; simp at this; omega
  · have B1 := B0.out.below hb1 B0.out.lt
    have bel1 := bel0.out.trans (hb1.mono (by simp))
    generalize hxx : wrong (rn l n) (evAt l n) = x at *
    have B2 := B1.alloc (.cells #[.int .i64 n, .int .i64 x] 28)
    have b0 := B2.cell 0
    have b1 := B2.cell 1
    have f0 := B2.frozen 0
    have f1 := B2.frozen 1
    simp only [List.getElem?_toArray, List.getElem?_cons_zero, List.getElem?_cons_succ] at b0 b1
    have hsz1 : w.heap.size ≤ w1.heap.size := bel1.size
    have hne : w.heap.size ≠ w1.heap.size := Nat.ne_of_lt B1.lt
    have hbel2 := Lib.hid (bel1.alloc hsz1 (.cells #[.int .i64 n, .int .i64 x] 28))
    replace hok := Lib.hid hok
    replace hw := Lib.hid hw
    replace hxx := Lib.hid hxx
    have hpn : (binOp .eql 114 (.pointer none) (.pointer none)).run Try.prog (w1.alloc (.cells #[.int .i64 n, .int .i64 x] 28)) = .ok (.bool true) (w1.alloc (.cells #[.int .i64 n, .int .i64 x] 28)) := by
      have := run_eql_pointer_nil (P := Try.prog) (w1.alloc (.cells #[.int .i64 n, .int .i64 x] 28)) 114 none (by kernel_rfl)
      exact this
    clear bel1 hb1 bel0 C B2 B1 B0
    go_wp2
    refine wp_region_mixH (fun _ => True) [1, 3, 2] (List.range 3) (by kernel_rfl) (by kernel_rfl) (fun _ _ h => h) trivial ?_
    repeat ((first | refine wpMixH_pure rfl rfl (fun K hK => ?_) | refine wpMixH_loc rfl rfl (fun K hK => ?_) | refine wpMixH_any rfl rfl (fun K hK => ?_)); go_simp; refine hK _ _ ?_; clear hK K)
    refine wpMixH_loud rfl rfl (fun n1 K hK => ?_)
    go_wp2
    refine hK _ _ (fun _ => trivial) ?_; clear hK K
    refine wpMixH_nil (fun n2 => ?_)
    go_wp2
    refine bodyPost_ret (v := .tuple #[.slice none 0 0, .agg #[.int .i64 n, .int .i64 x]]) (by simp [results, Try.results48, go_sem, b0, b1, f0, f1]) rfl ⟨?_, .inr ⟨n, hn, hok.out, (by rw [hxx.out]; exact hw.out), by rw [hxx.out]⟩⟩
    exact below_drewNs (((below_drewNs hbel2.out _).setCell (Nat.le_refl _) _).setCell (Nat.le_refl _) _) _
end Go.Proofs.Ytloiadhdkgkjkaa
