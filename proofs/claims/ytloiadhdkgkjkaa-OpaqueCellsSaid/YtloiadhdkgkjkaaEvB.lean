/- events.formed by contract. -/
import Derived.Test.YtloiadhdkgkjkaaEvA
import Derived.Outline
namespace Go.Proofs.Ytloiadhdkgkjkaa
open Go.RowKit
set_option maxHeartbeats 4000000
set_option linter.unusedVariables false
set_option linter.unusedSimpArgs false
set_option maxRecDepth 100000 in
theorem formed_b (e : Ev) (w : World) (hw0 : 0 ≤ e.wd) (hw1 : e.wd ≤ 18446744073709551615) :
    Calls Try.prog 85 #[evV e] w fun x w' => x = .returned (.bool (fmd e)) ∧ Below w.heap.size w w' := by
  obtain ⟨th, kd, ad, wd, ow, er⟩ := e
  dsimp only at hw0 hw1
  have hq : ∀ (a0 a1 a2 a3 : Int) (a4 : Bool) (a5 b0 b1 b2 b3 : Int) (b4 : Bool) (b5 : Int) (w : World), (binOp .eql 61 (.agg #[.int .i64 a0, .int .i64 a1, .int .u64 a2, .int .u64 a3, .bool a4, .int .i64 a5]) (.agg #[.int .i64 b0, .int .i64 b1, .int .u64 b2, .int .u64 b3, .bool b4, .int .i64 b5])).run Try.prog w = .ok (.bool (evq ⟨a0, a1, a2, a3, a4, a5⟩ ⟨b0, b1, b2, b3, b4, b5⟩)) w := fun a0 a1 a2 a3 a4 a5 b0 b1 b2 b3 b4 b5 w => ev_eql ⟨a0, a1, a2, a3, a4, a5⟩ ⟨b0, b1, b2, b3, b4, b5⟩ w
  have hn := u64_andNot1 wd hw0 hw1
  have hbel : Below w.heap.size w (w.alloc (.cells #[.int .i64 th, .int .i64 kd, .int .u64 ad, .int .u64 wd, .bool ow, .int .i64 er] 61)) := (Below.refl _ _).alloc (Nat.le_refl _) _
  unfold evV
  dsimp only
  have hb2 : Below w.heap.size w ((w.alloc (.cells #[.int .i64 th, .int .i64 kd, .int .u64 ad, .int .u64 wd, .bool ow, .int .i64 er] 61)).alloc (.cells #[.int .i64 th, .int .i64 kd, .int .u64 0, .int .u64 0, .bool false, .int .i64 0] 61)) := hbel.alloc (by simp) _
  have hz : ∀ (k : Int) (cs : Array Value), Blk ((w.alloc (.cells #[.int .i64 th, .int .i64 k, .int .u64 ad, .int .u64 wd, .bool ow, .int .i64 er] 61)).alloc (.cells cs 61)) w.heap.size 61 #[.int .i64 th, .int .i64 k, .int .u64 ad, .int .u64 wd, .bool ow, .int .i64 er] := fun k cs => Blk.alloc (Blk.new w _ _) _
  replace hz := Lib.hid hz
  have hb2' : ∀ b : Bool, Below w.heap.size w ((w.alloc (.cells #[.int .i64 th, .int .i64 kd, .int .u64 ad, .int .u64 wd, .bool ow, .int .i64 er] 61)).alloc (.cells #[.int .i64 th, .int .i64 kd, .int .u64 0, .int .u64 0, .bool b, .int .i64 0] 61)) := fun b => hbel.alloc (by simp) _
  replace hb2' := Lib.hid hb2'
  by_cases hth : th < 0
  · go_enter Try.func85, Try.ntmps85
    go_wp2
    all_goals go_ret
    all_goals exact ⟨by simp [fmd]; omega, hbel⟩
  by_cases hth8 : 8 ≤ th
  · go_enter Try.func85, Try.ntmps85
    go_wp2
    all_goals go_ret
    all_goals exact ⟨by simp [fmd]; omega, hbel⟩
  have hk : kd = 1 ∨ kd = 2 ∨ kd = 3 ∨ kd = 4 ∨ kd = 5 ∨ kd = 6 ∨ kd = 7 ∨ kd = 8 ∨ kd = 9 ∨ kd = 10 ∨ kd = 11 ∨ kd = 12 ∨ kd < 1 ∨ 12 < kd := by omega
  rcases hk with rfl | rfl | rfl | rfl | rfl | rfl | rfl | rfl | rfl | rfl | rfl | rfl | hk | hk
  case inr.inr.inr.inr.inr.inr.inr.inr.inl =>
    by_cases h4 : er < 4
    · go_enter Try.func85, Try.ntmps85
      go_wp2
      go_ret
      exact ⟨by simp [fmd, pairK, singK]; omega, hb2⟩
    by_cases h6 : 6 < er
    · go_enter Try.func85, Try.ntmps85
      go_wp2
      go_ret
      exact ⟨by simp [fmd, pairK, singK]; omega, hb2⟩
    go_enter Try.func85, Try.ntmps85
    go_wp2
    go_ret
    refine ⟨ret_bool ?_, ?_⟩
    · rw [Bool.eq_iff_iff]
      cases ow <;> simp [fmd, evq, pairK, singK] <;> omega
    · exact (((Below.refl _ _).alloc (Nat.le_refl _) _).alloc (by simp) _)
  case inr.inr.inr.inr.inr.inr.inr.inr.inr.inr.inr.inr.inl | inr.inr.inr.inr.inr.inr.inr.inr.inr.inr.inr.inr.inr =>
    have k1 : (kd == 1) = false := by simp; omega
    have k2 : (kd == 2) = false := by simp; omega
    have k3 : (kd == 3) = false := by simp; omega
    have k4 : (kd == 4) = false := by simp; omega
    have k5 : (kd == 5) = false := by simp; omega
    have k6 : (kd == 6) = false := by simp; omega
    have k7 : (kd == 7) = false := by simp; omega
    have k8 : (kd == 8) = false := by simp; omega
    have k9 : (kd == 9) = false := by simp; omega
    have k10 : (kd == 10) = false := by simp; omega
    have k11 : (kd == 11) = false := by simp; omega
    have k12 : (kd == 12) = false := by simp; omega
    go_enter Try.func85, Try.ntmps85
    go_wp2
    go_ret
    exact ⟨by simp [fmd]; omega, hb2⟩
  case inr.inl | inr.inr.inl | inr.inr.inr.inr.inr.inr.inr.inr.inr.inl | inr.inr.inr.inr.inr.inr.inr.inr.inr.inr.inl =>
    go_enter Try.func85, Try.ntmps85
    go_wp2
    refine wp_region_mix (fun W' => W'.cell? ⟨w.heap.size, 2, none⟩ = some (.int .u64 ad) ∧ W'.cell? ⟨w.heap.size, 3, none⟩ = some (.int .u64 wd)) [3, 0, 3, 0, 3, 2, 3, 2] (List.range 8) (by kernel_rfl) (by kernel_rfl) (fun _ _ h => h) ⟨((hz.out _ _).cell 2).trans rfl, ((hz.out _ _).cell 3).trans rfl⟩ ?_
    repeat (first | ((first | refine wpMix_pure rfl rfl (fun K hK => ?_) | refine wpMix_loc rfl rfl (fun K hK => ?_) | refine wpMix_any rfl rfl (fun K hK => ?_)); go_simp; refine hK _ _ ?_; clear hK K) | (refine wpMix_any rfl rfl (fun K hK => ?_); rw [if_pos (by go_simp)]; apply Exists.intro; refine And.intro (fun w2 hS2 => ?_) (hK _ _ ?_); (focus (obtain ⟨hs1, hs2⟩ := hS2; go_simp; rfl)); clear hK K))
    refine wpMix_loud rfl rfl (fun m1 K hK => ?_)
    go_wp2
    refine hK _ _ (fun _ => ⟨(((hz.out _ _).far (p := ⟨w.heap.size + 1, 2, none⟩) (Nat.ne_of_lt (Nat.lt_succ_self _)) _).cell 2).trans rfl, (((hz.out _ _).far (p := ⟨w.heap.size + 1, 2, none⟩) (Nat.ne_of_lt (Nat.lt_succ_self _)) _).cell 3).trans rfl⟩) ?_; clear hK K
    repeat (first | ((first | refine wpMix_pure rfl rfl (fun K hK => ?_) | refine wpMix_loc rfl rfl (fun K hK => ?_) | refine wpMix_any rfl rfl (fun K hK => ?_)); go_simp; refine hK _ _ ?_; clear hK K) | (refine wpMix_any rfl rfl (fun K hK => ?_); rw [if_pos (by go_simp)]; apply Exists.intro; refine And.intro (fun w2 hS2 => ?_) (hK _ _ ?_); (focus (obtain ⟨hs1, hs2⟩ := hS2; go_simp; rfl)); clear hK K))
    refine wpMix_loud rfl rfl (fun m2 K hK => ?_)
    go_wp2
    refine hK _ _ (fun _ => ⟨((((hz.out _ _).far (p := ⟨w.heap.size + 1, 2, none⟩) (Nat.ne_of_lt (Nat.lt_succ_self _)) _).far (p := ⟨w.heap.size + 1, 3, none⟩) (Nat.ne_of_lt (Nat.lt_succ_self _)) _).cell 2).trans rfl, ((((hz.out _ _).far (p := ⟨w.heap.size + 1, 2, none⟩) (Nat.ne_of_lt (Nat.lt_succ_self _)) _).far (p := ⟨w.heap.size + 1, 3, none⟩) (Nat.ne_of_lt (Nat.lt_succ_self _)) _).cell 3).trans rfl⟩) ?_; clear hK K
    refine wpMix_nil (fun m3 => ?_)
    go_wp2
    go_ret
    refine ⟨ret_bool ?_, ?_⟩
    · rw [Bool.eq_iff_iff]
      cases ow <;> simp [fmd, evq, pairK, singK] <;> omega
    · exact below_drewNs (Below.setCell (below_drewNs (Below.setCell (below_drewNs (hb2'.out _) _) (Nat.le_succ _) _) _) (Nat.le_succ _) _) _
  all_goals
    go_enter Try.func85, Try.ntmps85
    go_wp2
    go_ret
    refine ⟨ret_bool ?_, ?_⟩
    · rw [Bool.eq_iff_iff]
      cases ow <;> simp [fmd, evq, pairK, singK] <;> omega
    · exact (((Below.refl _ _).alloc (Nat.le_refl _) _).alloc (by simp) _)
end Go.Proofs.Ytloiadhdkgkjkaa
