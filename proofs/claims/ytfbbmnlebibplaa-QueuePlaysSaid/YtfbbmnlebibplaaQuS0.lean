/- QueuePlays: a queue is made. -/
import Derived.Test.YtfbbmnlebibplaaQuQ
namespace Go.Proofs.Ytfbbmnlebibplaa
open Go.RowKit
set_option maxHeartbeats 4000000
set_option linter.unusedVariables false
set_option linter.unusedSimpArgs false

/-- Between two calls: so many more gets and puts may come, so many queues there may be. -/
def StepP (B : Nat) (W0 : World) (xb t b : Nat) (c : Int) (m L : Nat) (w' : World) : Prop :=
  ∃ v ps X s r qs back, Qw B W0 w' xb t b v ps X s r qs ∧ Fits s ∧ Fits r ∧ Ok s m ∧ Ok r m ∧ Qi s.W r.W c qs back ∧ qs.length ≤ L ∧ (s.W.length : Int) ≤ 1000000
def StepE (B : Nat) (W0 : World) (xb t b : Nat) (c : Int) (m L : Nat) (e : Ending) (w' : World) : Prop := e = .returned (.bool true) ∧ StepP B W0 xb t b c m L w'
theorem same_b {va vb : Value} {l : List Int} {w : World} (h1 : Lies w va l) (h2 : Lies w vb l) (hn : (l.length : Int) ≤ 9223372036854775807) :
    Calls Try.prog 8 #[va, vb] w fun e w' => e = .returned (.bool true) ∧ ∃ n, w' = w.drewN n :=
  (words_b h1 h2 hn).mono fun e w' ⟨h, he⟩ => ⟨by rw [he, decide_eq_true rfl], h⟩

set_option maxRecDepth 100000 in
theorem step0_b {B xb t b m L : Nat} {W0 w : World} {v : Value} {ps : Nat → Nat} {X : Nat → Nat → Prop} {s r : St} {qs : List Qr} {back : Nat → List Int} {c on word : Int} (h : Qw B W0 w xb t b v ps X s r qs) (hfs : Fits s) (hfr : Fits r) (hs : Ok s (m + 400000)) (hr : Ok r (m + 400000)) (hi : Qi s.W r.W c qs back) (hL : qs.length + 1 ≤ L) (hLb : L ≤ 5900000000000) (hlw : (s.W.length : Int) ≤ 1000000) :
    Calls Try.prog 6 #[.pointer (some ⟨xb, 0, none⟩), .agg #[.int .i64 0, .int .i64 on, .int .u64 word]] w (StepE B W0 xb t b c m L) := by
  have h1 := h.alloc (.cells #[.int .i64 0, .int .i64 on, .int .u64 word] 35)
  clear h
  have h1' := h1.alloc (.cells #[] 33)
  obtain ⟨A, cp, b1, v1, rfl, hcp, x0, x1, x2, z2, t0, b0, hl⟩ := h1'.cells
  have H1 := Lib.hid h1
  have hl1 := Lib.hid hl
  obtain ⟨A1, c1, rfl, _⟩ := hl
  have hlm := Lib.hid (show (([] : List Int).length + s.W.length) * 8 ≤ 140737488355328 by simp; omega)
  have hnew : Wl ((w.alloc (.cells #[.int .i64 0, .int .i64 on, .int .u64 word] 35)).alloc (.cells #[] 33)) (.slice (some ⟨w.heap.size + 1, 0, none⟩) 0 0) [] := by simpa [u64s] using Wl.new (w.alloc (.cells #[.int .i64 0, .int .i64 on, .int .u64 word] 35)) [] (by simp)
  have HNEW := Lib.hid hnew
  clear h1 h1' hnew
  go_enter Try.func6, Try.ntmps6
  go_upto_region 3 with (at_builtin; go_must (refine wpList_words _ rfl (.tmp 33) (.tmp 43) rfl (.slice (some ⟨w.heap.size + 1, 0, none⟩) 0 0) (.slice A1 s.W.length c1) [] s.W rfl HNEW.out rfl hl1.out hlm.out ?_; intro A2 c2 w2 hc2 hv2 hf2))
  simp only [List.length_nil, Nat.zero_add, List.nil_append] at hc2 hv2 hf2
  have hb2 : Below (w.alloc (.cells #[.int .i64 0, .int .i64 on, .int .u64 word] 35)).heap.size (w.alloc (.cells #[.int .i64 0, .int .i64 on, .int .u64 word] 35)) w2 :=
    ((Below.refl _ _).alloc (Nat.le_refl _) (.cells #[] 33)).trans (hf2.below (fun k hk => by
      obtain rfl : w.heap.size + 1 = k := by simpa [own, Value.ownBlock] using hk
      simp) (by simp))
  have ho2 : Hid (∀ k, own (.slice A2 s.W.length c2) k → w.heap.size + 1 ≤ k) := Lib.hid (hf2.ge (B := w.heap.size + 1) (fun k hk => by
      obtain rfl : w.heap.size + 1 = k := by simpa [own, Value.ownBlock] using hk
      exact Nat.le_refl _) (by simp))
  have H2 := Lib.hid (H1.out.old hb2)
  have hX1 : Hid (∀ i k, X i k → k < w.heap.size + 1) := Lib.hid fun i k hk => by have := H1.out.fam.lt i k hk; simpa using this
  have hno2 : Hid (∀ i k, own (.slice A2 s.W.length c2) k → ¬ X i k) := Lib.hid fun i k hk hx => by have := ho2.out k hk; have := hX1.out i k hx; omega
  have hz2 : w.heap.size + 1 ≤ w2.heap.size := by have := hb2.size; simpa using this
  clear hb2 hf2 HNEW hl1 x0 x1 x2 z2 t0 b0 H1
  obtain ⟨A3, cp3, b3, v3, hv3e, hcp3, x0, x1, x2, z2, t0, b0, hl3⟩ := H2.out.cells
  obtain ⟨rfl, rfl⟩ : A = A3 ∧ cp = cp3 := by simpa using hv3e
  clear hv3e
  have hlaw := qNew_law (n := m + 300000) (m := m + 300000) (hs.mono (by omega)) (hr.mono (by omega)) hi
  have hbud : Bud s ((m + 300000) + 7) := hs.2.mono (by omega)
  have hbudr : Bud r ((m + 300000) + 4) := hr.2.mono (by omega)
  go_wp2_with fail
  refine (qunew_b H2.out.tx hfs hbud (by omega) (Fr.refl _ _)).mono ?_
  rintro e w4 ⟨x, er, s4, q4, dx, dx', rfl, f4, bu4, F4, hw4, hm4⟩
  have H4 := Lib.hid (H2.out.step0 hw4 hm4)
  have hv4 := Lib.hid (hv2.fr hm4 (hno2.out 0))
  have hz4 := hm4.size
  have hno4 : Hid (∀ i k, own (.slice A2 s.W.length c2) k → ¬ upd X 0 F4 i k) := Lib.hid fun i k hk hx => by
    by_cases e : i = 0
    · subst e; rw [upd_eq] at hx; exact (hm4.new k hx).elim (hno2.out 0 k hk) fun h => by have := hv2.lt k hk; omega
    · rw [upd_ne _ _ e] at hx; exact hno2.out i k hk hx
  clear hm4 hw4 hv2 hno2 H2 x0 x1 x2 z2 t0 b0 hl3 hX1
  obtain ⟨A5, cp5, b4, v4, hv4e, hcp5, x0, x1, x2, z2, t0, b0, hl4⟩ := H4.out.cells
  obtain ⟨rfl, rfl⟩ : A = A5 ∧ cp = cp5 := by simpa using hv4e
  clear hv4e
  have HL4 := Lib.hid hl4
  clear hl4
  rcases hlaw with ⟨s', r', a1, a2, a3, a4, a5, a6⟩ | ⟨p, s', r', back', a1, a2, a3, a4, a5, a6, a7, a8, a9⟩
  · obtain ⟨rfl, rfl, rfl⟩ : 0 = x ∧ 9 = er ∧ s' = s4 := by have := a1.symm.trans q4.out; simpa using this
    have Q2 := Lib.hid a2
    have A5 := Lib.hid a5
    have A6 := Lib.hid a6
    have HI : Hid (Qi s'.W r'.W c qs back) := Lib.hid (by rw [a5, a6]; exact hi)
    clear a1 a2 a5 a6 q4 hi
    go_wp2_with fail
    refine (refnew_no H4.out.wl hfr hbudr Q2).mono ?_
    rintro e w6 ⟨F6, rfl, ⟨f6, bu6, hw6⟩, hm6⟩
    have H6 := Lib.hid (H4.out.step1 hw6 hm6)
    have hv6 := Lib.hid (hv4.out.fr hm6 (hno4.out 1)).lies
    clear hm6 hw6 H4 hv4 HL4 x0 x1 x2 z2 t0 b0
    obtain ⟨A6, cp6, b6, v6, hv6e, hcp6, x0, x1, x2, z2, t0, b0, hl6⟩ := H6.out.cells
    rw [A5.out] at hl6
    have HL6 := Lib.hid hl6
    clear hl6 hv6e
    go_wp2_with (first | (go_at_call 14; refine (num_b _ _).mono ?_; rintro e _ ⟨rfl, rfl⟩) | (go_at_call 8; go_must (refine (same_b hv6.out HL6.out (by omega)).mono ?_; rintro e _ ⟨rfl, n7, rfl⟩)))
    go_ret
    exact ⟨rfl, _, ps, _, s', r', qs, back, H6.out.drewN n7, f4, f6, a3.mono (by omega), a4.mono (by omega), HI.out, by omega, by rw [A5.out]; exact hlw⟩
  · obtain ⟨rfl, rfl, rfl⟩ : p = x ∧ 0 = er ∧ s' = s4 := by have := a1.symm.trans q4.out; simpa using this
    have Q2 := Lib.hid a2
    have HI := Lib.hid a9
    have A7 := Lib.hid a7
    clear a1 a2 a5 a6 a7 a8 a9 q4 hi hv4 hno4 HL4
    go_wp2_with fail
    refine (refnew_yes H4.out.wl hfr hbudr Q2).mono ?_
    rintro e w6 ⟨g, F6, rfl, dp, dp', ⟨f6, bu6, hw6⟩, hq6, hg6, hgF6, hm6⟩
    have H6 := Lib.hid (H4.out.step1 hw6 hm6)
    have hgX : Hid (∀ i, ¬ upd (upd X 0 F4) 1 F6 i g) := Lib.hid fun i hx => by
      by_cases e : i = 1
      · subst e; rw [upd_eq] at hx; exact hgF6 hx
      · rw [upd_ne _ _ e] at hx; have := H4.out.fam.lt i g hx; omega
    have hgB : B ≤ g := Nat.le_trans H4.out.fam.base hg6
    clear hm6 hw6 H4 x0 x1 x2 z2 t0 b0
    obtain ⟨A6, cp6, b6, v6, hv6e, hcp6, x0, x1, x2, z2, t0, b0, hl6⟩ := (H6.out.alloc (.cells #[.pointer (some ⟨g, 0, none⟩)] 43)).cells
    obtain ⟨rfl, rfl⟩ : A = A6 ∧ cp = cp6 := by simpa using hv6e
    clear hl6 hv6e
    obtain ⟨A7, cp7, b7, v7, hv7e, hcp7, y0, y1, y2, y3, y4, y5, hl7⟩ := H6.out.cells
    obtain ⟨rfl, rfl⟩ : A = A7 ∧ cp = cp7 := by simpa using hv7e
    clear hl7 hv7e y3 y4 y5
    obtain ⟨i0, hi0, hz0, hz1, hz3⟩ := info_parts pq_info
    have hrow6 := Lib.hid (H6.out.row.alloc (.cells #[.pointer (some ⟨g, 0, none⟩)] 43))
    have hxv : Hid (some xb ≠ (Value.slice A qs.length cp).ownBlock) := Lib.hid fun e => H6.out.row.ne_ H6.out.blk (by decide) e.symm
    have hbnd : Hid ((qs.length + 1) * 8 ≤ 140737488355328) := Lib.hid (by omega)
    have hbnd2 : Hid (qs.length + 1 ≤ maxLen) := Lib.hid (by unfold maxLen; omega)
    go_upto_region 9 with (first | (go_at_call 14; refine (num_b _ _).mono ?_; rintro e _ ⟨rfl, rfl⟩) | (at_builtin; go_must (refine wpList_app _ rfl (.tmp 95) (.tmp 97) 29 rfl 43 i0 (.pointer none) 1 8 Try.underlying29 hi0 hz0 hz1 hz3 rfl (by decide) 0 (.slice A qs.length cp) qs.length (ptrs ps qs.length) rfl hrow6.out _ 1 [.pointer (some ⟨g, 0, none⟩)] rfl (Src.lit w6 (vs := [.pointer (some ⟨g, 0, none⟩)]) rfl (by simp [Value.oneCell']) 1) hbnd2.out hbnd.out (Nat.zero_le _) ?_; intro v8 w8 hrow8 hgr8 hown8; obtain ⟨A8, c8, rfl, hc8, _⟩ := hrow8.shape; have hB8 := (H6.out.blk.alloc (.cells #[.pointer (some ⟨g, 0, none⟩)] 43)).grown hgr8 hxv.out; have z8 := hB8.frozen 2; have y8 := hB8.cell 2; simp at y8)))
    obtain ⟨X9, H9⟩ := (H6.out.alloc (.cells #[.pointer (some ⟨g, 0, none⟩)] 43)).add (hq6.alloc _) hgB hgX.out hrow8 (Fr.app hgr8 hown8)
    have hq9 := H9.q qs.length ⟨p, [], []⟩ (by simp)
    simp only [if_true] at hq9
    obtain ⟨_, _, _, _, k9, _⟩ := hq9.cells
    have H9' := Lib.hid H9
    clear H9 hq9 hB8 hrow8 hgr8 hown8 H6 hq6 hrow6
    go_wp2
    go_ret
    exact ⟨ret_bool (by simp), _, _, _, s', r', qs ++ [⟨p, [], []⟩], back', H9'.out, f4, f6, a3.mono (by omega), a4.mono (by omega), HI.out, by simp; omega, by rw [A7.out]; exact hlw⟩
end Go.Proofs.Ytfbbmnlebibplaa
