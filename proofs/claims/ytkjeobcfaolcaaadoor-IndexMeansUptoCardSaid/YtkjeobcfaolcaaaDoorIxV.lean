/- slices.Index and slices.Delete of one, of a list of words, by contract. -/
import Derived.Test.YtkjeobcfaolcaaaDoorIxO
import Derived.Test.YtkjeobcfaolcaaaDoorIxRK
import Derived.Test.YtkjeobcfaolcaaaDoorMix
import Derived.Lib.SliceRun
namespace Go.Proofs.YtkjeobcfaolcaaaDoor
open Go.RowKit
set_option maxHeartbeats 4000000
set_option linter.unusedVariables false
set_option linter.unusedSimpArgs false

theorem erase_filter {l : List Int} (h : l.Nodup) {i : Nat} (hi : i < l.length) : l.eraseIdx i = l.filter (· != l[i]) := by
  induction l generalizing i with
  | nil => simp at hi
  | cons x l ih =>
    rw [List.nodup_cons] at h
    cases i with
    | zero =>
      simp only [List.eraseIdx_cons_zero, List.getElem_cons_zero]
      rw [List.filter_cons_of_neg (by simp)]
      symm
      rw [List.filter_eq_self]
      intro y hy
      have : y ≠ x := by rintro rfl; exact h.1 hy
      simpa using this
    | succ i =>
      have hil : i < l.length := by simpa using hi
      simp only [List.eraseIdx_cons_succ, List.getElem_cons_succ]
      have : x ≠ l[i] := by intro e; exact h.1 (by rw [e]; exact List.getElem_mem hil)
      rw [List.filter_cons_of_pos (by simpa using this), ih h.2 hil]
set_option maxRecDepth 100000 in
theorem idx_b {A : Option Addr} {cp i : Nat} {l : List Int} {key : Int} {w : World} (hv : Wl w (.slice A l.length cp) l) (hi : i < l.length) (hk : l[i] = key) (hn : ∀ j (hj : j < i), l[j]'(by omega) ≠ key) (hlen : l.length * 8 ≤ 140737488355328) :
    Calls Tryd.prog 51 #[.slice A l.length cp, .int .u64 key] w fun e w' => e = .returned (.int .i64 (i : Int)) ∧ w = w' := by
  obtain ⟨g, off, rfl, hc⟩ := hv.cell hi
  have hc := Lib.hid hc
  have hn := Lib.hid hn
  clear hv
  go_enter Tryd.func51, Tryd.ntmps51
  go_wp2
  go_loopw [8] (fun p wr => ∃ m : Nat, m ≤ i ∧ p = .int .i64 m ∧ Hid (wr = w)) (fun p _ => l.length - (intOf p).toNat)
  case atStart => exact ⟨0, by omega, rfl, Lib.hid rfl⟩
  case round =>
    obtain ⟨m, hm, rfl, hw⟩ := hrel
    have hml : m < l.length := by omega
    have hcm := hc.out m hml
    rw [← hw.out] at hcm
    by_cases hmi : m = i
    · subst hmi
      rw [hk] at hcm
      go_wp2
      go_ret
      exact ⟨rfl, hw.out.symm⟩
    · have hne := hn.out m (by omega)
      generalize l[m] = x at *
      have hne : (key == x) = false := by simpa using fun e => hne e.symm
      go_wp2
      go_roundw
      case rel => exact ⟨m + 1, by omega, by simp, hw⟩
      case measure => simp [intOf]; omega
theorem first_at {l : List Int} {key : Int} (h : key ∈ l) : ∃ i, ∃ (hi : i < l.length), l[i] = key ∧ ∀ j (hj : j < i), l[j]'(by omega) ≠ key := by
  induction l with
  | nil => cases h
  | cons x l ih =>
    by_cases e : x = key
    · exact ⟨0, by simp, by simpa using e, fun j hj => by omega⟩
    · have hm : key ∈ l := by
        rcases List.mem_cons.1 h with h1 | h1
        · exact (e h1.symm).elim
        · exact h1
      obtain ⟨i, hi, hk, hn⟩ := ih hm
      refine ⟨i + 1, by simpa using hi, by simpa using hk, fun j hj => ?_⟩
      cases j with
      | zero => simpa using e
      | succ j => simpa using hn j (by omega)
theorem u64_zero (w : World) : (zeroValue 22).run Tryd.prog w = .ok (.int .u64 0) w := by kernel_rfl
/-- what lies in the block when one word is out -/
theorem del_cells {cur : Array Value} {off i : Nat} {l : List Int} (hi : i < l.length) (hsz : off + l.length ≤ cur.size) (htk : (cur.toList.drop off).take (l.length * 1) = u64s l) :
    ((setAll (setAll cur (off + i) (u64s (l.drop (i + 1)))) (off + (l.length - 1)) [.int .u64 0]).toList.drop off).take ((l.length - 1) * 1) = u64s (l.eraseIdx i) := by
  have hcur : ∀ j (hj : j < l.length), cur[off + j]? = some (.int .u64 (l[j])) := fun j hj => by
    have h1 := congrArg (fun q => q[j]?) htk
    simp only [Nat.mul_one, List.getElem?_take, if_pos hj, List.getElem?_drop, Array.getElem?_toList] at h1
    rw [h1]
    simp [u64s, hj]
  apply List.ext_getElem?
  intro j
  rw [Nat.mul_one, List.getElem?_take]
  by_cases hj : j < l.length - 1
  · rw [if_pos hj, List.getElem?_drop, Array.getElem?_toList, setAll_get, if_neg (by simp; omega), setAll_get]
    have hlen : (l.eraseIdx i).length = l.length - 1 := by rw [List.length_eraseIdx, if_pos hi]
    have hr : (u64s (l.eraseIdx i))[j]? = some (.int .u64 ((l.eraseIdx i)[j]'(by omega))) := by
      unfold u64s
      rw [List.getElem?_map, List.getElem?_eq_getElem (by omega)]
      rfl
    rw [hr, List.getElem_eraseIdx]
    by_cases hji : j < i
    · rw [if_neg (by omega), hcur j (by omega), dif_pos hji]
    · rw [if_pos (by simp [u64s]; omega), dif_neg hji]
      unfold u64s
      rw [List.getElem?_map, List.getElem?_drop, show i + 1 + (off + j - (off + i)) = j + 1 by omega, List.getElem?_eq_getElem (by omega)]
      rfl
  · rw [if_neg hj, List.getElem?_eq_none]
    unfold u64s
    rw [List.length_map, List.length_eraseIdx, if_pos hi]
    omega
set_option maxRecDepth 100000 in
theorem del_b {g off cp i : Nat} {l : List Int} {w : World} (hv : Wl w (.slice (some ⟨g, off, none⟩) l.length cp) l) (hi : i < l.length) (hlen : l.length * 8 ≤ 140737488355328) :
    Calls Tryd.prog 52 #[.slice (some ⟨g, off, none⟩) l.length cp, .int .i64 (i : Int), .int .i64 ((i : Int) + 1)] w fun e w' => e = .returned (.slice (some ⟨g, off, none⟩) (l.length - 1) cp) ∧
      Wl w' (.slice (some ⟨g, off, none⟩) (l.length - 1) cp) (l.eraseIdx i) ∧ Fr (fun k => k = g) w (fun k => k = g) w' := by
  obtain ⟨h0, (⟨h1, _⟩ | ⟨g', off', cap', cur, h1, h2, h3, h4, h5, h6, h7⟩)⟩ := hv
  · cases h1
  · simp only [Value.slice.injEq, Option.some.injEq, Addr.mk.injEq, and_true, true_and] at h1
    obtain ⟨⟨rfl, rfl⟩, rfl⟩ := h1
    have hcl := del_cells hi (by omega) h7
    have hcell : ∀ j (hj : j < l.length), w.cell? ⟨g, off + j, none⟩ = some (.int .u64 (l[j])) := fun j hj => by
      have h1 := congrArg (fun q => q[j]?) h7
      simp only [Nat.mul_one, List.getElem?_take, if_pos hj, List.getElem?_drop, Array.getElem?_toList] at h1
      have : w.cell? ⟨g, off + j, none⟩ = cur[off + j]? := by simp [World.cell?, h3]
      rw [this, h1]
      simp [u64s, hj]
    obtain ⟨Ad, hA, hsrc⟩ : ∃ Ad : Addr, (if cp = i + 1 then some (⟨g, off, none⟩ : Addr) else some ⟨g, off + (i + 1), none⟩) = some Ad ∧ Hid (∀ t u, (u64s (l.drop (i + 1)))[t]? = some u → w.cell? (Ad.add t) = some u) := by
      by_cases h : cp = i + 1
      · refine ⟨⟨g, off, none⟩, by simp [h], fun t u hu => ?_⟩
        have h0 : (l.drop (i + 1)) = [] := List.drop_eq_nil_of_le (by omega)
        rw [h0] at hu
        simp [u64s] at hu
      · refine ⟨⟨g, off + (i + 1), none⟩, by simp [h], fun t u hu => ?_⟩
        unfold u64s at hu
        rw [List.getElem?_map, List.getElem?_drop] at hu
        by_cases ht : i + 1 + t < l.length
        · rw [List.getElem?_eq_getElem ht] at hu
          rw [Addr.add_lit, show off + (i + 1) + t = off + (i + 1 + t) by omega, hcell _ ht]
          exact hu
        · rw [List.getElem?_eq_none (by omega)] at hu; cases hu
    have s0 : Hid (∀ j u, (u64s (l.take i))[j]? = some u → w.cell? ⟨g, off + j, none⟩ = some u) := Lib.hid fun j u hu => by
      unfold u64s at hu
      rw [List.getElem?_map, List.getElem?_take] at hu
      by_cases hj : j < i
      · rw [if_pos hj, List.getElem?_eq_getElem (by omega)] at hu
        rw [hcell _ (by omega)]
        exact hu
      · rw [if_neg hj] at hu; cases hu
    have s1 : Hid ((u64s (l.drop (i + 1))).length = (l.length - (i + 1)) * 1) := Lib.hid (by simp [u64s])
    have s2 := Lib.hid (u64s_one (l.drop (i + 1)))
    have s3 : Hid (∀ t, t < (u64s (l.drop (i + 1))).length → (w.cell? ⟨g, off + i * 1 + t, none⟩).isSome = true ∧ w.frozen? ⟨g, off + i * 1 + t, none⟩ = false) := Lib.hid fun t ht => by
      simp [u64s] at ht
      rw [Nat.mul_one, show off + i + t = off + (i + t) by omega, hcell _ (by omega)]
      exact ⟨rfl, by simp [World.frozen?, h3]⟩
    have s4 : Hid ((u64s (l.take i)).length = i * 1) := Lib.hid (by simp [u64s]; omega)
    have hcl := Lib.hid hcl
    have h3 := Lib.hid h3
    have h7 := Lib.hid h7
    have hic : i ≤ cp := by omega
    have hjc : i + 1 ≤ cp := by omega
    have hjl : i + 1 ≤ l.length := by omega
    have hii : ((i : Int) + 1) = ((i + 1 : Nat) : Int) := by omega
    have hm5 : cp ≤ 9223372036854775807 := h5
    rw [hii]
    generalize hj1 : i + 1 = j1 at *
    have hij : (i == j1) = false := by simp; omega
    clear hcell h0 h2 hii
    obtain ⟨i0, hi0, hz0, hz1, hz2⟩ := info_parts u64_info
    have hi0 := Lib.hid hi0
    have hz0 := Lib.hid hz0
    have hz1 := Lib.hid hz1
    have hz2 := Lib.hid hz2
    go_enter Tryd.func52, Tryd.ntmps52
    go_wp2_with fail
    refine wp_region_mix (fun _ => True) [3, 3, 3, 3, 3, 3, 2, 3] (List.range 8) (by kernel_rfl) (by kernel_rfl) (fun _ _ h => h) trivial ?_
    repeat ((first | refine wpMix_pure rfl rfl (fun K hK => ?_) | refine wpMix_loc rfl rfl (fun K hK => ?_) | refine wpMix_any rfl rfl (fun K hK => ?_)); go_simp; refine hK _ _ ?_; clear hK K)
    refine wpMix_loud rfl rfl (fun n1 K hK => ?_)
    have hml : i + (l.length - j1) = l.length - 1 := by omega
    refine wpList_append_arg _ rfl (.tmp 22) (.tmp 25) 31 rfl 22 i0 (.int .u64 0) 1 8 Tryd.underlying31 hi0.out hz0.out hz1.out hz2.out rfl (by decide) g off i cp (u64s (l.take i)) rfl s4.out s0.out Ad (l.length - j1) (cp - j1) (u64s (l.drop j1)) rfl s1.out hsrc.out s2.out (fun _ => s3.out) (by unfold maxLen; omega) (by omega) (fun hr => ?_) (fun hg => by omega)
    have q := heap_setCells (e := 22) g (u64s (l.drop j1)) (off + i * 1) (w.drew.drewN n1) cur h3.out
    obtain ⟨W1, hW1⟩ : ∃ u, Hid (u = (w.drew.drewN n1).setCells g (off + i * 1) (u64s (l.drop j1))) := ⟨_, Lib.hid rfl⟩
    rw [← hW1.out] at q ⊢
    obtain ⟨q1, q2, q3, q4, q5, q6⟩ := q
    rw [Nat.mul_one] at q1
    have Q1 : Hid (Blk W1 g 22 (setAll cur (off + i) (u64s (l.drop j1)))) := Lib.hid q1
    have N1 : Hid (Fr (fun k => k = g) w (fun k => k = g) W1) := Lib.hid ⟨q4, q5, q6, by rw [q3]; exact Nat.le_refl _, fun k hk hn => q2 k hn, fun k hk => .inl hk⟩
    have hz := Q1.out.frozen (off + (l.length - 1))
    have hcz : W1.cell? ⟨g, off + (l.length - 1), none⟩ = (setAll cur (off + i) (u64s (l.drop j1)))[off + (l.length - 1)]? := Q1.out.cell _
    have hszz : (setAll cur (off + i) (u64s (l.drop j1))).size = cur.size := setAll_size _ _ _
    have hcc : (W1.cell? ⟨g, off + (l.length - 1), none⟩).isSome = true := by
      rw [hcz, Array.getElem?_eq_getElem (by rw [hszz]; omega)]
      rfl
    have hone : l.length - (l.length - 1) = 1 := by omega
    have hclr : Hid (∀ nn ty cc, (Builtin.clear_ #[31] ty #[.slice (some ⟨g, off + (l.length - 1), none⟩) 1 cc]).run Tryd.prog (W1.drewN nn) = .ok (.tuple #[]) ((W1.drewN nn).setCells g (off + (l.length - 1)) [.int .u64 0])) := Lib.hid fun nn ty cc =>
      Lib.run_clear_slice (W1.drewN nn) _ _ ty _ Tryd.underlying31 u64_zero rfl rfl g (off + (l.length - 1)) 1 cc (by omega) (fun t ht => by rw [show t = 0 by omega]; exact hcc) (fun t ht => by rw [show t = 0 by omega]; exact hz)
    rw [hml]
    have hlc : l.length - 1 ≤ cp := by omega
    have hlq : (cp = l.length - 1) = False := by simp; omega
    have hl1 : ((l.length - 1 : Nat) : Int) ≤ 9223372036854775807 := by omega
    clear q1 q2 q3 q4 q5 q6 hcz hcc hz hA s0 s1 s2 s3 s4 hsrc hi0 hz0 hz1 hz2 h3 hr
    have hclr2 := hclr.out
    refine hK _ _ (fun _ => trivial) ?_; clear hK K
    repeat ((first | refine wpMix_pure rfl rfl (fun K hK => ?_) | refine wpMix_loc rfl rfl (fun K hK => ?_) | refine wpMix_any rfl rfl (fun K hK => ?_)); go_simp; refine hK _ _ ?_; clear hK K)
    refine wpMix_nil (fun n2 => ?_)
    go_wp2
    obtain ⟨q1, q2, q3, q4, q5, q6⟩ := heap_setCells (e := 22) g [.int .u64 0] (off + (l.length - 1)) (W1.drewN n2) _ Q1.out
    have hN : Fr (fun k => k = g) w (fun k => k = g) ((W1.drewN n2).setCells g (off + (l.length - 1)) [.int .u64 0]) :=
      (N1.out.drewN n2).trans ⟨q4, q5, q6, by rw [q3]; exact Nat.le_refl _, fun k hk hn => q2 k hn, fun k hk => .inl hk⟩
    have hW : Wl ((W1.drewN n2).setCells g (off + (l.length - 1)) [.int .u64 0]) (.slice (some ⟨g, off, none⟩) (l.length - 1) cp) (l.eraseIdx i) := by
      have hle : (l.eraseIdx i).length = l.length - 1 := by rw [List.length_eraseIdx, if_pos hi]
      unfold Wl
      rw [hle]
      exact ⟨by rw [u64s, List.length_map, hle, Nat.mul_one], .inr ⟨g, off, cp, _, rfl, Nat.zero_le _, q1, hlc, h5, by rw [setAll_size, setAll_size]; exact h6, hcl.out⟩⟩
    have hN := Lib.hid hN
    have hW := Lib.hid hW
    clear q1 q2 q3 q4 q5 q6
    go_ret
    exact ⟨rfl, hW.out, hN.out⟩
end Go.Proofs.YtkjeobcfaolcaaaDoor
