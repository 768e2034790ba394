/- slices.Index and slices.Delete of one, of a list of words, by contract. -/
import Derived.Lib.SliceRun
import Derived.Test.YtfhpnlaabgkpjaaDoorPLg3
import Derived.Test.YtfhpnlaabgkpjaaDoorPLg7
import Derived.Test.YtfhpnlaabgkpjaaDoorPLg9
namespace Go.Proofs.YtfhpnlaabgkpjaaDoor
open Go.RowKit
set_option maxHeartbeats 4000000
set_option linter.unusedVariables false
set_option linter.unusedSimpArgs false

theorem erase_filter {l : List Int} (h : l.Nodup) {i : Nat} (hi : i < l.length) : l.eraseIdx i = l.filter (· != l[i]) := by
  induction l generalizing i with
  | nil => simp at hi
  | cons x l ih =>
    rw [List.nodup_cons] at h
    cases i with
    | zero =>
      simp only [List.eraseIdx_cons_zero, List.getElem_cons_zero]
      rw [List.filter_cons_of_neg (by simp)]
      symm
      rw [List.filter_eq_self]
      intro y hy
      have : y ≠ x := by rintro rfl; exact h.1 hy
      simpa using this
    | succ i =>
      have hil : i < l.length := by simpa using hi
      simp only [List.eraseIdx_cons_succ, List.getElem_cons_succ]
      have : x ≠ l[i] := by intro e; exact h.1 (by rw [e]; exact List.getElem_mem hil)
      rw [List.filter_cons_of_pos (by simpa using this), ih h.2 hil]
set_option maxRecDepth 100000 in
theorem idx_b {A : Option Addr} {cp i : Nat} {l : List Int} {key : Int} {w : World} (hv : Wl w (.slice A l.length cp) l) (hi : i < l.length) (hk : l[i] = key) (hn : ∀ j (hj : j < i), l[j]'(by omega) ≠ key) (hlen : l.length * 8 ≤ 140737488355328) :
    Calls Tryd.prog 58 #[.slice A l.length cp, .int .u64 key] w fun e w' => e = .returned (.int .i64 (i : Int)) ∧ w = w' := by
  obtain ⟨g, off, rfl, hc⟩ := hv.cell hi
  have hc := Lib.hid hc
  have hn := Lib.hid hn
  clear hv
  go_enter Tryd.func58, Tryd.ntmps58
  go_wp2
  go_loopw [8] (fun p wr => ∃ m : Nat, m ≤ i ∧ p = .int .i64 m ∧ Hid (wr = w)) (fun p _ => l.length - (intOf p).toNat)
  case atStart => exact ⟨0, by omega, rfl, Lib.hid rfl⟩
  case round =>
    obtain ⟨m, hm, rfl, hw⟩ := hrel
    have hml : m < l.length := by omega
    have hcm := hc.out m hml
    rw [← hw.out] at hcm
    by_cases hmi : m = i
    · subst hmi
      rw [hk] at hcm
      go_wp2
      go_ret
      exact ⟨rfl, hw.out.symm⟩
    · have hne := hn.out m (by omega)
      generalize l[m] = x at *
      have hne : (key == x) = false := by simpa using fun e => hne e.symm
      go_wp2
      go_roundw
      case rel => exact ⟨m + 1, by omega, by simp, hw⟩
      case measure => simp [intOf]; omega
theorem first_at {l : List Int} {key : Int} (h : key ∈ l) : ∃ i, ∃ (hi : i < l.length), l[i] = key ∧ ∀ j (hj : j < i), l[j]'(by omega) ≠ key := by
  induction l with
  | nil => cases h
  | cons x l ih =>
    by_cases e : x = key
    · exact ⟨0, by simp, by simpa using e, fun j hj => by omega⟩
    · have hm : key ∈ l := by
        rcases List.mem_cons.1 h with h1 | h1
        · exact (e h1.symm).elim
        · exact h1
      obtain ⟨i, hi, hk, hn⟩ := ih hm
      refine ⟨i + 1, by simpa using hi, by simpa using hk, fun j hj => ?_⟩
      cases j with
      | zero => simpa using e
      | succ j => simpa using hn j (by omega)
theorem u64_zero (w : World) : (zeroValue 38).run Tryd.prog w = .ok (.int .u64 0) w := by kernel_rfl
/-- what lies in the block when one word is out -/
theorem del_cells {cur : Array Value} {off i : Nat} {l : List Int} (hi : i < l.length) (hsz : off + l.length ≤ cur.size) (htk : (cur.toList.drop off).take (l.length * 1) = u64s l) :
    ((setAll (setAll cur (off + i) (u64s (l.drop (i + 1)))) (off + (l.length - 1)) [.int .u64 0]).toList.drop off).take ((l.length - 1) * 1) = u64s (l.eraseIdx i) := by
  have hcur : ∀ j (hj : j < l.length), cur[off + j]? = some (.int .u64 (l[j])) := fun j hj => by
    have h1 := congrArg (fun q => q[j]?) htk
    simp only [Nat.mul_one, List.getElem?_take, if_pos hj, List.getElem?_drop, Array.getElem?_toList] at h1
    rw [h1]
    simp [u64s, hj]
  apply List.ext_getElem?
  intro j
  rw [Nat.mul_one, List.getElem?_take]
  by_cases hj : j < l.length - 1
  · rw [if_pos hj, List.getElem?_drop, Array.getElem?_toList, setAll_get, if_neg (by simp; omega), setAll_get]
    have hlen : (l.eraseIdx i).length = l.length - 1 := by rw [List.length_eraseIdx, if_pos hi]
    have hr : (u64s (l.eraseIdx i))[j]? = some (.int .u64 ((l.eraseIdx i)[j]'(by omega))) := by
      unfold u64s
      rw [List.getElem?_map, List.getElem?_eq_getElem (by omega)]
      rfl
    rw [hr, List.getElem_eraseIdx]
    by_cases hji : j < i
    · rw [if_neg (by omega), hcur j (by omega), dif_pos hji]
    · rw [if_pos (by simp [u64s]; omega), dif_neg hji]
      unfold u64s
      rw [List.getElem?_map, List.getElem?_drop, show i + 1 + (off + j - (off + i)) = j + 1 by omega, List.getElem?_eq_getElem (by omega)]
      rfl
  · rw [if_neg hj, List.getElem?_eq_none]
    unfold u64s
    rw [List.length_map, List.length_eraseIdx, if_pos hi]
    omega
set_option maxRecDepth 100000 in
theorem del_b {g off cp i : Nat} {l : List Int} {w : World} (hv : Wl w (.slice (some ⟨g, off, none⟩) l.length cp) l) (hi : i < l.length) (hlen : l.length * 8 ≤ 140737488355328) :
    Calls Tryd.prog 59 #[.slice (some ⟨g, off, none⟩) l.length cp, .int .i64 (i : Int), .int .i64 ((i : Int) + 1)] w fun e w' => e = .returned (.slice (some ⟨g, off, none⟩) (l.length - 1) cp) ∧
      Wl w' (.slice (some ⟨g, off, none⟩) (l.length - 1) cp) (l.eraseIdx i) ∧ Fr (fun k => k = g) w (fun k => k = g) w' := by
  obtain ⟨h0, (⟨h1, _⟩ | ⟨g', off', cap', cur, h1, h2, h3, h4, h5, h6, h7⟩)⟩ := hv
  · cases h1
  · simp only [Value.slice.injEq, Option.some.injEq, Addr.mk.injEq, and_true, true_and] at h1
    obtain ⟨⟨rfl, rfl⟩, rfl⟩ := h1
    have hcl := del_cells hi (by omega) h7
    have hcell : ∀ j (hj : j < l.length), w.cell? ⟨g, off + j, none⟩ = some (.int .u64 (l[j])) := fun j hj => by
      have h1 := congrArg (fun q => q[j]?) h7
      simp only [Nat.mul_one, List.getElem?_take, if_pos hj, List.getElem?_drop, Array.getElem?_toList] at h1
      have : w.cell? ⟨g, off + j, none⟩ = cur[off + j]? := by simp [World.cell?, h3]
      rw [this, h1]
      simp [u64s, hj]
    obtain ⟨Ad, hA, hsrc⟩ : ∃ Ad : Addr, (if cp = i + 1 then some (⟨g, off, none⟩ : Addr) else some ⟨g, off + (i + 1), none⟩) = some Ad ∧ Hid (∀ t u, (u64s (l.drop (i + 1)))[t]? = some u → w.cell? (Ad.add t) = some u) := by
      by_cases h : cp = i + 1
      · refine ⟨⟨g, off, none⟩, by simp [h], fun t u hu => ?_⟩
        have h0 : (l.drop (i + 1)) = [] := List.drop_eq_nil_of_le (by omega)
        rw [h0] at hu
        simp [u64s] at hu
      · refine ⟨⟨g, off + (i + 1), none⟩, by simp [h], fun t u hu => ?_⟩
        unfold u64s at hu
        rw [List.getElem?_map, List.getElem?_drop] at hu
        by_cases ht : i + 1 + t < l.length
        · rw [List.getElem?_eq_getElem ht] at hu
          rw [Addr.add_lit, show off + (i + 1) + t = off + (i + 1 + t) by omega, hcell _ ht]
          exact hu
        · rw [List.getElem?_eq_none (by omega)] at hu; cases hu
    have s0 : Hid (∀ j u, (u64s (l.take i))[j]? = some u → w.cell? ⟨g, off + j, none⟩ = some u) := Lib.hid fun j u hu => by
      unfold u64s at hu
      rw [List.getElem?_map, List.getElem?_take] at hu
      by_cases hj : j < i
      · rw [if_pos hj, List.getElem?_eq_getElem (by omega)] at hu
        rw [hcell _ (by omega)]
        exact hu
      · rw [if_neg hj] at hu; cases hu
    have s1 : Hid ((u64s (l.drop (i + 1))).length = (l.length - (i + 1)) * 1) := Lib.hid (by simp [u64s])
    have s2 := Lib.hid (u64s_one (l.drop (i + 1)))
    have s3 : Hid (∀ t, t < (u64s (l.drop (i + 1))).length → (w.cell? ⟨g, off + i * 1 + t, none⟩).isSome = true ∧ w.frozen? ⟨g, off + i * 1 + t, none⟩ = false) := Lib.hid fun t ht => by
      simp [u64s] at ht
      rw [Nat.mul_one, show off + i + t = off + (i + t) by omega, hcell _ (by omega)]
      exact ⟨rfl, by simp [World.frozen?, h3]⟩
    have s4 : Hid ((u64s (l.take i)).length = i * 1) := Lib.hid (by simp [u64s]; omega)
    have hcl := Lib.hid hcl
    have h3 := Lib.hid h3
    have h7 := Lib.hid h7
    have hic : i ≤ cp := by omega
    have hjc : i + 1 ≤ cp := by omega
    have hjl : i + 1 ≤ l.length := by omega
    have hii : ((i : Int) + 1) = ((i + 1 : Nat) : Int) := by omega
    have hm5 : cp ≤ 9223372036854775807 := h5
    rw [hii]
    generalize hj1 : i + 1 = j1 at *
    have hij : (i == j1) = false := by simp; omega
    clear hcell h0 h2 hii
    obtain ⟨i0, hi0, hz0, hz1, hz2⟩ := info_parts u64_info
    have hi0 := Lib.hid hi0
    have hz0 := Lib.hid hz0
    have hz1 := Lib.hid hz1
    have hz2 := Lib.hid hz2
    go_enter Tryd.func59, Tryd.ntmps59
    go_wp2_with fail
    refine wp_region_mix (fun _ => True) [3, 3, 3, 3, 3, 3, 2, 3] (List.range 8) (by kernel_rfl) (by kernel_rfl) (fun _ _ h => h) trivial ?_
    repeat ((first | refine wpMix_pure rfl rfl (fun K hK => ?_) | refine wpMix_loc rfl rfl (fun K hK => ?_) | refine wpMix_any rfl rfl (fun K hK => ?_)); go_simp; refine hK _ _ ?_; clear hK K)
    refine wpMix_loud rfl rfl (fun n1 K hK => ?_)
    have hml : i + (l.length - j1) = l.length - 1 := by omega
    refine wpList_append_arg _ rfl (.tmp 22) (.tmp 25) 39 rfl 38 i0 (.int .u64 0) 1 8 Tryd.underlying39 hi0.out hz0.out hz1.out hz2.out rfl (by decide) g off i cp (u64s (l.take i)) rfl s4.out s0.out Ad (l.length - j1) (cp - j1) (u64s (l.drop j1)) rfl s1.out hsrc.out s2.out (fun _ => s3.out) (by unfold maxLen; omega) (by omega) (fun hr => ?_) (fun hg => by omega)
    have q := heap_setCells (e := 38) g (u64s (l.drop j1)) (off + i * 1) (w.drew.drewN n1) cur h3.out
    obtain ⟨W1, hW1⟩ : ∃ u, Hid (u = (w.drew.drewN n1).setCells g (off + i * 1) (u64s (l.drop j1))) := ⟨_, Lib.hid rfl⟩
    rw [← hW1.out] at q ⊢
    obtain ⟨q1, q2, q3, q4, q5, q6⟩ := q
    rw [Nat.mul_one] at q1
    have Q1 : Hid (Blk W1 g 38 (setAll cur (off + i) (u64s (l.drop j1)))) := Lib.hid q1
    have N1 : Hid (Fr (fun k => k = g) w (fun k => k = g) W1) := Lib.hid ⟨q4, q5, q6, by rw [q3]; exact Nat.le_refl _, fun k hk hn => q2 k hn, fun k hk => .inl hk⟩
    have hz := Q1.out.frozen (off + (l.length - 1))
    have hcz : W1.cell? ⟨g, off + (l.length - 1), none⟩ = (setAll cur (off + i) (u64s (l.drop j1)))[off + (l.length - 1)]? := Q1.out.cell _
    have hszz : (setAll cur (off + i) (u64s (l.drop j1))).size = cur.size := setAll_size _ _ _
    have hcc : (W1.cell? ⟨g, off + (l.length - 1), none⟩).isSome = true := by
      rw [hcz, Array.getElem?_eq_getElem (by rw [hszz]; omega)]
      rfl
    have hone : l.length - (l.length - 1) = 1 := by omega
    have hclr : Hid (∀ nn ty cc, (Builtin.clear_ #[39] ty #[.slice (some ⟨g, off + (l.length - 1), none⟩) 1 cc]).run Tryd.prog (W1.drewN nn) = .ok (.tuple #[]) ((W1.drewN nn).setCells g (off + (l.length - 1)) [.int .u64 0])) := Lib.hid fun nn ty cc =>
      Lib.run_clear_slice (W1.drewN nn) _ _ ty _ Tryd.underlying39 u64_zero rfl rfl g (off + (l.length - 1)) 1 cc (by omega) (fun t ht => by rw [show t = 0 by omega]; exact hcc) (fun t ht => by rw [show t = 0 by omega]; exact hz)
    rw [hml]
    have hlc : l.length - 1 ≤ cp := by omega
    have hlq : (cp = l.length - 1) = False := by simp; omega
    have hl1 : ((l.length - 1 : Nat) : Int) ≤ 9223372036854775807 := by omega
    clear q1 q2 q3 q4 q5 q6 hcz hcc hz hA s0 s1 s2 s3 s4 hsrc hi0 hz0 hz1 hz2 h3 hr
    have hclr2 := hclr.out
    refine hK _ _ (fun _ => trivial) ?_; clear hK K
    repeat ((first | refine wpMix_pure rfl rfl (fun K hK => ?_) | refine wpMix_loc rfl rfl (fun K hK => ?_) | refine wpMix_any rfl rfl (fun K hK => ?_)); go_simp; refine hK _ _ ?_; clear hK K)
    refine wpMix_nil (fun n2 => ?_)
    go_wp2
    obtain ⟨q1, q2, q3, q4, q5, q6⟩ := heap_setCells (e := 38) g [.int .u64 0] (off + (l.length - 1)) (W1.drewN n2) _ Q1.out
    have hN : Fr (fun k => k = g) w (fun k => k = g) ((W1.drewN n2).setCells g (off + (l.length - 1)) [.int .u64 0]) :=
      (N1.out.drewN n2).trans ⟨q4, q5, q6, by rw [q3]; exact Nat.le_refl _, fun k hk hn => q2 k hn, fun k hk => .inl hk⟩
    have hW : Wl ((W1.drewN n2).setCells g (off + (l.length - 1)) [.int .u64 0]) (.slice (some ⟨g, off, none⟩) (l.length - 1) cp) (l.eraseIdx i) := by
      have hle : (l.eraseIdx i).length = l.length - 1 := by rw [List.length_eraseIdx, if_pos hi]
      unfold Wl
      rw [hle]
      exact ⟨by rw [u64s, List.length_map, hle, Nat.mul_one], .inr ⟨g, off, cp, _, rfl, Nat.zero_le _, q1, hlc, h5, by rw [setAll_size, setAll_size]; exact h6, hcl.out⟩⟩
    have hN := Lib.hid hN
    have hW := Lib.hid hW
    clear q1 q2 q3 q4 q5 q6
    go_ret
    exact ⟨rfl, hW.out, hN.out⟩
end Go.Proofs.YtfhpnlaabgkpjaaDoor
/- Take, by contract (a table of int). -/
namespace Go.Proofs.YtfhpnlaabgkpjaaDoor
open Go.RowKit Go.Shelf
set_option maxHeartbeats 8000000
set_option linter.unusedVariables false
set_option linter.unusedSimpArgs false

theorem SltI.put3 {w : World} {g sl : Nat} {U : Nat → Bool} {K : Nat → Int} {X : Nat → Value} (h : SltI w g sl U K X) {j : Nat} (hj : j < sl) (b : Bool) (key : Int) (x : Value) {n : Nat} :
    SltI ((((w.drewN n).setCell ⟨g, j * 3, none⟩ (.bool b)).setCell ⟨g, j * 3 + 1, none⟩ (.int .u64 key)).setCell ⟨g, j * 3 + 2, none⟩ x) g sl (fun i => if i = j then b else U i) (fun i => if i = j then key else K i) (fun i => if i = j then x else X i) := by
  obtain ⟨cs, hb, hc⟩ := h
  refine ⟨_, (((hb.drewN n).set_ (j * 3) (.bool b)).set_ (j * 3 + 1) (.int .u64 key)).set_ (j * 3 + 2) x, fun i hi => ?_⟩
  obtain ⟨c0, c1, c2⟩ := hc i hi
  obtain ⟨j0, j1, j2⟩ := hc j hj
  have s0 := (Array.getElem?_eq_some_iff.1 j0).1
  have s1 := (Array.getElem?_eq_some_iff.1 j1).1
  have s2 := (Array.getElem?_eq_some_iff.1 j2).1
  by_cases e : i = j
  · subst e
    simp [Array.getElem?_setIfInBounds, s0, s1, s2]
  · have a0 : j * 3 ≠ i * 3 := by omega
    have a1 : j * 3 + 1 ≠ i * 3 := by omega
    have a2 : j * 3 + 2 ≠ i * 3 := by omega
    have b0 : j * 3 ≠ i * 3 + 1 := by omega
    have b1 : j * 3 + 1 ≠ i * 3 + 1 := by omega
    have b2 : j * 3 + 2 ≠ i * 3 + 1 := by omega
    have d0 : j * 3 ≠ i * 3 + 2 := by omega
    have d1 : j * 3 + 1 ≠ i * 3 + 2 := by omega
    have d2 : j * 3 + 2 ≠ i * 3 + 2 := by omega
    simp only [Array.getElem?_setIfInBounds, a0, a1, a2, b0, b1, b2, d0, d1, d2, if_false, if_neg e]
    exact ⟨c0, c1, c2⟩
theorem HolI.clear {w : World} {g sl : Nat} {s : St Int} (h : HolI w g sl s) {j : Nat} (hj : j < sl) (z : Int) (n : Nat) :
    HolI ((((w.drewN n).setCell ⟨g, j * 3, none⟩ (.bool false)).setCell ⟨g, j * 3 + 1, none⟩ (.int .u64 0)).setCell ⟨g, j * 3 + 2, none⟩ (Value.int .i64 z)) g sl (s.clear j z) := by
  have := SltI.put3 h hj false 0 (Value.int .i64 z) (n := n)
  rw [updI] at this
  exact this
theorem HolI.frs {F F' : Nat → Prop} {w w' : World} {g sl : Nat} {s : St Int} (h : HolI w g sl s) (hf : Fr F w F' w') (hF : ¬ F g) : HolI w' g sl s := SltI.fr h hf hF
set_option maxRecDepth 100000 in
theorem takeI_no {t g k cz : Nat} {key : Int} {s : St Int} {c1 : Value} {l : List Int} {w : World} (hT : Tab w) (ht : Blk w t 94 #[.slice (some ⟨g, 0, none⟩) (2 ^ k : Nat) cz, c1])
    (hS : HolI w g (2 ^ k) s) (hI : s.Inv k l) (h1 : 1 ≤ k) (h2 : k ≤ 43) (hk : key ∉ l) :
    Calls Tryd.prog 47 #[.pointer (some ⟨t, 0, none⟩), .int .u64 key] w fun e w' => e = .returned (.tuple #[Value.int .i64 (s.X (s.slot k key)), .bool false]) ∧ ∃ n, w' = w.drewN n := by
  obtain ⟨hl0, hj0, _, _, hio⟩ := TInv.look hI (hmk_lt h1 (by omega)) key
  have hu0 : s.U (s.slot k key) = false := by
    rcases hio with ⟨h, _⟩ | ⟨_, h, _⟩
    · exact (hk h).elim
    · exact h
  have G := Lib.hid (getI_b hT ht hS h1 (by omega) (Nat.le_trans (Nat.pow_le_pow_right (by omega) h2) (by decide)) hl0 hj0)
  replace hj0 : s.slot k key < 2 ^ k := hj0
  have G : Hid (Calls Tryd.prog 45 #[.pointer (some ⟨t, 0, none⟩), .int .u64 key] w fun e w' => e = .returned (.tuple #[Value.int .i64 (s.X (s.slot k key)), .bool false]) ∧ ∃ n, w' = w.drewN n) := Lib.hid (by
    have := G.out
    rw [show s.U (slotOf s.U s.K (2 ^ k) (hmk k key) key) = false from hu0] at this
    exact this)
  clear hT ht hS hI hl0 hio hu0 hj0
  generalize s.X (s.slot k key) = x at *
  go_enter Tryd.func47, Tryd.ntmps47
  go_wp2_with fail
  refine G.out.mono ?_
  rintro _ w2 ⟨rfl, n, rfl⟩
  go_wp2
  go_ret2
  exact ⟨rfl, _, rfl⟩
set_option maxRecDepth 100000 in
theorem takeI_yes {t g k cz : Nat} {key : Int} {s : St Int} {A : Option Addr} {cp : Nat} {l : List Int} {w : World} (hT : Tab w) (ht : Blk w t 94 #[.slice (some ⟨g, 0, none⟩) (2 ^ k : Nat) cz, .slice A l.length cp])
    (hS : HolI w g (2 ^ k) s) (hv : Wl w (.slice A l.length cp) l) (hI : s.Inv k l) (h1 : 1 ≤ k) (h2 : k ≤ 43) (hk : key ∈ l) (hlen : l.length * 8 ≤ 140737488355328) :
    Calls Tryd.prog 47 #[.pointer (some ⟨t, 0, none⟩), .int .u64 key] w fun e w' => e = .returned (.tuple #[Value.int .i64 (s.X (s.slot k key)), .bool true]) ∧
      Blk w' t 94 #[.slice (some ⟨g, 0, none⟩) (2 ^ k : Nat) cz, .slice A (l.length - 1) cp] ∧ HolI w' g (2 ^ k) (s.take k 0 key) ∧ Wl w' (.slice A (l.length - 1) cp) (l.filter (· != key)) ∧
        Fr (fun b => b = t ∨ b = g ∨ own (.slice A l.length cp) b) w (fun b => b = t ∨ b = g ∨ own (.slice A l.length cp) b) w' := by
  have hsq : (2 : Nat) ^ k ≤ 2 ^ 43 := Nat.pow_le_pow_right (by omega) h2
  have hn2 : 2 ≤ 2 ^ k := Nat.le_trans (show 2 ≤ 2 ^ 1 by decide) (Nat.pow_le_pow_right (by decide) h1)
  obtain ⟨hl0, hj0, _, _, hio⟩ := TInv.look hI (hmk_lt h1 (by omega)) key
  obtain ⟨hu0, hk0⟩ : s.U (s.slot k key) = true ∧ s.K (s.slot k key) = key := by
    rcases hio with ⟨_, h, h'⟩ | ⟨h, _⟩
    · exact ⟨h, h'⟩
    · exact (h hk).elim
  replace hj0 : s.slot k key < 2 ^ k := hj0
  obtain ⟨en, hen, hue⟩ := TInv.free hI
  have hh0 := Lib.hid (TInv.hole (z := 0) (s := s) hI hj0 hu0 hk0 hn2 hen hue)
  have htk : Hid (s.take k 0 key = St.shift (2 ^ k) (hmk k) 0 (2 ^ k) (s.clear (s.slot k key) 0) (s.slot k key) ((s.slot k key + 1) % 2 ^ k)) := Lib.hid rfl
  have G : Hid (Calls Tryd.prog 45 #[.pointer (some ⟨t, 0, none⟩), .int .u64 key] w fun e w' => e = .returned (.tuple #[Value.int .i64 (s.X (s.slot k key)), .bool true]) ∧ ∃ n, w' = w.drewN n) := Lib.hid (by
    have := getI_b hT ht hS h1 (by omega) (Nat.le_trans hsq (by decide)) hl0 hj0
    rw [show s.U (slotOf s.U s.K (2 ^ k) (hmk k key) key) = true from hu0] at this
    exact this)
  have C : Hid (∀ n, Calls Tryd.prog 54 #[.pointer (some ⟨t, 0, none⟩), .int .u64 key] (w.drewN n) fun e w' => e = .returned (.tuple #[.int .i64 (s.slot k key : Int), .int .i64 (s.asked k key : Int)]) ∧ w.drewN n = w') := Lib.hid fun n =>
    lookI_b (hT.drewNI n) (ht.drewN n) (SltI.at_ (SltI.drewN hS n)) h1 (by omega) (Nat.le_trans hsq (by decide)) hl0
  have HM : Hid (∀ W x, Tab W → Calls Tryd.prog 57 #[.int .u64 x, .int .i64 ((2 ^ k : Nat) : Int)] W fun e w' => e = .returned (.int .i64 (hmk k x : Int)) ∧ W = w') := Lib.hid fun W x hW => by
    have := home_b (key := x) h1 (by omega) hW
    have hb := homeOf_bd x h1 (k := k) (by omega)
    rw [show ((hmk k x : Nat) : Int) = homeOf x k by unfold hmk; omega]
    exact this
  have BN : Hid (∀ i : Nat, i < 2 ^ k → bits .and .i64 ((i : Int) + 1) (((2 ^ k : Nat) : Int) - 1) = (((i + 1) % 2 ^ k : Nat) : Int)) := Lib.hid fun i hi => bit_next (k := k) (i := i) (Nat.le_trans h2 (by decide)) hi
  have BD : Hid (∀ f h : Nat, f < 2 ^ k → h < 2 ^ k → bits .and .i64 ((f : Int) - (h : Int)) (((2 ^ k : Nat) : Int) - 1) = (dst (2 ^ k) h f : Int)) := Lib.hid fun f h a b => bit_dst (k := k) (f := f) (h := h) (Nat.le_trans h2 (by decide)) a b
  have HB : Hid (∀ x, hmk k x < 2 ^ k) := Lib.hid (hmk_lt h1 (by omega))
  obtain ⟨ix, hix, hixk, hixn⟩ : ∃ i, ∃ (hi : i < l.length), l[i] = key ∧ ∀ j (hj : j < i), l[j]'(by omega) ≠ key := first_at hk
  have hef : Hid (l.eraseIdx ix = l.filter (· != key)) := Lib.hid (by rw [erase_filter hI.nodup hix, hixk])
  have hdl : Hid (dst (2 ^ k) ((s.slot k key + 1) % 2 ^ k) en < 2 ^ k) := Lib.hid (dst_lt (Nat.mod_lt _ (by omega)) hen)
  have T0 := Lib.hid hT
  have B0 := Lib.hid ht
  have S0 := Lib.hid hS
  have V0 := Lib.hid hv
  have hgt : t ≠ g := by obtain ⟨cs, hb, _⟩ := hS; exact Blk.ne_ ht hb (by decide)
  have hvt : ¬ own (.slice A l.length cp) t := Rowv.ne_ hv ht (by decide)
  have hvg : ¬ own (.slice A l.length cp) g := by obtain ⟨cs, hb, _⟩ := hS; exact Rowv.ne_ hv hb (by decide)
  have hT1 : 1 ≠ t := Tab.neI hT ht
  have hTg : 1 ≠ g := by
    rintro rfl
    obtain ⟨cs, hb, hc⟩ := hS
    have h1 := hT 0 (by decide)
    rw [hb.cell 0, (hc 0 (by omega)).1] at h1
    cases h1
  clear hT ht hS hv hl0 hio hu0 hk0 hI hk
  obtain ⟨sl, hsl⟩ : ∃ sl, Hid (sl = 2 ^ k) := ⟨_, Lib.hid rfl⟩
  rw [← hsl.out] at hsq hn2 hj0 hen hh0 htk HM BN BD HB hdl B0 S0
  have hl1 : (l.length : Int) ≤ 17592186044416 := by omega
  have hl2 : (sl : Int) ≤ 8796093022208 := by omega
  rw [← hsl.out]
  generalize s.X (s.slot k key) = x0 at *
  generalize s.slot k key = j0 at *
  generalize s.asked k key = m0 at *
  generalize hmk k = hm at *
  generalize s.take k 0 key = fin at *
  clear hsl h1 h2 hue
  have d0 : w.cell? ⟨t, 0, none⟩ = some (.slice (some ⟨g, 0, none⟩) sl cz) := B0.out.cell 0
  have hj0l : decide (j0 < sl) = true := decide_eq_true hj0
  have S1 : Hid (∀ n, HolI ((((w.drewN n).setCell ⟨g, j0 * 3, none⟩ (.bool false)).setCell ⟨g, j0 * 3 + 1, none⟩ (.int .u64 0)).setCell ⟨g, j0 * 3 + 2, none⟩ (Value.int .i64 0)) g sl (s.clear j0 0)) := Lib.hid fun n => HolI.clear S0.out hj0 0 n
  have M1 : Hid (∀ n, Fr (fun b => b = g) w (fun b => b = g) ((((w.drewN n).setCell ⟨g, j0 * 3, none⟩ (.bool false)).setCell ⟨g, j0 * 3 + 1, none⟩ (.int .u64 0)).setCell ⟨g, j0 * 3 + 2, none⟩ (Value.int .i64 0))) := Lib.hid fun n =>
    ((((Fr.refl (fun b => b = g) w).drewN n).set (p := ⟨g, _, none⟩) (.inl rfl) _).set (p := ⟨g, _, none⟩) (.inl rfl) _).set (p := ⟨g, _, none⟩) (.inl rfl) _
  have dU := (SltI.at_ S0.out _ hj0).1
  have dK := (SltI.at_ S0.out _ hj0).2
  have dX := (SltI.val S0.out hj0).1
  have dz := (SltI.val S0.out hj0).2
  have z0 := dz (j0 * 3)
  have z1 := dz (j0 * 3 + 1)
  have z2 := dz (j0 * 3 + 2)
  have hbn0 := BN.out j0 hj0
  have hj0i : (j0 : Int) ≤ 8796093022208 := by omega
  clear dz S0
  go_enter Tryd.func47, Tryd.ntmps47
  go_wp2_with fail
  refine G.out.mono ?_
  rintro _ w2 ⟨rfl, n1, rfl⟩
  go_wp2_with fail
  refine (C.out n1).mono ?_
  rintro _ w3 ⟨rfl, rfl⟩
  clear G C
  go_wp2
  go_loopw [8, 11] (fun f kk wr => ∃ (fn kn r : Nat) (s' : St Int), f = .int .i64 fn ∧ kk = .int .i64 kn ∧ fn < sl ∧ kn < sl ∧ dst sl kn en < r ∧ Hid (HolI wr g sl s' ∧ Sh sl hm s' fn kn en (l.filter (· != key)) ∧ fin = St.shift sl hm 0 r s' fn kn ∧ Fr (fun b => b = g) w (fun b => b = g) wr)) (fun _ kk _ => dst sl (intOf kk).toNat en)
  case atStart => exact ⟨j0, (j0 + 1) % sl, sl, s.clear j0 0, rfl, rfl, hj0, Nat.mod_lt _ (by omega), hdl.out, Lib.hid ⟨S1.out n1, hh0.out, htk.out, M1.out n1⟩⟩
  case round =>
    clear S1 M1 hh0 htk hdl dU dK dX z0 z1 z2 hbn0 d0 hj0l hj0i
    obtain ⟨fn, kn, r, s', rfl, rfl, hfn, hkn, hr, HH⟩ := hrel
    obtain ⟨HS, HSh, hfin, HF⟩ := HH.out
    have B := Lib.hid (HF.blk B0.out hgt)
    have T := Lib.hid (T0.out.keep (HF.block 1 T0.out.lt hTg))
    have dt : wr.cell? ⟨t, 0, none⟩ = some (.slice (some ⟨g, 0, none⟩) sl cz) := B.out.cell 0
    have kU := (SltI.at_ HS _ hkn).1
    have kK := (SltI.at_ HS _ hkn).2
    have kX := (SltI.val HS hkn).1
    have kz := (SltI.val HS hkn).2
    have fU := (SltI.at_ HS _ hfn).1
    have fK := (SltI.at_ HS _ hfn).2
    have fX := (SltI.val HS hfn).1
    have hfl : decide (fn < sl) = true := decide_eq_true hfn
    have hkl : decide (kn < sl) = true := decide_eq_true hkn
    have hfi : (fn : Int) ≤ 8796093022208 := by omega
    have hki : (kn : Int) ≤ 8796093022208 := by omega
    have hbn := BN.out kn hkn
    by_cases hu : s'.U kn = true
    · rw [hu] at kU
      have hh := HB.out (s'.K kn)
      have hb1 := BD.out fn _ hfn hh
      have hb2 := BD.out kn _ hkn hh
      have HH2 := Lib.hid hu
      have hne := HSh.ne
      have hdf : Hid (hm (s'.K kn) = hm (s'.K kn)) := Lib.hid rfl
      obtain ⟨h, hhe⟩ : ∃ h, Hid (h = hm (s'.K kn)) := ⟨_, Lib.hid rfl⟩
      have HMk := HM.out
      have HMk : Hid (∀ W, Tab W → Calls Tryd.prog 57 #[.int .u64 (s'.K kn), .int .i64 (sl : Int)] W fun e w' => e = .returned (.int .i64 (h : Int)) ∧ W = w') := Lib.hid fun W hW => by rw [hhe.out]; exact HM.out W _ hW
      rw [← hhe.out] at hh hb1 hb2
      have hhi : (h : Int) ≤ 8796093022208 := by omega
      have hstep : Hid (fin = (if dst sl h fn < dst sl h kn then St.shift sl hm 0 (r - 1) (s'.move fn kn 0) kn ((kn + 1) % sl) else St.shift sl hm 0 (r - 1) s' fn ((kn + 1) % sl))) := Lib.hid (by
        rw [hfin]
        obtain ⟨r', rfl⟩ : ∃ r', r = r' + 1 := ⟨r - 1, by omega⟩
        rw [St.shift, if_pos hu, ← hhe.out]
        rfl)
      have hke : kn ≠ en := fun e => by have := HSh.end_; rw [← e, hu] at this; cases this
      obtain ⟨qn, hqn, hq⟩ := nxq hkn
      have hdq : dst sl qn en < dst sl kn en := by
        unfold dst
        split <;> (split <;> omega)
      have hqs : qn < sl := by rcases hq with ⟨_, h⟩ | ⟨h, h'⟩ <;> omega
      rw [hqn] at hbn
      generalize hda : dst sl h fn = da at *
      generalize hdb : dst sl h kn = db at *
      have hda := Lib.hid hda
      have hdb := Lib.hid hdb
      have hfin := Lib.hid hfin
      have HS := Lib.hid HS
      have HSh := Lib.hid HSh
      have HF := Lib.hid HF
      have hu := Lib.hid hu
      have hqn := Lib.hid hqn
      have hq := Lib.hid hq
      have hdq := Lib.hid hdq
      have kz0 := kz (kn * 3)
      have kz1 := kz (kn * 3 + 1)
      have kz2 := kz (kn * 3 + 2)
      have fz0 := kz (fn * 3)
      have fz1 := kz (fn * 3 + 1)
      have fz2 := kz (fn * 3 + 2)
      clear kz
      go_wp2_with fail
      refine wp_region_mix (fun _ => True) [3, 3, 3, 1, 3, 3, 3, 1, 3, 3, 3, 1, 3, 2, 3] (List.range 15) (by kernel_rfl) (by kernel_rfl) (fun _ _ h => h) trivial ?_
      repeat ((first | refine wpMix_pure rfl rfl (fun K hK => ?_) | refine wpMix_loc rfl rfl (fun K hK => ?_) | refine wpMix_any rfl rfl (fun K hK => ?_)); go_simp; refine hK _ _ ?_; clear hK K)
      refine wpMix_loud rfl rfl (fun n2 K hK => ?_)
      go_wp2_with fail
      refine (HMk.out _ (T.out.drewNI (1 + n2))).mono ?_
      rintro _ w5 ⟨rfl, rfl⟩
      go_wp2_with fail
      refine hK _ _ (fun _ => trivial) ?_; clear hK K
      repeat ((first | refine wpMix_pure rfl rfl (fun K hK => ?_) | refine wpMix_loc rfl rfl (fun K hK => ?_) | refine wpMix_any rfl rfl (fun K hK => ?_)); go_simp; refine hK _ _ ?_; clear hK K)
      refine wpMix_nil (fun n3 => ?_)
      by_cases hc : da < db
      · have hci : ((da : Int) < (db : Int)) := by omega
        go_wp2_with fail
        refine wp_region_mix (fun W' => W'.cell? ⟨t, 0, none⟩ = some (.slice (some ⟨g, 0, none⟩) sl cz) ∧ W'.cell? ⟨g, kn * 3, none⟩ = some (.bool true) ∧ W'.cell? ⟨g, kn * 3 + 1, none⟩ = some (.int .u64 (s'.K kn)) ∧ W'.cell? ⟨g, kn * 3 + 2, none⟩ = some (Value.int .i64 (s'.X kn))) [3, 3, 3, 0, 3, 3, 3, 3, 0, 3, 3, 3, 3, 0, 3, 3, 0, 3, 3, 2, 3, 2] (List.range 22) (by kernel_rfl) (by kernel_rfl) (fun _ _ h => h) ⟨dt, kU, kK, kX⟩ ?_
        repeat (first | ((first | refine wpMix_pure rfl rfl (fun K hK => ?_) | refine wpMix_loc rfl rfl (fun K hK => ?_) | refine wpMix_any rfl rfl (fun K hK => ?_)); go_simp; refine hK _ _ ?_; clear hK K) | (refine wpMix_any rfl rfl (fun K hK => ?_); rw [if_pos (by go_simp)]; apply Exists.intro; refine And.intro (fun w2 hS2 => ?_) (hK _ _ ?_); (focus (obtain ⟨hs1, hs2, hs3, hs4⟩ := hS2; go_simp; rfl)); clear hK K))
        refine wpMix_loud rfl rfl (fun n4 K hK => ?_)
        go_wp2
        obtain ⟨w6, hw6⟩ : ∃ u, u = ((((wr.drewN (1 + n2 + n3 + 1 + n4)).setCell ⟨g, fn * 3, none⟩ (.bool true)).setCell ⟨g, fn * 3 + 1, none⟩ (.int .u64 (s'.K kn))).setCell ⟨g, fn * 3 + 2, none⟩ (Value.int .i64 (s'.X kn))) := ⟨_, rfl⟩
        have S6 : Hid (HolI w6 g sl (s'.set fn (s'.K kn) (s'.X kn))) := Lib.hid (by rw [hw6]; exact HolI.set HS.out hfn _ _ _)
        have F6 : Hid (Fr (fun b => b = g) w (fun b => b = g) w6) := Lib.hid (by rw [hw6]; exact (((HF.out.drewN _).set (p := ⟨g, _, none⟩) (.inl rfl) _).set (p := ⟨g, _, none⟩) (.inl rfl) _).set (p := ⟨g, _, none⟩) (.inl rfl) _)
        rw [← hw6]
        clear hw6 fU fK fX kU kK kX kz0 kz1 kz2 fz0 fz1 fz2 dt hb1 hb2
        have k0 := (SltI.at_ S6.out _ hkn).1
        have k1 := (SltI.at_ S6.out _ hkn).2
        have k2 := (SltI.val S6.out hkn).1
        have kz := (SltI.val S6.out hkn).2
        have kz0 := kz (kn * 3)
        have kz1 := kz (kn * 3 + 1)
        have kz2 := kz (kn * 3 + 2)
        clear kz
        refine hK _ _ (fun h => (Bool.false_ne_true ((Eq.symm (by kernel_rfl)).trans h)).elim) ?_; clear hK K
        repeat ((first | refine wpMix_pure rfl rfl (fun K hK => ?_) | refine wpMix_loc rfl rfl (fun K hK => ?_) | refine wpMix_any rfl rfl (fun K hK => ?_)); go_simp; refine hK _ _ ?_; clear hK K)
        refine wpMix_loud rfl rfl (fun n5 K hK => ?_)
        go_wp2
        refine hK _ _ (fun h => (Bool.false_ne_true ((Eq.symm (by kernel_rfl)).trans h)).elim) ?_; clear hK K
        refine wpMix_nil (fun n6 => ?_)
        go_wp2
        have hc0 := hc
        rw [hda.out.symm, hdb.out.symm, hhe.out] at hc
        have e1 := HSh.out.moved (z := 0) HB.out hu.out hc
        rw [hqn.out] at e1
        have e2 := hstep.out
        rw [if_pos hc0, hqn.out] at e2
        have F7 : Fr (fun b => b = g) w (fun b => b = g) (((((w6.drewN n5).setCell ⟨g, kn * 3, none⟩ (.bool false)).setCell ⟨g, kn * 3 + 1, none⟩ (.int .u64 0)).setCell ⟨g, kn * 3 + 2, none⟩ (Value.int .i64 0)).drewN n6) := ((((F6.out.drewN n5).set (p := ⟨g, _, none⟩) (.inl rfl) _).set (p := ⟨g, _, none⟩) (.inl rfl) _).set (p := ⟨g, _, none⟩) (.inl rfl) _).drewN n6
        refine ⟨⟨kn, qn, r - 1, s'.move fn kn 0, rfl, rfl, hkn, hqs, by have := hdq.out; omega, Lib.hid ⟨SltI.drewN (HolI.clear S6.out hkn 0 n5) n6, e1, e2, F7⟩⟩, ?_⟩
        have := hdq.out
        simpa [intOf] using this
      · have hci : ¬ ((da : Int) < (db : Int)) := by omega
        go_wp2
        have hc0 := hc
        rw [hda.out.symm, hdb.out.symm, hhe.out] at hc
        have e1 := HSh.out.stay HB.out hu.out hc
        rw [hqn.out] at e1
        have e2 := hstep.out
        rw [if_neg hc0, hqn.out] at e2
        refine ⟨⟨fn, qn, r - 1, s', rfl, rfl, hfn, hqs, by have := hdq.out; omega, Lib.hid ⟨SltI.drewN HS.out _, e1, e2, HF.out.drewN _⟩⟩, ?_⟩
        have := hdq.out
        simpa [intOf] using this
    · have hu : s'.U kn = false := by simpa using hu
      rw [hu] at kU
      have hfs : fin = s' := by
        rw [hfin]
        obtain ⟨r', rfl⟩ : ∃ r', r = r' + 1 := ⟨r - 1, by omega⟩
        rw [St.shift, if_neg (by rw [hu]; decide)]
      have hfs := Lib.hid hfs
      have V := Lib.hid (V0.out.frs HF fun j hj => by intro e; exact hvg (e ▸ hj))
      have CI := Lib.hid (idx_b V.out hix hixk hixn hlen)
      obtain ⟨ga, off, rfl, _⟩ := V.out.cell hix
      have CD := Lib.hid (del_b V.out hix hlen)
      have d1 : wr.cell? ⟨t, 1, none⟩ = some (.slice (some ⟨ga, off, none⟩) l.length cp) := B.out.cell 1
      have hixi : (ix : Int) ≤ 17592186044416 := by omega
      have HS := Lib.hid HS
      have HF := Lib.hid HF
      clear fU fK fX kz hfin HSh hbn
      go_wp2_with fail
      refine CI.out.mono ?_
      rintro _ w5 ⟨rfl, rfl⟩
      go_wp2_with fail
      refine CD.out.mono ?_
      rintro _ w5 ⟨rfl, hw5, hm5⟩
      have hga : ∀ q, own (.slice (some ⟨ga, off, none⟩) l.length cp) q ↔ q = ga := fun q => by simp [own, Value.ownBlock, eq_comm]
      have hgat : t ≠ ga := fun e => hvt ((hga t).2 e)
      have hgag : g ≠ ga := fun e => hvg ((hga g).2 e)
      have B5 := Lib.hid (hm5.blk B.out hgat)
      have S5 := Lib.hid (HolI.frs HS.out hm5 hgag)
      have V5 := Lib.hid hw5
      have F5 : Hid (Fr (fun b => b = t ∨ b = g ∨ own (.slice (some ⟨ga, off, none⟩) l.length cp) b) w (fun b => b = t ∨ b = g ∨ own (.slice (some ⟨ga, off, none⟩) l.length cp) b) w5) := Lib.hid ((((HF.out.wide (G := fun b => b = t ∨ b = g ∨ own (.slice (some ⟨ga, off, none⟩) l.length cp) b) fun j hj => .inr (.inl hj)).into (G := fun b => b = t ∨ b = g ∨ own (.slice (some ⟨ga, off, none⟩) l.length cp) b) fun j hj => .inr (.inl hj)).trans (hm5.wide fun j hj => .inr (.inr ((hga j).2 hj)))).into fun j hj => .inr (.inl hj))
      have z1 := B5.out.frozen 1
      have d5 : w5.cell? ⟨t, 1, none⟩ = some (.slice (some ⟨ga, off, none⟩) l.length cp) := B5.out.cell 1
      clear hw5 hm5 CI CD
      go_wp2
      go_ret2
      have hB6 := B5.out.set_ 1 (.slice (some ⟨ga, off, none⟩) (l.length - 1) cp)
      refine ⟨rfl, hB6, ?_, ?_, F5.out.set (p := ⟨t, 1, none⟩) (.inl (.inl rfl)) _⟩
      · rw [hfs.out]
        obtain ⟨cs, hb, hc⟩ := S5.out
        exact ⟨cs, hb.far (p := ⟨t, 1, none⟩) hgt.symm _, hc⟩
      · rw [← hef.out]
        exact V5.out.set (p := ⟨t, 1, none⟩) hvt _
end Go.Proofs.YtfhpnlaabgkpjaaDoor
/- A table, whole: its calls by contract (a table of int). -/
namespace Go.Proofs.YtfhpnlaabgkpjaaDoor
open Go.RowKit Go.Shelf
set_option maxHeartbeats 4000000
set_option linter.unusedVariables false
set_option linter.unusedSimpArgs false

/-- the table at t; its blocks: F -/
def TbI (w : World) (t : Nat) (F : Nat → Prop) (T : Tbl Int) : Prop := ∃ g cz A cp, F = (fun b => b = t ∨ b = g ∨ own (.slice A T.l.length cp) b) ∧ Blk w t 94 #[.slice (some ⟨g, 0, none⟩) (2 ^ T.k : Nat) cz, .slice A T.l.length cp] ∧
  HolI w g (2 ^ T.k) T.s ∧ Wl w (.slice A T.l.length cp) T.l ∧ T.Ok
theorem TbI.ok {w : World} {t : Nat} {F : Nat → Prop} {T : Tbl Int} (h : TbI w t F T) : T.Ok := by obtain ⟨_, _, _, _, _, _, _, _, h⟩ := h; exact h
theorem TbI.lt {w : World} {t : Nat} {F : Nat → Prop} {T : Tbl Int} (h : TbI w t F T) : ∀ b, F b → b < w.heap.size := by
  obtain ⟨g, cz, A, cp, rfl, hb, hs, hv, _⟩ := h
  rintro b (rfl | rfl | h)
  · exact hb.lt
  · exact SltI.lt hs
  · exact hv.lt b h
theorem TbI.fr {w w' : World} {t : Nat} {F G G' : Nat → Prop} {T : Tbl Int} (h : TbI w t F T) (hf : Fr G w G' w') (hG : ∀ b, F b → ¬ G b) : TbI w' t F T := by
  obtain ⟨g, cz, A, cp, rfl, hb, hs, hv, hok⟩ := h
  exact ⟨g, cz, A, cp, rfl, hf.blk hb (hG _ (.inl rfl)), SltI.fr hs hf (hG _ (.inr (.inl rfl))), hv.frs hf fun k hk => hG k (.inr (.inr hk)), hok⟩
theorem TbI.head {w : World} {t : Nat} {F : Nat → Prop} {T : Tbl Int} (h : TbI w t F T) : F t := by obtain ⟨g, cz, A, cp, rfl, _⟩ := h; exact .inl rfl
theorem TbI.drewN {w : World} {t : Nat} {F : Nat → Prop} {T : Tbl Int} (h : TbI w t F T) (n : Nat) : TbI (w.drewN n) t F T := h
def mk8I : Array Value := #[Value.bool false, Value.int .u64 0, Value.int .i64 0, Value.bool false, Value.int .u64 0, Value.int .i64 0, Value.bool false, Value.int .u64 0, Value.int .i64 0, Value.bool false, Value.int .u64 0, Value.int .i64 0, Value.bool false, Value.int .u64 0, Value.int .i64 0, Value.bool false, Value.int .u64 0, Value.int .i64 0, Value.bool false, Value.int .u64 0, Value.int .i64 0, Value.bool false, Value.int .u64 0, Value.int .i64 0]
theorem mk8I_run (w : World) : (Instr.makeSlice 92 (.int .i64 8) (.int .i64 8)).run Tryd.prog w = .ok (.slice (some ⟨w.heap.size, 0, none⟩) 8 8) (w.alloc (.cells mk8I 98)) := by kernel_rfl
theorem newI_tb (w : World) : Calls Tryd.prog 43 #[] w fun e w' => ∃ t F, e = .returned (.pointer (some ⟨t, 0, none⟩)) ∧ TbI w' t F (Tbl.new 0) ∧ Fr (fun _ => False) w F w' := by
  have hmk := mk8I_run
  go_enter Tryd.func43, Tryd.ntmps43
  go_wp2
  go_ret
  have e1 : (w.alloc (.cells mk8I 98)).heap.size = w.heap.size + 1 := World.size_alloc ..
  have B1 := Blk.new w 98 mk8I
  have B2 := Blk.new (w.alloc (.cells mk8I 98)) 94 #[.slice (some ⟨w.heap.size, 0, none⟩) 8 8, .slice none 0 0]
  rw [e1] at B2
  refine ⟨_, _, rfl, ⟨w.heap.size, 8, none, 0, rfl, B2, ⟨mk8I, B1.alloc _, fun i hi => ?_⟩, Wl.nil _, Tbl.new_ok 0⟩, (((Fr.refl (fun _ => False) w).alloc _).alloc _).into fun k hk => .inr (.inr ?_)⟩
  · have hi8 : i < 8 := hi
    have : i = 0 ∨ i = 1 ∨ i = 2 ∨ i = 3 ∨ i = 4 ∨ i = 5 ∨ i = 6 ∨ i = 7 := by omega
    rcases this with rfl | rfl | rfl | rfl | rfl | rfl | rfl | rfl <;> exact ⟨rfl, rfl, rfl⟩
  · rcases hk with rfl | rfl | h
    · omega
    · omega
    · exact (own_nil _ _ _ h).elim
theorem putI_tb {w : World} {t : Nat} {F : Nat → Prop} {T : Tbl Int} {key : Int} {y : Int} (hT : Tab w) (h : TbI w t F T) (hk : T.k ≤ 40) (hlen : (T.l.length + 1) * 8 ≤ 140737488355328) (hby : 2 ^ T.k * 24 ≤ 140737488355328) :
    Calls Tryd.prog 46 #[.pointer (some ⟨t, 0, none⟩), .int .u64 key, Value.int .i64 y] w fun e w' => e = .returned (.tuple #[Value.int .i64 (if key ∈ T.l then T.get key else 0), .bool (decide (key ∈ T.l)), .int .i64 0]) ∧
      ∃ F', TbI w' t F' (T.put 0 key y) ∧ Fr F w F' w' := by
  obtain ⟨g, cz, A, cp, rfl, hb, hs, hv, hok⟩ := h
  have hok' := hok.put (by omega) 0 key y
  have hk3 := hok.k3
  have h8 := eight hk3
  have hr := hok.room
  obtain ⟨hl0, hj0, _, _, hio⟩ := TInv.look hok.inv (hmk_lt (by omega) (by omega)) key
  have hfu : 2 ^ T.k ≤ 4611686018427387904 := Nat.le_trans (Nat.pow_le_pow_right (by omega) hk) (by decide)
  by_cases hm : key ∈ T.l
  · obtain ⟨hu, hkj⟩ : T.s.U (T.s.slot T.k key) = true ∧ T.s.K (T.s.slot T.k key) = key := by
      rcases hio with ⟨_, h1, h2⟩ | ⟨h1, _⟩
      · exact ⟨h1, h2⟩
      · exact (h1 hm).elim
    have hT' : T.put 0 key y = ⟨T.k, T.l, T.s.put T.k key y⟩ := by unfold Tbl.put; rw [if_pos hm]
    rw [hT'] at hok' ⊢
    refine (putI_had (x := T.get key) (y := y) hT hb hs (by omega) (by omega) hfu hl0 hj0 hu rfl).mono ?_
    rintro _ w' ⟨rfl, rfl⟩
    rw [if_pos hm, decide_eq_true hm]
    have hgt : t ≠ g := by obtain ⟨cs, hcb, _⟩ := hs; exact Blk.ne_ hb hcb (by decide)
    have hvg : ¬ own (.slice A T.l.length cp) g := by obtain ⟨cs, hcb, _⟩ := hs; exact Rowv.ne_ hv hcb (by decide)
    refine ⟨rfl, _, ⟨g, cz, A, cp, rfl, (hb.alloc _).far (p := ⟨g, _, none⟩) hgt _, ?_, (hv.alloc _).set (p := ⟨g, _, none⟩) hvg _, hok'⟩, ((Fr.refl _ w).alloc _).set (p := ⟨g, _, none⟩) (.inl (.inr (.inl rfl))) _⟩
    obtain ⟨cs, hcb, hc⟩ := hs
    refine ⟨_, (hcb.alloc _).set_ _ _, fun i hi => ?_⟩
    obtain ⟨c0, c1, c2⟩ := hc i hi
    have s2 := (Array.getElem?_eq_some_iff.1 (hc _ hj0).2.2).1
    show _ = some (Value.bool (if i = T.s.slot T.k key then true else T.s.U i)) ∧ _ = some (Value.int .u64 (if i = T.s.slot T.k key then key else T.s.K i)) ∧ _ = some (Value.int .i64 (if i = T.s.slot T.k key then y else T.s.X i))
    change slotOf T.s.U T.s.K (2 ^ T.k) (hmk T.k key) key * 3 + 2 < cs.size at s2
    have hsl : slotOf T.s.U T.s.K (2 ^ T.k) (hmk T.k key) key = T.s.slot T.k key := rfl
    rw [hsl] at s2 ⊢
    generalize T.s.slot T.k key = j at *
    by_cases e : i = j
    · subst e
      rw [Array.getElem?_setIfInBounds_ne (by omega), Array.getElem?_setIfInBounds_ne (by omega), c0, c1, if_pos rfl, if_pos rfl, if_pos rfl, hu, hkj]
      exact ⟨rfl, rfl, by simp [s2]⟩
    · rw [Array.getElem?_setIfInBounds_ne (by omega), Array.getElem?_setIfInBounds_ne (by omega), Array.getElem?_setIfInBounds_ne (by omega), if_neg e, if_neg e, if_neg e]
      exact ⟨c0, c1, c2⟩
  · have hu : T.s.U (T.s.slot T.k key) = false := by
      rcases hio with ⟨h1, _⟩ | ⟨_, h1, _⟩
      · exact (hm h1).elim
      · exact h1
    rw [if_neg hm, decide_eq_false hm]
    by_cases hg : 3 * 2 ^ T.k < 4 * (T.l.length + 1)
    · have hT' : T.put 0 key y = ⟨T.k + 1, T.l ++ [key], (T.s.grown T.k 0 T.l).put (T.k + 1) key y⟩ := by unfold Tbl.put; rw [if_neg hm, if_pos hg]
      rw [hT'] at hok' ⊢
      refine (putI_grow (y := y) hT hb hs hv hok.inv (by omega) (by omega) hm hg (by rw [Nat.pow_succ]; omega) hlen hby).mono ?_
      rintro _ w' ⟨rfl, g', A', cp', b1, s1, v1, m1⟩
      have hle : (T.l ++ [key]).length = T.l.length + 1 := by simp
      exact ⟨rfl, _, ⟨g', _, A', cp', rfl, by rw [hle]; exact b1, s1, by rw [hle]; exact v1, hok'⟩, by rw [hle]; exact m1⟩
    · have hT' : T.put 0 key y = ⟨T.k, T.l ++ [key], T.s.put T.k key y⟩ := by unfold Tbl.put; rw [if_neg hm, if_neg hg]
      rw [hT'] at hok' ⊢
      refine (putI_new (y := y) hT hb hs hv (by omega) (by omega) hfu hl0 hj0 hu (by omega) hlen (Nat.le_trans (Nat.pow_le_pow_right (by omega) hk) (by decide))).mono ?_
      rintro _ w' ⟨rfl, A', cp', b1, s1, v1, m1⟩
      have hle : (T.l ++ [key]).length = T.l.length + 1 := by simp
      rw [updI] at s1
      exact ⟨rfl, _, ⟨g, cz, A', cp', rfl, by rw [hle]; exact b1, s1, by rw [hle]; exact v1, hok'⟩, by rw [hle]; exact m1⟩
theorem Tbl.lookI {w : World} {t : Nat} {F : Nat → Prop} {T : Tbl Int} (h : TbI w t F T) (hk : T.k ≤ 40) (key : Int) : lgo T.s.U T.s.K key (2 ^ T.k) (2 ^ T.k) (homeOf key T.k).toNat 1 = some (T.s.slot T.k key, T.asked key) ∧ T.s.slot T.k key < 2 ^ T.k ∧ T.s.U (T.s.slot T.k key) = decide (key ∈ T.l) ∧ 1 ≤ T.asked key ∧ T.asked key ≤ T.l.length + 1 := by
  have hok := h.ok
  have := hok.k3
  obtain ⟨hl0, hj0, ha, hb, hio⟩ := TInv.look hok.inv (hmk_lt (by omega) (by omega)) key
  refine ⟨hl0, hj0, ?_, ha, hb⟩
  rcases hio with ⟨h1, h2, _⟩ | ⟨h1, h2, _⟩
  · rw [decide_eq_true h1]; exact h2
  · rw [decide_eq_false h1]; exact h2
theorem getI_tb {w : World} {t : Nat} {F : Nat → Prop} {T : Tbl Int} {key : Int} (hT : Tab w) (h : TbI w t F T) (hk : T.k ≤ 40) :
    Calls Tryd.prog 45 #[.pointer (some ⟨t, 0, none⟩), .int .u64 key] w fun e w' => e = .returned (.tuple #[Value.int .i64 (T.get key), .bool (decide (key ∈ T.l))]) ∧ ∃ n, w' = w.drewN n := by
  obtain ⟨hl, hj, hu, _⟩ := Tbl.lookI h hk key
  have := h.ok.k3
  obtain ⟨g, cz, A, cp, rfl, hb, hs, hv, hok⟩ := h
  have := getI_b hT hb hs (by omega) (by omega) (Nat.le_trans (Nat.pow_le_pow_right (by omega) hk) (by decide)) hl hj
  rw [hu] at this
  exact this
theorem takeI_tb {w : World} {t : Nat} {F : Nat → Prop} {T : Tbl Int} {key : Int} (hT : Tab w) (h : TbI w t F T) (hk : T.k ≤ 40) (hlen : T.l.length * 8 ≤ 140737488355328) :
    Calls Tryd.prog 47 #[.pointer (some ⟨t, 0, none⟩), .int .u64 key] w fun e w' => e = .returned (.tuple #[Value.int .i64 (T.get key), .bool (decide (key ∈ T.l))]) ∧ ∃ F', TbI w' t F' (T.take 0 key) ∧ Fr F w F' w' := by
  have hb8 := h
  have hk3 := h.ok.k3
  obtain ⟨g, cz, A, cp, rfl, hb, hs, hv, hok⟩ := h
  have hok' := hok.take (by omega) 0 key
  by_cases hm : key ∈ T.l
  · have hT' : T.take 0 key = ⟨T.k, T.l.filter (· != key), T.s.take T.k 0 key⟩ := by unfold Tbl.take; rw [if_pos hm]
    rw [decide_eq_true hm]
    rw [hT'] at hok' ⊢
    refine (takeI_yes hT hb hs hv hok.inv (by omega) (by omega) hm hlen).mono ?_
    rintro _ w' ⟨rfl, b1, s1, v1, m1⟩
    have hle : (T.l.filter (· != key)).length = T.l.length - 1 := by
      obtain ⟨i, hi, hki, _⟩ := first_at hm
      rw [← hki, ← erase_filter hok.inv.nodup hi, List.length_eraseIdx, if_pos hi]
    refine ⟨rfl, _, ⟨g, cz, A, cp, rfl, by rw [hle]; exact b1, s1, by rw [hle]; exact v1, hok'⟩, ?_⟩
    exact m1.into fun k hk => .inl (hk.imp id fun h => h.imp id fun h => own_len h)
  · have hT' : T.take 0 key = T := by unfold Tbl.take; rw [if_neg hm]
    rw [decide_eq_false hm, hT']
    refine (takeI_no hT hb hs hok.inv (by omega) (by omega) hm).mono ?_
    rintro _ w' ⟨rfl, n, rfl⟩
    exact ⟨rfl, _, hb8, (Fr.refl _ w).drewN n⟩
theorem keysI_tb {w : World} {t : Nat} {F : Nat → Prop} {T : Tbl Int} (h : TbI w t F T) (hlen : T.l.length * 8 ≤ 140737488355328) :
    Calls Tryd.prog 63 #[.pointer (some ⟨t, 0, none⟩)] w fun e w' => ∃ A' cp', e = .returned (.slice A' T.l.length cp') ∧ Wl w' (.slice A' T.l.length cp') T.l ∧ Fr (fun _ => False) w (own (.slice A' T.l.length cp')) w' := by
  obtain ⟨g, cz, A, cp, rfl, hb, hs, hv, hok⟩ := h
  exact keysI_b hb hv hlen
end Go.Proofs.YtfhpnlaabgkpjaaDoor
