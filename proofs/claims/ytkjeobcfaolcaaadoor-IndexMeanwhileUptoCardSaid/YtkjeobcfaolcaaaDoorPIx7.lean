/- slices.Index and slices.Delete of one, of a list of words, by contract. -/
import Derived.Lib.SliceRun
import Derived.Test.YtkjeobcfaolcaaaDoorPIx3
import Derived.Test.YtkjeobcfaolcaaaDoorPIx5
namespace Go.Proofs.YtkjeobcfaolcaaaDoor
open Go.RowKit
set_option maxHeartbeats 4000000
set_option linter.unusedVariables false
set_option linter.unusedSimpArgs false

theorem erase_filter {l : List Int} (h : l.Nodup) {i : Nat} (hi : i < l.length) : l.eraseIdx i = l.filter (· != l[i]) := by
  induction l generalizing i with
  | nil => simp at hi
  | cons x l ih =>
    rw [List.nodup_cons] at h
    cases i with
    | zero =>
      simp only [List.eraseIdx_cons_zero, List.getElem_cons_zero]
      rw [List.filter_cons_of_neg (by simp)]
      symm
      rw [List.filter_eq_self]
      intro y hy
      have : y ≠ x := by rintro rfl; exact h.1 hy
      simpa using this
    | succ i =>
      have hil : i < l.length := by simpa using hi
      simp only [List.eraseIdx_cons_succ, List.getElem_cons_succ]
      have : x ≠ l[i] := by intro e; exact h.1 (by rw [e]; exact List.getElem_mem hil)
      rw [List.filter_cons_of_pos (by simpa using this), ih h.2 hil]
set_option maxRecDepth 100000 in
theorem idx_b {A : Option Addr} {cp i : Nat} {l : List Int} {key : Int} {w : World} (hv : Wl w (.slice A l.length cp) l) (hi : i < l.length) (hk : l[i] = key) (hn : ∀ j (hj : j < i), l[j]'(by omega) ≠ key) (hlen : l.length * 8 ≤ 140737488355328) :
    Calls Tryd.prog 51 #[.slice A l.length cp, .int .u64 key] w fun e w' => e = .returned (.int .i64 (i : Int)) ∧ w = w' := by
  obtain ⟨g, off, rfl, hc⟩ := hv.cell hi
  have hc := Lib.hid hc
  have hn := Lib.hid hn
  clear hv
  go_enter Tryd.func51, Tryd.ntmps51
  go_wp2
  go_loopw [8] (fun p wr => ∃ m : Nat, m ≤ i ∧ p = .int .i64 m ∧ Hid (wr = w)) (fun p _ => l.length - (intOf p).toNat)
  case atStart => exact ⟨0, by omega, rfl, Lib.hid rfl⟩
  case round =>
    obtain ⟨m, hm, rfl, hw⟩ := hrel
    have hml : m < l.length := by omega
    have hcm := hc.out m hml
    rw [← hw.out] at hcm
    by_cases hmi : m = i
    · subst hmi
      rw [hk] at hcm
      go_wp2
      go_ret
      exact ⟨rfl, hw.out.symm⟩
    · have hne := hn.out m (by omega)
      generalize l[m] = x at *
      have hne : (key == x) = false := by simpa using fun e => hne e.symm
      go_wp2
      go_roundw
      case rel => exact ⟨m + 1, by omega, by simp, hw⟩
      case measure => simp [intOf]; omega
theorem first_at {l : List Int} {key : Int} (h : key ∈ l) : ∃ i, ∃ (hi : i < l.length), l[i] = key ∧ ∀ j (hj : j < i), l[j]'(by omega) ≠ key := by
  induction l with
  | nil => cases h
  | cons x l ih =>
    by_cases e : x = key
    · exact ⟨0, by simp, by simpa using e, fun j hj => by omega⟩
    · have hm : key ∈ l := by
        rcases List.mem_cons.1 h with h1 | h1
        · exact (e h1.symm).elim
        · exact h1
      obtain ⟨i, hi, hk, hn⟩ := ih hm
      refine ⟨i + 1, by simpa using hi, by simpa using hk, fun j hj => ?_⟩
      cases j with
      | zero => simpa using e
      | succ j => simpa using hn j (by omega)
theorem u64_zero (w : World) : (zeroValue 22).run Tryd.prog w = .ok (.int .u64 0) w := by kernel_rfl
/-- what lies in the block when one word is out -/
theorem del_cells {cur : Array Value} {off i : Nat} {l : List Int} (hi : i < l.length) (hsz : off + l.length ≤ cur.size) (htk : (cur.toList.drop off).take (l.length * 1) = u64s l) :
    ((setAll (setAll cur (off + i) (u64s (l.drop (i + 1)))) (off + (l.length - 1)) [.int .u64 0]).toList.drop off).take ((l.length - 1) * 1) = u64s (l.eraseIdx i) := by
  have hcur : ∀ j (hj : j < l.length), cur[off + j]? = some (.int .u64 (l[j])) := fun j hj => by
    have h1 := congrArg (fun q => q[j]?) htk
    simp only [Nat.mul_one, List.getElem?_take, if_pos hj, List.getElem?_drop, Array.getElem?_toList] at h1
    rw [h1]
    simp [u64s, hj]
  apply List.ext_getElem?
  intro j
  rw [Nat.mul_one, List.getElem?_take]
  by_cases hj : j < l.length - 1
  · rw [if_pos hj, List.getElem?_drop, Array.getElem?_toList, setAll_get, if_neg (by simp; omega), setAll_get]
    have hlen : (l.eraseIdx i).length = l.length - 1 := by rw [List.length_eraseIdx, if_pos hi]
    have hr : (u64s (l.eraseIdx i))[j]? = some (.int .u64 ((l.eraseIdx i)[j]'(by omega))) := by
      unfold u64s
      rw [List.getElem?_map, List.getElem?_eq_getElem (by omega)]
      rfl
    rw [hr, List.getElem_eraseIdx]
    by_cases hji : j < i
    · rw [if_neg (by omega), hcur j (by omega), dif_pos hji]
    · rw [if_pos (by simp [u64s]; omega), dif_neg hji]
      unfold u64s
      rw [List.getElem?_map, List.getElem?_drop, show i + 1 + (off + j - (off + i)) = j + 1 by omega, List.getElem?_eq_getElem (by omega)]
      rfl
  · rw [if_neg hj, List.getElem?_eq_none]
    unfold u64s
    rw [List.length_map, List.length_eraseIdx, if_pos hi]
    omega
set_option maxRecDepth 100000 in
theorem del_b {g off cp i : Nat} {l : List Int} {w : World} (hv : Wl w (.slice (some ⟨g, off, none⟩) l.length cp) l) (hi : i < l.length) (hlen : l.length * 8 ≤ 140737488355328) :
    Calls Tryd.prog 52 #[.slice (some ⟨g, off, none⟩) l.length cp, .int .i64 (i : Int), .int .i64 ((i : Int) + 1)] w fun e w' => e = .returned (.slice (some ⟨g, off, none⟩) (l.length - 1) cp) ∧
      Wl w' (.slice (some ⟨g, off, none⟩) (l.length - 1) cp) (l.eraseIdx i) ∧ Fr (fun k => k = g) w (fun k => k = g) w' := by
  obtain ⟨h0, (⟨h1, _⟩ | ⟨g', off', cap', cur, h1, h2, h3, h4, h5, h6, h7⟩)⟩ := hv
  · cases h1
  · simp only [Value.slice.injEq, Option.some.injEq, Addr.mk.injEq, and_true, true_and] at h1
    obtain ⟨⟨rfl, rfl⟩, rfl⟩ := h1
    have hcl := del_cells hi (by omega) h7
    have hcell : ∀ j (hj : j < l.length), w.cell? ⟨g, off + j, none⟩ = some (.int .u64 (l[j])) := fun j hj => by
      have h1 := congrArg (fun q => q[j]?) h7
      simp only [Nat.mul_one, List.getElem?_take, if_pos hj, List.getElem?_drop, Array.getElem?_toList] at h1
      have : w.cell? ⟨g, off + j, none⟩ = cur[off + j]? := by simp [World.cell?, h3]
      rw [this, h1]
      simp [u64s, hj]
    obtain ⟨Ad, hA, hsrc⟩ : ∃ Ad : Addr, (if cp = i + 1 then some (⟨g, off, none⟩ : Addr) else some ⟨g, off + (i + 1), none⟩) = some Ad ∧ Hid (∀ t u, (u64s (l.drop (i + 1)))[t]? = some u → w.cell? (Ad.add t) = some u) := by
      by_cases h : cp = i + 1
      · refine ⟨⟨g, off, none⟩, by simp [h], fun t u hu => ?_⟩
        have h0 : (l.drop (i + 1)) = [] := List.drop_eq_nil_of_le (by omega)
        rw [h0] at hu
        simp [u64s] at hu
      · refine ⟨⟨g, off + (i + 1), none⟩, by simp [h], fun t u hu => ?_⟩
        unfold u64s at hu
        rw [List.getElem?_map, List.getElem?_drop] at hu
        by_cases ht : i + 1 + t < l.length
        · rw [List.getElem?_eq_getElem ht] at hu
          rw [Addr.add_lit, show off + (i + 1) + t = off + (i + 1 + t) by omega, hcell _ ht]
          exact hu
        · rw [List.getElem?_eq_none (by omega)] at hu; cases hu
    have s0 : Hid (∀ j u, (u64s (l.take i))[j]? = some u → w.cell? ⟨g, off + j, none⟩ = some u) := Lib.hid fun j u hu => by
      unfold u64s at hu
      rw [List.getElem?_map, List.getElem?_take] at hu
      by_cases hj : j < i
      · rw [if_pos hj, List.getElem?_eq_getElem (by omega)] at hu
        rw [hcell _ (by omega)]
        exact hu
      · rw [if_neg hj] at hu; cases hu
    have s1 : Hid ((u64s (l.drop (i + 1))).length = (l.length - (i + 1)) * 1) := Lib.hid (by simp [u64s])
    have s2 := Lib.hid (u64s_one (l.drop (i + 1)))
    have s3 : Hid (∀ t, t < (u64s (l.drop (i + 1))).length → (w.cell? ⟨g, off + i * 1 + t, none⟩).isSome = true ∧ w.frozen? ⟨g, off + i * 1 + t, none⟩ = false) := Lib.hid fun t ht => by
      simp [u64s] at ht
      rw [Nat.mul_one, show off + i + t = off + (i + t) by omega, hcell _ (by omega)]
      exact ⟨rfl, by simp [World.frozen?, h3]⟩
    have s4 : Hid ((u64s (l.take i)).length = i * 1) := Lib.hid (by simp [u64s]; omega)
    have hcl := Lib.hid hcl
    have h3 := Lib.hid h3
    have h7 := Lib.hid h7
    have hic : i ≤ cp := by omega
    have hjc : i + 1 ≤ cp := by omega
    have hjl : i + 1 ≤ l.length := by omega
    have hii : ((i : Int) + 1) = ((i + 1 : Nat) : Int) := by omega
    have hm5 : cp ≤ 9223372036854775807 := h5
    rw [hii]
    generalize hj1 : i + 1 = j1 at *
    have hij : (i == j1) = false := by simp; omega
    clear hcell h0 h2 hii
    obtain ⟨i0, hi0, hz0, hz1, hz2⟩ := info_parts u64_info
    have hi0 := Lib.hid hi0
    have hz0 := Lib.hid hz0
    have hz1 := Lib.hid hz1
    have hz2 := Lib.hid hz2
    go_enter Tryd.func52, Tryd.ntmps52
    go_wp2_with fail
    refine wp_region_mix (fun _ => True) [3, 3, 3, 3, 3, 3, 2, 3] (List.range 8) (by kernel_rfl) (by kernel_rfl) (fun _ _ h => h) trivial ?_
    repeat ((first | refine wpMix_pure rfl rfl (fun K hK => ?_) | refine wpMix_loc rfl rfl (fun K hK => ?_) | refine wpMix_any rfl rfl (fun K hK => ?_)); go_simp; refine hK _ _ ?_; clear hK K)
    refine wpMix_loud rfl rfl (fun n1 K hK => ?_)
    have hml : i + (l.length - j1) = l.length - 1 := by omega
    refine wpList_append_arg _ rfl (.tmp 22) (.tmp 25) 31 rfl 22 i0 (.int .u64 0) 1 8 Tryd.underlying31 hi0.out hz0.out hz1.out hz2.out rfl (by decide) g off i cp (u64s (l.take i)) rfl s4.out s0.out Ad (l.length - j1) (cp - j1) (u64s (l.drop j1)) rfl s1.out hsrc.out s2.out (fun _ => s3.out) (by unfold maxLen; omega) (by omega) (fun hr => ?_) (fun hg => by omega)
    have q := heap_setCells (e := 22) g (u64s (l.drop j1)) (off + i * 1) (w.drew.drewN n1) cur h3.out
    obtain ⟨W1, hW1⟩ : ∃ u, Hid (u = (w.drew.drewN n1).setCells g (off + i * 1) (u64s (l.drop j1))) := ⟨_, Lib.hid rfl⟩
    rw [← hW1.out] at q ⊢
    obtain ⟨q1, q2, q3, q4, q5, q6⟩ := q
    rw [Nat.mul_one] at q1
    have Q1 : Hid (Blk W1 g 22 (setAll cur (off + i) (u64s (l.drop j1)))) := Lib.hid q1
    have N1 : Hid (Fr (fun k => k = g) w (fun k => k = g) W1) := Lib.hid ⟨q4, q5, q6, by rw [q3]; exact Nat.le_refl _, fun k hk hn => q2 k hn, fun k hk => .inl hk⟩
    have hz := Q1.out.frozen (off + (l.length - 1))
    have hcz : W1.cell? ⟨g, off + (l.length - 1), none⟩ = (setAll cur (off + i) (u64s (l.drop j1)))[off + (l.length - 1)]? := Q1.out.cell _
    have hszz : (setAll cur (off + i) (u64s (l.drop j1))).size = cur.size := setAll_size _ _ _
    have hcc : (W1.cell? ⟨g, off + (l.length - 1), none⟩).isSome = true := by
      rw [hcz, Array.getElem?_eq_getElem (by rw [hszz]; omega)]
      rfl
    have hone : l.length - (l.length - 1) = 1 := by omega
    have hclr : Hid (∀ nn ty cc, (Builtin.clear_ #[31] ty #[.slice (some ⟨g, off + (l.length - 1), none⟩) 1 cc]).run Tryd.prog (W1.drewN nn) = .ok (.tuple #[]) ((W1.drewN nn).setCells g (off + (l.length - 1)) [.int .u64 0])) := Lib.hid fun nn ty cc =>
      Lib.run_clear_slice (W1.drewN nn) _ _ ty _ Tryd.underlying31 u64_zero rfl rfl g (off + (l.length - 1)) 1 cc (by omega) (fun t ht => by rw [show t = 0 by omega]; exact hcc) (fun t ht => by rw [show t = 0 by omega]; exact hz)
    rw [hml]
    have hlc : l.length - 1 ≤ cp := by omega
    have hlq : (cp = l.length - 1) = False := by simp; omega
    have hl1 : ((l.length - 1 : Nat) : Int) ≤ 9223372036854775807 := by omega
    clear q1 q2 q3 q4 q5 q6 hcz hcc hz hA s0 s1 s2 s3 s4 hsrc hi0 hz0 hz1 hz2 h3 hr
    have hclr2 := hclr.out
    refine hK _ _ (fun _ => trivial) ?_; clear hK K
    repeat ((first | refine wpMix_pure rfl rfl (fun K hK => ?_) | refine wpMix_loc rfl rfl (fun K hK => ?_) | refine wpMix_any rfl rfl (fun K hK => ?_)); go_simp; refine hK _ _ ?_; clear hK K)
    refine wpMix_nil (fun n2 => ?_)
    go_wp2
    obtain ⟨q1, q2, q3, q4, q5, q6⟩ := heap_setCells (e := 22) g [.int .u64 0] (off + (l.length - 1)) (W1.drewN n2) _ Q1.out
    have hN : Fr (fun k => k = g) w (fun k => k = g) ((W1.drewN n2).setCells g (off + (l.length - 1)) [.int .u64 0]) :=
      (N1.out.drewN n2).trans ⟨q4, q5, q6, by rw [q3]; exact Nat.le_refl _, fun k hk hn => q2 k hn, fun k hk => .inl hk⟩
    have hW : Wl ((W1.drewN n2).setCells g (off + (l.length - 1)) [.int .u64 0]) (.slice (some ⟨g, off, none⟩) (l.length - 1) cp) (l.eraseIdx i) := by
      have hle : (l.eraseIdx i).length = l.length - 1 := by rw [List.length_eraseIdx, if_pos hi]
      unfold Wl
      rw [hle]
      exact ⟨by rw [u64s, List.length_map, hle, Nat.mul_one], .inr ⟨g, off, cp, _, rfl, Nat.zero_le _, q1, hlc, h5, by rw [setAll_size, setAll_size]; exact h6, hcl.out⟩⟩
    have hN := Lib.hid hN
    have hW := Lib.hid hW
    clear q1 q2 q3 q4 q5 q6
    go_ret
    exact ⟨rfl, hW.out, hN.out⟩
end Go.Proofs.YtkjeobcfaolcaaaDoor
/- Taking a key out: what lies behind moves back. Plain. -/
namespace Go.Proofs.YtkjeobcfaolcaaaDoor
set_option linter.unusedVariables false

theorem bit_dst {k f h : Nat} (hk : k ≤ 62) (hf : f < 2 ^ k) (hh : h < 2 ^ k) : bits .and .i64 ((f : Int) - (h : Int)) (((2 ^ k : Nat) : Int) - 1) = (dst (2 ^ k) h f : Int) := by
  have hq : 2 ^ k ≤ 2 ^ 62 := Nat.pow_le_pow_right (by omega) hk
  have h0 := Nat.two_pow_pos k
  unfold dst
  have e1 : (((2 ^ k : Nat) : Int) - 1) = ((2 ^ k - 1 : Nat) : Int) := by omega
  rw [e1]
  split
  · rename_i hle
    have h := bits_and_i64_nat (f - h) (2 ^ k - 1) (by omega) (by omega)
    rw [Nat.and_two_pow_sub_one_eq_mod, Nat.mod_eq_of_lt (by omega)] at h
    rw [← h]
    congr 1
    omega
  · rename_i hgt
    obtain ⟨d, hd⟩ : ∃ d, h = f + d := ⟨h - f, by omega⟩
    subst hd
    have h1 : (BitVec.ofInt 64 ((f : Int) - ((f + d : Nat) : Int))).toNat = 2 ^ 64 - d := by
      rw [BitVec.toNat_ofInt]
      have : ((f : Int) - ((f + d : Nat) : Int)) % ((2 ^ 64 : Nat) : Int) = ((2 ^ 64 - d : Nat) : Int) := by
        rw [show (f : Int) - ((f + d : Nat) : Int) = ((2 ^ 64 - d : Nat) : Int) + ((2 ^ 64 : Nat) : Int) * (-1) by omega, Int.add_mul_emod_self_left]
        omega
      rw [this]
      rfl
    have h2 : (BitVec.ofInt 64 ((2 ^ k - 1 : Nat) : Int)).toNat = 2 ^ k - 1 := by
      rw [BitVec.ofInt_natCast, BitVec.toNat_ofNat]; exact Nat.mod_eq_of_lt (by omega)
    show IntKind.i64.wrap ((BitVec.ofInt 64 ((f : Int) - ((f + d : Nat) : Int)) &&& BitVec.ofInt 64 ((2 ^ k - 1 : Nat) : Int)).toNat : Int) = _
    rw [BitVec.toNat_and, h1, h2, Nat.and_two_pow_sub_one_eq_mod]
    have hdv : 2 ^ 64 = 2 ^ k * 2 ^ (64 - k) := by rw [← Nat.pow_add]; congr 1; omega
    have hm : (2 ^ 64 - d) % 2 ^ k = f + 2 ^ k - (f + d) := by
      have hb : 1 ≤ 2 ^ (64 - k) := Nat.two_pow_pos _
      have e2 : 2 ^ 64 - d = (2 ^ k - d) + 2 ^ k * (2 ^ (64 - k) - 1) := by
        rw [Nat.mul_sub, Nat.mul_one, ← hdv]
        have : 2 ^ k ≤ 2 ^ 64 := Nat.pow_le_pow_right (by omega) (by omega)
        omega
      rw [e2, Nat.add_mul_mod_self_left, Nat.mod_eq_of_lt (by omega)]
      omega
    rw [hm]
    exact IntWalk.i64_in _ (by omega)

section
variable {β : Type}
def St.clear (s : St β) (j : Nat) (z : β) : St β := ⟨fun i => if i = j then false else s.U i, fun i => if i = j then 0 else s.K i, fun i => if i = j then z else s.X i⟩
def St.move (s : St β) (f k : Nat) (z : β) : St β := (s.set f (s.K k) (s.X k)).clear k z
/-- the loop: f is free, k is looked at -/
def St.shift (n : Nat) (hm : Int → Nat) (z : β) : Nat → St β → Nat → Nat → St β
  | 0, s, _, _ => s
  | r + 1, s, f, k => if s.U k = true then (if dst n (hm (s.K k)) f < dst n (hm (s.K k)) k then St.shift n hm z r (s.move f k z) k ((k + 1) % n) else St.shift n hm z r s f ((k + 1) % n)) else s
/-- strictly between f and k, in a circle -/
def btw (f k j : Nat) : Prop := if f < k then f < j ∧ j < k else f < j ∨ j < k
structure Sh (n : Nat) (hm : Int → Nat) (s : St β) (f k e : Nat) (l : List Int) : Prop where
  hf : f < n
  hk : k < n
  he : e < n
  ne : f ≠ k
  free : s.U f = false
  end_ : s.U e = false
  nee : f ≠ e
  ahead : ¬ btw f k e
  path : ∀ j, j < n → s.U j = true → ∀ i, i < n → onp (hm (s.K j)) j i → s.U i = true ∨ i = f
  beyond : ∀ j, j < n → s.U j = true → onp (hm (s.K j)) j f → ¬ btw f k j
  uniq : ∀ i j, i < n → j < n → s.U i = true → s.U j = true → s.K i = s.K j → i = j
  keys : ∀ x, x ∈ l ↔ ∃ j, j < n ∧ s.U j = true ∧ s.K j = x
theorem nxq {n k : Nat} (hk : k < n) : ∃ q, (k + 1) % n = q ∧ ((k + 1 = n ∧ q = 0) ∨ (k + 1 < n ∧ q = k + 1)) := by
  refine ⟨_, rfl, ?_⟩
  rw [nx hk]
  split <;> omega
theorem dst_onp {n h f k : Nat} (hh : h < n) (hf : f < n) (hk : k < n) (hne : f ≠ k) : dst n h f < dst n h k ↔ onp h k f := by
  unfold dst onp
  constructor
  · intro h1; split at h1 <;> (split at h1 <;> (split <;> omega))
  · intro h1; split at h1 <;> (split <;> (first | omega | (split <;> omega)))
section
variable {n : Nat} {hm : Int → Nat} {s : St β} {f k e : Nat} {l : List Int} {z : β}
theorem Sh.last (h : Sh n hm s f k e l) (hu : s.U k = false) (hn : l.Nodup) (hr : l.length < n) : TInv n hm s.U s.K l where
  path := fun j hj huj i hi hp => by
    rcases h.path j hj huj i hi hp with h1 | rfl
    · exact h1
    · exfalso
      have h2 := h.beyond j hj huj hp
      have hjf : j ≠ i := by rintro rfl; rw [h.free] at huj; cases huj
      have hjk : j ≠ k := by rintro rfl; rw [hu] at huj; cases huj
      have hk := h.hk
      have hne := h.ne
      rcases h.path j hj huj k hk (by unfold onp btw at *; split at h2 <;> (split at hp <;> (split <;> omega))) with h3 | h3
      · rw [hu] at h3; cases h3
      · exact h.ne h3.symm
  uniq := h.uniq
  keys := h.keys
  nodup := hn
  room := hr
theorem Sh.stay (h : Sh n hm s f k e l) (hb : ∀ x, hm x < n) (hu : s.U k = true) (hc : ¬ dst n (hm (s.K k)) f < dst n (hm (s.K k)) k) : Sh n hm s f ((k + 1) % n) e l := by
  have hf := h.hf
  have hk := h.hk
  have he := h.he
  have hne := h.ne
  have hke : k ≠ e := by rintro rfl; rw [h.end_] at hu; cases hu
  rw [dst_onp (hb _) hf hk hne] at hc
  have hkf : (k + 1) % n ≠ f := by
    intro e1
    have ha := h.ahead
    have hn := h.nee
    rw [nx hk] at e1
    unfold btw at ha
    split at e1 <;> (split at ha <;> omega)
  refine ⟨hf, Nat.mod_lt _ (by omega), he, hkf.symm, h.free, h.end_, h.nee, fun hb2 => ?_, h.path, fun j hj huj hp hbt => ?_, h.uniq, h.keys⟩
  · have ha := h.ahead
    obtain ⟨q, e1, e2⟩ := nxq hk
    rw [e1] at hb2 hkf
    unfold btw at hb2 ha
    split at hb2 <;> (split at ha <;> omega)
  · have h2 := h.beyond j hj huj hp
    by_cases hjk : j = k
    · subst hjk; exact hc hp
    · obtain ⟨q, e1, e2⟩ := nxq hk
      rw [e1] at hbt hkf
      unfold btw at hbt h2
      split at hbt <;> (split at h2 <;> omega)
theorem move_U (i : Nat) : (s.move f k z).U i = if i = k then false else if i = f then true else s.U i := rfl
theorem move_K (i : Nat) : (s.move f k z).K i = if i = k then 0 else if i = f then s.K k else s.K i := rfl
theorem Sh.moved (h : Sh n hm s f k e l) (hb : ∀ x, hm x < n) (hu : s.U k = true) (hc : dst n (hm (s.K k)) f < dst n (hm (s.K k)) k) : Sh n hm (s.move f k z) k ((k + 1) % n) e l := by
  have hf := h.hf
  have hk := h.hk
  have he := h.he
  have hne := h.ne
  have hke : k ≠ e := by rintro rfl; rw [h.end_] at hu; cases hu
  rw [dst_onp (hb _) hf hk hne] at hc
  have hnx : (k + 1) % n ≠ k := by rw [nx hk]; split <;> omega
  refine ⟨hk, Nat.mod_lt _ (by omega), he, hnx.symm, ?_, ?_, hke, ?_, ?_, ?_, ?_, ?_⟩
  · rw [move_U, if_pos rfl]
  · rw [move_U, if_neg hke.symm, if_neg h.nee.symm, h.end_]
  · rw [nx hk]
    unfold btw
    split <;> (split <;> omega)
  · intro j hj huj i hi hp
    rw [move_U] at huj ⊢
    rw [move_K] at hp
    by_cases hik : i = k
    · exact .inr hik
    · left
      rw [if_neg hik]
      by_cases hif : i = f
      · rw [if_pos hif]
      · rw [if_neg hif]
        by_cases hjk : j = k
        · rw [if_pos hjk] at huj; cases huj
        · rw [if_neg hjk] at huj hp
          by_cases hjf : j = f
          · subst hjf
            rw [if_pos rfl] at hp
            -- the way to f is a part of the way to k
            rcases h.path k hk hu i hi (by
              have := hb (s.K k)
              unfold onp at *
              split at hp <;> (split at hc <;> (split <;> omega))) with h1 | h1
            · exact h1
            · exact (hif h1).elim
          · rw [if_neg hjf] at huj hp
            rcases h.path j hj huj i hi hp with h1 | h1
            · exact h1
            · exact (hif h1).elim
  · intro j hj huj hp hbt
    rw [nx hk] at hbt
    unfold btw at hbt
    split at hbt <;> (split at hbt <;> omega)
  · intro a b ha hb' hua hub e1
    rw [move_U] at hua hub
    rw [move_K, move_K] at e1
    by_cases hak : a = k
    · rw [if_pos hak] at hua; cases hua
    by_cases hbk : b = k
    · rw [if_pos hbk] at hub; cases hub
    rw [if_neg hak] at hua e1
    rw [if_neg hbk] at hub e1
    by_cases haf : a = f <;> by_cases hbf : b = f
    · omega
    · rw [if_pos haf, if_neg hbf] at e1
      rw [if_neg hbf] at hub
      exact (hbk (h.uniq k b hk hb' hu hub e1).symm).elim
    · rw [if_neg haf, if_pos hbf] at e1
      rw [if_neg haf] at hua
      exact (hak (h.uniq a k ha hk hua hu e1)).elim
    · rw [if_neg haf, if_neg hbf] at e1
      rw [if_neg haf] at hua
      rw [if_neg hbf] at hub
      exact h.uniq a b ha hb' hua hub e1
  · intro x
    rw [h.keys]
    constructor
    · rintro ⟨j, hj, huj, rfl⟩
      by_cases hjk : j = k
      · subst hjk
        exact ⟨f, hf, by rw [move_U, if_neg hne, if_pos rfl], by rw [move_K, if_neg hne, if_pos rfl]⟩
      · have hjf : j ≠ f := by rintro rfl; rw [h.free] at huj; cases huj
        exact ⟨j, hj, by rw [move_U, if_neg hjk, if_neg hjf]; exact huj, by rw [move_K, if_neg hjk, if_neg hjf]⟩
    · rintro ⟨j, hj, huj, rfl⟩
      rw [move_U] at huj
      rw [move_K]
      by_cases hjk : j = k
      · rw [if_pos hjk] at huj; cases huj
      · rw [if_neg hjk] at huj ⊢
        by_cases hjf : j = f
        · rw [if_pos hjf]
          exact ⟨k, hk, hu, rfl⟩
        · rw [if_neg hjf] at huj ⊢
          exact ⟨j, hj, huj, rfl⟩
/-- The first free slot behind k, how far: what the loop's rounds are counted by. -/
theorem Sh.done (hb : ∀ x, hm x < n) (hn : l.Nodup) (hr : l.length < n) : ∀ (r : Nat) (s : St β) (f k : Nat), Sh n hm s f k e l → dst n k e < r → TInv n hm (St.shift n hm z r s f k).U (St.shift n hm z r s f k).K l
  | 0, s, f, k, h, hd => by omega
  | r + 1, s, f, k, h, hd => by
    rw [St.shift]
    by_cases hu : s.U k = true
    · rw [if_pos hu]
      have hke : k ≠ e := by rintro rfl; rw [h.end_] at hu; cases hu
      have hk := h.hk
      have he := h.he
      have hd' : dst n ((k + 1) % n) e < r := by
        rw [nx hk]
        unfold dst at *
        split <;> (split at hd <;> (split <;> omega))
      by_cases hc : dst n (hm (s.K k)) f < dst n (hm (s.K k)) k
      · rw [if_pos hc]
        exact Sh.done hb hn hr r _ _ _ (h.moved hb hu hc) hd'
      · rw [if_neg hc]
        exact Sh.done hb hn hr r _ _ _ (h.stay hb hu hc) hd'
    · rw [if_neg hu]
      exact h.last (by simpa using hu) hn hr
/-- The key's slot is cleared: so the loop begins. -/
theorem TInv.hole (h : TInv n hm s.U s.K l) {key : Int} {j : Nat} (hj : j < n) (hu : s.U j = true) (hkj : s.K j = key) (h2 : 2 ≤ n) {e : Nat} (he : e < n) (hue : s.U e = false) : Sh n hm (s.clear j z) j ((j + 1) % n) e (l.filter (· != key)) := by
  have hje : j ≠ e := by rintro rfl; rw [hue] at hu; cases hu
  have cU : ∀ i, (s.clear j z).U i = if i = j then false else s.U i := fun i => rfl
  have cK : ∀ i, (s.clear j z).K i = if i = j then 0 else s.K i := fun i => rfl
  refine ⟨hj, Nat.mod_lt _ (by omega), he, ?_, by rw [cU, if_pos rfl], by rw [cU, if_neg hje.symm]; exact hue, hje, ?_, ?_, ?_, ?_, ?_⟩
  · rw [nx hj]; split <;> omega
  · rw [nx hj]; unfold btw; split <;> (split <;> omega)
  · intro i hi hui q hq hp
    rw [cU] at hui ⊢
    rw [cK] at hp
    by_cases hij : i = j
    · rw [if_pos hij] at hui; cases hui
    · rw [if_neg hij] at hui hp
      by_cases hqj : q = j
      · exact .inr hqj
      · rw [if_neg hqj]; exact .inl (h.path i hi hui q hq hp)
  · intro i hi hui hp hbt
    rw [nx hj] at hbt
    unfold btw at hbt
    split at hbt <;> (split at hbt <;> omega)
  · intro a b ha hb hua hub e1
    rw [cU] at hua hub
    rw [cK, cK] at e1
    by_cases haj : a = j
    · rw [if_pos haj] at hua; cases hua
    by_cases hbj : b = j
    · rw [if_pos hbj] at hub; cases hub
    rw [if_neg haj] at hua e1
    rw [if_neg hbj] at hub e1
    exact h.uniq a b ha hb hua hub e1
  · intro x
    rw [List.mem_filter, h.keys]
    constructor
    · rintro ⟨⟨i, hi, hui, rfl⟩, hx⟩
      have hij : i ≠ j := by rintro rfl; simp [hkj] at hx
      exact ⟨i, hi, by rw [cU, if_neg hij]; exact hui, by rw [cK, if_neg hij]⟩
    · rintro ⟨i, hi, hui, rfl⟩
      rw [cU] at hui
      rw [cK]
      by_cases hij : i = j
      · rw [if_pos hij] at hui; cases hui
      · rw [if_neg hij] at hui ⊢
        exact ⟨⟨i, hi, hui, rfl⟩, by
          have : s.K i ≠ key := fun e2 => hij (h.uniq i j hi hj hui hu (e2.trans hkj.symm))
          simpa using this⟩
end
def St.take (s : St β) (k : Nat) (z : β) (key : Int) : St β := St.shift (2 ^ k) (hmk k) z (2 ^ k) (s.clear (s.slot k key) z) (s.slot k key) ((s.slot k key + 1) % 2 ^ k)
theorem St.Inv.take {s : St β} {k : Nat} {l : List Int} (h : s.Inv k l) (h1 : 1 ≤ k) (h2 : k ≤ 62) {key : Int} (hk : key ∈ l) (z : β) : (s.take k z key).Inv k (l.filter (· != key)) := by
  have hn : 2 ≤ 2 ^ k := Nat.le_trans (show 2 ≤ 2 ^ 1 by decide) (Nat.pow_le_pow_right (by decide) h1)
  obtain ⟨e, he, hue⟩ := TInv.free h
  obtain ⟨_, hj, _, _, (⟨_, hu, hkj⟩ | ⟨hn', _⟩)⟩ := TInv.look h (hmk_lt h1 h2) key
  · have hh := TInv.hole (z := z) (s := s) h hj hu hkj hn he hue
    refine Sh.done (hmk_lt h1 h2) (h.nodup.filter _) ?_ _ _ _ _ hh ?_
    · have := List.length_filter_le (· != key) l
      have := h.room
      omega
    · exact dst_lt (Nat.mod_lt _ (by omega)) he
  · exact (hn' hk).elim
end
end Go.Proofs.YtkjeobcfaolcaaaDoor
