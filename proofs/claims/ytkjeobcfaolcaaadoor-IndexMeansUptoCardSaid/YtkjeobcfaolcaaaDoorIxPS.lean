/- Slots cloned; Get, Len, Keys, Copy, by contract (a table of string). -/
import Derived.Test.YtkjeobcfaolcaaaDoorIxO
import Derived.Test.YtkjeobcfaolcaaaDoorIxJS
namespace Go.Proofs.YtkjeobcfaolcaaaDoor
open Go.RowKit
set_option maxHeartbeats 4000000
set_option linter.unusedVariables false
set_option linter.unusedSimpArgs false

theorem Slt.lt {w : World} {g sl : Nat} {U : Nat → Bool} {K : Nat → Int} {X : Nat → Value} (h : Slt w g sl U K X) : g < w.heap.size := by obtain ⟨cs, hb, _⟩ := h; exact hb.lt
theorem Slt.alloc {w : World} {g sl : Nat} {U : Nat → Bool} {K : Nat → Int} {X : Nat → Value} (h : Slt w g sl U K X) (o : Obj) : Slt (w.alloc o) g sl U K X := by obtain ⟨cs, hb, hc⟩ := h; exact ⟨cs, hb.alloc o, hc⟩
theorem Slt.drewN {w : World} {g sl : Nat} {U : Nat → Bool} {K : Nat → Int} {X : Nat → Value} (h : Slt w g sl U K X) (n : Nat) : Slt (w.drewN n) g sl U K X := h
theorem Slt.fr {F F' : Nat → Prop} {w w' : World} {g sl : Nat} {U : Nat → Bool} {K : Nat → Int} {X : Nat → Value} (h : Slt w g sl U K X) (hf : Fr F w F' w') (hF : ¬ F g) : Slt w' g sl U K X := by obtain ⟨cs, hb, hc⟩ := h; exact ⟨cs, hf.blk hb hF, hc⟩
theorem slot_infoS : (Tryd.prog.info? 87).map (fun i => (i.zero, i.size, i.bytes)) = some (some (.agg #[.bool false, .int .u64 0, .string ⟨#[]⟩]), 3, 32) := by kernel_rfl
theorem eqlS (a : Option Addr) (l c : Nat) (w : World) : (binOp .eql 75 (.slice a l c) (.slice none 0 0)).run Tryd.prog w = .ok (.bool a.isNone) w := run_eql_slice_nil 75 _ a l c w Tryd.underlying75
set_option maxRecDepth 100000 in
theorem cloneS_b {g sl cz : Nat} {U : Nat → Bool} {K : Nat → Int} {X : Nat → Value} {w : World} (h : Slt w g sl U K X) (hX : ∀ i, i < sl → (X i).oneCell' = true) (h0 : 0 < sl) (hlen : sl * 32 ≤ 140737488355328) :
    Calls Tryd.prog 77 #[.slice (some ⟨g, 0, none⟩) sl cz] w fun e w' => ∃ g' cz', e = .returned (.slice (some ⟨g', 0, none⟩) sl cz') ∧ Slt w' g' sl U K X ∧ w.heap.size ≤ g' ∧ Fr (fun _ => False) w (fun k => k = g') w' := by
  obtain ⟨cs, hb, hc⟩ := h
  have hsz : sl * 3 ≤ cs.size := by
    have := (Array.getElem?_eq_some_iff.1 (hc (sl - 1) (by omega)).2.2).1
    omega
  obtain ⟨news, hnews⟩ : ∃ news, Hid (news = cs.toList.take (sl * 3)) := ⟨_, Lib.hid rfl⟩
  have hn : news.length = sl * 3 := by rw [hnews.out, List.length_take]; simp; omega
  have hget : ∀ j, j < sl * 3 → news[j]? = cs[j]? := fun j hj => by rw [hnews.out, List.getElem?_take, if_pos hj, Array.getElem?_toList]
  have h1c : ∀ u ∈ news, u.oneCell' = true := by
    intro u hu
    obtain ⟨j, hj⟩ := List.mem_iff_getElem?.1 hu
    have hjl : j < sl * 3 := by rw [← hn]; exact (List.getElem?_eq_some_iff.1 hj).1
    rw [hget j hjl] at hj
    obtain ⟨a0, a1, a2⟩ := hc (j / 3) (by omega)
    rcases (by omega : j = j / 3 * 3 ∨ j = j / 3 * 3 + 1 ∨ j = j / 3 * 3 + 2) with e | e | e
    · rw [e, a0] at hj; cases hj; rfl
    · rw [e, a1] at hj; cases hj; rfl
    · rw [e, a2] at hj; cases hj; exact hX _ (by omega)
  have hcell : ∀ j u, news[j]? = some u → (w.alloc (.cells #[] 87)).cell? ((⟨g, 0, none⟩ : Addr).add j) = some u := fun j u hj => by
    have hjl : j < sl * 3 := by rw [← hn]; exact (List.getElem?_eq_some_iff.1 hj).1
    rw [Addr.add_lit, Nat.zero_add, Blk.cell (hb.alloc _), ← hget j hjl]
    exact hj
  have hcell := Lib.hid hcell
  have h1c := Lib.hid h1c
  have hget := Lib.hid hget
  have hc := Lib.hid hc
  have hn := Lib.hid hn
  clear hX hb
  have eq1 := eqlS
  obtain ⟨i0, hi, hz0, hz1, hz2⟩ := info_parts slot_infoS
  have hi := Lib.hid hi
  have hz0 := Lib.hid hz0
  have hz1 := Lib.hid hz1
  have hz2 := Lib.hid hz2
  have hb1 : 0 + sl ≤ maxLen := by unfold maxLen; omega
  have hb2 : (0 + sl) * 32 ≤ 140737488355328 := by omega
  go_enter Tryd.func77, Tryd.ntmps77
  go_wp2_with (at_builtin; refine wpList_append_arg _ rfl (.tmp 5) (.tmp 6) 75 rfl 87 i0 _ 3 32 Tryd.underlying75 hi.out hz0.out hz1.out hz2.out rfl (by decide) w.heap.size 0 0 0 [] rfl rfl (fun j u hj => by simp at hj) ⟨g, 0, none⟩ sl cz news rfl hn.out hcell.out h1c.out (fun hr => by omega) hb1 hb2 (fun hr => by omega) ?_; intro hlt v' w' hown hgr; rw [List.nil_append, Nat.zero_add] at hown; obtain ⟨g', cap, cur, rfl, hb', hh, hsz2, htk⟩ := ownsRow_made hown h0; have hgr := Lib.hid hgr; have hh := Lib.hid hh; have htk := Lib.hid htk; clear hown)
  go_ret
  refine ⟨_, _, rfl, ⟨cur, hh.out, fun i hi => ?_⟩, by simp at hb'; omega, ?_⟩
  · have e : ∀ j, j < sl * 3 → cur[j]? = cs[j]? := fun j hj => by
      rw [← hget.out j hj, ← htk.out, List.getElem?_take, if_pos hj, Array.getElem?_toList]
    obtain ⟨a0, a1, a2⟩ := hc.out i hi
    exact ⟨(e _ (by omega)).trans a0, (e _ (by omega)).trans a1, (e _ (by omega)).trans a2⟩
  · have e1 : Fr (fun _ => False) w (fun _ => False) (w.alloc (.cells #[] 87)) := (Fr.refl _ w).alloc _
    refine (e1.grown hgr.out fun k hk => by cases hk).into fun k hk => .inr (.inr ?_)
    rw [hk]
    simp at hb'
    omega
set_option maxRecDepth 100000 in
theorem getS_b {t g k fuel j m cz : Nat} {key : Int} {U : Nat → Bool} {K : Nat → Int} {X : Nat → Value} {c1 : Value} {w : World} (hT : Tab w) (ht : Blk w t 77 #[.slice (some ⟨g, 0, none⟩) (2 ^ k : Nat) cz, c1])
    (hS : Slt w g (2 ^ k) U K X) (h1 : 1 ≤ k) (h2 : k ≤ 62) (hf : fuel ≤ 4611686018427387904) (hl : lgo U K key (2 ^ k) fuel (homeOf key k).toNat 1 = some (j, m)) (hj : j < 2 ^ k) :
    Calls Tryd.prog 53 #[.pointer (some ⟨t, 0, none⟩), .int .u64 key] w fun e w' => e = .returned (.tuple #[X j, .bool (U j)]) ∧ ∃ n, w' = w.drewN n := by
  have C := Lib.hid (lookS_b hT ht hS.at_ h1 h2 hf hl)
  have d0 : w.cell? ⟨t, 0, none⟩ = some (.slice (some ⟨g, 0, none⟩) (2 ^ k : Nat) cz) := ht.cell 0
  have M := Lib.hid (madeS_b (c1 := c1) d0)
  have dU := (hS.at_ j hj).1
  have dX := (hS.val hj).1
  have hjl : decide (j < 2 ^ k) = true := decide_eq_true hj
  clear hT ht hS hf hl h1 h2
  generalize 2 ^ k = sl at *
  generalize X j = x at *
  generalize U j = u at *
  go_enter Tryd.func53, Tryd.ntmps53
  go_wp2_with fail
  refine M.out.mono ?_
  rintro _ w2 ⟨rfl, rfl⟩
  go_wp2_with fail
  refine C.out.mono ?_
  rintro _ w2 ⟨rfl, rfl⟩
  go_wp2
  refine wp_region_mix (fun _ => True) [3, 3, 3, 1, 3, 3, 3, 1, 3, 3, 3, 1, 3, 3, 3, 1, 3, 3] (List.range 18) (by kernel_rfl) (by kernel_rfl) (fun _ _ h => h) trivial ?_
  repeat ((first | refine wpMix_pure rfl rfl (fun K hK => ?_) | refine wpMix_loc rfl rfl (fun K hK => ?_) | refine wpMix_any rfl rfl (fun K hK => ?_)); go_simp; refine hK _ _ ?_; clear hK K)
  refine wpMix_nil (fun n1 => ?_)
  go_wp2
  go_ret2
  exact ⟨rfl, 1 + n1, drewN_drewN w 1 n1⟩
theorem lenS_b {t g sl cz : Nat} {A : Option Addr} {n cp : Nat} {w : World} (ht : Blk w t 77 #[.slice (some ⟨g, 0, none⟩) sl cz, .slice A n cp]) :
    Calls Tryd.prog 25 #[.pointer (some ⟨t, 0, none⟩)] w fun e w' => e = .returned (.int .i64 (n : Int)) ∧ w = w' := by
  have d0 : w.cell? ⟨t, 0, none⟩ = some (.slice (some ⟨g, 0, none⟩) sl cz) := ht.cell 0
  have d1 : w.cell? ⟨t, 1, none⟩ = some (.slice A n cp) := ht.cell 1
  have M := Lib.hid (madeS_b (c1 := .slice A n cp) d0)
  clear ht
  go_enter Tryd.func25, Tryd.ntmps25
  go_wp2_with fail
  refine M.out.mono ?_
  rintro _ w2 ⟨rfl, rfl⟩
  go_wp2
  go_ret
  exact ⟨rfl, rfl⟩
theorem keysS_b {t g sl cz : Nat} {A : Option Addr} {cp : Nat} {l : List Int} {w : World} (ht : Blk w t 77 #[.slice (some ⟨g, 0, none⟩) sl cz, .slice A l.length cp]) (hv : Wl w (.slice A l.length cp) l) (hlen : l.length * 8 ≤ 140737488355328) :
    Calls Tryd.prog 28 #[.pointer (some ⟨t, 0, none⟩)] w fun e w' => ∃ A' cp', e = .returned (.slice A' l.length cp') ∧ Wl w' (.slice A' l.length cp') l ∧ Fr (fun _ => False) w (own (.slice A' l.length cp')) w' := by
  have d0 : w.cell? ⟨t, 0, none⟩ = some (.slice (some ⟨g, 0, none⟩) sl cz) := ht.cell 0
  have d1 : w.cell? ⟨t, 1, none⟩ = some (.slice A l.length cp) := ht.cell 1
  have M := Lib.hid (madeS_b (c1 := .slice A l.length cp) d0)
  have C := Lib.hid (clone_b hv.lies hlen)
  clear ht hv
  go_enter Tryd.func28, Tryd.ntmps28
  go_wp2_with fail
  refine M.out.mono ?_
  rintro _ w2 ⟨rfl, rfl⟩
  go_wp2_with fail
  refine C.out.mono ?_
  rintro _ w2 ⟨A', cp', rfl, hv, hm⟩
  have hv := Lib.hid hv
  have hm := Lib.hid hm
  clear C M
  go_wp2
  go_ret
  exact ⟨_, _, rfl, hv.out, hm.out⟩
end Go.Proofs.YtkjeobcfaolcaaaDoor
