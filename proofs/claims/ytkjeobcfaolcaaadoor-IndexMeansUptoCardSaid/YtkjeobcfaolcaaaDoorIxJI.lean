/- Put of a new key, without a growing, by contract (a table of int). -/
import Derived.Test.YtkjeobcfaolcaaaDoorIxHI
import Derived.Test.YtkjeobcfaolcaaaDoorMix
namespace Go.Proofs.YtkjeobcfaolcaaaDoor
open Go.RowKit
set_option maxHeartbeats 4000000
set_option linter.unusedVariables false
set_option linter.unusedSimpArgs false

theorem SltI.put {w : World} {g sl : Nat} {U : Nat → Bool} {K : Nat → Int} {X : Nat → Value} (h : SltI w g sl U K X) {j : Nat} (hj : j < sl) (key : Int) (x : Value) {n : Nat} :
    SltI ((((w.drewN n).setCell ⟨g, j * 3, none⟩ (.bool true)).setCell ⟨g, j * 3 + 1, none⟩ (.int .u64 key)).setCell ⟨g, j * 3 + 2, none⟩ x) g sl (fun i => if i = j then true else U i) (fun i => if i = j then key else K i) (fun i => if i = j then x else X i) := by
  obtain ⟨cs, hb, hc⟩ := h
  refine ⟨_, (((hb.drewN n).set_ (j * 3) (.bool true)).set_ (j * 3 + 1) (.int .u64 key)).set_ (j * 3 + 2) x, fun i hi => ?_⟩
  obtain ⟨c0, c1, c2⟩ := hc i hi
  obtain ⟨j0, j1, j2⟩ := hc j hj
  have s0 := (Array.getElem?_eq_some_iff.1 j0).1
  have s1 := (Array.getElem?_eq_some_iff.1 j1).1
  have s2 := (Array.getElem?_eq_some_iff.1 j2).1
  by_cases e : i = j
  · subst e
    simp [Array.getElem?_setIfInBounds, s0, s1, s2]
  · have a0 : j * 3 ≠ i * 3 := by omega
    have a1 : j * 3 + 1 ≠ i * 3 := by omega
    have a2 : j * 3 + 2 ≠ i * 3 := by omega
    have b0 : j * 3 ≠ i * 3 + 1 := by omega
    have b1 : j * 3 + 1 ≠ i * 3 + 1 := by omega
    have b2 : j * 3 + 2 ≠ i * 3 + 1 := by omega
    have d0 : j * 3 ≠ i * 3 + 2 := by omega
    have d1 : j * 3 + 1 ≠ i * 3 + 2 := by omega
    have d2 : j * 3 + 2 ≠ i * 3 + 2 := by omega
    simp only [Array.getElem?_setIfInBounds, a0, a1, a2, b0, b1, b2, d0, d1, d2, if_false, if_neg e]
    exact ⟨c0, c1, c2⟩
set_option maxRecDepth 100000 in
theorem putI_new {t g k fuel j m cz : Nat} {key : Int} {U : Nat → Bool} {Ky : Nat → Int} {X : Nat → Value} {A : Option Addr} {cp : Nat} {l : List Int} {w : World} {y : Int} (hT : Tab w) (ht : Blk w t 73 #[.slice (some ⟨g, 0, none⟩) (2 ^ k : Nat) cz, .slice A l.length cp])
    (hS : SltI w g (2 ^ k) U Ky X) (hv : Wl w (.slice A l.length cp) l) (h1 : 1 ≤ k) (h2 : k ≤ 62) (hf : fuel ≤ 4611686018427387904) (hl : lgo U Ky key (2 ^ k) fuel (homeOf key k).toNat 1 = some (j, m)) (hj : j < 2 ^ k) (hu : U j = false)
    (hroom : 4 * (l.length + 1) ≤ 3 * 2 ^ k) (hlen : (l.length + 1) * 8 ≤ 140737488355328) (hsl : 2 ^ k ≤ 1099511627776) :
    Calls Tryd.prog 15 #[.pointer (some ⟨t, 0, none⟩), .int .u64 key, .int .i64 y] w fun e w' => e = .returned (.tuple #[.int .i64 0, .bool false, .int .i64 0]) ∧
      ∃ A' cp', Blk w' t 73 #[.slice (some ⟨g, 0, none⟩) (2 ^ k : Nat) cz, .slice A' (l.length + 1) cp'] ∧ SltI w' g (2 ^ k) (fun i => if i = j then true else U i) (fun i => if i = j then key else Ky i) (fun i => if i = j then .int .i64 y else X i) ∧
        Wl w' (.slice A' (l.length + 1) cp') (l ++ [key]) ∧ Fr (fun b => b = t ∨ b = g ∨ own (.slice A l.length cp) b) w (fun b => b = t ∨ b = g ∨ own (.slice A' (l.length + 1) cp') b) w' := by
  have S1 : SltI (w.alloc (.cells #[.pointer (some ⟨t, 0, none⟩)] 32)) g (2 ^ k) U Ky X := by obtain ⟨cs, hb, hc⟩ := hS; exact ⟨cs, hb.alloc _, hc⟩
  have B1 := Blk.alloc ht (.cells #[.pointer (some ⟨t, 0, none⟩)] 32)
  have V1 := hv.alloc (.cells #[.pointer (some ⟨t, 0, none⟩)] 32)
  have P1 := Blk.new w 32 #[.pointer (some ⟨t, 0, none⟩)]
  have M1 : Fr (fun b => b = t ∨ b = g ∨ own (.slice A l.length cp) b) w (fun b => b = t ∨ b = g ∨ own (.slice A l.length cp) b) (w.alloc (.cells #[.pointer (some ⟨t, 0, none⟩)] 32)) := (Fr.refl _ w).alloc _
  have hpt : w.heap.size ≠ t := by have := Blk.lt ht; omega
  have hpg : w.heap.size ≠ g := by obtain ⟨cs, hb, _⟩ := hS; have := Blk.lt hb; omega
  have hpv : ¬ own (.slice A l.length cp) w.heap.size := fun e => by have := hv.lt _ e; omega
  have C := Lib.hid (lookI_b (hT.alloc _) B1 S1.at_ h1 h2 hf hl)
  have d0 : (w.alloc (.cells #[.pointer (some ⟨t, 0, none⟩)] 32)).cell? ⟨t, 0, none⟩ = some (.slice (some ⟨g, 0, none⟩) (2 ^ k : Nat) cz) := B1.cell 0
  have d1 : (w.alloc (.cells #[.pointer (some ⟨t, 0, none⟩)] 32)).cell? ⟨t, 1, none⟩ = some (.slice A l.length cp) := B1.cell 1
  have p0 : (w.alloc (.cells #[.pointer (some ⟨t, 0, none⟩)] 32)).cell? ⟨w.heap.size, 0, none⟩ = some (.pointer (some ⟨t, 0, none⟩)) := P1.cell 0
  have hjl : decide (j < 2 ^ k) = true := decide_eq_true hj
  have M := Lib.hid (madeI_b (c1 := .slice A l.length cp) d0)
  have dU := (S1.at_ j hj).1
  have dK := (S1.at_ j hj).2
  have dX := (S1.val hj).1
  rw [hu] at dU
  have dz := (S1.val hj).2
  have z0 := dz (j * 3)
  have z1 := dz (j * 3 + 1)
  have z2 := dz (j * 3 + 2)
  clear hT ht hS hv hf hl hu dz
  generalize 2 ^ k = sl at *
  have hgr : decide (4 * ((l.length : Int) + 1) > 3 * (sl : Int)) = false := decide_eq_false (by omega)
  have hl1 : (l.length : Int) ≤ 17592186044416 := by omega
  have hl2 : (sl : Int) ≤ 1099511627776 := by omega
  have B1 := Lib.hid B1
  have S1 := Lib.hid S1
  have V1 := Lib.hid V1
  have P1 := Lib.hid P1
  have M1 := Lib.hid M1
  obtain ⟨w1, hw1⟩ : ∃ u, Hid (u = w.alloc (.cells #[.pointer (some ⟨t, 0, none⟩)] 32)) := ⟨_, Lib.hid rfl⟩
  rw [← hw1.out] at B1 S1 V1 P1 M1 C M d0 d1 p0 dU dK dX z0 z1 z2
  go_enter Tryd.func15, Tryd.ntmps15
  go_wp2_with fail
  rw [← hw1.out]
  refine M.out.mono ?_
  rintro _ w2 ⟨rfl, rfl⟩
  go_wp2_with fail
  refine C.out.mono ?_
  rintro _ w2 ⟨rfl, rfl⟩
  go_wp2
  have q1 : IntKind.i64.wrap ((l.length : Int) + 1) = (l.length : Int) + 1 := IntWalk.i64_in _ (by omega)
  have q2 : IntKind.i64.wrap (4 * ((l.length : Int) + 1)) = 4 * ((l.length : Int) + 1) := IntWalk.i64_in _ (by omega)
  have q3 : IntKind.i64.wrap (3 * (sl : Int)) = 3 * (sl : Int) := IntWalk.i64_in _ (by omega)
  refine wp_region_mix (fun _ => True) [1, 3, 3, 1, 3, 3, 3, 1, 3, 3, 1, 3, 3, 3] (List.range 14) (by kernel_rfl) (by kernel_rfl) (fun _ _ h => h) trivial ?_
  repeat ((first | refine wpMix_pure rfl rfl (fun K hK => ?_) | refine wpMix_loc rfl rfl (fun K hK => ?_) | refine wpMix_any rfl rfl (fun K hK => ?_)); go_simp; refine hK _ _ ?_; clear hK K)
  refine wpMix_nil (fun n1 => ?_)
  go_wp2
  clear d0 d1 p0 dU dK dX z0 z1 z2 M C
  have hgt : t ≠ g := by obtain ⟨cs, hb, _⟩ := S1.out; exact Blk.ne_ B1.out hb (by decide)
  have hvg : ¬ own (.slice A l.length cp) g := by obtain ⟨cs, hb, _⟩ := S1.out; exact Rowv.ne_ V1.out hb (by decide)
  have hvt : ¬ own (.slice A l.length cp) t := Rowv.ne_ V1.out B1.out (by decide)
  obtain ⟨w2, hw2⟩ : ∃ u, u = ((((w1.drewN (1 + n1)).setCell ⟨g, j * 3, none⟩ (.bool true)).setCell ⟨g, j * 3 + 1, none⟩ (.int .u64 key)).setCell ⟨g, j * 3 + 2, none⟩ (.int .i64 y)) := ⟨_, rfl⟩
  have B2 : Hid (Blk w2 t 73 #[.slice (some ⟨g, 0, none⟩) sl cz, .slice A l.length cp]) := Lib.hid (by rw [hw2]; exact (((B1.out.drewN _).far hgt _).far hgt _).far hgt _)
  have P2 : Hid (Blk w2 w.heap.size 32 #[.pointer (some ⟨t, 0, none⟩)]) := Lib.hid (by rw [hw2]; exact (((P1.out.drewN _).far hpg _).far hpg _).far hpg _)
  have V2 : Hid (Wl w2 (.slice A l.length cp) l) := Lib.hid (by rw [hw2]; exact (((V1.out.drewN _).set (p := ⟨g, _, none⟩) hvg _).set (p := ⟨g, _, none⟩) hvg _).set (p := ⟨g, _, none⟩) hvg _)
  have S2 : Hid (SltI w2 g sl (fun i => if i = j then true else U i) (fun i => if i = j then key else Ky i) (fun i => if i = j then .int .i64 y else X i)) := Lib.hid (by rw [hw2]; exact S1.out.put hj key (.int .i64 y))
  have M2 : Hid (Fr (fun b => b = t ∨ b = g ∨ own (.slice A l.length cp) b) w (fun b => b = t ∨ b = g ∨ own (.slice A l.length cp) b) w2) := Lib.hid (by rw [hw2]; exact ((((M1.out.drewN _).set (p := ⟨g, _, none⟩) (.inl (.inr (.inl rfl))) _).set (p := ⟨g, _, none⟩) (.inl (.inr (.inl rfl))) _).set (p := ⟨g, _, none⟩) (.inl (.inr (.inl rfl))) _))
  rw [← hw2]
  clear hw2 B1 P1 V1 S1 M1 hw1
  have p2 : w2.cell? ⟨w.heap.size, 0, none⟩ = some (.pointer (some ⟨t, 0, none⟩)) := P2.out.cell 0
  have d2 : w2.cell? ⟨t, 1, none⟩ = some (.slice A l.length cp) := B2.out.cell 1
  generalize w.heap.size = pb at *
  refine wp_region_mix (fun W' => W'.cell? ⟨pb, 0, none⟩ = some (.pointer (some ⟨t, 0, none⟩)) ∧ W'.cell? ⟨t, 1, none⟩ = some (.slice A l.length cp)) [0, 0, 3, 3, 0, 3, 2, 2, 3, 3, 2] (List.range 11) (by kernel_rfl) (by kernel_rfl) (fun _ _ h => h) ⟨p2, d2⟩ ?_
  repeat (first | ((first | refine wpMix_pure rfl rfl (fun K hK => ?_) | refine wpMix_loc rfl rfl (fun K hK => ?_) | refine wpMix_any rfl rfl (fun K hK => ?_)); go_simp; refine hK _ _ ?_; clear hK K) | (refine wpMix_any rfl rfl (fun K hK => ?_); rw [if_pos (by go_simp)]; apply Exists.intro; refine And.intro (fun w2 hS2 => ?_) (hK _ _ ?_); (focus (obtain ⟨hs1, hs2⟩ := hS2; go_simp; rfl)); clear hK K))
  refine wpMix_loud rfl rfl (fun n2 K hK => ?_)
  go_wp2
  refine hK _ _ (fun _ => ⟨cell_alloc_ p2, cell_alloc_ d2⟩) ?_; clear hK K
  repeat (first | ((first | refine wpMix_pure rfl rfl (fun K hK => ?_) | refine wpMix_loc rfl rfl (fun K hK => ?_) | refine wpMix_any rfl rfl (fun K hK => ?_)); go_simp; refine hK _ _ ?_; clear hK K) | (refine wpMix_any rfl rfl (fun K hK => ?_); rw [if_pos (by go_simp)]; apply Exists.intro; refine And.intro (fun w2 hS2 => ?_) (hK _ _ ?_); (focus (obtain ⟨hs1, hs2⟩ := hS2; go_simp; rfl)); clear hK K))
  refine wpMix_loud rfl rfl (fun n3 K hK => ?_)
  refine wpList_word ((w2.drewN (1 + n2)).drewN n3) rfl (.tmp 112) (.tmp 114) rfl (.slice A l.length cp) l key rfl ((V2.out.drewN _).drewN _) rfl hlen ?_
  intro A3 c3 w3 hc3 hv3 hm3
  have hgv3 : Hid (∀ cs, Blk w2 g 81 cs → Blk w3 g 81 cs) := Lib.hid fun cs hb => hm3.blk ((hb.drewN _).drewN _) hvg
  have B3 : Hid (Blk w3 t 73 #[.slice (some ⟨g, 0, none⟩) sl cz, .slice A l.length cp]) := Lib.hid (hm3.blk ((B2.out.drewN _).drewN _) hvt)
  have P3 : Hid (Blk w3 pb 32 #[.pointer (some ⟨t, 0, none⟩)]) := Lib.hid (hm3.blk ((P2.out.drewN _).drewN _) hpv)
  have S3 : Hid (SltI w3 g sl (fun i => if i = j then true else U i) (fun i => if i = j then key else Ky i) (fun i => if i = j then .int .i64 y else X i)) := Lib.hid (by obtain ⟨cs, hb, hc⟩ := S2.out; exact ⟨cs, hgv3.out cs hb, hc⟩)
  have V3 := Lib.hid hv3
  have M3 : Hid (Fr (fun b => b = t ∨ b = g ∨ own (.slice A l.length cp) b) w (fun b => b = t ∨ b = g ∨ own (.slice A3 (l.length + 1) c3) b) w3) := Lib.hid (by
    have e1 := (((M2.out.drewN (1 + n2)).drewN n3).trans (hm3.wide fun k hk => .inr (.inr hk)))
    exact e1.into fun k hk => hk.elim (fun h => .inr (.inl (.inl h))) fun hk => hk.elim (fun h => .inr (.inl (.inr (.inl h)))) .inl)
  have p3 : w3.cell? ⟨pb, 0, none⟩ = some (.pointer (some ⟨t, 0, none⟩)) := P3.out.cell 0
  have d3 : w3.cell? ⟨t, 1, none⟩ = some (.slice A l.length cp) := B3.out.cell 1
  have z3 := B3.out.frozen 1
  clear hv3 hm3 V2 B2 P2 S2 M2 hgv3 p2 d2
  refine hK _ _ (fun _ => ⟨p3, d3⟩) ?_; clear hK K
  repeat (first | ((first | refine wpMix_pure rfl rfl (fun K hK => ?_) | refine wpMix_loc rfl rfl (fun K hK => ?_) | refine wpMix_any rfl rfl (fun K hK => ?_)); go_simp; refine hK _ _ ?_; clear hK K) | (refine wpMix_any rfl rfl (fun K hK => ?_); rw [if_pos (by go_simp)]; apply Exists.intro; refine And.intro (fun w2 hS2 => ?_) (hK _ _ ?_); (focus (obtain ⟨hs1, hs2⟩ := hS2; go_simp; rfl)); clear hK K))
  refine wpMix_loud rfl rfl (fun n4 K hK => ?_)
  go_wp2
  refine hK _ _ (fun h => (Bool.false_ne_true ((Eq.symm (by kernel_rfl)).trans h)).elim) ?_; clear hK K
  refine wpMix_nil (fun n5 => ?_)
  go_wp2
  go_ret3
  have hvt3 : ¬ own (.slice A3 (l.length + 1) c3) t := Rowv.ne_ V3.out B3.out (by decide)
  refine ⟨rfl, A3, c3, ((B3.out.drewN _).set_ 1 _).drewN _, ?_, ((V3.out.drewN _).set (p := ⟨t, _, none⟩) hvt3 _).drewN _, ?_⟩
  · obtain ⟨cs, hb, hc⟩ := S3.out
    exact ⟨cs, ((hb.drewN _).far (p := ⟨t, 1, none⟩) (Ne.symm hgt) _).drewN _, hc⟩
  · exact ((M3.out.drewN _).set (p := ⟨t, 1, none⟩) (.inl (.inl rfl)) _).drewN _
end Go.Proofs.YtkjeobcfaolcaaaDoor
