/- A read log: Cut, Copy, by contract; one that is none. -/
import Derived.Test.YtfhpnlaabgkpjaaDoorRows
import Derived.ProofKit
import Derived.OpenShut
import Derived.ChangeOld
import Derived.Below
import Derived.SizedLaws
import Derived.Deep.Slices
import Derived.Deep.Fields
import Derived.ChangeSame
import Derived.Carry
import Derived.Test.YtfhpnlaabgkpjaaDoorPLg1
import Derived.Test.YtfhpnlaabgkpjaaDoorPLg5
namespace Go.Proofs.YtfhpnlaabgkpjaaDoor
open Go.RowKit Go.Shelf
set_option maxHeartbeats 4000000
set_option linter.unusedVariables false
set_option linter.unusedSimpArgs false

section
variable {w w' : World} {r : Nat} {F G G' : Nat → Prop} {most : Nat} {l : List (Int × Int)}
theorem rcut_yes {n : Nat} (h : RdW w r F most l) (hl : l.length ≤ 4611686018427387904) (hn : n ≤ l.length) : Calls Tryd.prog 36 #[.pointer (some ⟨r, 0, none⟩), .int .i64 (n : Int)] w fun e w' => e = .returned (.int .i64 0) ∧ ∃ F', RdW w' r F' most (l.take n) ∧ Fr F w F' w' := by
  obtain ⟨A, cp, rfl, hb, hL⟩ := h
  have hcp : l.length ≤ cp := by
    obtain ⟨A', cp', e, hc⟩ := Sl.shape hL
    injection e with e1 e2 e3
    omega
  have hlm : cp ≤ maxLen := by
    rcases hL.2 with ⟨e, _⟩ | ⟨_, _, _, _, e, _, _, _, h, _⟩
    · injection e with _ _ e; unfold maxLen; omega
    · injection e with _ _ e; omega
  unfold maxLen at hlm
  have c0 : w.cell? ⟨r, 0, none⟩ = some (.bool true) := hb.cell 0
  have c2 : w.cell? ⟨r, 2, none⟩ = some (.slice A l.length cp) := hb.cell 2
  have z2 := hb.frozen 2
  have C := Lib.hid (rnone_b (cs := #[]) c0)
  have hV := Sl.cut encC_len hL hn (Nat.le_refl n) (Nat.le_trans hn hcp)
  have hlen : (l.take n).length = n := by rw [List.length_take]; omega
  have q := log_put (i := 2) (v := .slice A l.length cp) (v3 := .slice A n n) hb hL (by decide) hV (((Fr.refl (own (.slice A l.length cp)) w).into fun k hk => .inl (own_len hk)))
  replace q := Lib.hid q
  have hnl : (n : Int) ≤ (l.length : Int) := by omega
  have hnc : (n : Int) ≤ (cp : Int) := by omega
  have hz1 : decide (n > l.length) = false := decide_eq_false (by omega)
  have hz2 : decide (n ≤ cp) = true := decide_eq_true (by omega)
  have hci : (cp : Int) ≤ 9223372036854775807 := by omega
  replace hlen := Lib.hid hlen
  clear hb hL hV c0 hl
  go_enter Tryd.func36, Tryd.ntmps36
  go_wp2_with fail
  refine C.out.mono ?_
  rintro _ w2 ⟨rfl, rfl⟩
  go_wp2
  go_ret
  obtain ⟨q1, q2, q3⟩ := q.out
  refine ⟨rfl, _, ⟨A, n, rfl, ?_, ?_⟩, ?_⟩
  · rw [hlen.out]; exact q1
  · rw [hlen.out]; exact q2
  · exact q3.into fun k hk => .inl (hk.imp id fun h => own_len h)
theorem rcut_no {n : Int} (h : RdW w r F most l) (hl : l.length ≤ 4611686018427387904) (hn : n < 0 ∨ (l.length : Int) < n) (h1 : -9223372036854775808 ≤ n) (h2 : n ≤ 9223372036854775807) : Calls Tryd.prog 36 #[.pointer (some ⟨r, 0, none⟩), .int .i64 n] w fun e w' => e = .returned (.int .i64 2) ∧ w = w' := by
  obtain ⟨A, cp, rfl, hb, hL⟩ := h
  have c0 : w.cell? ⟨r, 0, none⟩ = some (.bool true) := hb.cell 0
  have c2 : w.cell? ⟨r, 2, none⟩ = some (.slice A l.length cp) := hb.cell 2
  have C := Lib.hid (rnone_b (cs := #[]) c0)
  clear hb hL c0
  by_cases h0 : n < 0
  · go_enter Tryd.func36, Tryd.ntmps36
    go_wp2_with fail
    refine C.out.mono ?_
    rintro _ w2 ⟨rfl, rfl⟩
    go_wp2
    go_ret
    exact ⟨rfl, rfl⟩
  · have h3 : decide (n < 0) = false := decide_eq_false h0
    have h4 : decide (n > (l.length : Int)) = true := decide_eq_true (by omega)
    clear h0 hn
    go_enter Tryd.func36, Tryd.ntmps36
    go_wp2_with fail
    refine C.out.mono ?_
    rintro _ w2 ⟨rfl, rfl⟩
    go_wp2
    go_ret
    exact ⟨rfl, rfl⟩
theorem rcopy_b (h : RdW w r F most l) (hm : l.length ≤ 1048576) : Calls Tryd.prog 10 #[.pointer (some ⟨r, 0, none⟩)] w fun e w' => ∃ s G, e = .returned (.pointer (some ⟨s, 0, none⟩)) ∧ RdW w' s G most l ∧ Fr (fun _ => False) w G w' := by
  obtain ⟨A, cp, rfl, hb, hL⟩ := h
  have hmx : Tryd.prog.follows .mixedOrders = true := by kernel_rfl
  have c0 : w.cell? ⟨r, 0, none⟩ = some (.bool true) := hb.cell 0
  have c1 : w.cell? ⟨r, 1, none⟩ = some (.int .i64 (most : Int)) := hb.cell 1
  have c2 : w.cell? ⟨r, 2, none⟩ = some (.slice A l.length cp) := hb.cell 2
  have C := Lib.hid (rnone_b (cs := #[]) c0)
  have hb := Lib.hid hb
  have hL := Lib.hid hL
  have h1 := Lib.hid (show 0 + l.length ≤ 9223372036854775807 by omega)
  have h2 := Lib.hid (show (0 + l.length) * 16 ≤ 140737488355328 by omega)
  clear hm c0
  go_enter Tryd.func10, Tryd.ntmps10
  go_wp2_with fail
  refine C.out.mono ?_
  rintro _ w2 ⟨rfl, rfl⟩
  go_wp2_with fail
  refine wp_region_mix (fun W => W.cell? ⟨r, 1, none⟩ = some (.int .i64 (most : Int))) [3, 3, 3, 0, 3, 3, 3, 1, 2, 2, 2, 3] (List.range 12) (by kernel_rfl) (by kernel_rfl) (fun _ _ h => h) c1 ?_
  repeat (first | ((first | refine wpMix_pure rfl rfl (fun K hK => ?_) | refine wpMix_loc rfl rfl (fun K hK => ?_) | refine wpMix_any rfl rfl (fun K hK => ?_)); go_simp; refine hK _ _ ?_; clear hK K) | (refine wpMix_any rfl rfl (fun K hK => ?_); rw [if_pos (by go_simp)]; apply Exists.intro; refine And.intro (fun w2 hS2 => ?_) (hK _ _ ?_); (focus (obtain hs1 := hS2; go_simp; rfl)); clear hK K))
  refine wpMix_loud rfl rfl (fun n1 K hK => ?_)
  refine wpList_cells (w.drew.drewN n1) rfl (.const (.slice none 0 0)) (.tmp 12) rfl (.slice none 0 0) (.slice A l.length cp) [] l rfl (Sl.nil _) rfl (hL.out.drewN (1 + n1)) h1.out h2.out ?_
  intro A3 cp3 w3 hc3 hv3 hm3
  have c13 : w3.cell? ⟨r, 1, none⟩ = some (.int .i64 (most : Int)) := (hm3.blk (hb.out.drewN (1 + n1)) (own_nil' _ _ _)).cell 1
  replace hv3 := Lib.hid hv3
  replace hm3 := Lib.hid hm3
  clear c1 c2 C hL
  refine hK _ _ (fun _ => c13) ?_; clear hK K
  repeat (first | ((first | refine wpMix_pure rfl rfl (fun K hK => ?_) | refine wpMix_loc rfl rfl (fun K hK => ?_) | refine wpMix_any rfl rfl (fun K hK => ?_)); go_simp; refine hK _ _ ?_; clear hK K) | (refine wpMix_any rfl rfl (fun K hK => ?_); rw [if_pos (by go_simp)]; apply Exists.intro; refine And.intro (fun w2 hS2 => ?_) (hK _ _ ?_); (focus (obtain hs1 := hS2; go_simp; rfl)); clear hK K))
  refine wpMix_loud rfl rfl (fun n2 K hK => ?_)
  go_wp2_with fail
  refine hK _ _ (fun h => (Bool.false_ne_true ((Eq.symm (by kernel_rfl)).trans h)).elim) ?_; clear hK K
  refine wpMix_loud rfl rfl (fun n3 K hK => ?_)
  go_wp2_with fail
  refine hK _ _ (fun h => (Bool.false_ne_true ((Eq.symm (by kernel_rfl)).trans h)).elim) ?_; clear hK K
  repeat ((first | refine wpMix_pure rfl rfl (fun K hK => ?_) | refine wpMix_loc rfl rfl (fun K hK => ?_) | refine wpMix_any rfl rfl (fun K hK => ?_)); go_simp; refine hK _ _ ?_; clear hK K)
  refine wpMix_nil (fun n4 => ?_)
  go_wp2
  go_ret
  have e0 : ([] : List (Int × Int)).length + l.length = l.length := Nat.zero_add _
  have v3 := hv3.out
  have m3 := hm3.out
  rw [e0, List.nil_append] at v3
  rw [e0] at m3
  have B := Blk.new (w3.drewN (n2 + n3)) 31 #[.bool true, .int .i64 (most : Int), .slice A3 l.length cp3]
  refine ⟨_, _, rfl, ⟨A3, cp3, rfl, B.drewN n4, Sl.drewN ((v3.drewN (n2 + n3)).alloc _) n4⟩, ?_⟩
  refine Fr.into ((((((Fr.refl (fun _ => False) w).drew.drewN n1).trans (m3.wide fun k hk => (own_nil' _ _ _ hk).elim)).drewN (n2 + n3)).alloc _).drewN n4) ?_
  rintro k (rfl | hk)
  · exact .inr (.inr m3.size)
  · exact .inl hk
/-- a read log that is none -/
def RdN (w : World) (p : Option Addr) : Prop := p = none ∨ ∃ r, p = some ⟨r, 0, none⟩ ∧ Blk w r 31 #[.bool false, .int .i64 0, .slice none 0 0]
theorem RdN.fr {p : Option Addr} (h : RdN w p) (hf : Fr (fun _ => False) w F w') : RdN w' p := h.imp id fun ⟨r, e, b⟩ => ⟨r, e, hf.blk b fun h => h⟩
variable {p : Option Addr}
theorem nnone_b (h : RdN w p) : Calls Tryd.prog 38 #[.pointer p] w fun e w' => e = .returned (.bool true) ∧ w = w' := by
  rcases h with rfl | ⟨r, rfl, hb⟩
  · go_enter Tryd.func38, Tryd.ntmps38
    go_wp2
    go_ret
    exact ⟨rfl, rfl⟩
  · have c0 : w.cell? ⟨r, 0, none⟩ = some (.bool false) := hb.cell 0
    clear hb
    go_enter Tryd.func38, Tryd.ntmps38
    go_wp2
    go_ret
    exact ⟨rfl, rfl⟩
theorem nlen_b (h : RdN w p) : Calls Tryd.prog 37 #[.pointer p] w fun e w' => e = .returned (.int .i64 0) ∧ w = w' := by
  have N := Lib.hid (nnone_b h)
  clear h
  go_enter Tryd.func37, Tryd.ntmps37
  go_wp2_with fail
  refine N.out.mono ?_
  rintro _ w2 ⟨rfl, rfl⟩
  go_wp2
  go_ret
  exact ⟨rfl, rfl⟩
theorem nadd_b {a x : Int} (h : RdN w p) : Calls Tryd.prog 35 #[.pointer p, .int .u64 a, .int .u64 x] w fun e w' => e = .returned (.int .i64 1) ∧ w = w' := by
  have N := Lib.hid (nnone_b h)
  clear h
  go_enter Tryd.func35, Tryd.ntmps35
  go_wp2_with fail
  refine N.out.mono ?_
  rintro _ w2 ⟨rfl, rfl⟩
  go_wp2
  go_ret
  exact ⟨rfl, rfl⟩
theorem ncut_b (h : RdN w p) : Calls Tryd.prog 36 #[.pointer p, .int .i64 0] w fun e w' => e = .returned (.int .i64 1) ∧ w = w' := by
  have N := Lib.hid (nnone_b h)
  clear h
  go_enter Tryd.func36, Tryd.ntmps36
  go_wp2_with fail
  refine N.out.mono ?_
  rintro _ w2 ⟨rfl, rfl⟩
  go_wp2
  go_ret
  exact ⟨rfl, rfl⟩
theorem ncopy_b (h : RdN w p) : Calls Tryd.prog 10 #[.pointer p] w fun e w' => e = .returned (.pointer none) ∧ w = w' := by
  have N := Lib.hid (nnone_b h)
  clear h
  go_enter Tryd.func10, Tryd.ntmps10
  go_wp2_with fail
  refine N.out.mono ?_
  rintro _ w2 ⟨rfl, rfl⟩
  go_wp2
  go_ret
  exact ⟨rfl, rfl⟩
theorem nat_b (h : RdN w p) : Calls Tryd.prog 33 #[.pointer p, .int .i64 0] w fun e w' => e = .returned (.tuple #[.agg #[.int .u64 0, .int .u64 0], .bool false]) ∧ Fr (fun _ => False) w (fun _ => False) w' := by
  have N := Lib.hid (nlen_b (h.fr ((Fr.refl (fun _ => False) w).alloc (.cells #[.int .u64 0, .int .u64 0] 55))))
  clear h
  go_enter Tryd.func33, Tryd.ntmps33
  go_wp2_with fail
  refine N.out.mono ?_
  rintro _ w2 ⟨rfl, rfl⟩
  go_wp2
  exact bodyPost_ret (v := .tuple #[.agg #[.int .u64 0, .int .u64 0], .bool false]) (by simp [results, Tryd.results33, go_sem]) rfl ⟨rfl, (Fr.refl (fun _ => False) w).alloc _⟩
theorem nall_b (h : RdN w p) : Calls Tryd.prog 14 #[.pointer p] w fun e w' => ∃ b, e = .returned (.func (.func 52) #[] #[.pointer (some ⟨b, 0, none⟩)]) ∧ SeqC w' b [] ∧ Fr (fun _ => False) w (fun _ => False) w' := by
  have b1 := Blk.new w 23 #[.pointer p]
  have h1 := h.fr ((Fr.refl (fun _ => False) w).alloc (.cells #[.pointer p] 23))
  generalize hw1 : w.alloc (.cells #[.pointer p] 23) = w1 at *
  have f1 : Fr (fun _ => False) w (fun _ => False) w1 := by rw [← hw1]; exact (Fr.refl (fun _ => False) w).alloc _
  have hC : ∀ W, Below w1.heap.size w1 W → Calls Tryd.prog 42 #[.pointer (some ⟨w.heap.size, 0, none⟩)] W fun e W' => e = .returned (.slice none 0 0) ∧ ∃ n, W' = W.drewN n := fun W hW => by
    have d0 : W.cell? ⟨w.heap.size, 0, none⟩ = some (.pointer p) := (b1.below hW b1.lt).cell 0
    have C := Lib.hid (nnone_b (w := W) (h1.imp id fun ⟨r, e, b⟩ => ⟨r, e, b.below hW b.lt⟩))
    clear b1 h1 hW f1 h
    go_enter Tryd.func42, Tryd.ntmps42
    go_wp2_with fail
    refine C.out.mono ?_
    rintro _ w2 ⟨rfl, rfl⟩
    go_wp2
    go_ret
    exact ⟨rfl, 0, rfl⟩
  have b2 := Blk.new w1 79 #[.func (.func 42) #[] #[.pointer (some ⟨w.heap.size, 0, none⟩)]]
  have f2 := f1.alloc (.cells #[.func (.func 42) #[] #[.pointer (some ⟨w.heap.size, 0, none⟩)]] 79)
  have S : SeqC (w1.alloc (.cells #[.func (.func 42) #[] #[.pointer (some ⟨w.heap.size, 0, none⟩)]] 79)) w1.heap.size [] := fun α encs xs h1 h2 => over_seq (A := none) (cp := 0) (l := []) (n := 2) b2 (enters_of Tryd.func42 (by kernel_rfl) rfl) (fun W hW => hC W (((Below.refl _ w1).alloc (Nat.le_refl _) _).trans (hW.mono (by simp)))) (LiesC.nil _) (by simp) encs xs h1 h2
  have O := Lib.hid (over_b (w := w1) (gf := 42) (lb := #[.pointer (some ⟨w.heap.size, 0, none⟩)]))
  replace S := Lib.hid S
  replace f2 := Lib.hid f2
  replace hw1 := Lib.hid hw1
  clear b1 b2 h1 hC h f1
  go_enter Tryd.func14, Tryd.ntmps14
  go_wp2_with fail
  rw [hw1.out]
  refine O.out.mono ?_
  rintro _ w2 ⟨rfl, rfl⟩
  go_wp2
  go_ret
  exact ⟨_, rfl, S.out, f2.out⟩
end
end Go.Proofs.YtfhpnlaabgkpjaaDoor
/- The document's log: Add, Stale, Copy, by contract. -/
namespace Go.Proofs.YtfhpnlaabgkpjaaDoor
open Go.RowKit Go.Shelf
set_option maxHeartbeats 4000000
set_option linter.unusedVariables false
set_option linter.unusedSimpArgs false

/-- the document's log at q, its blocks F -/
def LgR (w : World) (q : Nat) (F : Nat → Prop) (most : Nat) (l : List (Int × Int)) : Prop := ∃ A cp, F = (fun b => b = q ∨ own (.slice A l.length cp) b) ∧
  Blk w q 36 #[.int .i64 (most : Int), .slice A l.length cp] ∧ Cl w (.slice A l.length cp) l
section
variable {w w' : World} {q : Nat} {F G G' : Nat → Prop} {most : Nat} {l : List (Int × Int)} {cs : List Int} {v : Value}
theorem LgR.lt (h : LgR w q F most l) : ∀ b, F b → b < w.heap.size := by
  obtain ⟨A, cp, rfl, hb, hl⟩ := h
  rintro b (rfl | h)
  · exact hb.lt
  · exact hl.lt b h
theorem LgR.fr (h : LgR w q F most l) (hf : Fr G w G' w') (hG : ∀ b, F b → ¬ G b) : LgR w' q F most l := by
  obtain ⟨A, cp, rfl, hb, hl⟩ := h
  exact ⟨A, cp, rfl, hf.blk hb (hG _ (.inl rfl)), Sl.fr hl hf fun k hk => hG k (.inr hk)⟩
theorem LgR.drewN (h : LgR w q F most l) (n : Nat) : LgR (w.drewN n) q F most l := h
theorem dadd_b {a x : Int} (h : LgR w q F most l) (hsz : (l.length + 1) * 16 ≤ 140737488355328) (hmm : most ≤ 1048576) : Calls Tryd.prog 39 #[.pointer (some ⟨q, 0, none⟩), .int .u64 a, .int .u64 x] w fun e w' =>
    e = .returned (.int .i64 (if l.length < most then 0 else 5)) ∧ ∃ F', LgR w' q F' most (if l.length < most then l ++ [(a, x)] else l) ∧ Fr F w F' w' := by
  obtain ⟨A, cp, rfl, hb, hL⟩ := h
  have hmx : Tryd.prog.follows .mixedOrders = true := by kernel_rfl
  have c0 : w.cell? ⟨q, 0, none⟩ = some (.int .i64 (most : Int)) := hb.cell 0
  have c1 : w.cell? ⟨q, 1, none⟩ = some (.slice A l.length cp) := hb.cell 1
  have hb := Lib.hid hb
  have hL := Lib.hid hL
  by_cases hlt : l.length < most
  · rw [if_pos hlt, if_pos hlt]
    have h1 : decide (l.length ≥ most) = false := decide_eq_false (by omega)
    have hsz1 := Lib.hid (show l.length + 1 ≤ 9223372036854775807 by omega)
    replace hsz := Lib.hid hsz
    clear hlt
    go_enter Tryd.func39, Tryd.ntmps39
    go_wp2_with fail
    refine wp_region_mix (fun _ => True) [3, 3, 3, 1, 3, 3, 3, 3, 1, 3] (List.range 10) (by kernel_rfl) (by kernel_rfl) (fun _ _ h => h) trivial ?_
    repeat ((first | refine wpMix_pure rfl rfl (fun K hK => ?_) | refine wpMix_loc rfl rfl (fun K hK => ?_) | refine wpMix_any rfl rfl (fun K hK => ?_)); go_simp; refine hK _ _ ?_; clear hK K)
    refine wpMix_nil (fun n1 => ?_)
    have hL1 := Lib.hid (hL.out.drewN (1 + n1))
    have hb1 := Lib.hid (hb.out.drewN (1 + n1))
    have F1 := Lib.hid ((Fr.refl (fun b => b = q ∨ own (.slice A l.length cp) b) w).drewN (1 + n1))
    have c1 : (w.drewN (1 + n1)).cell? ⟨q, 1, none⟩ = some (.slice A l.length cp) := c1
    clear hL hb c0
    go_wp2_with (at_builtin; refine wpList_cell (w.drewN (1 + n1)) rfl (.tmp 21) (.tmp 25) rfl (.slice A l.length cp) l a x rfl hL1.out rfl hsz1.out hsz.out ?_; intro A3 cp3 w3 hc3 hv3 hm3; have B3 := hm3.blk hb1.out (Sl.ne_ hL1.out hb1.out (by decide)); have d2 : w3.cell? ⟨q, 1, none⟩ = some (.slice A l.length cp) := B3.cell 1; have zz := B3.frozen 1; have V3 := Lib.hid hv3; have M3 := Lib.hid hm3; clear hv3 hm3 B3)
    go_ret
    obtain ⟨q1, q2, q3⟩ := log_put (i := 1) hb1.out hL1.out (by decide) V3.out M3.out
    refine ⟨rfl, _, ⟨A3, cp3, rfl, by simpa using q1, by unfold Cl; simpa using q2⟩, ?_⟩
    exact (Fr.trans F1.out q3).into fun k hk => .inl (by simpa using hk)
  · rw [if_neg hlt, if_neg hlt]
    have h1 : decide (l.length ≥ most) = true := decide_eq_true (by omega)
    clear hlt
    go_enter Tryd.func39, Tryd.ntmps39
    go_wp2_with fail
    refine wp_region_mix (fun _ => True) [3, 3, 3, 1, 3, 3, 3, 3, 1, 3] (List.range 10) (by kernel_rfl) (by kernel_rfl) (fun _ _ h => h) trivial ?_
    repeat ((first | refine wpMix_pure rfl rfl (fun K hK => ?_) | refine wpMix_loc rfl rfl (fun K hK => ?_) | refine wpMix_any rfl rfl (fun K hK => ?_)); go_simp; refine hK _ _ ?_; clear hK K)
    refine wpMix_nil (fun n1 => ?_)
    go_wp2
    go_ret
    exact ⟨rfl, _, ⟨A, cp, rfl, hb.out.drewN (1 + n1), hL.out.drewN (1 + n1)⟩, (Fr.refl _ w).drew.drewN n1⟩
set_option maxRecDepth 100000 in
theorem dcopy_b (h : LgR w q F most l) (hsz : (0 + l.length) * 16 ≤ 140737488355328) : Calls Tryd.prog 11 #[.pointer (some ⟨q, 0, none⟩)] w fun e w' => ∃ s G, e = .returned (.pointer (some ⟨s, 0, none⟩)) ∧ LgR w' s G most l ∧ Fr (fun _ => False) w G w' := by
  obtain ⟨A, cp, rfl, hb, hL⟩ := h
  have hmx : Tryd.prog.follows .mixedOrders = true := by kernel_rfl
  have c0 : w.cell? ⟨q, 0, none⟩ = some (.int .i64 (most : Int)) := hb.cell 0
  have c1 : w.cell? ⟨q, 1, none⟩ = some (.slice A l.length cp) := hb.cell 1
  have hb := Lib.hid hb
  have hL := Lib.hid hL
  have h1 := Lib.hid (show 0 + l.length ≤ 9223372036854775807 by omega)
  replace hsz := Lib.hid hsz
  go_enter Tryd.func11, Tryd.ntmps11
  go_wp2_with fail
  refine wp_region_mix (fun W => W.cell? ⟨q, 0, none⟩ = some (.int .i64 (most : Int)) ∧ W.cell? ⟨q, 1, none⟩ = some (.slice A l.length cp)) [3, 3, 3, 0, 2, 3, 3, 3, 0, 2, 2, 2, 3] [0, 1, 2, 3, 5, 6, 7, 8, 4, 9, 10, 11, 12] (by kernel_rfl) (by kernel_rfl) (fun _ _ h => h) ⟨c0, c1⟩ ?_
  repeat (first | ((first | refine wpMix_pure rfl rfl (fun K hK => ?_) | refine wpMix_loc rfl rfl (fun K hK => ?_) | refine wpMix_any rfl rfl (fun K hK => ?_)); go_simp; refine hK _ _ ?_; clear hK K) | (refine wpMix_any rfl rfl (fun K hK => ?_); rw [if_pos (by go_simp)]; apply Exists.intro; refine And.intro (fun w2 hS2 => ?_) (hK _ _ ?_); (focus (obtain ⟨hs1, hs2⟩ := hS2; go_simp; rfl)); clear hK K))
  refine wpMix_loud rfl rfl (fun n0 K hK => ?_)
  go_wp2_with fail
  refine hK _ _ (fun _ => ⟨cell_alloc_ c0, cell_alloc_ c1⟩) ?_; clear hK K
  repeat (first | ((first | refine wpMix_pure rfl rfl (fun K hK => ?_) | refine wpMix_loc rfl rfl (fun K hK => ?_) | refine wpMix_any rfl rfl (fun K hK => ?_)); go_simp; refine hK _ _ ?_; clear hK K) | (refine wpMix_any rfl rfl (fun K hK => ?_); rw [if_pos (by go_simp)]; apply Exists.intro; refine And.intro (fun w2 hS2 => ?_) (hK _ _ ?_); (focus (obtain ⟨hs1, hs2⟩ := hS2; go_simp; rfl)); clear hK K))
  refine wpMix_loud rfl rfl (fun n1 K hK => ?_)
  have N1 : Cl (((w.drewN (1 + n0)).alloc (.cells #[] 55)).drewN n1) (.slice (some ⟨w.heap.size, 0, none⟩) 0 0) [] := Sl.drewN (Sl.new encC_len (w.drewN (1 + n0)) [] (by simp)) n1
  refine wpList_cells (((w.drewN (1 + n0)).alloc (.cells #[] 55)).drewN n1) rfl (.tmp 7) (.tmp 11) rfl (.slice (some ⟨w.heap.size, 0, none⟩) 0 0) (.slice A l.length cp) [] l rfl N1 rfl (((hL.out.drewN (1 + n0)).alloc _).drewN n1) h1.out hsz.out ?_
  intro A3 cp3 w3 hc3 hv3 hm3
  have hqn : ¬ own (.slice (some ⟨w.heap.size, 0, none⟩) 0 0) q := Sl.ne_ N1 (((hb.out.drewN (1 + n0)).alloc _).drewN n1) (by decide)
  have B3 := hm3.blk (((hb.out.drewN (1 + n0)).alloc _).drewN n1) hqn
  have c03 : w3.cell? ⟨q, 0, none⟩ = some (.int .i64 (most : Int)) := B3.cell 0
  have c13 : w3.cell? ⟨q, 1, none⟩ = some (.slice A l.length cp) := B3.cell 1
  replace hv3 := Lib.hid hv3
  replace hm3 := Lib.hid hm3
  clear c0 c1 hL N1 hqn B3
  refine hK _ _ (fun _ => ⟨c03, c13⟩) ?_; clear hK K
  repeat (first | ((first | refine wpMix_pure rfl rfl (fun K hK => ?_) | refine wpMix_loc rfl rfl (fun K hK => ?_) | refine wpMix_any rfl rfl (fun K hK => ?_)); go_simp; refine hK _ _ ?_; clear hK K) | (refine wpMix_any rfl rfl (fun K hK => ?_); rw [if_pos (by go_simp)]; apply Exists.intro; refine And.intro (fun w2 hS2 => ?_) (hK _ _ ?_); (focus (obtain ⟨hs1, hs2⟩ := hS2; go_simp; rfl)); clear hK K))
  refine wpMix_loud rfl rfl (fun n2 K hK => ?_)
  go_wp2_with fail
  refine hK _ _ (fun h => (Bool.false_ne_true ((Eq.symm (by kernel_rfl)).trans h)).elim) ?_; clear hK K
  refine wpMix_loud rfl rfl (fun n3 K hK => ?_)
  go_wp2_with fail
  refine hK _ _ (fun h => (Bool.false_ne_true ((Eq.symm (by kernel_rfl)).trans h)).elim) ?_; clear hK K
  repeat ((first | refine wpMix_pure rfl rfl (fun K hK => ?_) | refine wpMix_loc rfl rfl (fun K hK => ?_) | refine wpMix_any rfl rfl (fun K hK => ?_)); go_simp; refine hK _ _ ?_; clear hK K)
  refine wpMix_nil (fun n4 => ?_)
  go_wp2
  go_ret
  have e0 : ([] : List (Int × Int)).length + l.length = l.length := Nat.zero_add _
  have v3 := hv3.out
  have m3 := hm3.out
  rw [e0, List.nil_append] at v3
  rw [e0] at m3
  have B := Blk.new (w3.drewN (n2 + n3)) 36 #[.int .i64 (most : Int), .slice A3 l.length cp3]
  refine ⟨_, _, rfl, ⟨A3, cp3, rfl, B.drewN n4, Sl.drewN ((v3.drewN (n2 + n3)).alloc _) n4⟩, ?_⟩
  have f1 : Fr (fun _ => False) w (own (.slice (some ⟨w.heap.size, 0, none⟩) 0 0)) (((w.drewN (1 + n0)).alloc (.cells #[] 55)).drewN n1) := Fr.into ((((Fr.refl (fun _ => False) w).drewN (1 + n0)).alloc _).drewN n1) fun k hk => .inr (.inr (by
    have : w.heap.size = k := by simpa [own, Value.ownBlock] using hk
    omega))
  refine Fr.into ((((f1.trans m3).drewN (n2 + n3)).alloc _).drewN n4) ?_
  rintro k (rfl | hk)
  · exact .inr (.inr (Nat.le_trans (by simp) m3.size))
  · exact .inl hk
set_option maxRecDepth 100000 in
theorem dstale_b (h : LgR w q F most l) (hl : l.length ≤ 4611686018427387904) (hn : ∀ x ∈ l, 0 ≤ x.1 ∧ x.1 ≤ 18446744073709551615) (hv : Lies w v cs) (hc : cs.length ≤ 4611686018427387904) :
    Calls Tryd.prog 40 #[.pointer (some ⟨q, 0, none⟩), v] w fun e w' => e = .returned (.tuple #[.int .i64 (stale cs l).1, .bool (stale cs l).2]) ∧ ∃ n, w' = w.drewN n := by
  obtain ⟨A, cp, rfl, hb, hL⟩ := h
  have hmx : Tryd.prog.follows .mixedOrders = true := by kernel_rfl
  have c1 : w.cell? ⟨q, 1, none⟩ = some (.slice A l.length cp) := hb.cell 1
  obtain ⟨B, bp, rfl, _, _, hcc⟩ := id hv
  obtain ⟨⟨si, sb⟩, hp⟩ : ∃ u, Hid (stale cs l = u) := ⟨_, Lib.hid rfl⟩
  rw [hp.out]
  obtain ⟨A', cp', eA, _, _, hcl⟩ := hL.lies
  injection eA with e1 e2 e3
  subst e1 e3
  have hci : (cs.length : Int) ≤ 4611686018427387904 := by omega
  have hli : (l.length : Int) ≤ 4611686018427387904 := by omega
  have hwu : IntKind.u64.wrap (cs.length : Int) = (cs.length : Int) := by rw [IntKind.wrap_u64]; omega
  replace hcl := Lib.hid hcl
  replace hcc := Lib.hid hcc
  replace hn := Lib.hid hn
  clear hb hL hv e2 hl hc
  go_enter Tryd.func40, Tryd.ntmps40
  go_wp2
  go_loopw [6] (fun iv wr => ∃ m : Nat, m ≤ l.length ∧ iv = .int .i64 m ∧ Hid (∀ x ∈ l.take m, stal cs x = false) ∧ ∃ n, wr = w.drewN n) (fun iv _ => l.length - (intOf iv).toNat)
  case atStart => exact ⟨0, Nat.zero_le _, rfl, Lib.hid (by simp), 0, rfl⟩
  case round =>
    obtain ⟨m, hm, rfl, hst, n, rfl⟩ := hrel
    by_cases hlt : m < l.length
    · obtain ⟨g, o, rfl, hg, d0, d1⟩ := hcl.out m hlt
      obtain ⟨ha0, ha1⟩ := hn.out _ (List.getElem_mem hlt)
      have hat : Hid (stal cs l[m] = true → stale cs l = ((m : Int), true)) := Lib.hid (stale_at hlt hst.out)
      have hnx : Hid (stal cs l[m] = false → ∀ x ∈ l.take (m + 1), stal cs x = false) := Lib.hid fun h x hx => by
        rw [List.take_add_one, List.getElem?_eq_getElem hlt] at hx
        rcases List.mem_append.1 hx with h' | h'
        · exact hst.out x h'
        · have : x = l[m] := by simpa using h'
          rw [this]; exact h
      have hmi : (m : Int) < (l.length : Int) := by omega
      generalize l[m] = y at *
      obtain ⟨xa, xw⟩ := y
      dsimp only at ha0 ha1 d0 d1
      clear hg
      by_cases hxl : (cs.length : Int) ≤ xa
      · have hss : stal cs (xa, xw) = true := by simp [stal, hxl]
        obtain ⟨rfl, rfl⟩ : si = (m : Int) ∧ sb = true := by
          have e := hp.out
          rw [hat.out hss] at e
          injection e with e1 e2
          exact ⟨e1.symm, e2.symm⟩
        have hd : decide (xa ≥ (cs.length : Int)) = true := decide_eq_true hxl
        clear hxl hss
        go_wp2_with fail
        refine wp_region_mixH (fun _ => True) [3, 3, 3, 1, 3, 3, 3, 1, 3, 3, 3, 3, 3, 3, 3, 3, 3, 1, 3, 3, 3, 1, 3, 1, 3, 3, 3, 1, 3, 3, 3, 1, 3, 3] (List.range 34) (by kernel_rfl) (by kernel_rfl) (fun _ _ h => h) trivial ?_
        repeat ((first | refine wpMixH_pure rfl rfl (fun K hK => ?_) | refine wpMixH_loc rfl rfl (fun K hK => ?_) | refine wpMixH_any rfl rfl (fun K hK => ?_)); go_simp; refine hK _ _ ?_; clear hK K)
        refine wpMixH_nil (fun n1 => ?_)
        go_wp2
        try rw [Exit.noGoto_ret]
        go_ret2
        exact ⟨rfl, _, drewN_drewN _ _ _⟩
      · have hd : decide (xa ≥ (cs.length : Int)) = false := decide_eq_false (by omega)
        obtain ⟨xn, rfl⟩ : ∃ xn : Nat, xa = (xn : Int) := ⟨xa.toNat, by omega⟩
        have hxn : xn < cs.length := by omega
        have hsl : Hid (stal cs ((xn : Int), xw) = !decide (cs.getD xn 0 = xw)) := Lib.hid (by simp [stal, hxl])
        obtain ⟨gb, ob, rfl, db⟩ := hcc.out xn hxn
        have hxi : (xn : Int) < (cs.length : Int) := by omega
        generalize cs.getD xn 0 = y at *
        by_cases hxy : y = xw
        · have hss : Hid (∀ x ∈ l.take (m + 1), stal cs x = false) := Lib.hid (hnx.out (by rw [hsl.out]; simp [hxy]))
          subst hxy
          clear hxl hat hnx
          go_wp2_with fail
          refine wp_region_mixH (fun _ => True) [3, 3, 3, 1, 3, 3, 3, 1, 3, 3, 3, 3, 3, 3, 3, 3, 3, 1, 3, 3, 3, 1, 3, 1, 3, 3, 3, 1, 3, 3, 3, 1, 3, 3] (List.range 34) (by kernel_rfl) (by kernel_rfl) (fun _ _ h => h) trivial ?_
          repeat ((first | refine wpMixH_pure rfl rfl (fun K hK => ?_) | refine wpMixH_loc rfl rfl (fun K hK => ?_) | refine wpMixH_any rfl rfl (fun K hK => ?_)); go_simp; refine hK _ _ ?_; clear hK K)
          refine wpMixH_nil (fun n1 => ?_)
          go_wp2
          go_roundw
          case rel => exact ⟨m + 1, by omega, by simp, hss, _, rfl⟩
          case measure => simp [intOf]; omega
        · have hss : stal cs ((xn : Int), xw) = true := by rw [hsl.out]; simp [hxy]
          obtain ⟨rfl, rfl⟩ : si = (m : Int) ∧ sb = true := by
            have e := hp.out
            rw [hat.out hss] at e
            injection e with e1 e2
            exact ⟨e1.symm, e2.symm⟩
          have hne : (y != xw) = true := by simpa using hxy
          have hne2 : (y == xw) = false := by simpa using hxy
          clear hxl hss hxy
          go_wp2_with fail
          refine wp_region_mixH (fun _ => True) [3, 3, 3, 1, 3, 3, 3, 1, 3, 3, 3, 3, 3, 3, 3, 3, 3, 1, 3, 3, 3, 1, 3, 1, 3, 3, 3, 1, 3, 3, 3, 1, 3, 3] (List.range 34) (by kernel_rfl) (by kernel_rfl) (fun _ _ h => h) trivial ?_
          repeat ((first | refine wpMixH_pure rfl rfl (fun K hK => ?_) | refine wpMixH_loc rfl rfl (fun K hK => ?_) | refine wpMixH_any rfl rfl (fun K hK => ?_)); go_simp; refine hK _ _ ?_; clear hK K)
          refine wpMixH_nil (fun n1 => ?_)
          go_wp2
          try rw [Exit.noGoto_ret]
          go_ret2
          exact ⟨rfl, _, drewN_drewN _ _ _⟩
    · obtain rfl : m = l.length := by omega
      obtain ⟨rfl, rfl⟩ : si = 0 ∧ sb = false := by
        have e := hp.out
        rw [stale_none fun x hx => hst.out x (by rw [List.take_length]; exact hx)] at e
        injection e with e1 e2
        exact ⟨e1.symm, e2.symm⟩
      go_wp2
      go_ret2
      exact ⟨rfl, _, rfl⟩
end
end Go.Proofs.YtfhpnlaabgkpjaaDoor
/- Arguments opened: slices of whole numbers, slices of structs of whole numbers. -/
namespace Go.Proofs.YtfhpnlaabgkpjaaDoor
open Go.ChangeShapes Go.WideShapes Go.ChangeAt Go.RowKit Go.Deep

section
variable {H : Type} {enc : TypeId × Value → H} {P : Program} {w : World} {base : Nat} {spare : Nat → Bool} {held : Bool}
/-- A slice of structs of one-cell fields: each field's cell and reading. -/
theorem open_slice_fields {t e : TypeId} {fs : Array Field} {fuel : Nat} {cs : List Value} {x : DataW H × List MemPlace} (ht : P.underlying t = some (.slice e)) (he : P.underlying e = some (.struct fs))
    (hone : oneCellFields P fs = true) (hC : P.cellsOf e = fs.size) (h : DataW.trod enc P w base spare held fuel t cs = some x) :
    (cs = [.slice none 0 0] ∧ x = (.nil, [])) ∨
    ∃ (a : Addr) (len cap m : Nat) (D : Nat → DataW H) (Pl : Nat → List MemPlace), cs = [.slice (some a) len cap] ∧ base ≤ a.block ∧ len ≤ cap ∧ cap ≤ maxLen ∧ m = (if spare a.block then cap else len) ∧
      x = (.slice ((List.range len).map D) ((List.range (m - len)).map fun j => D (len + j)), MemPlace.row a (m * fs.size) ++ (List.range m).flatMap Pl) ∧
      ∀ i, i < m → ∃ (ys : List (DataW H × List MemPlace)) (n : Nat), D i = .agg (ys.map (·.1)) ∧ Pl i = ys.flatMap (·.2) ∧ ys.length = fs.size ∧
        ∀ (j : Nat) (f : Field), fs[j]? = some f → ∃ (v : Value) (y : DataW H × List MemPlace), w.cell? (a.add (i * fs.size + j)) = some v ∧ ys[j]? = some y ∧ DataW.trod enc P w base spare held n f.type [v] = some y := by
  rcases open_slice ht h with h0 | ⟨a, len, cap, m, n, D, Pl, hcs, hb, hl, hm, hmm, hx, hi⟩
  · exact .inl h0
  · refine .inr ⟨a, len, cap, m, D, Pl, hcs, hb, hl, hm, hmm, by rw [hC] at hx; exact hx, fun i him => ?_⟩
    obtain ⟨cs', hc, ht'⟩ := hi i him
    rw [hC] at hc
    obtain ⟨ys, n', hn', hy, hlen, hyl, hf⟩ := DataW.trod_struct he ht'
    obtain ⟨_, hcl, hat⟩ := World.cells?_some hc
    simp only [Prod.mk.injEq] at hy
    refine ⟨ys, n', hy.1, hy.2, hyl, fun j f hj => ?_⟩
    obtain ⟨ho, hk⟩ := hone_of hone j f hj
    have hjl : j < fs.size := (Array.getElem?_eq_some_iff.1 hj).1
    have hcell := hat j hjl
    have hv : cs'[j]? = some (cs'[j]'(by omega)) := List.getElem?_eq_getElem (by omega)
    have h1 := hf j f hj
    rw [ho, hk] at h1
    have hone' : (cs'.drop j).take 1 = [cs'[j]'(by omega)] := by
      rw [List.drop_eq_getElem_cons (by omega)]
      rfl
    rw [hone'] at h1
    have hys : ys[j]? = some (ys[j]'(by omega)) := List.getElem?_eq_getElem (by omega)
    refine ⟨_, _, ?_, hys, h1.trans hys⟩
    rw [← Go.Deep.add_add, hcell, hv]

theorem addr_block {a : Addr} {n : Nat} : (a.add n).block = a.block := by unfold Addr.add; split <;> rfl
theorem addr_flat {a : Addr} {i j : Nat} (hj : j ≠ 0) : a.add (i + j) = ⟨(a.add i).block, (a.add i).off + j, none⟩ := by
  unfold Addr.add
  rw [if_neg (by omega)]
  split
  · rename_i h; subst h; simp
  · simp [Nat.add_assoc]
theorem spotless {a : Addr} {n : Nat} {v : Value} (h : w.cell? (a.add n) = some v) : a.add n = ⟨a.block, a.off + n, none⟩ := by
  unfold Addr.add at *
  split
  · rename_i hn
    subst hn
    simp only [if_true] at h
    unfold World.cell? at h
    cases a with
    | mk b o s =>
      cases s with
      | none => rfl
      | some s =>
        simp only [Option.isSome_some, if_true] at h
        split at h <;> cases h
  · rfl

/-- A slice of words that came in. -/
structure WordsIn (w : World) (A : Option Addr) (l : List Int) (c : Nat) : Prop where
  nil : A = none → l = [] ∧ c = 0
  cell : ∀ ad, A = some ad → ∀ j, j < l.length → w.cell? (ad.add j) = some (.int .u64 (l.getD j 0))
  bd : ∀ x ∈ l, 0 ≤ x ∧ x ≤ 18446744073709551615
  len : l.length * 8 ≤ 140737488351232
  cap : l.length ≤ c

/-- A slice of structs of whole numbers that came in. -/
structure RowsIn (w : World) (A : Option Addr) (n c : Nat) (ks : List IntKind) : Prop where
  nil : A = none → n = 0 ∧ c = 0
  cell : ∀ ad, A = some ad → ∀ i, i < n → ∀ j k, ks[j]? = some k → ∃ z, w.cell? (ad.add (i * ks.length + j)) = some (.int k z) ∧ (Lit.int k z).wf = true
  len : n * (8 * ks.length) ≤ 140737488351232

theorem open_words {ts : List TypeId} {ds : List (DataW H)} {j : Nat} {t e : TypeId} {A : Option Addr} {len cap : Nat} {d : DataW H} {p : List MemPlace} (hsz : (DataW.weightsEach P ts ds).all (· ≤ reachBytes) = true) (hj : ts[j]? = some t) (hd : ds[j]? = some d)
    (ht : P.underlying t = some (.slice e)) (he : P.underlying e = some (.int .u64)) (hc : P.cellsOf e = 1) (hb : P.bytesOf e = 8) (h : DataW.Trod enc P w base spare held t (.slice A len cap) d p) : ∃ l, l.length = len ∧ WordsIn w A l cap := by
  obtain ⟨fuel, hf⟩ := h
  rcases open_ints ht he hc hf with ⟨hcs, hx⟩ | ⟨x, l, c, zs, hcs, _, hl, hm, hz, hx, hcell, hwz⟩
  · simp [Value.cells] at hcs
    obtain ⟨rfl, rfl, rfl⟩ := hcs
    exact ⟨[], rfl, fun _ => ⟨rfl, rfl⟩, (fun ad h => nomatch h), by simp, by simp, by simp⟩
  · simp [Value.cells] at hcs
    obtain ⟨rfl, rfl, rfl⟩ := hcs
    have hlz : len ≤ zs.length := by rw [hz]; split <;> omega
    simp only [Prod.mk.injEq] at hx
    have := sized_slice hsz hj (hd.trans (by rw [hx.1])) ht
    rw [hb] at this
    simp only [lits, List.length_map, List.length_take, List.length_drop, reachBytes] at this
    refine ⟨zs.take len, by simp; omega, (fun h => nomatch h), fun ad h i hi => ?_, fun z hz => ?_, by simp; omega, by simp; omega⟩
    · injection h with h
      subst h
      simp only [List.length_take] at hi
      rw [hcell i (by omega)]
      simp [List.getD_eq_getElem?_getD, show i < len by omega]
    · have := hwz z (List.mem_of_mem_take hz)
      simp [Lit.wf, IntKind.min, IntKind.max, IntKind.signed, IntKind.bits] at this
      omega

theorem open_rows {ts : List TypeId} {ds : List (DataW H)} {j : Nat} {t e : TypeId} {A : Option Addr} {len cap : Nat} {d : DataW H} {p : List MemPlace} (hsz : (DataW.weightsEach P ts ds).all (· ≤ reachBytes) = true) (hj : ts[j]? = some t) (hd : ds[j]? = some d)
    {fs : Array Field} {ks : List IntKind} (ht : P.underlying t = some (.slice e)) (he : P.underlying e = some (.struct fs)) (hone : oneCellFields P fs = true) (hC : P.cellsOf e = fs.size) (hb : 8 * ks.length ≤ P.bytesOf e) (hn : ks.length = fs.size) (hk : (fs.toList.map fun f => P.underlying f.type) = ks.map fun k => some (.int k))
    (h : DataW.Trod enc P w base spare held t (.slice A len cap) d p) : RowsIn w A len cap ks := by
  obtain ⟨fuel, hf⟩ := h
  rcases open_slice_fields ht he hone hC hf with ⟨hcs, hx⟩ | ⟨a, l, c, m, D, Pl, hcs, _, hl, hm, hmm, hx, hel⟩
  · simp [Value.cells] at hcs
    obtain ⟨rfl, rfl, rfl⟩ := hcs
    exact ⟨fun _ => ⟨rfl, rfl⟩, (fun ad h => nomatch h), by simp⟩
  · simp [Value.cells] at hcs
    obtain ⟨rfl, rfl, rfl⟩ := hcs
    have hlm : len ≤ m := by rw [hmm]; split <;> omega
    simp only [Prod.mk.injEq] at hx
    have := sized_slice hsz hj (hd.trans (by rw [hx.1])) ht
    simp only [List.length_map, List.length_range, reachBytes] at this
    have h8 : (len + (m - len)) * (8 * ks.length) ≤ (len + (m - len)) * P.bytesOf e := Nat.mul_le_mul_left _ hb
    have h9 : len * (8 * ks.length) ≤ (len + (m - len)) * (8 * ks.length) := Nat.mul_le_mul_right _ (by omega)
    refine ⟨(fun h => nomatch h), fun ad h i hi j' k hjk => ?_, by omega⟩
    injection h with h
    subst h
    obtain ⟨ys, n, _, _, _, hfl⟩ := hel i (by omega)
    have hjl : j' < ks.length := (List.getElem?_eq_some_iff.1 hjk).1
    have hjf : j' < fs.size := by omega
    obtain ⟨v, y, hcell, _, ht'⟩ := hfl j' fs[j'] (Array.getElem?_eq_getElem hjf)
    have e1 : ((fs.toList.map fun f => P.underlying f.type))[j']? = some (P.underlying fs[j'].type) := by simp [hjf]
    rw [hk, List.getElem?_map, hjk] at e1
    simp only [Option.map_some, Option.some.injEq] at e1
    obtain ⟨z, hz, _, hw⟩ := DataW.trod_int e1.symm ht'
    injection hz with hz
    subst hz
    exact ⟨z, by rw [hn]; exact hcell, hw⟩
end
end Go.Proofs.YtfhpnlaabgkpjaaDoor
/- Arguments that read as lists of words. -/
namespace Go.Proofs.YtfhpnlaabgkpjaaDoor
open Go.RowKit
theorem WordsIn.lies {w : World} {A : Option Addr} {l : List Int} {c : Nat} (h : WordsIn w A l c) : Lies w (.slice A l.length c) l := by
  refine ⟨A, c, rfl, h.cap, fun e => (h.nil e).2, fun j hj => ?_⟩
  cases A with
  | none => have := (h.nil rfl).1; subst this; simp at hj
  | some ad =>
    have h0 := h.cell ad rfl 0 (by omega)
    have hj' := h.cell ad rfl j hj
    have e0 := spotless h0
    have e1 : ad = ⟨ad.block, ad.off, none⟩ := by
      have : ad.add 0 = ad := by unfold Addr.add; rw [if_pos rfl]
      rw [this] at e0
      simpa using e0
    refine ⟨ad.block, ad.off, by rw [← e1], ?_⟩
    rw [e1, Addr.add_lit] at hj'
    exact hj'
end Go.Proofs.YtfhpnlaabgkpjaaDoor
/- Words that are lent with marks behind them, and looked at again. -/
namespace Go.Proofs.YtfhpnlaabgkpjaaDoor
open Go.RowKit
set_option maxHeartbeats 2000000
set_option linter.unusedVariables false

/-- lent: the words, and three marks behind them -/
def Lent (w : World) (v : Value) (l : List Int) : Prop := ∃ A cap, v = .slice A l.length cap ∧ l.length + 3 ≤ cap ∧ Wl w (.slice A (l.length + 3) cap) (l ++ [7000, 7001, 7002])
theorem Lent.drewN {w : World} {v : Value} {l : List Int} (h : Lent w v l) (n : Nat) : Lent (w.drewN n) v l := h
theorem Lent.wl {w : World} {v : Value} {l : List Int} (h : Lent w v l) : Wl w v l := by
  obtain ⟨A, cap, rfl, hc, h⟩ := h
  exact Wl.cut (m := [7000, 7001, 7002]) (by simpa using h) (by simpa using hc)

theorem lend_b {v : Value} {l : List Int} {w : World} (h : Lies w v l) (hlen : (l.length + 3) * 8 ≤ 140737488355328) :
    Calls Tryd.prog 26 #[v] w fun e w' => ∃ u, e = .returned u ∧ Lent w' u l ∧ Below w.heap.size w w' ∧ ∀ k, own u k → w.heap.size ≤ k := by
  have hl' := Lib.hid (h.alloc (.cells #[] 38))
  obtain ⟨A, cp, rfl, hcp, _, _⟩ := h
  have hln : (l.length : Int) ≤ 17592186044413 := by omega
  go_enter Tryd.func26, Tryd.ntmps26
  go_wp2_with (first
    | (at_builtin; refine wpList_words _ rfl (.tmp 5) (.tmp 6) rfl (.slice (some ⟨w.heap.size, 0, none⟩) 0 0) (.slice A l.length cp) [] l rfl (Wl.new w [] (by simp)) rfl hl'.out (by simp; omega) ?_; intro A1 c1 w1 hc1 hw1 hf1))
  have hB : ∀ k, own (.slice (some ⟨w.heap.size, 0, none⟩) 0 0) k → w.heap.size ≤ k := fun k hk => by
    obtain rfl : w.heap.size = k := by simpa [own, Value.ownBlock] using hk
    exact Nat.le_refl _
  have hb1 : Below w.heap.size w w1 := ((Below.refl _ _).alloc (Nat.le_refl _) (.cells #[] 38)).trans (hf1.below hB (by simp))
  have ho1 := hf1.ge (B := w.heap.size) hB (by simp)
  simp only [List.nil_append, List.length_nil, Nat.zero_add] at hw1 ho1 hc1 ⊢
  have hb1 := Lib.hid hb1
  have ho1 := Lib.hid ho1
  clear hB hf1
  go_loopg [3, 4] 3 (fun gk c3 c4 wr => ∃ (j : Nat) (A2 : Option Addr) (c2 : Nat) (m : List Int), gk + j = 3 ∧ m = l ++ (List.range j).map (fun i : Nat => 7000 + (i : Int)) ∧ c4 = .int .i64 (j : Int) ∧ c3 = .slice A2 m.length c2 ∧ m.length ≤ c2 ∧ Wl wr (.slice A2 m.length c2) m ∧ Below w.heap.size w wr ∧ ∀ k, own (.slice A2 m.length c2) k → w.heap.size ≤ k)
  case atStart => exact ⟨0, A1, c1, l, rfl, by simp, rfl, rfl, by omega, hw1, hb1.out, ho1.out⟩
  case round =>
    obtain ⟨j, A2, c2, m, hgk, hm, rfl, rfl, hc2, hw2, hb2, ho2⟩ := hrel
    have hml : m.length = l.length + j := by rw [hm]; simp
    have hmi : (m.length : Int) ≤ 17592186044416 := by omega
    have Hm := Lib.hid hm
    have Hml := Lib.hid hml
    have Ho2 := Lib.hid ho2
    have Hb2 := Lib.hid hb2
    clear hm ho2 hb2
    by_cases hj : j < 3
    · obtain ⟨g, rfl⟩ : ∃ g, gk = g + 1 := ⟨gk - 1, by omega⟩
      have hji : (j : Int) < 3 := by omega
      have hgk' := Lib.hid hgk
      have hmi3 : (m.length + 1) * 8 ≤ 140737488355328 := by omega
      clear hgk hml hj
      go_wp2_with (at_builtin; refine wpList_word wr rfl (.tmp 12) (.tmp 16) rfl (.slice A2 m.length c2) m (7000 + (j : Int)) rfl hw2 rfl hmi3 ?_; intro A3 c3 w3 hc3 hw3 hf3)
      have hb3 := Hb2.out.trans (hf3.below (fun k hk => Ho2.out k hk) Hb2.out.size)
      have ho3 := hf3.ge (B := w.heap.size) (fun k hk => Ho2.out k hk) Hb2.out.size
      go_roundg g
      case measure => omega
      case rel => exact ⟨j + 1, A3, c3, m ++ [7000 + (j : Int)], by have := hgk'.out; omega, by rw [Hm.out, List.range_succ]; simp, by go_num, by simp, by simpa using hc3, by simpa using hw3, hb3, by simpa using ho3⟩
    · obtain rfl : j = 3 := by omega
      have e3 : m = l ++ [7000, 7001, 7002] := by rw [Hm.out]; rfl
      have hc3 : (l.length : Int) ≤ c2 := by omega
      have hw2' := Lib.hid hw2
      clear hw2 hgk
      go_wp2
      go_ret
      rw [e3] at hw2' Ho2 hml hc2
      refine ⟨_, rfl, ⟨A2, c2, rfl, by simpa using hc2, by simpa using hw2'.out⟩, Hb2.out, fun k hk => Ho2.out k (own_len hk)⟩

theorem kept_b {v u : Value} {l : List Int} {w : World} (h : Lent w v l) (hu : Lies w u l) (hlen : (l.length + 3) * 8 ≤ 140737488355328) :
    Calls Tryd.prog 28 #[v, u] w fun e w' => (∃ n, w' = w.drewN n) ∧ e = .returned (.bool true) := by
  have hL := Lib.hid h.wl.lies
  have hU := Lib.hid hu
  obtain ⟨A, cap, rfl, hc, hw⟩ := h
  obtain ⟨A2, c2, rfl, hc2, hu1, hu2⟩ := hu
  clear hu1 hu2
  obtain ⟨g, off, cap', hv, _, _, _, hcell⟩ := Rowv.at_ hw (by simp)
  injection hv with hv1 hv2 hv3
  subst hv1
  subst hv3
  clear hv2
  have d0 : ∀ j : Nat, j < 3 → w.cell? ⟨g, off + (l.length + j), none⟩ = some (.int .u64 (7000 + (j : Int))) := fun j hj => by
    rw [(hcell (l.length + j) (by simp; omega)).1]
    simp only [u64s, List.map_append]
    rw [List.getElem?_append_right (by simp), List.length_map, show l.length + j - l.length = j by omega]
    match j, hj with
    | 0, _ => simp
    | 1, _ => simp
    | 2, _ => simp
  have d := Lib.hid d0
  clear d0
  have hln : (l.length : Int) ≤ 17592186044413 := by omega
  have hcc : (l.length : Int) + 3 ≤ cap := by omega
  clear hcell hw
  go_enter Tryd.func28, Tryd.ntmps28
  go_wp2_with fail
  refine (words_b hL.out hU.out (by omega)).mono ?_
  rintro e _ ⟨⟨n1, rfl⟩, rfl⟩
  have hdt : decide (l = l) = true := by simp
  rw [hdt]
  clear hdt
  go_wp2
  go_loopg [6] 3 (fun gk c6 wr => ∃ (j nd : Nat), gk + j = 3 ∧ c6 = .int .i64 (j : Int) ∧ wr = w.drewN nd)
  case atStart => exact ⟨0, n1, rfl, rfl, rfl⟩
  case round =>
    obtain ⟨j, nd, hgk, rfl, rfl⟩ := hrel
    by_cases hj : j < 3
    · obtain ⟨g, rfl⟩ : ∃ g, gk = g + 1 := ⟨gk - 1, by omega⟩
      have hji : (j : Int) < 3 := by omega
      have dj := d.out j hj
      have hgk' := Lib.hid hgk
      have hjl : (l.length : Int) + j < (l.length : Int) + 3 := by omega
      clear hgk hj
      go_wp2
      go_roundg g
      case measure => omega
      case rel => exact ⟨j + 1, nd, by have := hgk'.out; omega, by go_num, rfl⟩
    · obtain rfl : j = 3 := by omega
      clear hgk
      go_wp2
      go_ret
      exact ⟨⟨nd, rfl⟩, rfl⟩
end Go.Proofs.YtfhpnlaabgkpjaaDoor
