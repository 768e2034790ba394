/- A read log, call by call, by contract. -/
import Derived.Test.YtfhpnlaabgkpjaaDoorPLg3
import Derived.Test.YtfhpnlaabgkpjaaDoorPLg4
namespace Go.Proofs.YtfhpnlaabgkpjaaDoor
open Go.RowKit Go.Shelf
set_option maxHeartbeats 4000000
set_option linter.unusedVariables false
set_option linter.unusedSimpArgs false

/-- the read log at r, its blocks F: so many entries at the most, these entries -/
def RdW (w : World) (r : Nat) (F : Nat → Prop) (most : Nat) (l : List (Int × Int)) : Prop := ∃ A cp, F = (fun b => b = r ∨ own (.slice A l.length cp) b) ∧
  Blk w r 31 #[.bool true, .int .i64 (most : Int), .slice A l.length cp] ∧ Cl w (.slice A l.length cp) l
theorem own_nil' (n c : Nat) (k : Nat) : ¬ own (.slice none n c) k := fun h => by simp [own, Value.ownBlock] at h
/-- a row of structs turned, and its slice stored into the field i of the block r -/
theorem log_put {α : Type} {e : TypeId} {sz : Nat} {enc : α → List Value} {w w3 : World} {r i : Nat} {T : TypeId} {cs : Array Value} {v v3 : Value} {l l' : List α} (hb : Blk w r T cs) (hL : Sl e sz enc w v l) (hT : T ≠ e) (hv3 : Sl e sz enc w3 v3 l') (hm3 : Fr (own v) w (own v3) w3) :
    Blk (w3.setCell ⟨r, i, none⟩ v3) r T (cs.setIfInBounds i v3) ∧ Sl e sz enc (w3.setCell ⟨r, i, none⟩ v3) v3 l' ∧ Fr (fun b => b = r ∨ own v b) w (fun b => b = r ∨ own v3 b) (w3.setCell ⟨r, i, none⟩ v3) := by
  have hb3 := hm3.blk hb (hL.ne_ hb hT)
  refine ⟨hb3.set_ i v3, hv3.set (p := ⟨r, i, none⟩) (hv3.ne_ hb3 hT) _, Fr.set (p := ⟨r, i, none⟩) ?_ (.inl (.inl rfl)) _⟩
  refine (hm3.wide fun k hk => .inr hk).into fun k hk => ?_
  rcases hk with rfl | hk
  · exact .inr (.inl (.inl rfl))
  · exact .inl hk
section
variable {w w' : World} {r : Nat} {F G G' : Nat → Prop} {most : Nat} {l : List (Int × Int)}
theorem RdW.lt (h : RdW w r F most l) : ∀ b, F b → b < w.heap.size := by
  obtain ⟨A, cp, rfl, hb, hl⟩ := h
  rintro b (rfl | h)
  · exact hb.lt
  · exact hl.lt b h
theorem RdW.fr (h : RdW w r F most l) (hf : Fr G w G' w') (hG : ∀ b, F b → ¬ G b) : RdW w' r F most l := by
  obtain ⟨A, cp, rfl, hb, hl⟩ := h
  exact ⟨A, cp, rfl, hf.blk hb (hG _ (.inl rfl)), Sl.fr hl hf fun k hk => hG k (.inr hk)⟩
theorem RdW.drewN (h : RdW w r F most l) (n : Nat) : RdW (w.drewN n) r F most l := h
theorem RdW.ge (h : RdW w r F most l) : F r := by obtain ⟨A, cp, rfl, _⟩ := h; exact .inl rfl
theorem rnone_b {cs : Array Value} (hc : w.cell? ⟨r, 0, none⟩ = some (.bool true)) :
    Calls Tryd.prog 38 #[.pointer (some ⟨r, 0, none⟩)] w fun e w' => e = .returned (.bool false) ∧ w = w' := by
  go_enter Tryd.func38, Tryd.ntmps38
  go_wp2
  go_ret
  exact ⟨rfl, rfl⟩
theorem newReads_b (hm : most ≤ 1048576) : Calls Tryd.prog 6 #[.int .i64 (most : Int)] w fun e w' => ∃ r F, e = .returned (.tuple #[.pointer (some ⟨r, 0, none⟩), .int .i64 0]) ∧ RdW w' r F most [] ∧ Fr (fun _ => False) w F w' := by
  have h1 : (most : Int) ≤ 1048576 := by omega
  have h2 : decide ((most : Int) > 1048576) = false := decide_eq_false (by omega)
  go_enter Tryd.func6, Tryd.ntmps6
  go_wp2
  go_ret2
  have B := Blk.new w 31 #[.bool true, .int .i64 (most : Int), .slice none 0 0]
  exact ⟨_, _, rfl, ⟨none, 0, rfl, B, Sl.nil _⟩, ((Fr.refl (fun _ => False) w).alloc _).into fun k hk => by
    rcases hk with rfl | hk
    · exact .inr (.inr (Nat.le_refl _))
    · exact (own_nil' _ _ _ hk).elim⟩
theorem newReads_no {m : Int} (hm : m < 0 ∨ 1048576 < m) (h1 : -9223372036854775808 ≤ m) (h2 : m ≤ 9223372036854775807) : Calls Tryd.prog 6 #[.int .i64 m] w fun e w' => e = .returned (.tuple #[.pointer none, .int .i64 2]) ∧ w = w' := by
  by_cases h : m < 0
  · go_enter Tryd.func6, Tryd.ntmps6
    go_wp2
    go_ret2
    exact ⟨rfl, rfl⟩
  · have h3 : decide (m < 0) = false := decide_eq_false h
    have h4 : decide (m > 1048576) = true := decide_eq_true (by omega)
    clear h hm
    go_enter Tryd.func6, Tryd.ntmps6
    go_wp2
    go_ret2
    exact ⟨rfl, rfl⟩
theorem rlen_b (h : RdW w r F most l) : Calls Tryd.prog 37 #[.pointer (some ⟨r, 0, none⟩)] w fun e w' => e = .returned (.int .i64 (l.length : Int)) ∧ w = w' := by
  obtain ⟨A, cp, rfl, hb, hl⟩ := h
  have c0 : w.cell? ⟨r, 0, none⟩ = some (.bool true) := hb.cell 0
  have c2 : w.cell? ⟨r, 2, none⟩ = some (.slice A l.length cp) := hb.cell 2
  have C := Lib.hid (rnone_b (cs := #[]) c0)
  clear hb hl
  go_enter Tryd.func37, Tryd.ntmps37
  go_wp2_with fail
  refine C.out.mono ?_
  rintro _ w2 ⟨rfl, rfl⟩
  go_wp2
  go_ret
  exact ⟨rfl, rfl⟩
theorem radd_b {a x : Int} (h : RdW w r F most l) (hm : most ≤ 1048576) (hl : l.length ≤ most) : Calls Tryd.prog 35 #[.pointer (some ⟨r, 0, none⟩), .int .u64 a, .int .u64 x] w fun e w' =>
    e = .returned (.int .i64 (if l.length < most then 0 else 5)) ∧ ∃ F', RdW w' r F' most (if l.length < most then l ++ [(a, x)] else l) ∧ Fr F w F' w' := by
  obtain ⟨A, cp, rfl, hb, hL⟩ := h
  have hmx : Tryd.prog.follows .mixedOrders = true := by kernel_rfl
  have c0 : w.cell? ⟨r, 0, none⟩ = some (.bool true) := hb.cell 0
  have c1 : w.cell? ⟨r, 1, none⟩ = some (.int .i64 (most : Int)) := hb.cell 1
  have c2 : w.cell? ⟨r, 2, none⟩ = some (.slice A l.length cp) := hb.cell 2
  have C := Lib.hid (rnone_b (cs := #[]) c0)
  have hb := Lib.hid hb
  have hL := Lib.hid hL
  by_cases hlt : l.length < most
  · rw [if_pos hlt, if_pos hlt]
    have h1 : decide (l.length ≥ most) = false := decide_eq_false (by omega)
    have hsz := Lib.hid (show (l.length + 1) * 16 ≤ 140737488355328 by omega)
    have hsz1 := Lib.hid (show l.length + 1 ≤ 9223372036854775807 by omega)
    clear hl hlt
    go_enter Tryd.func35, Tryd.ntmps35
    go_wp2_with fail
    refine C.out.mono ?_
    rintro _ w2 ⟨rfl, rfl⟩
    go_wp2_with fail
    refine wp_region_mix (fun _ => True) [3, 3, 3, 1, 3, 3, 3, 3, 1, 3, 3] (List.range 11) (by kernel_rfl) (by kernel_rfl) (fun _ _ h => h) trivial ?_
    repeat ((first | refine wpMix_pure rfl rfl (fun K hK => ?_) | refine wpMix_loc rfl rfl (fun K hK => ?_) | refine wpMix_any rfl rfl (fun K hK => ?_)); go_simp; refine hK _ _ ?_; clear hK K)
    refine wpMix_nil (fun n1 => ?_)
    have hL1 := Lib.hid (hL.out.drewN (1 + n1))
    have hb1 := Lib.hid (hb.out.drewN (1 + n1))
    have F1 := Lib.hid ((Fr.refl (fun b => b = r ∨ own (.slice A l.length cp) b) w).drewN (1 + n1))
    have c2 : (w.drewN (1 + n1)).cell? ⟨r, 2, none⟩ = some (.slice A l.length cp) := c2
    clear hL hb c0 c1 C
    go_wp2_with (at_builtin; refine wpList_cell (w.drewN (1 + n1)) rfl (.tmp 25) (.tmp 29) rfl (.slice A l.length cp) l a x rfl hL1.out rfl hsz1.out hsz.out ?_; intro A3 cp3 w3 hc3 hv3 hm3; have B3 := hm3.blk hb1.out (Sl.ne_ hL1.out hb1.out (by decide)); have d2 : w3.cell? ⟨r, 2, none⟩ = some (.slice A l.length cp) := B3.cell 2; have zz := B3.frozen 2; have V3 := Lib.hid hv3; have M3 := Lib.hid hm3; clear hv3 hm3 B3)
    go_ret
    obtain ⟨q1, q2, q3⟩ := log_put (i := 2) hb1.out hL1.out (by decide) V3.out M3.out
    refine ⟨rfl, _, ⟨A3, cp3, rfl, by simpa using q1, by unfold Cl; simpa using q2⟩, ?_⟩
    exact (Fr.trans F1.out q3).into fun k hk => .inl (by simpa using hk)
  · rw [if_neg hlt, if_neg hlt]
    have h1 : decide (l.length ≥ most) = true := decide_eq_true (by omega)
    clear hl hlt
    go_enter Tryd.func35, Tryd.ntmps35
    go_wp2_with fail
    refine C.out.mono ?_
    rintro _ w2 ⟨rfl, rfl⟩
    go_wp2_with fail
    refine wp_region_mix (fun _ => True) [3, 3, 3, 1, 3, 3, 3, 3, 1, 3, 3] (List.range 11) (by kernel_rfl) (by kernel_rfl) (fun _ _ h => h) trivial ?_
    repeat ((first | refine wpMix_pure rfl rfl (fun K hK => ?_) | refine wpMix_loc rfl rfl (fun K hK => ?_) | refine wpMix_any rfl rfl (fun K hK => ?_)); go_simp; refine hK _ _ ?_; clear hK K)
    refine wpMix_nil (fun n1 => ?_)
    go_wp2
    go_ret
    exact ⟨rfl, _, ⟨A, cp, rfl, hb.out.drewN (1 + n1), hL.out.drewN (1 + n1)⟩, (Fr.refl _ w).drew.drewN n1⟩
theorem rat_yes {i : Nat} (h : RdW w r F most l) (hl : l.length ≤ 4611686018427387904) (hi : i < l.length) : Calls Tryd.prog 33 #[.pointer (some ⟨r, 0, none⟩), .int .i64 (i : Int)] w fun e w' =>
    e = .returned (.tuple #[.agg #[.int .u64 (l[i]'hi).1, .int .u64 (l[i]'hi).2], .bool true]) ∧ Fr (fun _ => False) w (fun _ => False) w' := by
  have N := Lib.hid (rlen_b (h.fr ((Fr.refl (fun _ => False) w).alloc (.cells #[.int .u64 0, .int .u64 0] 55)) fun _ _ h => h))
  have F1 := Lib.hid ((Fr.refl (fun _ => False) w).alloc (.cells #[.int .u64 0, .int .u64 0] 55))
  obtain ⟨A, cp, rfl, hb, hL⟩ := h
  have c2 : w.cell? ⟨r, 2, none⟩ = some (.slice A l.length cp) := hb.cell 2
  obtain ⟨A', cp', eA, hcp, _, hcl⟩ := hL.lies
  injection eA with e1 e2 e3
  subst e1 e3
  obtain ⟨g, o, rfl, hg, d0, d1⟩ := hcl i hi
  have h1 : decide (i ≥ l.length) = false := decide_eq_false (by omega)
  have hii : (i : Int) < (l.length : Int) := by omega
  have hlm : (l.length : Int) ≤ 4611686018427387904 := by omega
  generalize (l[i]'hi).1 = ya at *
  generalize (l[i]'hi).2 = yw at *
  have c2 := cell_alloc_ (o := .cells #[.int .u64 0, .int .u64 0] 55) c2
  have d0 := cell_alloc_ (o := .cells #[.int .u64 0, .int .u64 0] 55) d0
  have d1 := cell_alloc_ (o := .cells #[.int .u64 0, .int .u64 0] 55) d1
  clear hb hL hcl hg e2
  go_enter Tryd.func33, Tryd.ntmps33
  go_wp2_with fail
  refine N.out.mono ?_
  rintro _ w2 ⟨rfl, rfl⟩
  go_wp2
  exact bodyPost_ret (v := .tuple #[.agg #[.int .u64 ya, .int .u64 yw], .bool true]) (by simp [results, Tryd.results33, go_sem]) rfl ⟨rfl, (Fr.refl (fun _ => False) w).alloc _⟩
theorem rat_no {i : Int} (h : RdW w r F most l) (hi : i < 0 ∨ (l.length : Int) ≤ i) (h1 : -9223372036854775808 ≤ i) (h2 : i ≤ 9223372036854775807) : Calls Tryd.prog 33 #[.pointer (some ⟨r, 0, none⟩), .int .i64 i] w fun e w' =>
    e = .returned (.tuple #[.agg #[.int .u64 0, .int .u64 0], .bool false]) ∧ Fr (fun _ => False) w (fun _ => False) w' := by
  have N := Lib.hid (rlen_b (h.fr ((Fr.refl (fun _ => False) w).alloc (.cells #[.int .u64 0, .int .u64 0] 55)) fun _ _ h => h))
  clear h
  by_cases h0 : i < 0
  · go_enter Tryd.func33, Tryd.ntmps33
    go_wp2
    exact bodyPost_ret (v := .tuple #[.agg #[.int .u64 0, .int .u64 0], .bool false]) (by simp [results, Tryd.results33, go_sem]) rfl ⟨rfl, (Fr.refl (fun _ => False) w).alloc _⟩
  · have h3 : decide (i < 0) = false := decide_eq_false h0
    have h4 : decide (i ≥ (l.length : Int)) = true := decide_eq_true (by omega)
    clear h0 hi
    go_enter Tryd.func33, Tryd.ntmps33
    go_wp2_with fail
    refine N.out.mono ?_
    rintro _ w2 ⟨rfl, rfl⟩
    go_wp2
    exact bodyPost_ret (v := .tuple #[.agg #[.int .u64 0, .int .u64 0], .bool false]) (by simp [results, Tryd.results33, go_sem]) rfl ⟨rfl, (Fr.refl (fun _ => False) w).alloc _⟩
end
end Go.Proofs.YtfhpnlaabgkpjaaDoor
/- A read log, further calls, by contract: All, Stale, Cut, Copy. -/
namespace Go.Proofs.YtfhpnlaabgkpjaaDoor
open Go.RowKit Go.Shelf
set_option maxHeartbeats 4000000
set_option linter.unusedVariables false
set_option linter.unusedSimpArgs false
attribute [local go_sem] Oper.semAt_some encE

section
variable {w w' : World} {r : Nat} {F G G' : Nat → Prop} {most : Nat} {l : List (Int × Int)}
theorem over_b {gf : Nat} {lb : Array Value} : Calls Tryd.prog 41 #[.func (.func gf) #[] lb] w fun e w' => e = .returned (.func (.func 52) #[] #[.pointer (some ⟨w.heap.size, 0, none⟩)]) ∧ w' = w.alloc (.cells #[.func (.func gf) #[] lb] 79) := by
  go_enter Tryd.func41, Tryd.ntmps41
  go_wp2
  go_ret
  exact ⟨rfl, rfl⟩
/-- All's inner function: the entries of now. -/
theorem rall1_b {b : Nat} (hb : Blk w b 23 #[.pointer (some ⟨r, 0, none⟩)]) (h : RdW w r F most l) : ∃ A, LiesC w (.slice A l.length l.length) l ∧ (∀ W, Below w.heap.size w W → Calls Tryd.prog 42 #[.pointer (some ⟨b, 0, none⟩)] W fun e W' => e = .returned (.slice A l.length l.length) ∧ ∃ n, W' = W.drewN n) := by
  obtain ⟨A, cp, rfl, hbr, hL⟩ := h
  have hcp : l.length ≤ cp := by
    obtain ⟨A', cp', e, hc⟩ := Sl.shape hL
    injection e with e1 e2 e3
    omega
  have hlm : cp ≤ maxLen := by
    rcases hL.2 with ⟨e, _⟩ | ⟨_, _, _, _, e, _, _, _, h, _⟩
    · injection e with _ _ e; unfold maxLen; omega
    · injection e with _ _ e; omega
  unfold maxLen at hlm
  refine ⟨A, LiesC.cap hL.lies (Nat.le_refl _) fun e => ?_, fun W hW => ?_⟩
  · have := (Rowv.shape hL).choose_spec.choose_spec
    obtain ⟨e1, _, e2⟩ := this
    injection e1 with e3 e4 e5
    exact (e2 (by rw [← e3]; exact e)).1
  · have hmx : Tryd.prog.follows .mixedOrders = true := by kernel_rfl
    have d0 : W.cell? ⟨b, 0, none⟩ = some (.pointer (some ⟨r, 0, none⟩)) := (hb.below hW hb.lt).cell 0
    have c0 : W.cell? ⟨r, 0, none⟩ = some (.bool true) := (hbr.below hW hbr.lt).cell 0
    have c2 : W.cell? ⟨r, 2, none⟩ = some (.slice A l.length cp) := (hbr.below hW hbr.lt).cell 2
    have C := Lib.hid (rnone_b (cs := #[]) c0)
    have hli : (l.length : Int) ≤ (cp : Int) := by omega
    have hci : (cp : Int) ≤ 9223372036854775807 := by omega
    have hz1 : decide (l.length ≤ cp) = true := decide_eq_true hcp
    clear hb hbr hL hW c0
    go_enter Tryd.func42, Tryd.ntmps42
    go_wp2_with fail
    refine C.out.mono ?_
    rintro _ w2 ⟨rfl, rfl⟩
    go_wp2_with fail
    refine wp_region_mix (fun _ => True) [1, 3, 3, 1, 1, 3, 3, 1, 3, 1, 3, 3, 1, 3, 3, 3] (List.range 16) (by kernel_rfl) (by kernel_rfl) (fun _ _ h => h) trivial ?_
    repeat ((first | refine wpMix_pure rfl rfl (fun K hK => ?_) | refine wpMix_loc rfl rfl (fun K hK => ?_) | refine wpMix_any rfl rfl (fun K hK => ?_)); go_simp; refine hK _ _ ?_; clear hK K)
    refine wpMix_nil (fun n1 => ?_)
    go_wp2
    go_ret
    exact ⟨rfl, 1 + n1, drewN_drewN W 1 n1⟩
theorem rall_b (h : RdW w r F most l) (hl : l.length ≤ 4611686018427387904) : Calls Tryd.prog 14 #[.pointer (some ⟨r, 0, none⟩)] w fun e w' => ∃ b, e = .returned (.func (.func 52) #[] #[.pointer (some ⟨b, 0, none⟩)]) ∧ SeqC w' b l ∧ Fr (fun _ => False) w (fun _ => False) w' := by
  have b1 := Blk.new w 23 #[.pointer (some ⟨r, 0, none⟩)]
  have h1 := h.fr ((Fr.refl (fun _ => False) w).alloc (.cells #[.pointer (some ⟨r, 0, none⟩)] 23)) fun _ _ h => h
  obtain ⟨A, hA, hC⟩ := rall1_b b1 h1
  generalize hw1 : w.alloc (.cells #[.pointer (some ⟨r, 0, none⟩)] 23) = w1 at *
  have f1 : Fr (fun _ => False) w (fun _ => False) w1 := by rw [← hw1]; exact (Fr.refl (fun _ => False) w).alloc _
  have b2 := Blk.new w1 79 #[.func (.func 42) #[] #[.pointer (some ⟨w.heap.size, 0, none⟩)]]
  have f2 := f1.alloc (.cells #[.func (.func 42) #[] #[.pointer (some ⟨w.heap.size, 0, none⟩)]] 79)
  have S : SeqC (w1.alloc (.cells #[.func (.func 42) #[] #[.pointer (some ⟨w.heap.size, 0, none⟩)]] 79)) w1.heap.size l := fun α encs xs h1 h2 => over_seq (n := 2) b2 (enters_of Tryd.func42 (by kernel_rfl) rfl) (fun W hW => hC W (((Below.refl _ w1).alloc (Nat.le_refl _) _).trans (hW.mono (by simp)))) (hA.fr ((Fr.refl (fun _ => False) w1).alloc _) fun _ _ h => h) hl encs xs h1 h2
  have O := Lib.hid (over_b (w := w1) (gf := 42) (lb := #[.pointer (some ⟨w.heap.size, 0, none⟩)]))
  replace S := Lib.hid S
  replace f2 := Lib.hid f2
  replace hw1 := Lib.hid hw1
  clear b1 b2 h1 hA hC h f1
  go_enter Tryd.func14, Tryd.ntmps14
  go_wp2_with fail
  rw [hw1.out]
  refine O.out.mono ?_
  rintro _ w2 ⟨rfl, rfl⟩
  go_wp2
  go_ret
  exact ⟨_, rfl, S.out, f2.out⟩
end
end Go.Proofs.YtfhpnlaabgkpjaaDoor
/- A read log: Stale, by contract. -/
namespace Go.Proofs.YtfhpnlaabgkpjaaDoor
open Go.RowKit Go.Shelf
set_option maxHeartbeats 4000000
set_option linter.unusedVariables false
set_option linter.unusedSimpArgs false
attribute [local go_sem] Oper.semAt_some encE

/-- is an entry otherwise in these cells? -/
def stal (cs : List Int) (x : Int × Int) : Bool := decide ((cs.length : Int) ≤ x.1) || !decide (cs.getD x.1.toNat 0 = x.2)
def stale (cs : List Int) (l : List (Int × Int)) : Int × Bool := match l.findIdx? (stal cs) with
  | some i => ((i : Int), true)
  | none => (0, false)
theorem stale_at {cs : List Int} {l : List (Int × Int)} {m : Nat} (hm : m < l.length) (h : ∀ x ∈ l.take m, stal cs x = false) (hs : stal cs l[m] = true) : stale cs l = ((m : Int), true) := by
  have : l.findIdx? (stal cs) = some m := by
    rw [List.findIdx?_eq_some_iff_getElem]
    refine ⟨hm, hs, fun j hj => ?_⟩
    have := h l[j] (by rw [List.mem_take_iff_getElem]; exact ⟨j, by omega, rfl⟩)
    simp [this]
  unfold stale
  rw [this]
theorem stale_none {cs : List Int} {l : List (Int × Int)} (h : ∀ x ∈ l, stal cs x = false) : stale cs l = (0, false) := by
  have : l.findIdx? (stal cs) = none := by
    rw [List.findIdx?_eq_none_iff]
    exact h
  unfold stale
  rw [this]
/-- an entry with its place, as a type lets it be -/
abbrev Ent := { x : Nat × Int × Int // 0 ≤ x.2.1 ∧ x.2.1 ≤ 18446744073709551615 }
def encS (x : Ent) : Array Value := encE x.1
attribute [local go_sem] encS
def ents (l : List (Int × Int)) (hn : ∀ x ∈ l, 0 ≤ x.1 ∧ x.1 ≤ 18446744073709551615) : List Ent := (enumC l).pmap (fun x h => ⟨x, h⟩) fun x hx => by
  obtain ⟨i, hi, e⟩ := List.mem_mapIdx.1 hx
  subst e
  exact hn _ (List.getElem_mem hi)
theorem ents_len {l : List (Int × Int)} (hn : ∀ x ∈ l, 0 ≤ x.1 ∧ x.1 ≤ 18446744073709551615) : (ents l hn).length = l.length := by simp [ents, enumC_len]
theorem ents_get {l : List (Int × Int)} (hn : ∀ x ∈ l, 0 ≤ x.1 ∧ x.1 ≤ 18446744073709551615) (m : Nat) (h1 : m < (ents l hn).length) (h2 : m < l.length) : ((ents l hn)[m]'h1).1 = (m, l[m]'h2) := by simp [ents, enumC]
theorem ents_stop {cs : List Int} {l : List (Int × Int)} (hn : ∀ x ∈ l, 0 ≤ x.1 ∧ x.1 ≤ 18446744073709551615) {m : Nat} (hm : m ≤ l.length) {pre : List Ent} {y : Ent} (h : pre ++ [y] = (ents l hn).take m) (h1 : ∀ z ∈ pre, stal cs z.1.2 = false) (h2 : stal cs y.1.2 = true) : stale cs l = ((y.1.1 : Int), true) := by
  have hl := congrArg List.length h
  rw [List.length_append, List.length_singleton, List.length_take, ents_len, Nat.min_eq_left hm] at hl
  have hp : pre.length < l.length := by omega
  have he : pre.length < (ents l hn).length := by rw [ents_len]; exact hp
  have hg : ∀ j (hj : j < m), (pre ++ [y])[j]? = (ents l hn)[j]? := fun j hj => by rw [h, List.getElem?_take, if_pos hj]
  have hy : y.1 = (pre.length, l[pre.length]) := by
    have := hg pre.length (by omega)
    rw [List.getElem?_append_right (Nat.le_refl _), Nat.sub_self, List.getElem?_eq_getElem he] at this
    have e : y = (ents l hn)[pre.length]'he := by simpa using this
    rw [e, ents_get]
  rw [hy]
  rw [hy] at h2
  refine stale_at hp (fun x hx => ?_) h2
  obtain ⟨j, hj, e⟩ := List.mem_take_iff_getElem.1 hx
  have hjp : j < pre.length := by omega
  have hje : j < (ents l hn).length := by rw [ents_len]; omega
  have := hg j (by omega)
  rw [List.getElem?_append_left hjp, List.getElem?_eq_getElem hjp, List.getElem?_eq_getElem hje] at this
  have e2 : pre[j] = (ents l hn)[j] := by simpa using this
  have := h1 pre[j] (List.getElem_mem hjp)
  rw [e2, ents_get hn j hje (by omega)] at this
  rw [← e]
  exact this
theorem ents_all {cs : List Int} {l : List (Int × Int)} (hn : ∀ x ∈ l, 0 ≤ x.1 ∧ x.1 ≤ 18446744073709551615) (h1 : ∀ z ∈ ents l hn, stal cs z.1.2 = false) : stale cs l = (0, false) := by
  refine stale_none fun x hx => ?_
  obtain ⟨j, hj, e⟩ := List.mem_iff_getElem.1 hx
  have hje : j < (ents l hn).length := by rw [ents_len]; omega
  have := h1 _ (List.getElem_mem hje)
  rw [ents_get hn j hje hj] at this
  rw [← e]
  exact this
structure SB (w : World) (b3 b4 b5 : Nat) (v : Value) (W : World) (k : Int) (r : Bool) : Prop where
  fr : Fr (fun _ => False) w (fun _ => False) W
  c3 : Blk W b3 39 #[v]
  c4 : Blk W b4 3 #[.int .i64 k]
  c5 : Blk W b5 4 #[.bool r]
theorem Fr.keep_cell {w w' : World} {F' : Nat → Prop} (h : Fr (fun _ => False) w F' w') {p : Addr} {u : Value} (hc : w.cell? p = some u) : w'.cell? p = some u := by
  obtain ⟨o, ho, _⟩ := cells_of_cell hc
  have e := h.block p.block (Array.getElem?_eq_some_iff.1 ho).1 fun h => h
  unfold World.cell? at *
  simp only [e]
  exact hc
section
variable {w W : World} {b3 b4 b5 : Nat} {v : Value} {k : Int} {r : Bool}
theorem SB.drewN (h : SB w b3 b4 b5 v W k r) (m : Nat) : SB w b3 b4 b5 v (W.drewN m) k r := ⟨h.fr.drewN m, h.c3, h.c4, h.c5⟩
theorem SB.set2 (h : SB w b3 b4 b5 v W k r) (h4 : w.heap.size ≤ b4) (h5 : w.heap.size ≤ b5) (k' : Int) (r' : Bool) : SB w b3 b4 b5 v ((W.setCell ⟨b4, 0, none⟩ (.int .i64 k')).setCell ⟨b5, 0, none⟩ (.bool r')) k' r' :=
  ⟨(h.fr.set (p := ⟨b4, 0, none⟩) (.inr (.inr h4)) _).set (p := ⟨b5, 0, none⟩) (.inr (.inr h5)) _,
    (h.c3.far (p := ⟨b4, 0, none⟩) (h.c3.ne_ h.c4 (by decide)) _).far (p := ⟨b5, 0, none⟩) (h.c3.ne_ h.c5 (by decide)) _,
    (h.c4.set_ 0 _).far (p := ⟨b5, 0, none⟩) (h.c4.ne_ h.c5 (by decide)) _,
    (h.c5.far (p := ⟨b4, 0, none⟩) (h.c5.ne_ h.c4 (by decide)) _).set_ 0 _⟩
theorem SB.own {B : Nat} (h : SB w b3 b4 b5 v W k r) (hB : w.heap.size ≤ B) {W' : World} {row : Option Nat} (hg : W.grownBy W' row) (hr : ∀ r, row = some r → B ≤ r ∧ ∃ o : Obj, W.heap[r]? = some o ∧ o.isCells = false) : SB w b3 b4 b5 v W' k r :=
  ⟨h.fr.ownFrom hB hg hr, h.c3.ownFrom hg hr, h.c4.ownFrom hg hr, h.c5.ownFrom hg hr⟩
end
section
variable {w w' : World} {r : Nat} {F : Nat → Prop} {most : Nat} {l : List (Int × Int)} {cs : List Int} {v : Value}
set_option maxRecDepth 100000 in
theorem stale_core {pt : Option Addr} (hR : ∀ W, Fr (fun _ => False) w (fun _ => False) W → Calls Tryd.prog 14 #[.pointer pt] W fun e w' => ∃ b, e = .returned (.func (.func 52) #[] #[.pointer (some ⟨b, 0, none⟩)]) ∧ SeqC w' b l ∧ Fr (fun _ => False) W (fun _ => False) w') (hl : l.length ≤ 4611686018427387904) (hn : ∀ x ∈ l, 0 ≤ x.1 ∧ x.1 ≤ 18446744073709551615) (hv : Lies w v cs) (hc : cs.length ≤ 4611686018427387904) :
    Calls Tryd.prog 34 #[.pointer pt, v] w fun e w' => e = .returned (.tuple #[.int .i64 (stale cs l).1, .bool (stale cs l).2]) ∧ Fr (fun _ => False) w (fun _ => False) w' := by
  obtain ⟨A, cp, rfl, hcp, hA0, hcl⟩ := id hv
  obtain ⟨⟨si, sb⟩, hp⟩ : ∃ u, Hid (stale cs l = u) := ⟨_, Lib.hid rfl⟩
  rw [hp.out]
  obtain ⟨W0, hW0⟩ : ∃ u, Hid (u = ((w.alloc (.cells #[.slice A cs.length cp] 39)).alloc (.cells #[.int .i64 0] 3)).alloc (.cells #[.bool false] 4)) := ⟨_, Lib.hid rfl⟩
  have F0 : Hid (SB w w.heap.size (w.heap.size + 1) (w.heap.size + 1 + 1) (.slice A cs.length cp) W0 0 false) := Lib.hid (by
    have k1 := Blk.new w 39 #[.slice A cs.length cp]
    have k2 := Blk.new (w.alloc (.cells #[.slice A cs.length cp] 39)) 3 #[.int .i64 0]
    have k3 := Blk.new ((w.alloc (.cells #[.slice A cs.length cp] 39)).alloc (.cells #[.int .i64 0] 3)) 4 #[.bool false]
    simp only [World.size_alloc] at k2 k3
    rw [hW0.out]
    exact ⟨(((Fr.refl _ w).alloc _).alloc _).alloc _, (k1.alloc _).alloc _, k2.alloc _, k3⟩)
  have z0 : Hid (W0.heap.size = w.heap.size + 3) := Lib.hid (by rw [hW0.out]; simp)
  have R := Lib.hid (hR W0 F0.out.fr)
  replace hv := Lib.hid hv
  replace hn := Lib.hid hn
  have hci : (cs.length : Int) ≤ 4611686018427387904 := by omega
  have hli : (l.length : Int) ≤ 4611686018427387904 := by omega
  have hge : Hid (w.heap.size ≤ w.heap.size + 1 ∧ w.heap.size ≤ w.heap.size + 1 + 1) := Lib.hid ⟨by omega, by omega⟩
  clear hA0 hl hcl hR hc
  refine calls_marks Tryd.func34 rfl ?_
  simp only [Tryd.ntmps34, List.size_toArray, List.length_cons, List.length_nil, Nat.reduceAdd, Nat.reduceSub, Array.replicate_succ, Array.replicate_zero, List.push_toArray, List.append_toArray, List.nil_append, List.cons_append]
  go_wp2_with fail
  rw [← hW0.out]
  refine R.out.mono ?_
  rintro _ W1 ⟨b, rfl, hs, m1⟩
  have B1 : Hid (SB w w.heap.size (w.heap.size + 1) (w.heap.size + 1 + 1) (.slice A cs.length cp) W1 0 false) := Lib.hid ⟨F0.out.fr.trans m1, m1.blk F0.out.c3 fun h => h, m1.blk F0.out.c4 fun h => h, m1.blk F0.out.c5 fun h => h⟩
  have z1 : Hid (w.heap.size + 3 ≤ W1.heap.size) := Lib.hid (by have := m1.size; have := z0.out; omega)
  replace hs := Lib.hid (hs Ent encS (ents l hn.out) (ents_len hn.out) (fun m h1 h2 => by unfold encS; rw [ents_get hn.out m h1 h2]))
  clear F0 z0 R m1 hW0
  generalize w.heap.size + 1 + 1 = b5 at *
  generalize w.heap.size + 1 = b4 at *
  obtain ⟨b3, hb3⟩ : ∃ u, Hid (w.heap.size = u) := ⟨_, Lib.hid rfl⟩
  go_wp2_with fail
  rw [hb3.out] at B1 ⊢
  refine wp_rangeFunc_A (gf := 52) (lb := #[.pointer (some ⟨b, 0, none⟩)]) rfl (enters_of Tryd.func52 (by kernel_rfl) rfl)
    hs.out Below.trans (fun W l o o' h1 h2 h3 h4 => belowK_b (n₀ := W1.heap.size) (w := W1) (Nat.le_refl _) W l o o' h1 h2 h3 h4) (fun W o h => (Below.refl _ W).alloc h o) (Below.refl _ _) (fun _ => rfl)
    55 (fun x => #[.int .u64 x.1.2.1, .int .u64 x.1.2.2]) (fun x k tm => (tm.setIfInBounds 6 (.int .i64 x.1.1)).setIfInBounds 7 (.pointer (some ⟨k, 0, none⟩)))
    (fun pre W' => Hid (∀ y ∈ pre, stal cs y.1.2 = false) ∧ W1.heap.size ≤ W'.heap.size ∧ Hid (SB w b3 b4 b5 (.slice A cs.length cp) W' 0 false))
    (fun c pre W' => c = .ret ∧ ∃ pre0 y, Hid (pre = pre0 ++ [y] ∧ (∀ z ∈ pre0, stal cs z.1.2 = false) ∧ stal cs y.1.2 = true) ∧ Hid (W1.heap.size ≤ W'.heap.size ∧ SB w b3 b4 b5 (.slice A cs.length cp) W' (y.1.1 : Int) true))
    (fun pre W W' row hi hg hr => ⟨hi.1, Nat.le_trans hi.2.1 hg.size, Lib.hid (hi.2.2.out.own (by have := z1.out; omega) hg hr)⟩) (fun _ _ hi => hi.2.1)
    (fun c pre W W' row hi hg hr => ⟨hi.1, by obtain ⟨_, pre0, y, h1, h⟩ := hi; exact ⟨pre0, y, h1, Lib.hid ⟨Nat.le_trans h.out.1 hg.size, h.out.2.own (by have := z1.out; omega) hg hr⟩⟩⟩)
    ⟨Lib.hid (by simp), Nat.le_refl _, B1⟩ ?assign ?body ?done ?stop
  case assign =>
    intro yl x W K hK
    gi_wp2
    refine hK _ _ ?_ ?_
    · simp [encS, encE]
    · rfl
  case stop =>
    rintro D c pre W' hD ⟨m, hm, hpm⟩ ⟨rfl, pre0, y, hx, hB⟩ hK
    obtain ⟨rfl, rfl⟩ : si = (y.1.1 : Int) ∧ sb = true := by
      have e := hp.out
      rw [ents_stop hn.out hm (by rw [← hx.out.1]; exact hpm) hx.out.2.1 hx.out.2.2] at e
      injection e with e1 e2
      exact ⟨e1.symm, e2.symm⟩
    have HB := Lib.hid hB.out.2
    clear hx hpm hB
    have hD := Lib.hid hD
    have hK := Lib.hid hK
    go_wp2
    have c4 := (HB.out.c4.shut (o := .deferred none) hK.out).cell 0
    have c5 := (HB.out.c5.shut (o := .deferred none) hK.out).cell 0
    refine ⟨by simp, .inl ⟨_, _, rfl, run_takeDeferred hK.out, ?_⟩⟩
    refine ⟨.tuple #[.int .i64 (y.1.1 : Int), .bool true], by simp [results, Tryd.f34, asAddr, go_sem, c4, c5], rfl, ?_⟩
    exact HB.out.fr.shut (by have := z1.out; have := hD.out; omega) _
  case done =>
    rintro D xs W' hD hx ⟨hh, hz, HB⟩ hK
    obtain rfl : xs = ents l hn.out := hx
    obtain ⟨rfl, rfl⟩ : si = 0 ∧ sb = false := by
      have e := hp.out
      rw [ents_all hn.out hh.out] at e
      injection e with e1 e2
      exact ⟨e1.symm, e2.symm⟩
    have z4 := HB.out.c4.frozen 0
    have z5 := HB.out.c5.frozen 0
    have d4 : W'.cell? ⟨b4, 0, none⟩ = some (.int .i64 0) := HB.out.c4.cell 0
    have d5 : W'.cell? ⟨b5, 0, none⟩ = some (.bool false) := HB.out.c5.cell 0
    have d55 : (W'.setCell ⟨b4, 0, none⟩ (.int .i64 0)).cell? ⟨b5, 0, none⟩ = some (.bool false) := (HB.out.c5.far (p := ⟨b4, 0, none⟩) (HB.out.c5.ne_ HB.out.c4 (by decide)) _).cell 0
    have z55 : (W'.setCell ⟨b4, 0, none⟩ (.int .i64 0)).frozen? ⟨b5, 0, none⟩ = false := (HB.out.c5.far (p := ⟨b4, 0, none⟩) (HB.out.c5.ne_ HB.out.c4 (by decide)) _).frozen 0
    have hD := Lib.hid hD
    have hK := Lib.hid hK
    clear hh hz
    go_wp2
    have HB2 := HB.out.set2 (by have := hge.out.1; have := hb3.out; omega) (by have := hge.out.2; have := hb3.out; omega) 0 false
    have K5 : ((W'.setCell ⟨b4, 0, none⟩ (.int .i64 0)).setCell ⟨b5, 0, none⟩ (.bool false)).heap[D]? = some (.deferred (some [])) := (KeepsOthers.setCell _ _ _).same _ _ ((KeepsOthers.setCell W' _ _).same _ _ hK.out rfl) rfl
    have c4 := (HB2.c4.shut (o := .deferred none) K5).cell 0
    have c5 := (HB2.c5.shut (o := .deferred none) K5).cell 0
    have c4 : (((W'.setCell ⟨b4, 0, none⟩ (.int .i64 0)).setCell ⟨b5, 0, none⟩ (.bool false)).putObj D (.deferred none)).cell? ⟨b4, 0, none⟩ = some (.int .i64 0) := c4
    have c5 : (((W'.setCell ⟨b4, 0, none⟩ (.int .i64 0)).setCell ⟨b5, 0, none⟩ (.bool false)).putObj D (.deferred none)).cell? ⟨b5, 0, none⟩ = some (.bool false) := c5
    refine ⟨by simp, .inl ⟨_, _, rfl, run_takeDeferred K5, ?_⟩⟩
    refine ⟨.tuple #[.int .i64 0, .bool false], by simp [results, Tryd.f34, asAddr, go_sem, c4, c5], rfl, ?_⟩
    exact HB2.fr.shut (by have := z1.out; have := hD.out; omega) _
  case body =>
    intro yl pre x k W' hyl hyr hi hk hbk hlen
    obtain ⟨hpre, hz, HB⟩ := hi
    clear hyr
    obtain ⟨⟨xi, xa, xw⟩, hb⟩ := x
    have hb2 := hb
    obtain ⟨ha0, ha1⟩ := hb2
    dsimp only at ha0 ha1
    have d3 : W'.cell? ⟨b3, 0, none⟩ = some (.slice A cs.length cp) := HB.out.c3.cell 0
    have e0 : W'.cell? ⟨k, 0, none⟩ = some (.int .u64 xa) := hbk.cell 0
    have e1 : W'.cell? ⟨k, 1, none⟩ = some (.int .u64 xw) := hbk.cell 1
    have d4 : W'.cell? ⟨b4, 0, none⟩ = some (.int .i64 0) := HB.out.c4.cell 0
    have z4 := HB.out.c4.frozen 0
    have d55 : ∀ m, ((W'.drewN m).setCell ⟨b4, 0, none⟩ (.int .i64 (xi : Int))).cell? ⟨b5, 0, none⟩ = some (.bool false) := fun m => (((HB.out.drewN m).c5).far (p := ⟨b4, 0, none⟩) (HB.out.c5.ne_ HB.out.c4 (by decide)) _).cell 0
    have z55 : ∀ m, ((W'.drewN m).setCell ⟨b4, 0, none⟩ (.int .i64 (xi : Int))).frozen? ⟨b5, 0, none⟩ = false := fun m => (((HB.out.drewN m).c5).far (p := ⟨b4, 0, none⟩) (HB.out.c5.ne_ HB.out.c4 (by decide)) _).frozen 0
    have hwu : IntKind.u64.wrap (cs.length : Int) = (cs.length : Int) := by rw [IntKind.wrap_u64]; omega
    replace hz := Lib.hid hz
    by_cases hlt : (cs.length : Int) ≤ xa
    · have hss : Hid (stal cs (xa, xw) = true) := Lib.hid (by simp [stal, hlt])
      have hd : decide (xa ≥ (cs.length : Int)) = true := decide_eq_true hlt
      clear hlt
      gi_wp2_with fail
      refine wpIn_region_mixH (fun _ => True) [3, 1, 1, 3, 3, 3, 3, 1, 3, 1, 3, 1, 3, 1, 3, 3] (List.range 16) (by kernel_rfl) (by kernel_rfl) (by kernel_rfl) (by rintro ⟨_, _, h⟩; exact h) (fun _ _ h => h) trivial ?_
      repeat ((first | refine wpMixH_pure rfl rfl (fun K hK => ?_) | refine wpMixH_loc rfl rfl (fun K hK => ?_) | refine wpMixH_any rfl rfl (fun K hK => ?_)); go_simp; refine hK _ _ ?_; clear hK K)
      refine wpMixH_nil (fun n3 => ?_)
      have d55 := d55 (1 + n3)
      have z55 := z55 (1 + n3)
      gi_wp2
      have hKO : KeepsOthers W' (((W'.drewN (1 + n3)).setCell ⟨b4, 0, none⟩ (.int .i64 (xi : Int))).setCell ⟨b5, 0, none⟩ (.bool true)) := by
        have h1 := KeepsOthers.setCell (W'.drewN (1 + n3)) ⟨b4, 0, none⟩ (.int .i64 (xi : Int))
        have h2 := KeepsOthers.setCell ((W'.drewN (1 + n3)).setCell ⟨b4, 0, none⟩ (.int .i64 (xi : Int))) ⟨b5, 0, none⟩ (.bool true)
        exact ⟨Nat.le_trans h1.size h2.size, fun k o hk ho => h2.same k o (h1.same k o hk ho) ho⟩
      exact ⟨hKO.from _, rfl, pre, ⟨(xi, xa, xw), hb⟩, Lib.hid ⟨rfl, hpre.out, hss.out⟩, Lib.hid ⟨by simpa using hz.out, (HB.out.drewN (1 + n3)).set2 (by have := hge.out.1; have := hb3.out; omega) (by have := hge.out.2; have := hb3.out; omega) _ _⟩⟩
    · have hd : decide (xa ≥ (cs.length : Int)) = false := decide_eq_false (by omega)
      obtain ⟨xn, rfl⟩ : ∃ xn : Nat, xa = (xn : Int) := ⟨xa.toNat, by omega⟩
      have hxn : xn < cs.length := by omega
      have hsl : Hid (stal cs ((xn : Int), xw) = !decide (cs.getD xn 0 = xw)) := Lib.hid (by simp [stal, hlt])
      obtain ⟨A', cp', eA, _, _, hcc⟩ := hv.out
      injection eA with e2 e3 e4
      subst e2 e4
      obtain ⟨g, o, rfl, d0⟩ := hcc xn hxn
      have d0 := HB.out.fr.keep_cell d0
      have hxi : (xn : Int) < (cs.length : Int) := by omega
      generalize cs.getD xn 0 = y at *
      clear hcc e3
      by_cases hxy : y = xw
      · have hss : Hid (stal cs ((xn : Int), xw) = false) := Lib.hid (by rw [hsl.out]; simp [hxy])
        subst hxy
        clear hlt
        gi_wp2_with fail
        refine wpIn_region_mixH (fun _ => True) [3, 1, 1, 3, 3, 3, 3, 1, 3, 1, 3, 1, 3, 1, 3, 3] (List.range 16) (by kernel_rfl) (by kernel_rfl) (by kernel_rfl) (by rintro ⟨_, _, h⟩; exact h) (fun _ _ h => h) trivial ?_
        repeat ((first | refine wpMixH_pure rfl rfl (fun K hK => ?_) | refine wpMixH_loc rfl rfl (fun K hK => ?_) | refine wpMixH_any rfl rfl (fun K hK => ?_)); go_simp; refine hK _ _ ?_; clear hK K)
        refine wpMixH_nil (fun n3 => ?_)
        gi_wp2
        rw [show W'.drew.drewN n3 = W'.drewN (1 + n3) from drewN_drewN W' 1 n3]
        refine ⟨KeepsOthers.from (show KeepsOthers W' (W'.drewN (1 + n3)) from ⟨Nat.le_refl _, fun _ _ h _ => h⟩) _, below_drewNs (Below.refl _ W') (1 + n3), Lib.hid (fun z hz => ?_), by simpa using hz.out, Lib.hid (HB.out.drewN (1 + n3))⟩
        rcases List.mem_append.1 hz with h | h
        · exact hpre.out z h
        · obtain rfl := List.mem_singleton.1 h
          exact hss.out
      · have hss : Hid (stal cs ((xn : Int), xw) = true) := Lib.hid (by rw [hsl.out]; simp [hxy])
        have hne : (y != xw) = true := by simpa using hxy
        have hne2 : (y == xw) = false := by simpa using hxy
        clear hlt hxy
        gi_wp2_with fail
        refine wpIn_region_mixH (fun _ => True) [3, 1, 1, 3, 3, 3, 3, 1, 3, 1, 3, 1, 3, 1, 3, 3] (List.range 16) (by kernel_rfl) (by kernel_rfl) (by kernel_rfl) (by rintro ⟨_, _, h⟩; exact h) (fun _ _ h => h) trivial ?_
        repeat ((first | refine wpMixH_pure rfl rfl (fun K hK => ?_) | refine wpMixH_loc rfl rfl (fun K hK => ?_) | refine wpMixH_any rfl rfl (fun K hK => ?_)); go_simp; refine hK _ _ ?_; clear hK K)
        refine wpMixH_nil (fun n3 => ?_)
        have d55 := d55 (1 + n3)
        have z55 := z55 (1 + n3)
        gi_wp2
        have hKO : KeepsOthers W' (((W'.drewN (1 + n3)).setCell ⟨b4, 0, none⟩ (.int .i64 (xi : Int))).setCell ⟨b5, 0, none⟩ (.bool true)) := by
          have h1 := KeepsOthers.setCell (W'.drewN (1 + n3)) ⟨b4, 0, none⟩ (.int .i64 (xi : Int))
          have h2 := KeepsOthers.setCell ((W'.drewN (1 + n3)).setCell ⟨b4, 0, none⟩ (.int .i64 (xi : Int))) ⟨b5, 0, none⟩ (.bool true)
          exact ⟨Nat.le_trans h1.size h2.size, fun k o hk ho => h2.same k o (h1.same k o hk ho) ho⟩
        exact ⟨hKO.from _, rfl, pre, ⟨(xi, (xn : Int), xw), hb⟩, Lib.hid ⟨rfl, hpre.out, hss.out⟩, Lib.hid ⟨by simpa using hz.out, (HB.out.drewN (1 + n3)).set2 (by have := hge.out.1; have := hb3.out; omega) (by have := hge.out.2; have := hb3.out; omega) _ _⟩⟩
theorem rstale_b (h : RdW w r F most l) (hl : l.length ≤ 4611686018427387904) (hn : ∀ x ∈ l, 0 ≤ x.1 ∧ x.1 ≤ 18446744073709551615) (hv : Lies w v cs) (hc : cs.length ≤ 4611686018427387904) :
    Calls Tryd.prog 34 #[.pointer (some ⟨r, 0, none⟩), v] w fun e w' => e = .returned (.tuple #[.int .i64 (stale cs l).1, .bool (stale cs l).2]) ∧ Fr (fun _ => False) w (fun _ => False) w' :=
  stale_core (fun W hf => rall_b (h.fr hf fun _ _ h => h) hl) hl hn hv hc
end
end Go.Proofs.YtfhpnlaabgkpjaaDoor
