/- LogsRedo: redo in any kind; what lies in memory between two steps; its first way. -/
import Derived.Deep.LoopGhost
import Derived.Deep.DeepMust
import Derived.Deep.DeepCutAuto
import Derived.IntWalk
import Derived.Test.YtfhpnlaabgkpjaaDoorPLg1
import Derived.Test.YtfhpnlaabgkpjaaDoorPLg12
import Derived.Test.YtfhpnlaabgkpjaaDoorPLg16
import Derived.Test.YtfhpnlaabgkpjaaDoorPLg20
import Derived.Test.YtfhpnlaabgkpjaaDoorPLg21
import Derived.Test.YtfhpnlaabgkpjaaDoorPLg22
namespace Go.Proofs.YtfhpnlaabgkpjaaDoor
open Go.RowKit Go.Shelf
set_option maxHeartbeats 8000000
set_option linter.unusedVariables false
set_option linter.unusedSimpArgs false

theorem redo_all {w : World} {X : Nat → Prop} {r q most : Nat} {l : List (Int × Int)} {kd on a x n : Int} {vc : Value} (h : RP w X r q most l) (hz : (l.length + 2) * 24 ≤ 140737488355328) (ha : 0 ≤ a ∧ a ≤ 18446744073709551615) (hn : -9223372036854775808 ≤ n ∧ n ≤ 9223372036854775807) :
    Calls Tryd.prog 29 #[.pointer (some ⟨r, 0, none⟩), .pointer (some ⟨q, 0, none⟩), .agg #[.int .i64 kd, .int .i64 on, .int .u64 a, .int .u64 x, .int .i64 n, vc]] w fun e w' => e = .returned (.bool true) ∧ ∃ X' l', RP w' X' r q most l' ∧ Fr X w X' w' ∧ l'.length ≤ l.length + 1 := by
  by_cases k1 : kd = 1
  · subst k1; exact redo_1 ha h hz
  by_cases k2 : kd = 2
  · subst k2
    by_cases hr : 0 ≤ n ∧ n ≤ l.length
    · exact redo_2 ⟨n.toNat, by omega, by omega⟩ h hz
    · exact redo_2n (by omega) hn.1 hn.2 h hz
  by_cases k4 : kd = 4
  · subst k4
    by_cases hr : 0 ≤ n ∧ n < (redo l).length
    · exact redo_4 ⟨n.toNat, by omega, by omega⟩ h hz
    · exact redo_4n (by omega) hn.1 hn.2 h hz
  by_cases k5 : kd = 5
  · subst k5; exact redo_5 h hz
  by_cases k7 : kd = 7
  · subst k7; exact redo_7 h hz
  exact redo_0 (by simpa using k1) (by simpa using k2) (by simpa using k4) (by simpa using k5) (by simpa using k7) h hz
/-- Over's number, in one form -/
def codeO (R : Option (List Int)) : Int := if R.isSome then 0 else 4
section
variable {w w' : World} {X F G : Nat → Prop} {r q most : Nat} {l : List (Int × Int)}
theorem overR_one {R : Option (List Int)} {e : Ending} (h : OverR R 0 w e w') : ∃ u, e = .returned (.tuple #[u, .int .i64 (codeO R)]) ∧ Wl w' u (R.getD []) ∧ Fr (fun _ => False) w (own u) w' := by
  cases R with
  | none =>
    obtain ⟨rfl, f1⟩ := h
    exact ⟨_, rfl, Wl.nil w', f1.into fun _ h => (own_nil' _ _ _ h).elim⟩
  | some out => exact h
theorem RP.over1 {cs : List Int} {v : Value} (h : RP w X r q most l) (hv : Lies w v cs) (hc : cs.length * 8 ≤ 140737488355328) :
    Calls Tryd.prog 18 #[.pointer (some ⟨r, 0, none⟩), v] w fun e w' => ∃ u, e = .returned (.tuple #[u, .int .i64 (codeO (overGo cs.length (redo l) cs))]) ∧ Wl w' u ((overGo cs.length (redo l) cs).getD []) ∧ Fr (fun _ => False) w (own u) w' := by
  have hm := h.hm
  have hr := h.hr
  have hn := h.hn
  obtain ⟨F, G, rfl, g1, g2, hd⟩ := h.tb
  exact (wover_b g1 (by omega) (fun c hc => hn c (redo_mem _ c hc)) hv hc).mono fun e w1 hO => overR_one hO
theorem RP.over2 {cs : List Int} {v : Value} (h : RP w X r q most l) (hv : Lies w v cs) (hc : cs.length * 8 ≤ 140737488355328) :
    Calls Tryd.prog 27 #[.pointer (some ⟨q, 0, none⟩), v] w fun e w' => ∃ u, e = .returned (.tuple #[u, .int .i64 (codeO (overGo cs.length (redo l) cs))]) ∧ Wl w' u ((overGo cs.length (redo l) cs).getD []) ∧ Fr (fun _ => False) w (own u) w' := by
  have hn := h.hn
  have hz := h.hz
  obtain ⟨F, G, rfl, g1, g2, hd⟩ := h.tb
  exact (dover_b g2 (by omega) (fun c hc => hn c (redo_mem _ c hc)) hv hc).mono fun e w1 hO => overR_one hO
end
theorem overD_len {n : Nat} {o : List (Int × Int)} {cs : List Int} : ((overGo n o cs).getD []).length ≤ cs.length := by
  cases h1 : overGo n o cs with
  | none => exact Nat.zero_le _
  | some f => exact Nat.le_of_eq (overGo_len _ _ _ h1)
structure LR (w wr : World) (bo bq : Nat) (r q : Nat → Nat) (mm : Nat) (X : Nat → Nat → Prop) (l : Nat → List (Int × Int)) : Prop where
  pd : ∀ j, j < 2 → RP wr (X j) (r j) (q j) mm (l j)
  dis : ∀ j k, j < 2 → k < 2 → j ≠ k → ∀ b, X j b → ¬ X k b
  ow : Blk wr bo 71 (ptr2 r)
  rf : Blk wr bq 37 (ptr2 q)
  off : ∀ j, j < 2 → ∀ b, X j b → w.heap.size ≤ b ∧ b ≠ bo ∧ b ≠ bq
  go : w.heap.size ≤ bo
  gq : w.heap.size ≤ bq
  fr : Fr (fun _ => False) w (fun _ => False) wr
  tab : Tab w
section
variable {w wr w' : World} {bo bq : Nat} {r q : Nat → Nat} {mm n : Nat} {X : Nat → Nat → Prop} {l : Nat → List (Int × Int)}
theorem LR.new_ {F : Nat → Prop} (h : LR w wr bo bq r q mm X l) (hf : Fr (fun _ => False) wr F w') : LR w w' bo bq r q mm X l :=
  ⟨fun j hj => (h.pd j hj).new_ hf, h.dis, hf.blk h.ow fun h => h, hf.blk h.rf fun h => h, h.off, h.go, h.gq, h.fr.beside hf fun _ h => h.elim, h.tab⟩
theorem LR.drewN (h : LR w wr bo bq r q mm X l) (k : Nat) : LR w (wr.drewN k) bo bq r q mm X l := h.new_ ((Fr.refl (fun _ => False) wr).drewN k)
theorem LR.step (h : LR w wr bo bq r q mm X l) (hn : n < 2) {X' : Nat → Prop} {l' : List (Int × Int)} (hf : Fr (X n) wr X' w') (hp : RP w' X' (r n) (q n) mm l') : LR w w' bo bq r q mm (upd X n X') (upd l n l') := by
  have hge := h.fr.size
  have hlt := fun j (hj : j < 2) => (h.pd j hj).lt
  refine ⟨fun j hj => ?_, fun j k hj hk hjk b hb => ?_, hf.blk h.ow fun hb => ((h.off n hn _ hb).2.1) rfl, hf.blk h.rf fun hb => ((h.off n hn _ hb).2.2) rfl, fun j hj b hb => ?_, h.go, h.gq, h.fr.beside hf fun k hk => (h.off n hn k hk).1, h.tab⟩
  · by_cases e : j = n
    · subst e; rw [upd_self, upd_self]; exact hp
    · rw [upd_ne _ _ e, upd_ne _ _ e]; exact (h.pd j hj).fr hf (fun b hb => h.dis j n hj hn e b hb) (h.pd n hn).one
  · by_cases e : j = n
    · subst e
      rw [upd_self] at hb
      rw [upd_ne _ _ (Ne.symm hjk)]
      exact fun hk' => (hf.new b hb).elim (fun h1 => h.dis j k hj hk hjk b h1 hk') fun h1 => by have := hlt k hk b hk'; omega
    · rw [upd_ne _ _ e] at hb
      by_cases e2 : k = n
      · subst e2
        rw [upd_self]
        exact fun hk' => (hf.new b hk').elim (fun h1 => h.dis j k hj hk hjk b hb h1) fun h1 => by have := hlt j hj b hb; omega
      · rw [upd_ne _ _ e2]; exact h.dis j k hj hk hjk b hb
  · by_cases e : j = n
    · subst e
      rw [upd_self] at hb
      rcases hf.new b hb with h1 | h1
      · exact h.off j hj b h1
      · have := h.ow.lt; have := h.rf.lt
        exact ⟨by omega, by omega, by omega⟩
    · rw [upd_ne _ _ e] at hb; exact h.off j hj b hb
/-- a copy of the other pair in the place of one -/
theorem LR.copied (h : LR w wr bo bq r q mm X l) {m : Nat} (hn : n < 2) (hm : m < 2) {w1 w3 : World} {s s2 : Nat} {G1 G2 : Nat → Prop} (h1 : RoW w1 s G1 mm (redo (l m)) (pasts (l m))) (f1 : Fr (fun _ => False) wr G1 w1)
    (h3 : LgR w3 s2 G2 mm (l m)) (f3 : Fr (fun _ => False) (w1.setCell ⟨bo, n, none⟩ (.pointer (some ⟨s, 0, none⟩))) G2 w3) :
    LR w (w3.setCell ⟨bq, n, none⟩ (.pointer (some ⟨s2, 0, none⟩))) bo bq (upd r n s) (upd q n s2) mm (upd X n fun b => G1 b ∨ G2 b) (upd l n (l m)) := by
  have hbo := h.ow.lt
  have hbq := h.rf.lt
  have hge := h.fr.size
  have ht1 := h.tab.lt
  have no1 : ¬ (1 = bo) := by have := h.go; omega
  have nq1 : ¬ (1 = bq) := by have := h.gq; omega
  have hoq : bo ≠ bq := h.ow.ne_ h.rf (by decide)
  have g1 : ∀ b, G1 b → wr.heap.size ≤ b ∧ b < w1.heap.size := fun b hb => ⟨(f1.new b hb).elim (fun h => h.elim) id, h1.lt b hb⟩
  have s2w : (w1.setCell ⟨bo, n, none⟩ (.pointer (some ⟨s, 0, none⟩))).heap.size = w1.heap.size := by simp [World.setCell]
  have g2 : ∀ b, G2 b → w1.heap.size ≤ b := fun b hb => (f3.new b hb).elim (fun h => h.elim) fun h => by rw [s2w] at h; exact h
  have f2 : Fr (fun b => b = bo) w1 (fun b => b = bo) (w1.setCell ⟨bo, n, none⟩ (.pointer (some ⟨s, 0, none⟩))) := (Fr.refl (fun b => b = bo) w1).set (p := ⟨bo, n, none⟩) (.inl rfl) _
  have f4 : Fr (fun b => b = bq) w3 (fun b => b = bq) (w3.setCell ⟨bq, n, none⟩ (.pointer (some ⟨s2, 0, none⟩))) := (Fr.refl (fun b => b = bq) w3).set (p := ⟨bq, n, none⟩) (.inl rfl) _
  have hs1 := f1.size
  have hs3 := f3.size
  have ow1 := f1.blk h.ow fun h => h
  have ow2 : Blk (w1.setCell ⟨bo, n, none⟩ (.pointer (some ⟨s, 0, none⟩))) bo 71 (ptr2 (upd r n s)) := by rw [← ptr2_set r hn]; exact ow1.set_ n _
  have rf3 := f3.blk (f2.blk (f1.blk h.rf fun h => h) (Ne.symm hoq)) fun h => h
  have pj : ∀ j, j < 2 → RP (w3.setCell ⟨bq, n, none⟩ (.pointer (some ⟨s2, 0, none⟩))) (X j) (r j) (q j) mm (l j) := fun j hj =>
    ((((h.pd j hj).new_ f1).fr f2 (fun b hb => (h.off j hj b hb).2.1) no1).new_ f3).fr f4 (fun b hb => (h.off j hj b hb).2.2) nq1
  have hxl : ∀ j, j < 2 → ∀ b, X j b → b < wr.heap.size := fun j hj => (h.pd j hj).lt
  refine ⟨fun j hj => ?_, fun j k hj hk hjk b hb => ?_, f4.blk (f3.blk ow2 fun h => h) hoq, by rw [← ptr2_set q hn]; exact rf3.set_ n _, fun j hj b hb => ?_, h.go, h.gq,
    (((h.fr.beside f1 fun _ h => h.elim).beside f2 fun k hk => by rw [hk]; exact h.go).beside f3 fun _ h => h.elim).beside f4 fun k hk => by rw [hk]; exact h.gq, h.tab⟩
  · by_cases e : j = n
    · subst e
      rw [upd_self, upd_self, upd_self, upd_self]
      refine ⟨⟨G1, G2, rfl, ((h1.fr f2 fun b hb e => by have := (g1 b hb).1; omega).fr f3 fun _ _ h => h).fr f4 fun b hb e => by have := (g1 b hb).1; omega, h3.fr f4 fun b hb e => by have := g2 b hb; omega, fun b hb hb2 => by have := (g1 b hb).2; have := g2 b hb2; omega⟩, (h.pd m hm).hm, (h.pd m hm).hr, (h.pd m hm).hz, (h.pd m hm).hn, (pj m hm).tab, fun hb => by
        rcases hb with hb | hb
        · have := (g1 1 hb).1; omega
        · have := g2 1 hb; omega⟩
    · rw [upd_ne _ _ e, upd_ne _ _ e, upd_ne _ _ e, upd_ne _ _ e]; exact pj j hj
  · by_cases e : j = n
    · subst e
      rw [upd_self] at hb
      rw [upd_ne _ _ (Ne.symm hjk)]
      exact fun hk' => by
        have := hxl k hk b hk'
        rcases hb with hb | hb
        · have := (g1 b hb).1; omega
        · have := g2 b hb; omega
    · rw [upd_ne _ _ e] at hb
      by_cases e2 : k = n
      · subst e2
        rw [upd_self]
        exact fun hk' => by
          have := hxl j hj b hb
          rcases hk' with hb | hb
          · have := (g1 b hb).1; omega
          · have := g2 b hb; omega
      · rw [upd_ne _ _ e2]; exact h.dis j k hj hk hjk b hb
  · by_cases e : j = n
    · subst e
      rw [upd_self] at hb
      rcases hb with hb | hb
      · have := (g1 b hb).1; exact ⟨by omega, by omega, by omega⟩
      · have := g2 b hb; exact ⟨by omega, by omega, by omega⟩
    · rw [upd_ne _ _ e] at hb; exact h.off j hj b hb
end
set_option maxRecDepth 100000 in
theorem logsRedo_no {w : World} {most : Int} {A : Option Addr} {n c : Nat} (hm : most < 0 ∨ 1048576 < most) (h1 : -9223372036854775808 ≤ most) (h2 : most ≤ 9223372036854775807) (hT : Tab w) :
    Calls Tryd.prog 5 #[.int .i64 most, .slice A n c] w fun e w' => e = .returned (.bool true) ∧ Fr (fun _ => False) w (fun _ => False) w' := by
  have N1 := Lib.hid (newRedo_no (w := w) hm h1 h2)
  have M1 := Lib.hid (noRedo_b (w := w) (p := none) (.inl rfl))
  have hcase : decide (most < 0) = true ∨ (decide (most < 0) = false ∧ decide (most > 1048576) = true) := by
    by_cases h0 : most < 0
    · exact .inl (decide_eq_true h0)
    · exact .inr ⟨decide_eq_false h0, decide_eq_true (by omega)⟩
  replace hT := Lib.hid hT
  clear hm
  go_enter Tryd.func5, Tryd.ntmps5
  go_wp2_with fail
  refine N1.out.mono ?_
  rintro _ u ⟨rfl, rfl⟩
  go_wp2_with fail
  refine N1.out.mono ?_
  rintro _ u ⟨rfl, rfl⟩
  rcases hcase with hd0 | ⟨hd0, hd1⟩
  all_goals
    go_wp2_with fail
    refine num_b.mono ?_
    rintro _ u ⟨rfl, rfl⟩
    go_wp2_with fail
    refine M1.out.mono ?_
    rintro _ w1 ⟨rfl, f1⟩
    have M2 := Lib.hid (noRedo_b (w := w1.alloc (.cells #[.bool false, .int .i64 0, .slice none 0 0, .pointer none, .slice none 0 0] 70)) (p := some ⟨w1.heap.size, 0, none⟩) (.inr ⟨_, rfl, Blk.new _ _ _⟩))
    replace f1 := Lib.hid f1
    go_wp2_with fail
    refine M2.out.mono ?_
    rintro _ w2 ⟨rfl, f2⟩
    have f2w := Lib.hid ((f1.out.alloc (.cells #[.bool false, .int .i64 0, .slice none 0 0, .pointer none, .slice none 0 0] 70)).trans f2)
    have W2 := Lib.hid (works_b (hT.out.frs f2w.out fun h => h))
    clear M2 f1 f2
    go_wp2_with fail
    refine W2.out.mono ?_
    rintro _ w3 ⟨rfl, f3⟩
    replace f3 := Lib.hid f3
    go_wp2
    go_ret
    exact ⟨rfl, f2w.out.trans f3.out⟩
theorem LR.start {w w1 w2 w3 w4 w5 w6 : World} {r0 r1 mm : Nat} {F0 F1 : Nat → Prop} (hT : Tab w) (hm : mm ≤ 1048576) (h0 : RoW w1 r0 F0 mm [] []) (f0 : Fr (fun _ => False) w F0 w1) (h1 : RoW w2 r1 F1 mm [] []) (f1 : Fr (fun _ => False) w1 F1 w2)
    (e3 : w3 = w2.alloc (.cells #[.pointer (some ⟨r0, 0, none⟩), .pointer (some ⟨r1, 0, none⟩)] 71)) (e4 : w4 = w3.alloc (.cells #[.int .i64 (mm : Int), .slice none 0 0] 36))
    (e5 : w5 = w4.alloc (.cells #[.int .i64 (mm : Int), .slice none 0 0] 36)) (e6 : w6 = w5.alloc (.cells #[.pointer (some ⟨w3.heap.size, 0, none⟩), .pointer (some ⟨w4.heap.size, 0, none⟩)] 37)) :
    ∃ r q X, r 0 = r0 ∧ r 1 = r1 ∧ q 0 = w3.heap.size ∧ q 1 = w4.heap.size ∧ LR w w6 w2.heap.size w5.heap.size r q mm X (fun _ => []) := by
  have f3 : Fr (fun _ => False) w2 (fun _ => False) w3 := by rw [e3]; exact (Fr.refl _ w2).alloc _
  have f4 : Fr (fun _ => False) w3 (fun _ => False) w4 := by rw [e4]; exact (Fr.refl _ w3).alloc _
  have f5 : Fr (fun _ => False) w4 (fun _ => False) w5 := by rw [e5]; exact (Fr.refl _ w4).alloc _
  have f6 : Fr (fun _ => False) w5 (fun _ => False) w6 := by rw [e6]; exact (Fr.refl _ w5).alloc _
  have s3 : w3.heap.size = w2.heap.size + 1 := by rw [e3]; simp
  have s4 : w4.heap.size = w3.heap.size + 1 := by rw [e4]; simp
  have s5 : w5.heap.size = w4.heap.size + 1 := by rw [e5]; simp
  have b3 : Blk w3 w2.heap.size 71 #[.pointer (some ⟨r0, 0, none⟩), .pointer (some ⟨r1, 0, none⟩)] := by rw [e3]; exact Blk.new _ _ _
  have b4 : Blk w4 w3.heap.size 36 #[.int .i64 (mm : Int), .slice none 0 0] := by rw [e4]; exact Blk.new _ _ _
  have b5 : Blk w5 w4.heap.size 36 #[.int .i64 (mm : Int), .slice none 0 0] := by rw [e5]; exact Blk.new _ _ _
  have b6 : Blk w6 w5.heap.size 37 #[.pointer (some ⟨w3.heap.size, 0, none⟩), .pointer (some ⟨w4.heap.size, 0, none⟩)] := by rw [e6]; exact Blk.new _ _ _
  have g26 := ((f3.trans f4).trans f5).trans f6
  have l0 : LgR w6 w3.heap.size (fun b => b = w3.heap.size ∨ own (.slice none ([] : List (Int × Int)).length 0) b) mm [] := ⟨none, 0, rfl, (f5.trans f6).blk b4 fun h => h, Sl.nil _⟩
  have l1 : LgR w6 w4.heap.size (fun b => b = w4.heap.size ∨ own (.slice none ([] : List (Int × Int)).length 0) b) mm [] := ⟨none, 0, rfl, f6.blk b5 fun h => h, Sl.nil _⟩
  have hF0 : ∀ b, F0 b → w.heap.size ≤ b ∧ b < w1.heap.size := fun b hb => ⟨(f0.new b hb).elim (fun h => h.elim) id, h0.lt b hb⟩
  have hF1 : ∀ b, F1 b → w1.heap.size ≤ b ∧ b < w2.heap.size := fun b hb => ⟨(f1.new b hb).elim (fun h => h.elim) id, h1.lt b hb⟩
  have fw0 : Fr (fun _ => False) w (fun _ => False) w6 := ((((Fr.refl (fun _ => False) w).beside f0 fun _ h => h.elim).beside f1 fun _ h => h.elim)).trans g26
  have ht1 := hT.lt
  have z0 := f0.size
  have z1 := f1.size
  have p0 : RP w6 (fun b => F0 b ∨ (b = w3.heap.size ∨ own (.slice none ([] : List (Int × Int)).length 0) b)) r0 w3.heap.size mm [] :=
    ⟨⟨_, _, rfl, (h0.fr f1 fun _ _ h => h).fr g26 fun _ _ h => h, l0, fun b hb hb2 => by rcases hb2 with h | h; have := (hF0 b hb).2; omega; exact own_nil' _ _ _ h⟩, hm, Nat.zero_le _, by simp, by simp, hT.frs fw0 fun h => h, fun hb => by
      rcases hb with h | h | h
      · have := hF0 1 h; omega
      · omega
      · exact own_nil' _ _ _ h⟩
  have p1 : RP w6 (fun b => F1 b ∨ (b = w4.heap.size ∨ own (.slice none ([] : List (Int × Int)).length 0) b)) r1 w4.heap.size mm [] :=
    ⟨⟨_, _, rfl, h1.fr g26 fun _ _ h => h, l1, fun b hb hb2 => by rcases hb2 with h | h; have := (hF1 b hb).2; omega; exact own_nil' _ _ _ h⟩, hm, Nat.zero_le _, by simp, by simp, hT.frs fw0 fun h => h, fun hb => by
      rcases hb with h | h | h
      · have := hF1 1 h; omega
      · omega
      · exact own_nil' _ _ _ h⟩
  have fw : Fr (fun _ => False) w (fun _ => False) w6 := ((((Fr.refl (fun _ => False) w).beside f0 fun _ h => h.elim).beside f1 fun _ h => h.elim)).trans g26
  refine ⟨fun j => if j = 0 then r0 else r1, fun j => if j = 0 then w3.heap.size else w4.heap.size, fun j => if j = 0 then (fun b => F0 b ∨ (b = w3.heap.size ∨ own (.slice none ([] : List (Int × Int)).length 0) b)) else fun b => F1 b ∨ (b = w4.heap.size ∨ own (.slice none ([] : List (Int × Int)).length 0) b), rfl, rfl, rfl, rfl,
    fun j hj => ?_, fun j k hj hk hjk b hb hb2 => ?_, ((f4.trans f5).trans f6).blk b3 fun h => h, b6, fun j hj b hb => ?_, by omega, by omega, fw, hT⟩
  · rcases (by omega : j = 0 ∨ j = 1) with rfl | rfl
    · exact p0
    · exact p1
  · have q : ∀ b, (F0 b ∨ (b = w3.heap.size ∨ own (.slice none ([] : List (Int × Int)).length 0) b)) → (F1 b ∨ (b = w4.heap.size ∨ own (.slice none ([] : List (Int × Int)).length 0) b)) → False := fun b h1 h2 => by
      rcases h1 with h1 | h1 | h1
      · have a1 := hF0 b h1
        rcases h2 with h2 | h2 | h2
        · have a2 := hF1 b h2; omega
        · omega
        · exact own_nil' _ _ _ h2
      · rcases h2 with h2 | h2 | h2
        · have a2 := hF1 b h2; omega
        · omega
        · exact own_nil' _ _ _ h2
      · exact own_nil' _ _ _ h1
    rcases (by omega : (j = 0 ∧ k = 1) ∨ (j = 1 ∧ k = 0)) with ⟨rfl, rfl⟩ | ⟨rfl, rfl⟩
    · exact q b hb hb2
    · exact q b hb2 hb
  · rcases (by omega : j = 0 ∨ j = 1) with rfl | rfl
    · rcases hb with h | h | h
      · have := hF0 b h; exact ⟨by omega, by omega, by omega⟩
      · exact ⟨by omega, by omega, by omega⟩
      · exact (own_nil' _ _ _ h).elim
    · rcases hb with h | h | h
      · have := hF1 b h; exact ⟨by omega, by omega, by omega⟩
      · exact ⟨by omega, by omega, by omega⟩
      · exact (own_nil' _ _ _ h).elim
end Go.Proofs.YtfhpnlaabgkpjaaDoor
/- One law for every append, which tells besides that the slice appended to reads on as before. -/
namespace Go.Proofs.YtfhpnlaabgkpjaaDoor
open Go.RowKit
section
variable {w w' : World} {B : Nat} {e : TypeId} {size : Nat} {v : Value} {n : Nat} {xs : List Value}
/-- append, whatever is appended to a slice that the call has made: the slice itself reads on as before. -/
theorem wpList_app2 {P : Program} (w : World) {ops : Array Oper} {rest : List Oper} {o : Oper} {a : Act} {Q : Exit → Act → World → Prop} (hg : o.guard = none) (s x : Operand) (t : TypeId)
    (hop : o.op = Op.call { callee := Callee.builtin Builtin.append, args := #[s, x], argTypes := #[t, t] }) (e : TypeId) (i : TypeInfo) (z : Value) (size bytes : Nat) (h1 : P.underlying t = some (.slice e)) (h2 : P.info? e = some i) (h3 : i.zero = some z) (h4 : i.size = size) (h5 : i.bytes = bytes) (h6 : z.cells.size = size) (h7 : 0 < size)
    (B : Nat) (v : Value) (n : Nat) (xs : List Value) (hs : a.eval s = v) (hrow : Rowv w B e size v n xs) (u : Value) (m : Nat) (news : List Value) (hx : a.eval x = u) (hsrc : Src w u m size news) (b1 : n + m ≤ maxLen) (b2 : (n + m) * bytes ≤ 140737488355328) (hB : B ≤ w.heap.size)
    (hK : ∀ v' w', Rowv w' B e size v' (n + m) (xs ++ news) → Rowv w' B e size v n xs → w.grownBy w' v.ownBlock → ((∃ A c, v = .slice A n c ∧ v' = .slice A (n + m) c) ∨ ∃ k, v'.ownBlock = some k ∧ w.heap.size ≤ k) → wpList P ops Q rest (a.put o.dst v') w') :
    wpList P ops Q (o :: rest) a w := by
  rcases hsrc with ⟨rfl, rfl, rfl⟩ | ⟨ad, c, rfl, hn, hc, h1c⟩
  · refine wpList_plain hg fun K hK' => ?_
    have hrun : (Builtin.append_ #[t, t] o.type #[v, .slice none 0 0]).run P w = .ok v w := by
      rcases hrow.2 with ⟨rfl, rfl⟩ | ⟨g, off, cap, cur, rfl, _, _, hnc, _⟩
      · simp [Builtin.append_, run_underlying h1, sizeOf, typeInfo, h2, Builtin.lenOf, Builtin.firstCells]
      · simp [Builtin.append_, run_underlying h1, sizeOf, typeInfo, h2, Builtin.lenOf, Builtin.firstCells, hnc, storeCells]
    unfold Oper.wp
    simp [execOp, hop, resolve, invoke, builtin, hs, hx, hrun, Result.andThen]
    obtain ⟨A0, c0, hv0, _⟩ := hrow.shape
    exact hK' _ _ (hK v w (by simpa using hrow) hrow ⟨rfl, rfl, rfl, Nat.le_refl _, fun _ _ _ => rfl⟩ (.inl ⟨A0, c0, hv0, hv0⟩))
  · rcases hrow.2 with ⟨rfl, rfl⟩ | ⟨g, off, cap, cur, rfl, k2, k3, k4, k5, k6, k7⟩
    · have e0 : xs = [] := List.eq_nil_of_length_eq_zero (by simpa using hrow.1)
      subst e0
      refine wpList_append_own w hg s x t hop w.heap.size e i z size bytes h1 h2 h3 h4 h5 h6 h7 (.slice none 0 0) 0 [] hs (World.ownsRow_nil w w.heap.size e size) ad m c news hx hn hc h1c b1 b2 (Nat.le_refl _) ?_
      intro v' w' hown hgr hnil
      have hr := Rowv.of_own hown
      refine hK v' w' (hr.base fun k hk => Nat.le_trans hB (hr.lt hk).1) (Rowv.nil _ _ _ _) hgr ?_
      by_cases hm : m = 0
      · left; exact ⟨none, 0, rfl, by rw [hnil.2 ⟨rfl, hm⟩, hm]⟩
      · rcases hown.2 with ⟨h, _⟩ | ⟨g, cap, cur, rfl, hb, hh, _⟩
        · exact absurd (hnil.1 h).2 hm
        · exact .inr ⟨g, rfl, hb⟩
    · have hcell : ∀ j, w.cell? ⟨g, off + j, none⟩ = cur[off + j]? := fun j => by simp [World.cell?, k3]
      have hmul : (n + m) * size = n * size + m * size := Nat.add_mul n m size
      refine wpList_append_arg w hg s x t hop e i z size bytes h1 h2 h3 h4 h5 h6 h7 g off n cap xs hs hrow.1 (fun j u hj => ?_) ad m c news hx hn hc h1c (fun hr j hj => ?_) b1 b2 (fun hr => ?_) (fun _ v' w' hown hgr => ?_)
      · have hjl : j < n * size := by rw [← hrow.1]; exact (List.getElem?_eq_some_iff.1 hj).1
        rw [hcell, ← hj, ← k7, List.getElem?_take, if_pos hjl, List.getElem?_drop, Array.getElem?_toList]
      · have hle : (n + m) * size ≤ cap * size := Nat.mul_le_mul_right _ hr
        refine ⟨?_, by simp [World.frozen?, k3]⟩
        rw [Nat.add_assoc, hcell, Array.getElem?_eq_getElem (by omega)]
        rfl
      · have hle : (n + m) * size ≤ cap * size := Nat.mul_le_mul_right _ hr
        obtain ⟨q1, q2, q3, q4, q5, q6⟩ := heap_setCells g news (off + n * size) w cur k3
        have hget : ∀ j, j < n * size → (setAll cur (off + n * size) news)[off + j]? = cur[off + j]? := fun j hj => by rw [setAll_get, if_neg (by omega)]
        have hold : Rowv (w.setCells g (off + n * size) news) B e size (.slice (some ⟨g, off, none⟩) n cap) n xs := ⟨hrow.1, .inr ⟨g, off, cap, _, rfl, k2, q1, k4, k5, by rw [setAll_size]; exact k6, by
          apply List.ext_getElem?
          intro j
          rw [List.getElem?_take, List.getElem?_drop, Array.getElem?_toList]
          by_cases hj : j < n * size
          · rw [if_pos hj, hget j hj, ← k7, List.getElem?_take, if_pos hj, List.getElem?_drop, Array.getElem?_toList]
          · rw [if_neg hj, List.getElem?_eq_none (by rw [hrow.1]; omega)]⟩⟩
        refine hK _ _ ⟨by rw [List.length_append, hrow.1, hn, hmul], .inr ⟨g, off, cap, _, rfl, k2, q1, hr, k5, by rw [setAll_size]; exact k6, ?_⟩⟩ hold ⟨q4, q5, q6, by rw [q3]; exact Nat.le_refl _, fun k _ hk => q2 k fun h => hk (by rw [h]; rfl)⟩ (.inl ⟨_, cap, rfl, rfl⟩)
        apply List.ext_getElem?
        intro j
        rw [List.getElem?_take, List.getElem?_drop, Array.getElem?_toList, setAll_get]
        by_cases hj : j < (n + m) * size
        · rw [if_pos hj]
          by_cases hj2 : j < n * size
          · rw [if_neg (by omega), List.getElem?_append_left (by rw [hrow.1]; exact hj2), ← k7, List.getElem?_take, if_pos hj2, List.getElem?_drop, Array.getElem?_toList]
          · rw [if_pos (by omega), List.getElem?_append_right (by rw [hrow.1]; omega), hrow.1]
            congr 1
            omega
        · rw [if_neg hj, List.getElem?_eq_none (by rw [List.length_append, hrow.1, hn]; omega)]
      · have hr := Rowv.of_own hown
        have hb : ∀ k, v'.ownBlock = some k → w.heap.size ≤ k := fun k hk => (hr.lt hk).1
        refine hK v' w' (hr.base fun k hk => Nat.le_trans hB (hb k hk)) (hrow.keepLt fun k _ hk _ => hgr.block k hk fun h => nomatch h) ⟨hgr.os, hgr.tape, hgr.output, hgr.size, fun k h _ => hgr.block k h (fun h => nomatch h)⟩ ?_
        rcases hown.2 with ⟨rfl, h⟩ | ⟨g', cap', cur', rfl, hb', _⟩
        · omega
        · exact .inr ⟨g', rfl, hb'⟩
end
end Go.Proofs.YtfhpnlaabgkpjaaDoor
/- Lists of words that are written over and grown, each with a mark of its own: none shows another one's (parleykit.Apart). -/
namespace Go.Proofs.YtfhpnlaabgkpjaaDoor
open Go.RowKit
set_option maxHeartbeats 4000000
set_option linter.unusedVariables false
set_option linter.unusedSimpArgs false

theorem sl_info : (Tryd.prog.info? 39).map (fun i => (i.zero, i.size, i.bytes)) = some (some (.slice none 0 0), 1, 24) := by kernel_rfl
/-- The lists that are told: where they are told of, which they are. -/
structure Ls (w : World) (A : Option Addr) (n : Nat) (V : Nat → Value) : Prop where
  at_ : ∀ i, i < n → ∃ g o, A = some ⟨g, o, none⟩ ∧ w.cell? ⟨g, o + i, none⟩ = some (V i) ∧ ∃ cs, Blk w g 39 cs
theorem Ls.keep {w w' : World} {A : Option Addr} {n : Nat} {V : Nat → Value} (h : Ls w A n V) (hk : ∀ g cs, Blk w g 39 cs → w'.heap[g]? = w.heap[g]?) : Ls w' A n V := ⟨fun i hi => by
  obtain ⟨g, o, h1, h2, cs, h3⟩ := h.at_ i hi
  have e := hk g cs h3
  exact ⟨g, o, h1, by unfold World.cell? at *; simp only [e]; exact h2, cs, e.trans h3⟩⟩
/-- the mark of the i-th list -/
def mk (i : Nat) : Int := 1099511627776 + i
def marks (n i : Nat) : List Int := List.replicate n (mk i)
theorem marks_len (n i : Nat) : (marks n i).length = n := by simp [marks]
theorem marks_get {n i j : Nat} (h : j < n) : (marks n i).getD j 0 = mk i := by simp [marks, List.getD_eq_getElem?_getD, h]
theorem marks_succ (n i : Nat) : marks n i ++ [mk i] = marks (n + 1) i := by simp [marks, List.replicate_succ']
/-- a list whose first k words are marked -/
def half (l : List Int) (k i : Nat) : List Int := marks k i ++ l.drop k
theorem half_len {l : List Int} {k i : Nat} (h : k ≤ l.length) : (half l k i).length = l.length := by simp [half, marks]; omega
theorem half_zero (l : List Int) (i : Nat) : half l 0 i = l := by simp [half, marks]
theorem half_all (l : List Int) (i : Nat) : half l l.length i = marks l.length i := by simp [half]
theorem half_set {l : List Int} {k i : Nat} (h : k < l.length) : (half l k i).set k (mk i) = half l (k + 1) i := by
  unfold half
  rw [List.set_append_right _ _ (by rw [marks_len]; exact Nat.le_refl _), marks_len, Nat.sub_self, List.drop_eq_getElem_cons h, List.set_cons_zero, ← marks_succ]
  simp
/-- what the first loop has done: the lists ahead of the i-th are marked, of that one the first k words -/
def turned (L : Nat → List Int) (i k j : Nat) : List Int := if j < i then marks (L j).length j else if j = i then half (L j) k j else L j
theorem turned_len (L : Nat → List Int) {i k j : Nat} (h : j = i → k ≤ (L j).length) : (turned L i k j).length = (L j).length := by
  unfold turned
  split
  · exact marks_len _ _
  · split
    · exact half_len (h (by assumption))
    · rfl
theorem turned_next (L : Nat → List Int) (i j : Nat) : turned L i (L i).length j = turned L (i + 1) 0 j := by
  unfold turned
  by_cases h1 : j < i
  · rw [if_pos h1, if_pos (by omega)]
  · rw [if_neg h1]
    by_cases h2 : j = i
    · subst h2; rw [if_pos rfl, if_pos (by omega), half_all]
    · rw [if_neg h2, if_neg (by omega)]
      by_cases h3 : j = i + 1
      · rw [if_pos h3, half_zero]
      · rw [if_neg h3]
/-- What stands between two rounds of the second loop: the first i lists have been grown, the longer ones are told of in v. -/
structure Lg (B : Nat) (w0 w : World) (A : Option Addr) (n i : Nat) (V N : Nat → Value) (L : Nat → List Int) (v : Value) : Prop where
  ls : Ls w A n V
  old : ∀ j, j < n → Lies w (V j) (marks (L j).length j)
  wl : ∀ j, i ≤ j → j < n → Wl w (V j) (marks (L j).length j)
  new : ∀ j, j < i → Lies w (N j) (marks ((L j).length + 20) j)
  row : Rowv w B 39 1 v i ((List.range i).map N)
  ow : ∀ j, j < i → ∀ k, own (N j) k → k < w.heap.size ∧ (own (V j) k ∨ B ≤ k) ∧ ¬ own v k
  lt : ∀ j, j < n → ∀ k, Go.Proofs.YtfhpnlaabgkpjaaDoor.own (V j) k → k < B
  at_ : ∀ g o, A = some ⟨g, o, none⟩ → 0 < n → g < B
  typ : ∀ j, j < n → ∀ g o, A = some ⟨g, o, none⟩ → ¬ Go.Proofs.YtfhpnlaabgkpjaaDoor.own (V j) g
  ap : ∀ i j k, i < n → j < n → Go.Proofs.YtfhpnlaabgkpjaaDoor.own (V i) k → Go.Proofs.YtfhpnlaabgkpjaaDoor.own (V j) k → i = j
  fr : Fr (fun k => ∃ i, i < n ∧ Go.Proofs.YtfhpnlaabgkpjaaDoor.own (V i) k) w0 (fun k => ∃ i, i < n ∧ Go.Proofs.YtfhpnlaabgkpjaaDoor.own (V i) k) w
  base : B ≤ w.heap.size
  b0 : w0.heap.size ≤ B
theorem Ls.keep' {w w' : World} {A : Option Addr} {n : Nat} {V : Nat → Value} (h : Ls w A n V) (hk : ∀ g o, A = some ⟨g, o, none⟩ → 0 < n → w'.heap[g]? = w.heap[g]?) : Ls w' A n V := ⟨fun i hi => by
  obtain ⟨g, o, h1, h2, cs, h3⟩ := h.at_ i hi
  have e := hk g o h1 (by omega)
  exact ⟨g, o, h1, by unfold World.cell? at *; simp only [e]; exact h2, cs, e.trans h3⟩⟩
theorem Lies.fr {w w' : World} {v : Value} {l : List Int} {G G' : Nat → Prop} (h : Lies w v l) (hf : Fr G w G' w') (hG : ∀ k, own v k → ¬ G k) : Lies w' v l := by
  obtain ⟨A, cp, rfl, hc, h0, h⟩ := h
  refine ⟨A, cp, rfl, hc, h0, fun j hj => ?_⟩
  obtain ⟨g, of, rfl, hcell⟩ := h j hj
  have hlt : g < w.heap.size := Nat.lt_of_not_le fun hh => by
    unfold World.cell? at hcell
    rw [Array.getElem?_eq_none hh] at hcell
    cases hcell
  have e := hf.block g hlt (hG g rfl)
  exact ⟨g, of, rfl, by unfold World.cell? at *; simp only [e]; exact hcell⟩
theorem Lies.cap {w : World} {A : Option Addr} {n c c0 : Nat} {l : List Int} (h : Lies w (.slice A n c) l) (h1 : n ≤ c0) (h2 : A = none → c0 = 0) : Lies w (.slice A n c0) l := by
  obtain ⟨A', cp, e, hc, h0, h⟩ := h
  injection e with e1 e2 e3
  subst e1
  subst e2
  exact ⟨A, c0, rfl, h1, h2, h⟩
/-- One word more, told in full. -/
theorem wpList_word2 {ops : Array Oper} {rest : List Oper} {o : Oper} {a : Act} {Q : Exit → Act → World → Prop} (wr : World) (hgd : o.guard = none) (s x : Operand)
    (ho : o.op = .call { callee := .builtin .append, args := #[s, x], argTypes := #[39, 39] })
    (v : Value) (l : List Int) (y : Int) (hs : a.eval s = v) (hl : Wl wr v l)
    (hx : a.eval x = .slice (some ⟨wr.heap.size, 0, none⟩) 1 1) (hlen : (l.length + 1) * 8 ≤ 140737488355328)
    (h : ∀ A cap w', l.length + 1 ≤ cap → Wl w' (.slice A (l.length + 1) cap) (l ++ [y]) → Wl w' v l → Fr (own v) wr (own (.slice A (l.length + 1) cap)) w' → ((∃ c, v = .slice A l.length c) ∨ ∀ k, own (.slice A (l.length + 1) cap) k → wr.heap.size ≤ k) → wpList Tryd.prog ops Q rest (a.put o.dst (.slice A (l.length + 1) cap)) w') :
    wpList Tryd.prog ops Q (o :: rest) a (wr.alloc (.cells #[.int .u64 y] 38)) := by
  obtain ⟨i0, hi, hz0, hz1, hz2⟩ := info_parts u64_info
  refine wpList_app2 _ hgd s x 39 ho 38 i0 (.int .u64 0) 1 8 Tryd.underlying39 hi hz0 hz1 hz2 rfl (by decide) 0 v l.length (u64s l) hs (Rowv.alloc hl _) _ 1 [.int .u64 y] hx
    (Src.lit wr (vs := [.int .u64 y]) rfl (by simp [Value.oneCell']) 1) (by unfold maxLen; omega) (by omega) (Nat.zero_le _) ?_
  intro v' w' hrow hold hgr hown
  obtain ⟨A, cap, rfl, hc, _⟩ := hrow.shape
  refine h A cap w' hc ?_ hold ?_ ?_
  · unfold Wl
    rw [show (l ++ [y]).length = l.length + 1 by simp, show u64s (l ++ [y]) = u64s l ++ [.int .u64 y] by simp [u64s]]
    exact hrow
  · refine ((((Fr.refl (own v) wr).alloc _).grown hgr (fun k hk => .inl hk))).into fun k hk => ?_
    rcases hown with ⟨A', c', e1, e2⟩ | ⟨k', e, hk'⟩
    · rw [e1]
      injection e2 with e2 _ _
      subst e2
      exact .inl (own_len hk)
    · unfold own at hk
      rw [hk] at e
      injection e with e
      subst e
      exact .inr (.inr (by simp at hk'; omega))
  · rcases hown with ⟨A', c', e1, e2⟩ | ⟨k', e, hk'⟩
    · injection e2 with e2 _ _
      subst e2
      exact .inl ⟨c', e1⟩
    · refine .inr fun k hk => ?_
      unfold own at hk
      rw [hk] at e
      injection e with e
      subst e
      simp at hk'
      omega
/-- One list more has been grown, and is told of. -/
theorem lg_step {B : Nat} {w0 w w2 w3 : World} {A : Option Addr} {n i : Nat} {V N : Nat → Value} {L : Nat → List Int} {v v' u : Value} (h : Lg B w0 w A n i V N L v) (hi : i < n) (hf : Fr (own (V i)) w (own u) w2) (hu : Wl w2 u (marks ((L i).length + 20) i)) (ho : Lies w2 (V i) (marks (L i).length i))
    (hr : Rowv w3 B 39 1 v' (i + 1) ((List.range i).map N ++ [u])) (hg : Fr (own v) w2 (own v') w3) : Lg B w0 w3 A n (i + 1) V (fun j => if j = i then u else N j) L v' := by
  have hvB : ∀ k, own v k → B ≤ k := fun k hk => (h.row.lt hk).1
  have hBs : B ≤ w.heap.size := h.base
  have hub : ∀ k, own u k → own (V i) k ∨ B ≤ k := fun k hk => (hf.new k hk).imp id fun h1 => by omega
  have huv : ∀ k, own u k → ¬ own v k := fun k hk hv => by
    have hvl := (h.row.lt hv).2
    rcases hf.new k hk with h1 | h1
    · have := h.lt i hi k h1; have := hvB k hv; omega
    · omega
  have hsz := hf.size
  have hsz3 := hg.size
  refine ⟨?_, fun j hj => ?_, fun j hj hjn => ?_, fun j hj => ?_, ?_, fun j hj k hk => ?_, h.lt, h.at_, h.typ, h.ap, ?_, by omega, h.b0⟩
  · refine (h.ls.keep' fun g o hA hn => hf.block g (by have := h.at_ g o hA hn; omega) (h.typ i hi g o hA)).keep' fun g o hA hn => hg.block g (by have := h.at_ g o hA hn; omega) fun hv => by have := hvB g hv; have := h.at_ g o hA hn; omega
  · by_cases e : j = i
    · subst e
      exact ho.fr hg fun k hk hv => by have := h.lt j hj k hk; have := hvB k hv; omega
    · exact ((h.old j hj).fr hf fun k hk hi' => e (h.ap j i k hj hi hk hi')).fr hg fun k hk hv => by have := h.lt j hj k hk; have := hvB k hv; omega
  · exact ((h.wl j (by omega) hjn).fr hf fun k hk hi' => by have := h.ap j i k hjn hi hk hi'; omega).fr hg fun k hk hv => by have := h.lt j hjn k hk; have := hvB k hv; omega
  · by_cases e : j = i
    · subst e
      rw [if_pos rfl]
      exact hu.lies.fr hg huv
    · rw [if_neg e]
      have hj' : j < i := by omega
      refine ((h.new j hj').fr hf fun k hk hi' => ?_).fr hg fun k hk => (h.ow j hj' k hk).2.2
      rcases (h.ow j hj' k hk).2.1 with h1 | h1
      · exact e (h.ap j i k (by omega) hi h1 hi')
      · have := h.lt i hi k hi'; omega
  · have e : (List.range (i + 1)).map (fun j => if j = i then u else N j) = (List.range i).map N ++ [u] := by
      rw [List.range_succ, List.map_append]
      congr 1
      · exact List.map_congr_left fun j hj => if_neg (by have := List.mem_range.1 hj; omega)
      · simp
    rw [e]
    exact hr
  · by_cases e : j = i
    · subst e
      rw [if_pos rfl] at hk
      refine ⟨Nat.lt_of_lt_of_le (hu.lt k hk) hsz3, hub k hk, fun hv => (hg.new k hv).elim (huv k hk) fun h1 => by have := hu.lt k hk; omega⟩
    · rw [if_neg e] at hk
      have hj' : j < i := by omega
      obtain ⟨h1, h2, h3⟩ := h.ow j hj' k hk
      exact ⟨by omega, h2, fun hv => (hg.new k hv).elim h3 fun h4 => by omega⟩
  · refine (h.fr.trans (((hf.wide (G := fun k => ∃ i, i < n ∧ own (V i) k) fun k hk => ⟨i, hi, hk⟩).into (G := fun k => ∃ i, i < n ∧ own (V i) k) fun k hk => .inr (.inl hk)))).beside hg fun k hk => ?_
    have := hvB k hk
    have := h.b0
    omega
end Go.Proofs.YtfhpnlaabgkpjaaDoor
