/- The document's table, whole: its calls by contract. -/
import Derived.Test.YtkjeobcfaolcaaaDoorPIx1
import Derived.Test.YtkjeobcfaolcaaaDoorPIx3
import Derived.Test.YtkjeobcfaolcaaaDoorPIx5
import Derived.Test.YtkjeobcfaolcaaaDoorPIx10
namespace Go.Proofs.YtkjeobcfaolcaaaDoor
open Go.RowKit
set_option maxHeartbeats 4000000
set_option linter.unusedVariables false
set_option linter.unusedSimpArgs false

/-- the document's table at t; its blocks: F -/
def TbR (w : World) (t : Nat) (F : Nat → Prop) (T : Tbl Int) : Prop := ∃ g cz A cp, F = (fun b => b = t ∨ b = g ∨ own (.slice A T.l.length cp) b) ∧ Blk w t 68 #[.slice (some ⟨g, 0, none⟩) (2 ^ T.k : Nat) cz, .slice A T.l.length cp] ∧
  HolR w g (2 ^ T.k) T.s ∧ Wl w (.slice A T.l.length cp) T.l ∧ T.Ok
theorem TbR.ok {w : World} {t : Nat} {F : Nat → Prop} {T : Tbl Int} (h : TbR w t F T) : T.Ok := by obtain ⟨_, _, _, _, _, _, _, _, h⟩ := h; exact h
theorem TbR.lt {w : World} {t : Nat} {F : Nat → Prop} {T : Tbl Int} (h : TbR w t F T) : ∀ b, F b → b < w.heap.size := by
  obtain ⟨g, cz, A, cp, rfl, hb, hs, hv, _⟩ := h
  rintro b (rfl | rfl | h)
  · exact hb.lt
  · exact SltR.lt hs
  · exact hv.lt b h
theorem TbR.fr {w w' : World} {t : Nat} {F G G' : Nat → Prop} {T : Tbl Int} (h : TbR w t F T) (hf : Fr G w G' w') (hG : ∀ b, F b → ¬ G b) : TbR w' t F T := by
  obtain ⟨g, cz, A, cp, rfl, hb, hs, hv, hok⟩ := h
  exact ⟨g, cz, A, cp, rfl, hf.blk hb (hG _ (.inl rfl)), SltR.fr hs hf (hG _ (.inr (.inl rfl))), hv.frs hf fun k hk => hG k (.inr (.inr hk)), hok⟩
theorem TbR.drewN {w : World} {t : Nat} {F : Nat → Prop} {T : Tbl Int} (h : TbR w t F T) (n : Nat) : TbR (w.drewN n) t F T := h
def mk8R : Array Value := #[Value.bool false, Value.int .u64 0, Value.int .u64 0, Value.bool false, Value.int .u64 0, Value.int .u64 0, Value.bool false, Value.int .u64 0, Value.int .u64 0, Value.bool false, Value.int .u64 0, Value.int .u64 0, Value.bool false, Value.int .u64 0, Value.int .u64 0, Value.bool false, Value.int .u64 0, Value.int .u64 0, Value.bool false, Value.int .u64 0, Value.int .u64 0, Value.bool false, Value.int .u64 0, Value.int .u64 0]
theorem mk8R_run (w : World) : (Instr.makeSlice 66 (.int .i64 8) (.int .i64 8)).run Tryd.prog w = .ok (.slice (some ⟨w.heap.size, 0, none⟩) 8 8) (w.alloc (.cells mk8R 107)) := by kernel_rfl
theorem newR_tb (w : World) : Calls Tryd.prog 30 #[] w fun e w' => ∃ t F, e = .returned (.pointer (some ⟨t, 0, none⟩)) ∧ TbR w' t F (Tbl.new 0) ∧ Fr (fun _ => False) w F w' := by
  have hmk := mk8R_run
  go_enter Tryd.func30, Tryd.ntmps30
  go_wp2
  go_ret
  have e1 : (w.alloc (.cells mk8R 107)).heap.size = w.heap.size + 1 := World.size_alloc ..
  have B1 := Blk.new w 107 mk8R
  have B2 := Blk.new (w.alloc (.cells mk8R 107)) 68 #[.slice (some ⟨w.heap.size, 0, none⟩) 8 8, .slice none 0 0]
  rw [e1] at B2
  refine ⟨_, _, rfl, ⟨w.heap.size, 8, none, 0, rfl, B2, ⟨mk8R, B1.alloc _, fun i hi => ?_⟩, Wl.nil _, Tbl.new_ok 0⟩, (((Fr.refl (fun _ => False) w).alloc _).alloc _).into fun k hk => .inr (.inr ?_)⟩
  · have hi8 : i < 8 := hi
    have : i = 0 ∨ i = 1 ∨ i = 2 ∨ i = 3 ∨ i = 4 ∨ i = 5 ∨ i = 6 ∨ i = 7 := by omega
    rcases this with rfl | rfl | rfl | rfl | rfl | rfl | rfl | rfl <;> exact ⟨rfl, rfl, rfl⟩
  · rcases hk with rfl | rfl | h
    · omega
    · omega
    · exact (own_nil _ _ _ h).elim
theorem Tbl.lookR {w : World} {t : Nat} {F : Nat → Prop} {T : Tbl Int} (h : TbR w t F T) (hk : T.k ≤ 42) (key : Int) : lgo T.s.U T.s.K key (2 ^ T.k) (2 ^ T.k) (homeOf key T.k).toNat 1 = some (T.s.slot T.k key, T.asked key) ∧ T.s.slot T.k key < 2 ^ T.k ∧ T.s.U (T.s.slot T.k key) = decide (key ∈ T.l) ∧ 1 ≤ T.asked key ∧ T.asked key ≤ T.l.length + 1 := by
  have hok := h.ok
  have := hok.k3
  obtain ⟨hl0, hj0, ha, hb, hio⟩ := TInv.look hok.inv (hmk_lt (by omega) (by omega)) key
  refine ⟨hl0, hj0, ?_, ha, hb⟩
  rcases hio with ⟨h1, h2, _⟩ | ⟨h1, h2, _⟩
  · rw [decide_eq_true h1]; exact h2
  · rw [decide_eq_false h1]; exact h2
theorem putR_tb {w : World} {t : Nat} {F : Nat → Prop} {T : Tbl Int} {key y : Int} (h : TbR w t F T) (hk : T.k ≤ 42) (hlen : (T.l.length + 1) * 8 ≤ 140737488355328) (hgr : 3 * 2 ^ T.k < 4 * (T.l.length + 1) → T.k ≤ 41) :
    Calls Tryd.prog 58 #[.pointer (some ⟨t, 0, none⟩), .int .u64 key, .int .u64 y] w fun e w' => e = .returned (.tuple #[.int .u64 (if key ∈ T.l then T.get key else 0), .bool (decide (key ∈ T.l)), .int .i64 0]) ∧
      ∃ F', TbR w' t F' (T.put 0 key y) ∧ Fr F w F' w' := by
  obtain ⟨hl0, hj0, hu, _⟩ := Tbl.lookR h hk key
  obtain ⟨g, cz, A, cp, rfl, hb, hs, hv, hok⟩ := h
  have hok' := hok.put (by omega) 0 key y
  have hk3 := hok.k3
  have h8 := eight hk3
  have hr := hok.room
  by_cases hm : key ∈ T.l
  · rw [decide_eq_true hm] at hu
    have hkj : T.s.K (T.s.slot T.k key) = key := by
      obtain ⟨_, _, _, _, (⟨_, _, h2⟩ | ⟨h1, _⟩)⟩ := TInv.look hok.inv (hmk_lt (by omega) (by omega)) key
      · exact h2
      · exact (h1 hm).elim
    have hT' : T.put 0 key y = ⟨T.k, T.l, T.s.put T.k key y⟩ := by unfold Tbl.put; rw [if_pos hm]
    rw [hT'] at hok' ⊢
    refine (putR_had (y := y) hb hs hk3 (by omega) hl0 hj0 hu).mono ?_
    rintro _ w' ⟨rfl, rfl⟩
    rw [if_pos hm, decide_eq_true hm]
    have hgt : t ≠ g := by obtain ⟨cs, hcb, _⟩ := hs; exact Blk.ne_ hb hcb (by decide)
    have hvg : ¬ own (.slice A T.l.length cp) g := by obtain ⟨cs, hcb, _⟩ := hs; exact Rowv.ne_ hv hcb (by decide)
    refine ⟨rfl, _, ⟨g, cz, A, cp, rfl, hb.far (p := ⟨g, _, none⟩) hgt _, ?_, hv.set (p := ⟨g, _, none⟩) hvg _, hok'⟩, (Fr.refl _ w).set (p := ⟨g, _, none⟩) (.inl (.inr (.inl rfl))) _⟩
    obtain ⟨cs, hcb, hc⟩ := hs
    refine ⟨_, hcb.set_ _ _, fun i hi => ?_⟩
    obtain ⟨c0, c1, c2⟩ := hc i hi
    have s2 := (Array.getElem?_eq_some_iff.1 (hc _ hj0).2.2).1
    show _ = some (Value.bool (if i = T.s.slot T.k key then true else T.s.U i)) ∧ _ = some (Value.int .u64 (if i = T.s.slot T.k key then key else T.s.K i)) ∧ _ = some (Value.int .u64 (if i = T.s.slot T.k key then y else T.s.X i))
    generalize T.s.slot T.k key = j at *
    by_cases e : i = j
    · subst e
      rw [Array.getElem?_setIfInBounds_ne (by omega), Array.getElem?_setIfInBounds_ne (by omega), c0, c1, if_pos rfl, if_pos rfl, if_pos rfl, hu, hkj]
      exact ⟨rfl, rfl, by simp [s2]⟩
    · rw [Array.getElem?_setIfInBounds_ne (by omega), Array.getElem?_setIfInBounds_ne (by omega), Array.getElem?_setIfInBounds_ne (by omega), if_neg e, if_neg e, if_neg e]
      exact ⟨c0, c1, c2⟩
  · rw [decide_eq_false hm] at hu
    rw [if_neg hm, decide_eq_false hm]
    by_cases hg : 3 * 2 ^ T.k < 4 * (T.l.length + 1)
    · have hT' : T.put 0 key y = ⟨T.k + 1, T.l ++ [key], (T.s.grown T.k 0 T.l).put (T.k + 1) key y⟩ := by unfold Tbl.put; rw [if_neg hm, if_pos hg]
      rw [hT'] at hok' ⊢
      refine (putR_grow (y := y) hb hs hv hk3 (hgr hg) hl0 hj0 hu hlen hg hok.inv hm).mono ?_
      rintro _ w' ⟨rfl, g', cz', A', cp', b1, s1, v1, m1⟩
      have hle : (T.l ++ [key]).length = T.l.length + 1 := by simp
      exact ⟨rfl, _, ⟨g', _, A', cp', rfl, by rw [hle]; exact b1, s1, by rw [hle]; exact v1, hok'⟩, by rw [hle]; exact m1⟩
    · have hT' : T.put 0 key y = ⟨T.k, T.l ++ [key], T.s.put T.k key y⟩ := by unfold Tbl.put; rw [if_neg hm, if_neg hg]
      rw [hT'] at hok' ⊢
      refine (putR_new (y := y) hb hs hv hk3 (by omega) hl0 hj0 hu hlen hg).mono ?_
      rintro _ w' ⟨rfl, g', cz', A', cp', b1, s1, v1, m1⟩
      have hle : (T.l ++ [key]).length = T.l.length + 1 := by simp
      exact ⟨rfl, _, ⟨g', cz', A', cp', rfl, by rw [hle]; exact b1, s1, by rw [hle]; exact v1, hok'⟩, by rw [hle]; exact m1⟩
theorem getR_tb {w : World} {t : Nat} {F : Nat → Prop} {T : Tbl Int} {key : Int} (h : TbR w t F T) (hk : T.k ≤ 42) :
    Calls Tryd.prog 39 #[.pointer (some ⟨t, 0, none⟩), .int .u64 key] w fun e w' => e = .returned (.tuple #[.int .u64 (T.get key), .bool (decide (key ∈ T.l))]) ∧ ∃ n, w' = w.drewN n := by
  obtain ⟨hl, hj, hu, _⟩ := Tbl.lookR h hk key
  have := h.ok.k3
  obtain ⟨g, cz, A, cp, rfl, hb, hs, hv, hok⟩ := h
  have := getR_b hb hs this (by omega) (Nat.le_trans (Nat.pow_le_pow_right (by omega) hk) (by decide)) hl hj
  rw [hu] at this
  exact this
theorem takeR_tb {w : World} {t : Nat} {F : Nat → Prop} {T : Tbl Int} {key : Int} (h : TbR w t F T) (hk : T.k ≤ 42) (hlen : T.l.length * 8 ≤ 140737488355328) :
    Calls Tryd.prog 63 #[.pointer (some ⟨t, 0, none⟩), .int .u64 key] w fun e w' => e = .returned (.tuple #[.int .u64 (if key ∈ T.l then T.get key else 0), .bool (decide (key ∈ T.l))]) ∧ ∃ F', TbR w' t F' (T.take 0 key) ∧ Fr F w F' w' := by
  have hb8 := h
  obtain ⟨hl0, hj0, hu, _⟩ := Tbl.lookR h hk key
  have hk3 := h.ok.k3
  obtain ⟨g, cz, A, cp, rfl, hb, hs, hv, hok⟩ := h
  have hok' := hok.take (by omega) 0 key
  by_cases hm : key ∈ T.l
  · have hT' : T.take 0 key = ⟨T.k, T.l.filter (· != key), T.s.take T.k 0 key⟩ := by unfold Tbl.take; rw [if_pos hm]
    rw [decide_eq_true hm, if_pos hm]
    rw [hT'] at hok' ⊢
    refine (takeR_yes hb hs hv hok.inv hk3 (by omega) hm hlen).mono ?_
    rintro _ w' ⟨rfl, A', cp', b1, s1, v1, m1⟩
    exact ⟨rfl, _, ⟨g, cz, A', cp', rfl, b1, s1, v1, hok'⟩, m1⟩
  · have hT' : T.take 0 key = T := by unfold Tbl.take; rw [if_neg hm]
    rw [decide_eq_false hm] at hu
    rw [decide_eq_false hm, if_neg hm, hT']
    refine (takeR_no hb hs hk3 (by omega) hl0 hj0 hu).mono ?_
    rintro _ w' ⟨rfl, rfl⟩
    exact ⟨rfl, _, hb8, Fr.refl _ w⟩
theorem get_none {w : World} {t : Nat} {F : Nat → Prop} {T : Tbl Int} (h : TbR w t F T) (hk : T.k ≤ 42) (hc : T.s.Clean 0) (key : Int) : (if key ∈ T.l then T.get key else 0) = T.get key := by
  obtain ⟨hl, hj, hu, _⟩ := Tbl.lookR h hk key
  by_cases hm : key ∈ T.l
  · rw [if_pos hm]
  · rw [if_neg hm]
    rw [decide_eq_false hm] at hu
    exact (hc _ hu).symm
theorem lenR_tb {w : World} {t : Nat} {F : Nat → Prop} {T : Tbl Int} (h : TbR w t F T) :
    Calls Tryd.prog 40 #[.pointer (some ⟨t, 0, none⟩)] w fun e w' => e = .returned (.int .i64 (T.l.length : Int)) ∧ w = w' := by
  obtain ⟨g, cz, A, cp, rfl, hb, hs, hv, hok⟩ := h
  have d1 : w.cell? ⟨t, 1, none⟩ = some (.slice A T.l.length cp) := hb.cell 1
  clear hb hs hv hok
  generalize T.l.length = n at *
  go_enter Tryd.func40, Tryd.ntmps40
  go_wp2
  go_ret
  exact ⟨rfl, rfl⟩
theorem slotsR_tb {w : World} {t : Nat} {F : Nat → Prop} {T : Tbl Int} (h : TbR w t F T) :
    Calls Tryd.prog 60 #[.pointer (some ⟨t, 0, none⟩)] w fun e w' => e = .returned (.int .i64 ((2 ^ T.k : Nat) : Int)) ∧ w = w' := by
  obtain ⟨g, cz, A, cp, rfl, hb, hs, hv, hok⟩ := h
  have d0 : w.cell? ⟨t, 0, none⟩ = some (.slice (some ⟨g, 0, none⟩) (2 ^ T.k : Nat) cz) := hb.cell 0
  clear hb hs hv hok
  generalize 2 ^ T.k = n at *
  go_enter Tryd.func60, Tryd.ntmps60
  go_wp2
  go_ret
  exact ⟨rfl, rfl⟩
theorem keysR_tb {w : World} {t : Nat} {F : Nat → Prop} {T : Tbl Int} (h : TbR w t F T) :
    Calls Tryd.prog 68 #[.pointer (some ⟨t, 0, none⟩)] w fun e w' => ∃ A cp, e = .returned (.slice A T.l.length cp) ∧ Wl w (.slice A T.l.length cp) T.l ∧ (∀ b, own (.slice A T.l.length cp) b → F b) ∧ w = w' := by
  obtain ⟨g, cz, A, cp, rfl, hb, hs, hv, hok⟩ := h
  have d1 : w.cell? ⟨t, 1, none⟩ = some (.slice A T.l.length cp) := hb.cell 1
  have hv := Lib.hid hv
  clear hb hs hok
  go_enter Tryd.func68, Tryd.ntmps68
  go_wp2
  go_ret
  exact ⟨A, cp, rfl, hv.out, fun b hb => .inr (.inr hb), rfl⟩
theorem askedR_tb {w : World} {t : Nat} {F : Nat → Prop} {T : Tbl Int} {key : Int} (h : TbR w t F T) (hk : T.k ≤ 42) :
    Calls Tryd.prog 37 #[.pointer (some ⟨t, 0, none⟩), .int .u64 key] w fun e w' => e = .returned (.int .i64 (T.asked key : Int)) ∧ w = w' := by
  obtain ⟨hl, hj, hu, _⟩ := Tbl.lookR h hk key
  have hk3 := h.ok.k3
  obtain ⟨g, cz, A, cp, rfl, hb, hs, hv, hok⟩ := h
  have C := Lib.hid (lookR_b hb (SltR.at_ hs) hk3 (by omega) (Nat.le_trans (Nat.pow_le_pow_right (by omega) hk) (by decide)) hl)
  clear hb hs hv hok hl hj hu hk3
  generalize T.s.slot T.k key = j at *
  generalize T.asked key = m at *
  go_enter Tryd.func37, Tryd.ntmps37
  go_wp2_with fail
  refine C.out.mono ?_
  rintro _ w2 ⟨rfl, rfl⟩
  go_wp2
  go_ret
  exact ⟨rfl, rfl⟩
end Go.Proofs.YtkjeobcfaolcaaaDoor
/- A new table of texts, by contract. -/
namespace Go.Proofs.YtkjeobcfaolcaaaDoor
open Go.RowKit
set_option maxHeartbeats 2000000
set_option linter.unusedVariables false
set_option linter.unusedSimpArgs false

/-- eight free slots -/
def free8 : Array Value := #[.bool false, .int .u64 0, .string ⟨#[]⟩, .bool false, .int .u64 0, .string ⟨#[]⟩, .bool false, .int .u64 0, .string ⟨#[]⟩, .bool false, .int .u64 0, .string ⟨#[]⟩, .bool false, .int .u64 0, .string ⟨#[]⟩, .bool false, .int .u64 0, .string ⟨#[]⟩, .bool false, .int .u64 0, .string ⟨#[]⟩, .bool false, .int .u64 0, .string ⟨#[]⟩]
theorem mk8_run (w : World) : (Instr.makeSlice 75 (.int .i64 8) (.int .i64 8)).run Tryd.prog w = .ok (.slice (some ⟨w.heap.size, 0, none⟩) 8 8) (w.alloc (.cells free8 87)) := by kernel_rfl
theorem newS_b (w : World) : Calls Tryd.prog 14 #[] w fun e w' => ∃ t g, e = .returned (.pointer (some ⟨t, 0, none⟩)) ∧ w.heap.size ≤ t ∧ w.heap.size ≤ g ∧ Blk w' t 77 #[.slice (some ⟨g, 0, none⟩) 8 8, .slice none 0 0] ∧ Blk w' g 87 free8 ∧ Below w.heap.size w w' := by
  have hmk := mk8_run
  go_enter Tryd.func14, Tryd.ntmps14
  go_wp2
  go_ret
  have e1 : (w.alloc (.cells free8 87)).heap.size = w.heap.size + 1 := World.size_alloc ..
  have B1 := Blk.new w 87 free8
  have B2 := Blk.new (w.alloc (.cells free8 87)) 77 #[.slice (some ⟨w.heap.size, 0, none⟩) 8 8, .slice none 0 0]
  rw [e1] at B2
  exact ⟨_, _, rfl, by omega, Nat.le_refl _, B2, B1.alloc _, ((Below.refl _ _).alloc (Nat.le_refl _) _).alloc (by rw [e1]; omega) _⟩
end Go.Proofs.YtkjeobcfaolcaaaDoor
/- known, by contract. -/
namespace Go.Proofs.YtkjeobcfaolcaaaDoor
open Go.RowKit
set_option maxHeartbeats 4000000
set_option linter.unusedVariables false
set_option linter.unusedSimpArgs false

def U0 : Nat → Bool := fun _ => false
def K0 : Nat → Int := fun _ => 0
def X0 : Nat → Value := fun _ => .string ⟨#[]⟩
theorem free8_slt {w : World} {g : Nat} (h : Blk w g 87 free8) : Slt w g (2 ^ 3) U0 K0 X0 := by
  refine ⟨_, h, fun i hi => ?_⟩
  match i, hi with
  | 0, _ => exact ⟨rfl, rfl, rfl⟩
  | 1, _ => exact ⟨rfl, rfl, rfl⟩
  | 2, _ => exact ⟨rfl, rfl, rfl⟩
  | 3, _ => exact ⟨rfl, rfl, rfl⟩
  | 4, _ => exact ⟨rfl, rfl, rfl⟩
  | 5, _ => exact ⟨rfl, rfl, rfl⟩
  | 6, _ => exact ⟨rfl, rfl, rfl⟩
  | 7, _ => exact ⟨rfl, rfl, rfl⟩
  | n + 8, hi => omega
def U1 : Nat → Bool := fun i => if i = 0 then true else U0 i
def K1 : Nat → Int := fun i => if i = 0 then 0 else K0 i
def U2 : Nat → Bool := fun i => if i = 1 then true else U1 i
def K2 : Nat → Int := fun i => if i = 1 then 5 else K1 i
theorem look_a : lgo U0 K0 0 (2 ^ 3) 9 (homeOf 0 3).toNat 1 = some (0, 1) := by kernel_rfl
theorem look_b : lgo U1 K1 5 (2 ^ 3) 9 (homeOf 5 3).toNat 1 = some (1, 2) := by kernel_rfl
theorem look_c : lgo U2 K2 0 (2 ^ 3) 9 (homeOf 0 3).toNat 1 = some (0, 1) := by kernel_rfl
theorem look_d : lgo U2 K2 5 (2 ^ 3) 9 (homeOf 5 3).toNat 1 = some (1, 2) := by kernel_rfl
theorem look_e : lgo U2 K2 2 (2 ^ 3) 9 (homeOf 2 3).toNat 1 = some (2, 2) := by kernel_rfl
theorem look_f : ∃ j, lgo U2 K2 8 (2 ^ 3) 9 (homeOf 8 3).toNat 1 = some (j, 1) := ⟨(homeOf 8 3).toNat, by kernel_rfl⟩
end Go.Proofs.YtkjeobcfaolcaaaDoor
/- known, by contract. -/
namespace Go.Proofs.YtkjeobcfaolcaaaDoor
open Go.RowKit
set_option maxHeartbeats 4000000
set_option linter.unusedVariables false
set_option linter.unusedSimpArgs false

set_option maxRecDepth 100000 in
theorem known_b {w : World} (hT : Tab w) : Calls Tryd.prog 12 #[] w fun e w' => e = .returned (.bool true) ∧ Below w.heap.size w w' := by
  have ht1 := hT.lt
  go_enter Tryd.func12, Tryd.ntmps12
  go_wp2_with fail
  refine (newS_b w).mono ?_
  rintro _ w0 ⟨t, g, rfl, tge, gge, b0, g0, bel⟩
  have S0 := Lib.hid (free8_slt g0)
  have T0 := Lib.hid (hT.keep (bel.block 1 ht1))
  have B0 := Lib.hid b0
  have M0 : Hid (Fr (fun _ => False) w (fun b => b = t ∨ b = g ∨ own (.slice none 0 0) b) w0) := Lib.hid ((Fr.of_below bel (Nat.le_refl _) (fun _ => False)).into fun k hk => .inr (.inr (hk.elim (fun h => h ▸ tge) fun hk => hk.elim (fun h => h ▸ gge) fun h => by simp [own, Value.ownBlock] at h)))
  have HT := Lib.hid hT
  clear b0 g0 bel hT tge gge
  go_wp2_with fail
  refine (putS_new (k := 3) (l := []) (key := 0) T0.out B0.out S0.out (Wl.nil _) (by omega) (by omega) (by omega) look_a (by omega) rfl (by simp) (by simp) (by simp)).mono ?_
  rintro _ w1 ⟨rfl, A1, c1, b1, s1, v1, m1⟩
  have M1 := Lib.hid (M0.out.trans m1)
  have T1 : Hid (Tab w1) := Lib.hid (HT.out.keep (M1.out.block 1 ht1 fun h => h))
  have B1 := Lib.hid b1
  have S1 : Hid (Slt w1 g (2 ^ 3) U1 K1 (fun i => if i = 0 then .string ⟨#[97]⟩ else X0 i)) := Lib.hid s1
  have V1 := Lib.hid v1
  clear M0 T0 B0 S0 b1 s1 v1 m1
  go_wp2_with fail
  refine (putS_new (k := 3) (l := [0]) (key := 5) T1.out B1.out S1.out V1.out (by omega) (by omega) (by omega) look_b (by omega) rfl (by simp) (by simp) (by simp)).mono ?_
  rintro _ w2 ⟨rfl, A2, c2, b2, s2, v2, m2⟩
  have M2 := Lib.hid (M1.out.trans m2)
  have T2 : Hid (Tab w2) := Lib.hid (HT.out.keep (M2.out.block 1 ht1 fun h => h))
  have B2 := Lib.hid b2
  have S2 : Hid (Slt w2 g (2 ^ 3) U2 K2 (fun i => if i = 1 then .string ⟨#[98]⟩ else if i = 0 then .string ⟨#[97]⟩ else X0 i)) := Lib.hid s2
  clear M1 T1 B1 S1 V1 b2 s2 v2 m2
  go_wp2_with fail
  refine (putS_had (k := 3) (key := 0) (x := ⟨#[97]⟩) T2.out B2.out S2.out (by omega) (by omega) (by omega) look_c (by omega) rfl rfl).mono ?_
  rintro _ w3 ⟨rfl, hw3⟩
  have hgt : t ≠ g := by obtain ⟨cs, hb, _⟩ := S2.out; exact Blk.ne_ B2.out hb (by decide)
  have M3 := Lib.hid ((M2.out.alloc (.cells #[.pointer (some ⟨t, 0, none⟩)] 34)).set (p := ⟨g, 0 * 3 + 2, none⟩) (.inl (.inr (.inl rfl))) (.string ⟨#[99]⟩))
  have B3 := (B2.out.alloc (.cells #[.pointer (some ⟨t, 0, none⟩)] 34)).far (p := ⟨g, 0 * 3 + 2, none⟩) hgt (.string ⟨#[99]⟩)
  have S3 : SlotsAt ((w2.alloc (.cells #[.pointer (some ⟨t, 0, none⟩)] 34)).setCell ⟨g, 0 * 3 + 2, none⟩ (.string ⟨#[99]⟩)) g (2 ^ 3) U2 K2 := by
    obtain ⟨cs, hb, hc⟩ := S2.out
    have hb' := (hb.alloc (.cells #[.pointer (some ⟨t, 0, none⟩)] 34)).set_ (0 * 3 + 2) (.string ⟨#[99]⟩)
    intro i hi
    obtain ⟨h1, h2, _⟩ := hc i hi
    rw [Blk.cell hb', Blk.cell hb']
    simp only [Array.getElem?_setIfInBounds, show ¬ (0 * 3 + 2 = i * 3) by omega, show ¬ (0 * 3 + 2 = i * 3 + 1) by omega, if_false]
    exact ⟨h1, h2⟩
  rw [← hw3] at M3 B3 S3
  have T3 := HT.out.keep (M3.out.block 1 ht1 fun h => h)
  have SL : Hid (Calls Tryd.prog 24 #[.pointer (some ⟨t, 0, none⟩)] w3 fun e w' => e = .returned (.int .i64 8) ∧ w3 = w') := Lib.hid (slotsS_b (c1 := .slice none 0 0) (B3.cell 0))
  obtain ⟨jf, hlf⟩ := look_f
  have AA : Hid (Calls Tryd.prog 22 #[.pointer (some ⟨t, 0, none⟩), .int .u64 0] w3 fun e w' => e = .returned (.int .i64 1) ∧ w3 = w') := Lib.hid (askedS_b (k := 3) T3 B3 S3 (by omega) (by omega) (by omega) look_c)
  have AB : Hid (Calls Tryd.prog 22 #[.pointer (some ⟨t, 0, none⟩), .int .u64 5] w3 fun e w' => e = .returned (.int .i64 2) ∧ w3 = w') := Lib.hid (askedS_b (k := 3) T3 B3 S3 (by omega) (by omega) (by omega) look_d)
  have AC : Hid (Calls Tryd.prog 22 #[.pointer (some ⟨t, 0, none⟩), .int .u64 2] w3 fun e w' => e = .returned (.int .i64 2) ∧ w3 = w') := Lib.hid (askedS_b (k := 3) T3 B3 S3 (by omega) (by omega) (by omega) look_e)
  have AD : Hid (Calls Tryd.prog 22 #[.pointer (some ⟨t, 0, none⟩), .int .u64 8] w3 fun e w' => e = .returned (.int .i64 1) ∧ w3 = w') := Lib.hid (askedS_b (k := 3) T3 B3 S3 (by omega) (by omega) (by omega) hlf)
  clear M2 T2 B2 S2 hw3 T3 B3 S3 hlf HT
  go_wp2_with fail
  refine (num_b).mono ?_
  rintro _ w4 ⟨rfl, rfl⟩
  go_wp2_with fail
  refine (num_b).mono ?_
  rintro _ w5 ⟨rfl, rfl⟩
  go_wp2_with fail
  refine (SL.out).mono ?_
  rintro _ w6 ⟨rfl, rfl⟩
  go_wp2_with fail
  refine (AA.out).mono ?_
  rintro _ w7 ⟨rfl, rfl⟩
  go_wp2_with fail
  refine (AB.out).mono ?_
  rintro _ w8 ⟨rfl, rfl⟩
  go_wp2_with fail
  refine (AC.out).mono ?_
  rintro _ w9 ⟨rfl, rfl⟩
  go_wp2_with fail
  refine (AD.out).mono ?_
  rintro _ w10 ⟨rfl, rfl⟩
  go_wp2
  go_ret
  exact ⟨rfl, M3.out.below (fun _ h => h.elim) (Nat.le_refl _)⟩
end Go.Proofs.YtkjeobcfaolcaaaDoor
/- A table of the program's and one of the document's in one world, call by call. -/
namespace Go.Proofs.YtkjeobcfaolcaaaDoor
open Go.RowKit
set_option maxHeartbeats 4000000
set_option linter.unusedVariables false
set_option linter.unusedSimpArgs false

theorem k_lew {k m : Nat} (h : 3 * 2 ^ k ≤ 8 * (m + 3)) (hm : m ≤ 1048576) : k ≤ 41 ∧ 2 ^ k * 24 ≤ 140737488355328 := by
  refine ⟨Nat.le_of_not_lt fun hk => ?_, by omega⟩
  have : 2 ^ 42 ≤ 2 ^ k := Nat.pow_le_pow_right (by omega) hk
  omega
/-- the world wr, begun at w: the program's table at t holds T, the document's at r holds U -/
structure PI (w wr : World) (t r a b : Nat) (T U : Tbl Int) : Prop where
  tb : ∃ F G, TbW wr t F T ∧ TbR wr r G U ∧ (∀ x, F x → ¬ G x) ∧ (∀ x, F x → w.heap.size ≤ x) ∧ (∀ x, G x → w.heap.size ≤ x)
  below : Below w.heap.size w wr
  tab : Tab w
  la : T.l.length ≤ a
  ak : 3 * 2 ^ T.k ≤ 8 * (a + 3)
  lb : U.l.length ≤ b
  bk : 3 * 2 ^ U.k ≤ 8 * (b + 3)
section
variable {w wr : World} {t r a b : Nat} {T U : Tbl Int}
theorem PI.tab' (h : PI w wr t r a b T U) : Tab wr := h.tab.keep (h.below.block 1 h.tab.lt)
theorem PI.drewN (h : PI w wr t r a b T U) (n : Nat) : PI w (wr.drewN n) t r a b T U := ⟨h.tb, below_drewNs h.below n, h.tab, h.la, h.ak, h.lb, h.bk⟩
theorem PI.new_ (h : PI w wr t r a b T U) {w' : World} {F : Nat → Prop} (hf : Fr (fun _ => False) wr F w') : PI w w' t r a b T U := by
  obtain ⟨F, G, h1, h2, hd, hF, hG⟩ := h.tb
  exact ⟨⟨F, G, h1.fr hf fun _ _ h => h, h2.fr hf fun _ _ h => h, hd, hF, hG⟩, h.below.trans (hf.below (fun _ h => h.elim) h.below.size), h.tab, h.la, h.ak, h.lb, h.bk⟩
theorem PI.stepT {w' : World} {F G F' : Nat → Prop} {T' : Tbl Int} {a' : Nat} (h : PI w wr t r a b T U) (h1 : TbW wr t F T) (h2 : TbR wr r G U) (hd : ∀ x, F x → ¬ G x) (hF : ∀ x, F x → w.heap.size ≤ x) (hG : ∀ x, G x → w.heap.size ≤ x)
    (ht : TbW w' t F' T') (hf : Fr F wr F' w') (ha : T'.l.length ≤ a') (hk : 3 * 2 ^ T'.k ≤ 8 * (a' + 3)) : PI w w' t r a' b T' U :=
  ⟨⟨F', G, ht, h2.fr hf fun x hx hx' => hd x hx' hx, fun x hx hg => (hf.new x hx).elim (fun h => hd x h hg) fun h => by have := h2.lt x hg; omega, fun x hx => (hf.new x hx).elim (hF x) fun h9 => Nat.le_trans h.below.size h9, hG⟩,
    h.below.trans (hf.below hF h.below.size), h.tab, ha, hk, h.lb, h.bk⟩
theorem PI.stepU {w' : World} {F G G' : Nat → Prop} {U' : Tbl Int} {b' : Nat} (h : PI w wr t r a b T U) (h1 : TbW wr t F T) (h2 : TbR wr r G U) (hd : ∀ x, F x → ¬ G x) (hF : ∀ x, F x → w.heap.size ≤ x) (hG : ∀ x, G x → w.heap.size ≤ x)
    (ht : TbR w' r G' U') (hf : Fr G wr G' w') (hb : U'.l.length ≤ b') (hk : 3 * 2 ^ U'.k ≤ 8 * (b' + 3)) : PI w w' t r a b' T U' :=
  ⟨⟨F, G', h1.fr hf fun x hx hx' => hd x hx hx', ht, fun x hx hg => (hf.new x hg).elim (fun h => hd x hx h) fun h => by have := h1.lt x hx; omega, hF, fun x hx => (hf.new x hx).elim (hG x) fun h9 => Nat.le_trans h.below.size h9⟩,
    h.below.trans (hf.below hG h.below.size), h.tab, h.la, h.ak, hb, hk⟩
theorem TbW.notStep {w : World} {t : Nat} {F : Nat → Prop} {T : Tbl Int} (h : TbW w t F T) {k : Nat} {cs : Array Value} (hb : Blk w k 56 cs) : ¬ F k := by
  obtain ⟨g, cz, A, cp, rfl, h1, ⟨cs', h2, _⟩, hv, _⟩ := h
  rintro (e | e | e)
  · exact Blk.ne_ hb h1 (by decide) e
  · exact Blk.ne_ hb h2 (by decide) e
  · exact Rowv.ne_ hv hb (by decide) e
theorem TbR.notStep {w : World} {t : Nat} {F : Nat → Prop} {T : Tbl Int} (h : TbR w t F T) {k : Nat} {cs : Array Value} (hb : Blk w k 56 cs) : ¬ F k := by
  obtain ⟨g, cz, A, cp, rfl, h1, ⟨cs', h2, _⟩, hv, _⟩ := h
  rintro (e | e | e)
  · exact Blk.ne_ hb h1 (by decide) e
  · exact Blk.ne_ hb h2 (by decide) e
  · exact Rowv.ne_ hv hb (by decide) e
theorem PI.putT (h : PI w wr t r a b T U) (ha : a ≤ 1048576) (key y : Int) : Calls Tryd.prog 57 #[.pointer (some ⟨t, 0, none⟩), .int .u64 key, .int .u64 y] wr fun e w' => e = .returned (.tuple #[.int .u64 (if key ∈ T.l then T.get key else 0), .bool (decide (key ∈ T.l)), .int .i64 0]) ∧ PI w w' t r (a + 1) b (T.put 0 key y) U ∧ (∀ k cs, Blk wr k 56 cs → Blk w' k 56 cs) := by
  obtain ⟨F, G, h1, h2, hd, hF, hG⟩ := h.tb
  obtain ⟨hk, hby⟩ := k_lew h.ak ha
  have hla := h.la
  refine (putW_tb (y := y) h.tab' h1 (by omega) (by omega) (by omega) (fun _ => hk)).mono ?_
  rintro _ w' ⟨rfl, F', h1', hf⟩
  exact ⟨rfl, h.stepT h1 h2 hd hF hG h1' hf (by have := T.put_len 0 key y; omega) (T.put_k 0 key y h.la h.ak), fun k cs hb => hf.blk hb (h1.notStep hb)⟩
theorem PI.putU (h : PI w wr t r a b T U) (hb : b ≤ 1048576) (key y : Int) : Calls Tryd.prog 58 #[.pointer (some ⟨r, 0, none⟩), .int .u64 key, .int .u64 y] wr fun e w' => e = .returned (.tuple #[.int .u64 (if key ∈ U.l then U.get key else 0), .bool (decide (key ∈ U.l)), .int .i64 0]) ∧ PI w w' t r a (b + 1) T (U.put 0 key y) ∧ (∀ k cs, Blk wr k 56 cs → Blk w' k 56 cs) := by
  obtain ⟨F, G, h1, h2, hd, hF, hG⟩ := h.tb
  obtain ⟨hk, hby⟩ := k_lew h.bk hb
  have hlb := h.lb
  refine (putR_tb (y := y) h2 (by omega) (by omega) (fun _ => hk)).mono ?_
  rintro _ w' ⟨rfl, G', h2', hf⟩
  exact ⟨rfl, h.stepU h1 h2 hd hF hG h2' hf (by have := U.put_len 0 key y; omega) (U.put_k 0 key y h.lb h.bk), fun k cs hb => hf.blk hb (h2.notStep hb)⟩
theorem PI.getT (h : PI w wr t r a b T U) (ha : a ≤ 1048576) (key : Int) : Calls Tryd.prog 61 #[.pointer (some ⟨t, 0, none⟩), .int .u64 key] wr fun e w' => e = .returned (.tuple #[.int .u64 (T.get key), .bool (decide (key ∈ T.l))]) ∧ PI w w' t r a b T U ∧ (∀ k cs, Blk wr k 56 cs → Blk w' k 56 cs) := by
  obtain ⟨F, G, h1, h2, hd, hF, hG⟩ := h.tb
  obtain ⟨hk, hby⟩ := k_lew h.ak ha
  refine (getW_tb h.tab' h1 (by omega)).mono ?_
  rintro _ w' ⟨rfl, n, rfl⟩
  exact ⟨rfl, h.drewN n, fun k cs hb => hb.drewN n⟩
theorem PI.getU (h : PI w wr t r a b T U) (hb : b ≤ 1048576) (key : Int) : Calls Tryd.prog 39 #[.pointer (some ⟨r, 0, none⟩), .int .u64 key] wr fun e w' => e = .returned (.tuple #[.int .u64 (U.get key), .bool (decide (key ∈ U.l))]) ∧ PI w w' t r a b T U ∧ (∀ k cs, Blk wr k 56 cs → Blk w' k 56 cs) := by
  obtain ⟨F, G, h1, h2, hd, hF, hG⟩ := h.tb
  obtain ⟨hk, hby⟩ := k_lew h.bk hb
  refine (getR_tb h2 (by omega)).mono ?_
  rintro _ w' ⟨rfl, n, rfl⟩
  exact ⟨rfl, h.drewN n, fun k cs hb => hb.drewN n⟩
theorem PI.takeT (h : PI w wr t r a b T U) (ha : a ≤ 1048576) (key : Int) : Calls Tryd.prog 62 #[.pointer (some ⟨t, 0, none⟩), .int .u64 key] wr fun e w' => e = .returned (.tuple #[.int .u64 (T.get key), .bool (decide (key ∈ T.l))]) ∧ PI w w' t r a b (T.take 0 key) U ∧ (∀ k cs, Blk wr k 56 cs → Blk w' k 56 cs) := by
  obtain ⟨F, G, h1, h2, hd, hF, hG⟩ := h.tb
  obtain ⟨hk, hby⟩ := k_lew h.ak ha
  have hla := h.la
  refine (takeW_tb h.tab' h1 (by omega) (by omega)).mono ?_
  rintro _ w' ⟨rfl, F', h1', hf⟩
  exact ⟨rfl, h.stepT h1 h2 hd hF hG h1' hf (by have := T.take_len 0 key; omega) (by rw [T.take_k]; exact h.ak), fun k cs hb => hf.blk hb (h1.notStep hb)⟩
theorem PI.takeU (h : PI w wr t r a b T U) (hb : b ≤ 1048576) (hc : U.s.Clean 0) (key : Int) : Calls Tryd.prog 63 #[.pointer (some ⟨r, 0, none⟩), .int .u64 key] wr fun e w' => e = .returned (.tuple #[.int .u64 (U.get key), .bool (decide (key ∈ U.l))]) ∧ PI w w' t r a b T (U.take 0 key) ∧ (∀ k cs, Blk wr k 56 cs → Blk w' k 56 cs) := by
  obtain ⟨F, G, h1, h2, hd, hF, hG⟩ := h.tb
  obtain ⟨hk, hby⟩ := k_lew h.bk hb
  have hlb := h.lb
  have hg := get_none h2 (by omega) hc key
  refine (takeR_tb h2 (by omega) (by omega)).mono ?_
  rintro _ w' ⟨rfl, G', h2', hf⟩
  rw [hg]
  exact ⟨rfl, h.stepU h1 h2 hd hF hG h2' hf (by have := U.take_len 0 key; omega) (by rw [U.take_k]; exact h.bk), fun k cs hb => hf.blk hb (h2.notStep hb)⟩
theorem PI.slotsT (h : PI w wr t r a b T U) : Calls Tryd.prog 59 #[.pointer (some ⟨t, 0, none⟩)] wr fun e w' => e = .returned (.int .i64 ((2 ^ T.k : Nat) : Int)) ∧ wr = w' := by
  obtain ⟨F, G, h1, h2, hd, hF, hG⟩ := h.tb
  exact slotsW_tb h1
theorem PI.slotsU (h : PI w wr t r a b T U) : Calls Tryd.prog 60 #[.pointer (some ⟨r, 0, none⟩)] wr fun e w' => e = .returned (.int .i64 ((2 ^ U.k : Nat) : Int)) ∧ wr = w' := by
  obtain ⟨F, G, h1, h2, hd, hF, hG⟩ := h.tb
  exact slotsR_tb h2
theorem PI.start {w1 w2 w3 : World} {F G : Nat → Prop} (hT : Tab w) (hb : Below w.heap.size w w1) (ht : TbW w2 t F (Tbl.new 0)) (hf : Fr (fun _ => False) w1 F w2) (hr : TbR w3 r G (Tbl.new 0)) (hg : Fr (fun _ => False) w2 G w3) : PI w w3 t r 0 0 (Tbl.new 0) (Tbl.new 0) :=
  ⟨⟨F, G, ht.fr hg fun _ _ h => h, hr, fun x hx hgx => (hg.new x hgx).elim (fun h => h) fun h => by have := ht.lt x hx; omega,
    fun x hx => (hf.new x hx).elim (fun h => h.elim) fun h => Nat.le_trans hb.size h, fun x hx => (hg.new x hx).elim (fun h => h.elim) fun h => Nat.le_trans (Nat.le_trans hb.size hf.size) h⟩,
    (hb.trans (hf.below (fun _ h => h.elim) hb.size)).trans (hg.below (fun _ h => h.elim) (Nat.le_trans hb.size hf.size)), hT, by simp [Tbl.new], by simp [Tbl.new], by simp [Tbl.new], by simp [Tbl.new]⟩
theorem PI.askedT (h : PI w wr t r a b T U) (ha : a ≤ 1048576) (key : Int) : Calls Tryd.prog 36 #[.pointer (some ⟨t, 0, none⟩), .int .u64 key] wr fun e w' => e = .returned (.int .i64 (T.asked key : Int)) ∧ wr = w' := by
  obtain ⟨F, G, h1, h2, hd, hF, hG⟩ := h.tb
  obtain ⟨hk, hby⟩ := k_lew h.ak ha
  exact askedW_tb h.tab' h1 (by omega)
theorem PI.askedU (h : PI w wr t r a b T U) (hb : b ≤ 1048576) (key : Int) : Calls Tryd.prog 37 #[.pointer (some ⟨r, 0, none⟩), .int .u64 key] wr fun e w' => e = .returned (.int .i64 (U.asked key : Int)) ∧ wr = w' := by
  obtain ⟨F, G, h1, h2, hd, hF, hG⟩ := h.tb
  obtain ⟨hk, hby⟩ := k_lew h.bk hb
  exact askedR_tb h2 (by omega)
theorem PI.lenT (h : PI w wr t r a b T U) : Calls Tryd.prog 69 #[.pointer (some ⟨t, 0, none⟩)] wr fun e w' => e = .returned (.int .i64 (T.l.length : Int)) ∧ wr = w' := by
  obtain ⟨F, G, h1, h2, hd, hF, hG⟩ := h.tb
  exact lenW_tb h1
theorem PI.lenU (h : PI w wr t r a b T U) : Calls Tryd.prog 40 #[.pointer (some ⟨r, 0, none⟩)] wr fun e w' => e = .returned (.int .i64 (U.l.length : Int)) ∧ wr = w' := by
  obtain ⟨F, G, h1, h2, hd, hF, hG⟩ := h.tb
  exact lenR_tb h2
end
end Go.Proofs.YtkjeobcfaolcaaaDoor
/- plays: Put, Get, Take of both, by contract. -/
namespace Go.Proofs.YtkjeobcfaolcaaaDoor
open Go.RowKit
set_option maxHeartbeats 4000000
set_option linter.unusedVariables false
set_option linter.unusedSimpArgs false

section
variable {w wr : World} {t r m : Nat} {T : Tbl Int}
def stepv (kind who too leave key value : Int) : Value := .agg #[.int .i64 kind, .int .i64 who, .int .i64 too, .int .i64 leave, .int .u64 key, .int .u64 value]
set_option maxRecDepth 100000 in
theorem plays1_b (h : PI w wr t r m m T T) (hm : m ≤ 1048576) (who too leave key value : Int) :
    Calls Tryd.prog 34 #[.pointer (some ⟨t, 0, none⟩), .pointer (some ⟨r, 0, none⟩), .agg #[.int .i64 1, .int .i64 who, .int .i64 too, .int .i64 leave, .int .u64 key, .int .u64 value]] wr fun e w' => e = .returned (.bool true) ∧ PI w w' t r (m + 1) (m + 1) (T.put 0 key value) (T.put 0 key value) := by
  obtain ⟨w1, hw1⟩ : ∃ u, Hid (u = wr.alloc (.cells #[.int .i64 1, .int .i64 who, .int .i64 too, .int .i64 leave, .int .u64 key, .int .u64 value] 56)) := ⟨_, Lib.hid rfl⟩
  have f1 : Fr (fun _ => False) wr (fun _ => False) w1 := by rw [hw1.out]; exact (Fr.refl _ wr).alloc _
  have P1 := Lib.hid (h.new_ f1)
  have X1 : Hid (Blk w1 wr.heap.size 56 #[.int .i64 1, .int .i64 who, .int .i64 too, .int .i64 leave, .int .u64 key, .int .u64 value]) := Lib.hid (by rw [hw1.out]; exact Blk.new _ _ _)
  have hh := Lib.hid h
  have hs1 : Hid (wr.heap.size < w1.heap.size) := Lib.hid X1.out.lt
  have c0 : w1.cell? ⟨wr.heap.size, 0, none⟩ = some (.int .i64 1) := X1.out.cell 0
  have c4 : w1.cell? ⟨wr.heap.size, 4, none⟩ = some (.int .u64 key) := X1.out.cell 4
  have c5 : w1.cell? ⟨wr.heap.size, 5, none⟩ = some (.int .u64 value) := X1.out.cell 5
  have C1 := Lib.hid (P1.out.putT hm key value)
  clear f1 h
  go_enter Tryd.func34, Tryd.ntmps34
  go_wp2_with fail
  rw [← hw1.out]
  refine C1.out.mono ?_
  rintro _ w2 ⟨rfl, p2, x2⟩
  have X2 := Lib.hid (x2 _ _ X1.out)
  have P2 := Lib.hid p2
  have e4 : w2.cell? ⟨wr.heap.size, 4, none⟩ = some (.int .u64 key) := X2.out.cell 4
  have e5 : w2.cell? ⟨wr.heap.size, 5, none⟩ = some (.int .u64 value) := X2.out.cell 5
  have C2 := Lib.hid (P2.out.putU hm key value)
  clear p2 x2 C1 c0 c4 c5 hw1
  generalize hv1 : (if key ∈ T.l then T.get key else 0) = vv at *
  generalize hv2 : decide (key ∈ T.l) = bb at *
  go_wp2_with fail
  refine C2.out.mono ?_
  rintro _ w3 ⟨rfl, p3, x3⟩
  have P3 := Lib.hid p3
  have C3 := Lib.hid P3.out.slotsT
  have C4 := Lib.hid P3.out.slotsU
  clear p3 x3 C2 e4 e5 hv1 hv2
  generalize 2 ^ (T.put 0 key value).k = sl at *
  have q1 : (bb == bb) = true := by cases bb <;> rfl
  go_wp2_with fail
  refine num_b.mono ?_
  rintro _ w4 ⟨rfl, rfl⟩
  go_wp2_with fail
  refine C3.out.mono ?_
  rintro _ w4 ⟨rfl, rfl⟩
  go_wp2_with fail
  refine C4.out.mono ?_
  rintro _ w4 ⟨rfl, rfl⟩
  go_wp2
  go_ret
  exact ⟨rfl, P3.out⟩
set_option maxRecDepth 100000 in
theorem plays3_b (h : PI w wr t r m m T T) (hm : m ≤ 1048576) (hc : T.s.Clean 0) (who too leave key value : Int) :
    Calls Tryd.prog 34 #[.pointer (some ⟨t, 0, none⟩), .pointer (some ⟨r, 0, none⟩), .agg #[.int .i64 3, .int .i64 who, .int .i64 too, .int .i64 leave, .int .u64 key, .int .u64 value]] wr fun e w' => e = .returned (.bool true) ∧ PI w w' t r m m (T.take 0 key) (T.take 0 key) := by
  obtain ⟨w1, hw1⟩ : ∃ u, Hid (u = wr.alloc (.cells #[.int .i64 3, .int .i64 who, .int .i64 too, .int .i64 leave, .int .u64 key, .int .u64 value] 56)) := ⟨_, Lib.hid rfl⟩
  have f1 : Fr (fun _ => False) wr (fun _ => False) w1 := by rw [hw1.out]; exact (Fr.refl _ wr).alloc _
  have P1 := Lib.hid (h.new_ f1)
  have X1 : Hid (Blk w1 wr.heap.size 56 #[.int .i64 3, .int .i64 who, .int .i64 too, .int .i64 leave, .int .u64 key, .int .u64 value]) := Lib.hid (by rw [hw1.out]; exact Blk.new _ _ _)
  have hs1 : Hid (wr.heap.size < w1.heap.size) := Lib.hid X1.out.lt
  have c0 : w1.cell? ⟨wr.heap.size, 0, none⟩ = some (.int .i64 3) := X1.out.cell 0
  have c4 : w1.cell? ⟨wr.heap.size, 4, none⟩ = some (.int .u64 key) := X1.out.cell 4
  have C1 := Lib.hid (P1.out.takeT hm key)
  clear f1 h
  go_enter Tryd.func34, Tryd.ntmps34
  go_wp2_with fail
  rw [← hw1.out]
  refine C1.out.mono ?_
  rintro _ w2 ⟨rfl, p2, x2⟩
  have X2 := Lib.hid (x2 _ _ X1.out)
  have P2 := Lib.hid p2
  have e4 : w2.cell? ⟨wr.heap.size, 4, none⟩ = some (.int .u64 key) := X2.out.cell 4
  have C2 := Lib.hid (P2.out.takeU hm hc key)
  clear p2 C1 c0 c4 hw1
  generalize T.get key = vv at *
  generalize hv2 : decide (key ∈ T.l) = bb at *
  go_wp2_with fail
  refine C2.out.mono ?_
  rintro _ w3 ⟨rfl, p3, x3⟩
  have P3 := Lib.hid p3
  clear p3 C2 e4 hv2
  have q1 : (bb == bb) = true := by cases bb <;> rfl
  go_wp2
  go_ret
  exact ⟨rfl, P3.out⟩
set_option maxRecDepth 100000 in
theorem plays2_b (h : PI w wr t r m m T T) (hm : m ≤ 1048576) (who too leave key value : Int) :
    Calls Tryd.prog 34 #[.pointer (some ⟨t, 0, none⟩), .pointer (some ⟨r, 0, none⟩), .agg #[.int .i64 2, .int .i64 who, .int .i64 too, .int .i64 leave, .int .u64 key, .int .u64 value]] wr fun e w' => e = .returned (.bool true) ∧ PI w w' t r m m T T := by
  obtain ⟨w1, hw1⟩ : ∃ u, Hid (u = wr.alloc (.cells #[.int .i64 2, .int .i64 who, .int .i64 too, .int .i64 leave, .int .u64 key, .int .u64 value] 56)) := ⟨_, Lib.hid rfl⟩
  have f1 : Fr (fun _ => False) wr (fun _ => False) w1 := by rw [hw1.out]; exact (Fr.refl _ wr).alloc _
  have P1 := Lib.hid (h.new_ f1)
  have X1 : Hid (Blk w1 wr.heap.size 56 #[.int .i64 2, .int .i64 who, .int .i64 too, .int .i64 leave, .int .u64 key, .int .u64 value]) := Lib.hid (by rw [hw1.out]; exact Blk.new _ _ _)
  have hs1 : Hid (wr.heap.size < w1.heap.size) := Lib.hid X1.out.lt
  have c0 : w1.cell? ⟨wr.heap.size, 0, none⟩ = some (.int .i64 2) := X1.out.cell 0
  have c4 : w1.cell? ⟨wr.heap.size, 4, none⟩ = some (.int .u64 key) := X1.out.cell 4
  have C1 := Lib.hid (P1.out.getT hm key)
  clear f1 h
  go_enter Tryd.func34, Tryd.ntmps34
  go_wp2_with fail
  rw [← hw1.out]
  refine C1.out.mono ?_
  rintro _ w2 ⟨rfl, p2, x2⟩
  have X2 := Lib.hid (x2 _ _ X1.out)
  have P2 := Lib.hid p2
  have e4 : w2.cell? ⟨wr.heap.size, 4, none⟩ = some (.int .u64 key) := X2.out.cell 4
  have C2 := Lib.hid (P2.out.getU hm key)
  clear p2 C1 c0 c4 hw1
  generalize T.get key = vv at *
  generalize hv2 : decide (key ∈ T.l) = bb at *
  go_wp2_with fail
  refine C2.out.mono ?_
  rintro _ w3 ⟨rfl, p3, x3⟩
  have P3 := Lib.hid p3
  clear p3 C2 e4 hv2
  have q1 : (bb == bb) = true := by cases bb <;> rfl
  go_wp2
  go_ret
  exact ⟨rfl, P3.out⟩
end
end Go.Proofs.YtkjeobcfaolcaaaDoor
/- A table of the program's and the document's as the law sees them: what tells and goes ask of them, nothing else. -/
namespace Go.Proofs.YtkjeobcfaolcaaaDoor
open Go.RowKit
set_option maxHeartbeats 4000000
set_option linter.unusedVariables false
set_option linter.unusedSimpArgs false

def prs (L : List Int) (g : Int → Int) : List (Int × Int) := L.map fun k => (k, g k)
/-- p: the program's table, q: the document's; their keys L, a key's value g; slots sl, asked ask; V: worlds in which they stand. -/
structure Vw (p q : Option Addr) (L : List Int) (g : Int → Int) (sl : Nat) (ask : Int → Nat) (V : World → Prop) : Prop where
  keep : ∀ {w w' : World} {F : Nat → Prop}, V w → Fr (fun _ => False) w F w' → V w'
  len : L.length ≤ 4398046511104
  keysT : ∀ w, V w → Calls Tryd.prog 67 #[.pointer p] w fun e w' => ∃ A cp, e = .returned (.slice A L.length cp) ∧ Wl w' (.slice A L.length cp) L ∧ Fr (fun _ => False) w (own (.slice A L.length cp)) w'
  keysU : ∀ w, V w → Calls Tryd.prog 68 #[.pointer q] w fun e w' => ∃ A cp, e = .returned (.slice A L.length cp) ∧ Wl w' (.slice A L.length cp) L ∧ w = w'
  getU : ∀ w k, V w → Calls Tryd.prog 39 #[.pointer q, .int .u64 k] w fun e w' => e = .returned (.tuple #[.int .u64 (g k), .bool (decide (k ∈ L))]) ∧ ∃ n, w' = w.drewN n
  seq : ∀ (w : World) (b : Nat) (R : World → Nat → Prop), V w → Blk w b 49 #[.pointer p] → (∀ W, Below w.heap.size w W → ∀ j, R W j → j < W.heap.size) →
    (∀ W W' F, w.heap.size ≤ W.heap.size → Fr (fun _ => False) W F W' → ∀ j, R W' j → R W j) → (∀ W, ¬ R W 1) →
    SeqStopsK Fence.wide 2 Tryd.prog 72 #[.pointer (some ⟨b, 0, none⟩)] encW (KpR R) (fun xs => xs = prs L g) (fun pre => ∃ m, m ≤ L.length ∧ pre = (prs L g).take m) L.length w
  lenT : ∀ w, V w → Calls Tryd.prog 69 #[.pointer p] w fun e w' => e = .returned (.int .i64 (L.length : Int)) ∧ w = w'
  lenU : ∀ w, V w → Calls Tryd.prog 40 #[.pointer q] w fun e w' => e = .returned (.int .i64 (L.length : Int)) ∧ w = w'
  slotsT : ∀ w, V w → Calls Tryd.prog 59 #[.pointer p] w fun e w' => e = .returned (.int .i64 (sl : Int)) ∧ w = w'
  slotsU : ∀ w, V w → Calls Tryd.prog 60 #[.pointer q] w fun e w' => e = .returned (.int .i64 (sl : Int)) ∧ w = w'
  askedT : ∀ w k, V w → Calls Tryd.prog 36 #[.pointer p, .int .u64 k] w fun e w' => e = .returned (.int .i64 (ask k : Int)) ∧ w = w'
  askedU : ∀ w k, V w → Calls Tryd.prog 37 #[.pointer q, .int .u64 k] w fun e w' => e = .returned (.int .i64 (ask k : Int)) ∧ w = w'
theorem PI.vw {w wr : World} {t r a : Nat} {T : Tbl Int} (h : PI w wr t r a a T T) (ha : a ≤ 1048576) :
    Vw (some ⟨t, 0, none⟩) (some ⟨r, 0, none⟩) T.l T.get (2 ^ T.k) T.asked (fun wq => PI w wq t r a a T T) where
  keep := fun h hf => h.new_ hf
  len := by have := h.la; omega
  keysT := fun wq h => by
    obtain ⟨F, G, h1, h2, hd, hF, hG⟩ := h.tb
    have hla := h.la
    exact keysW_tb h1 (by omega)
  keysU := fun wq h => by
    obtain ⟨F, G, h1, h2, hd, hF, hG⟩ := h.tb
    refine (keysR_tb h2).mono ?_
    rintro _ w' ⟨A, cp, rfl, hv, _, rfl⟩
    exact ⟨A, cp, rfl, hv, rfl⟩
  getU := fun wq k h => by
    obtain ⟨F, G, h1, h2, hd, hF, hG⟩ := h.tb
    obtain ⟨hk, hby⟩ := k_lew h.bk ha
    exact getR_tb h2 (by omega)
  seq := fun wq b R h hb h0 hs ht => by
    obtain ⟨F, G, h1, h2, hd, hF, hG⟩ := h.tb
    obtain ⟨hk, hby⟩ := k_lew h.ak ha
    have hla := h.la
    have hk3 := h1.ok.k3
    obtain ⟨g, cz, A, cp, rfl, hb1, hs1, hv1, hok⟩ := h1
    exact allW_seq hb hb1 hs1 hv1 h.tab' hok.inv (by omega) (by omega) hby (by omega) R h0 hs ht
  lenT := fun wq h => h.lenT
  lenU := fun wq h => h.lenU
  slotsT := fun wq h => h.slotsT
  slotsU := fun wq h => h.slotsU
  askedT := fun wq k h => h.askedT ha k
  askedU := fun wq k h => h.askedU ha k
end Go.Proofs.YtkjeobcfaolcaaaDoor
/- A range over All of a table of uint64 that is not there, or zero. -/
namespace Go.Proofs.YtkjeobcfaolcaaaDoor
open Go.RowKit Go.Shelf
set_option maxHeartbeats 4000000
set_option linter.unusedVariables false
set_option linter.unusedSimpArgs false
attribute [local go_sem] Oper.semAt_some

theorem NzW.below {w w' : World} {p : Option Addr} {B : Nat} (h : NzW w p) (hb : Below B w w') (hB : w.heap.size ≤ B) : NzW w' p :=
  h.imp id fun ⟨t, e, b⟩ => ⟨t, e, Blk.below b hb (Nat.lt_of_lt_of_le b.lt hB)⟩
set_option maxRecDepth 100000 in
theorem nilAll1W_seq {α : Type} {p : Option Addr} {b n : Nat} {w : World} (hb : Blk w b 49 #[.pointer p]) (hz : NzW w p) (encs : α → Array Value) (Kp : World → World → Prop) (S Sp : List α → Prop) (hS : S []) :
    SeqStopsK Fence.wide n Tryd.prog 72 #[.pointer (some ⟨b, 0, none⟩)] encs Kp S Sp 0 w := fun l J Jx W hW _ _ hY h0 => by
  refine callsIn_wide.2 ?_
  have d0 : W.cell? ⟨b, 0, none⟩ = some (.pointer p) := (hb.below hW hb.lt).cell 0
  have C1 := Lib.hid (nilCopyW_b (hz.below hW (Nat.le_refl _)))
  have C2 := Lib.hid (nilKeysW_b (p := none) (w := W) (.inl rfl))
  have h0 := Lib.hid h0
  clear hb hz hW hY
  go_enter Tryd.func72, Tryd.ntmps72
  go_wp2_with fail
  refine C1.out.mono ?_
  rintro _ w2 ⟨rfl, rfl⟩
  go_wp2_with fail
  refine C2.out.mono ?_
  rintro _ w3 ⟨rfl, rfl⟩
  go_wp2
  go_loopw [13] (fun i wr => i = .int .i64 0 ∧ Hid (wr = W)) (fun _ _ => 0)
  case atStart => exact ⟨rfl, Lib.hid rfl⟩
  case round =>
    obtain ⟨rfl, hw⟩ := hrel
    go_wp2
    go_end0
    exact ⟨⟨_, rfl⟩, .inl ⟨[], hS, by rw [hw.out]; exact h0.out⟩⟩
end Go.Proofs.YtkjeobcfaolcaaaDoor
