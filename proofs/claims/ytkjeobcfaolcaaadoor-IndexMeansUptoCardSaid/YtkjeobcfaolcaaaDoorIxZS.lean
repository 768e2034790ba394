/- A table, whole: its calls by contract (a table of string). -/
import Derived.Test.YtkjeobcfaolcaaaDoorIxYS
import Derived.Test.YtkjeobcfaolcaaaDoorIxT4
namespace Go.Proofs.YtkjeobcfaolcaaaDoor
open Go.RowKit Go.Shelf
set_option maxHeartbeats 4000000
set_option linter.unusedVariables false
set_option linter.unusedSimpArgs false

/-- the table at t; its blocks: F -/
def TbS (w : World) (t : Nat) (F : Nat → Prop) (T : Tbl ByteArray) : Prop := ∃ g cz A cp, F = (fun b => b = t ∨ b = g ∨ own (.slice A T.l.length cp) b) ∧ Blk w t 77 #[.slice (some ⟨g, 0, none⟩) (2 ^ T.k : Nat) cz, .slice A T.l.length cp] ∧
  HolS w g (2 ^ T.k) T.s ∧ Wl w (.slice A T.l.length cp) T.l ∧ T.Ok
theorem TbS.ok {w : World} {t : Nat} {F : Nat → Prop} {T : Tbl ByteArray} (h : TbS w t F T) : T.Ok := by obtain ⟨_, _, _, _, _, _, _, _, h⟩ := h; exact h
theorem TbS.lt {w : World} {t : Nat} {F : Nat → Prop} {T : Tbl ByteArray} (h : TbS w t F T) : ∀ b, F b → b < w.heap.size := by
  obtain ⟨g, cz, A, cp, rfl, hb, hs, hv, _⟩ := h
  rintro b (rfl | rfl | h)
  · exact hb.lt
  · exact Slt.lt hs
  · exact hv.lt b h
theorem TbS.fr {w w' : World} {t : Nat} {F G G' : Nat → Prop} {T : Tbl ByteArray} (h : TbS w t F T) (hf : Fr G w G' w') (hG : ∀ b, F b → ¬ G b) : TbS w' t F T := by
  obtain ⟨g, cz, A, cp, rfl, hb, hs, hv, hok⟩ := h
  exact ⟨g, cz, A, cp, rfl, hf.blk hb (hG _ (.inl rfl)), Slt.fr hs hf (hG _ (.inr (.inl rfl))), hv.frs hf fun k hk => hG k (.inr (.inr hk)), hok⟩
theorem TbS.head {w : World} {t : Nat} {F : Nat → Prop} {T : Tbl ByteArray} (h : TbS w t F T) : F t := by obtain ⟨g, cz, A, cp, rfl, _⟩ := h; exact .inl rfl
theorem TbS.drewN {w : World} {t : Nat} {F : Nat → Prop} {T : Tbl ByteArray} (h : TbS w t F T) (n : Nat) : TbS (w.drewN n) t F T := h
def mk8S : Array Value := #[Value.bool false, Value.int .u64 0, Value.string (⟨#[]⟩ : ByteArray), Value.bool false, Value.int .u64 0, Value.string (⟨#[]⟩ : ByteArray), Value.bool false, Value.int .u64 0, Value.string (⟨#[]⟩ : ByteArray), Value.bool false, Value.int .u64 0, Value.string (⟨#[]⟩ : ByteArray), Value.bool false, Value.int .u64 0, Value.string (⟨#[]⟩ : ByteArray), Value.bool false, Value.int .u64 0, Value.string (⟨#[]⟩ : ByteArray), Value.bool false, Value.int .u64 0, Value.string (⟨#[]⟩ : ByteArray), Value.bool false, Value.int .u64 0, Value.string (⟨#[]⟩ : ByteArray)]
theorem mk8S_run (w : World) : (Instr.makeSlice 75 (.int .i64 8) (.int .i64 8)).run Tryd.prog w = .ok (.slice (some ⟨w.heap.size, 0, none⟩) 8 8) (w.alloc (.cells mk8S 87)) := by kernel_rfl
theorem newS_tb (w : World) : Calls Tryd.prog 14 #[] w fun e w' => ∃ t F, e = .returned (.pointer (some ⟨t, 0, none⟩)) ∧ TbS w' t F (Tbl.new (⟨#[]⟩ : ByteArray)) ∧ Fr (fun _ => False) w F w' := by
  have hmk := mk8S_run
  go_enter Tryd.func14, Tryd.ntmps14
  go_wp2
  go_ret
  have e1 : (w.alloc (.cells mk8S 87)).heap.size = w.heap.size + 1 := World.size_alloc ..
  have B1 := Blk.new w 87 mk8S
  have B2 := Blk.new (w.alloc (.cells mk8S 87)) 77 #[.slice (some ⟨w.heap.size, 0, none⟩) 8 8, .slice none 0 0]
  rw [e1] at B2
  refine ⟨_, _, rfl, ⟨w.heap.size, 8, none, 0, rfl, B2, ⟨mk8S, B1.alloc _, fun i hi => ?_⟩, Wl.nil _, Tbl.new_ok (⟨#[]⟩ : ByteArray)⟩, (((Fr.refl (fun _ => False) w).alloc _).alloc _).into fun k hk => .inr (.inr ?_)⟩
  · have hi8 : i < 8 := hi
    have : i = 0 ∨ i = 1 ∨ i = 2 ∨ i = 3 ∨ i = 4 ∨ i = 5 ∨ i = 6 ∨ i = 7 := by omega
    rcases this with rfl | rfl | rfl | rfl | rfl | rfl | rfl | rfl <;> exact ⟨rfl, rfl, rfl⟩
  · rcases hk with rfl | rfl | h
    · omega
    · omega
    · exact (own_nil _ _ _ h).elim
theorem putS_tb {w : World} {t : Nat} {F : Nat → Prop} {T : Tbl ByteArray} {key : Int} {y : ByteArray} (hT : Tab w) (h : TbS w t F T) (hk : T.k ≤ 40) (hlen : (T.l.length + 1) * 8 ≤ 140737488355328) (hby : 2 ^ T.k * 32 ≤ 140737488355328) :
    Calls Tryd.prog 16 #[.pointer (some ⟨t, 0, none⟩), .int .u64 key, Value.string y] w fun e w' => e = .returned (.tuple #[Value.string (if key ∈ T.l then T.get key else (⟨#[]⟩ : ByteArray)), .bool (decide (key ∈ T.l)), .int .i64 0]) ∧
      ∃ F', TbS w' t F' (T.put (⟨#[]⟩ : ByteArray) key y) ∧ Fr F w F' w' := by
  obtain ⟨g, cz, A, cp, rfl, hb, hs, hv, hok⟩ := h
  have hok' := hok.put (by omega) (⟨#[]⟩ : ByteArray) key y
  have hk3 := hok.k3
  have h8 := eight hk3
  have hr := hok.room
  obtain ⟨hl0, hj0, _, _, hio⟩ := TInv.look hok.inv (hmk_lt (by omega) (by omega)) key
  have hfu : 2 ^ T.k ≤ 4611686018427387904 := Nat.le_trans (Nat.pow_le_pow_right (by omega) hk) (by decide)
  by_cases hm : key ∈ T.l
  · obtain ⟨hu, hkj⟩ : T.s.U (T.s.slot T.k key) = true ∧ T.s.K (T.s.slot T.k key) = key := by
      rcases hio with ⟨_, h1, h2⟩ | ⟨h1, _⟩
      · exact ⟨h1, h2⟩
      · exact (h1 hm).elim
    have hT' : T.put (⟨#[]⟩ : ByteArray) key y = ⟨T.k, T.l, T.s.put T.k key y⟩ := by unfold Tbl.put; rw [if_pos hm]
    rw [hT'] at hok' ⊢
    refine (putS_had (x := T.get key) (y := y) hT hb hs (by omega) (by omega) hfu hl0 hj0 hu rfl).mono ?_
    rintro _ w' ⟨rfl, rfl⟩
    rw [if_pos hm, decide_eq_true hm]
    have hgt : t ≠ g := by obtain ⟨cs, hcb, _⟩ := hs; exact Blk.ne_ hb hcb (by decide)
    have hvg : ¬ own (.slice A T.l.length cp) g := by obtain ⟨cs, hcb, _⟩ := hs; exact Rowv.ne_ hv hcb (by decide)
    refine ⟨rfl, _, ⟨g, cz, A, cp, rfl, (hb.alloc _).far (p := ⟨g, _, none⟩) hgt _, ?_, (hv.alloc _).set (p := ⟨g, _, none⟩) hvg _, hok'⟩, ((Fr.refl _ w).alloc _).set (p := ⟨g, _, none⟩) (.inl (.inr (.inl rfl))) _⟩
    obtain ⟨cs, hcb, hc⟩ := hs
    refine ⟨_, (hcb.alloc _).set_ _ _, fun i hi => ?_⟩
    obtain ⟨c0, c1, c2⟩ := hc i hi
    have s2 := (Array.getElem?_eq_some_iff.1 (hc _ hj0).2.2).1
    show _ = some (Value.bool (if i = T.s.slot T.k key then true else T.s.U i)) ∧ _ = some (Value.int .u64 (if i = T.s.slot T.k key then key else T.s.K i)) ∧ _ = some (Value.string (if i = T.s.slot T.k key then y else T.s.X i))
    change slotOf T.s.U T.s.K (2 ^ T.k) (hmk T.k key) key * 3 + 2 < cs.size at s2
    have hsl : slotOf T.s.U T.s.K (2 ^ T.k) (hmk T.k key) key = T.s.slot T.k key := rfl
    rw [hsl] at s2 ⊢
    generalize T.s.slot T.k key = j at *
    by_cases e : i = j
    · subst e
      rw [Array.getElem?_setIfInBounds_ne (by omega), Array.getElem?_setIfInBounds_ne (by omega), c0, c1, if_pos rfl, if_pos rfl, if_pos rfl, hu, hkj]
      exact ⟨rfl, rfl, by simp [s2]⟩
    · rw [Array.getElem?_setIfInBounds_ne (by omega), Array.getElem?_setIfInBounds_ne (by omega), Array.getElem?_setIfInBounds_ne (by omega), if_neg e, if_neg e, if_neg e]
      exact ⟨c0, c1, c2⟩
  · have hu : T.s.U (T.s.slot T.k key) = false := by
      rcases hio with ⟨h1, _⟩ | ⟨_, h1, _⟩
      · exact (hm h1).elim
      · exact h1
    rw [if_neg hm, decide_eq_false hm]
    by_cases hg : 3 * 2 ^ T.k < 4 * (T.l.length + 1)
    · have hT' : T.put (⟨#[]⟩ : ByteArray) key y = ⟨T.k + 1, T.l ++ [key], (T.s.grown T.k (⟨#[]⟩ : ByteArray) T.l).put (T.k + 1) key y⟩ := by unfold Tbl.put; rw [if_neg hm, if_pos hg]
      rw [hT'] at hok' ⊢
      refine (putS_grow (y := y) hT hb hs hv hok.inv (by omega) (by omega) hm hg (by rw [Nat.pow_succ]; omega) hlen hby).mono ?_
      rintro _ w' ⟨rfl, g', A', cp', b1, s1, v1, m1⟩
      have hle : (T.l ++ [key]).length = T.l.length + 1 := by simp
      exact ⟨rfl, _, ⟨g', _, A', cp', rfl, by rw [hle]; exact b1, s1, by rw [hle]; exact v1, hok'⟩, by rw [hle]; exact m1⟩
    · have hT' : T.put (⟨#[]⟩ : ByteArray) key y = ⟨T.k, T.l ++ [key], T.s.put T.k key y⟩ := by unfold Tbl.put; rw [if_neg hm, if_neg hg]
      rw [hT'] at hok' ⊢
      refine (putS_new (y := y) hT hb hs hv (by omega) (by omega) hfu hl0 hj0 hu (by omega) hlen (Nat.le_trans (Nat.pow_le_pow_right (by omega) hk) (by decide))).mono ?_
      rintro _ w' ⟨rfl, A', cp', b1, s1, v1, m1⟩
      have hle : (T.l ++ [key]).length = T.l.length + 1 := by simp
      rw [updS] at s1
      exact ⟨rfl, _, ⟨g, cz, A', cp', rfl, by rw [hle]; exact b1, s1, by rw [hle]; exact v1, hok'⟩, by rw [hle]; exact m1⟩
theorem Tbl.lookS {w : World} {t : Nat} {F : Nat → Prop} {T : Tbl ByteArray} (h : TbS w t F T) (hk : T.k ≤ 40) (key : Int) : lgo T.s.U T.s.K key (2 ^ T.k) (2 ^ T.k) (homeOf key T.k).toNat 1 = some (T.s.slot T.k key, T.asked key) ∧ T.s.slot T.k key < 2 ^ T.k ∧ T.s.U (T.s.slot T.k key) = decide (key ∈ T.l) ∧ 1 ≤ T.asked key ∧ T.asked key ≤ T.l.length + 1 := by
  have hok := h.ok
  have := hok.k3
  obtain ⟨hl0, hj0, ha, hb, hio⟩ := TInv.look hok.inv (hmk_lt (by omega) (by omega)) key
  refine ⟨hl0, hj0, ?_, ha, hb⟩
  rcases hio with ⟨h1, h2, _⟩ | ⟨h1, h2, _⟩
  · rw [decide_eq_true h1]; exact h2
  · rw [decide_eq_false h1]; exact h2
theorem getS_tb {w : World} {t : Nat} {F : Nat → Prop} {T : Tbl ByteArray} {key : Int} (hT : Tab w) (h : TbS w t F T) (hk : T.k ≤ 40) :
    Calls Tryd.prog 53 #[.pointer (some ⟨t, 0, none⟩), .int .u64 key] w fun e w' => e = .returned (.tuple #[Value.string (T.get key), .bool (decide (key ∈ T.l))]) ∧ ∃ n, w' = w.drewN n := by
  obtain ⟨hl, hj, hu, _⟩ := Tbl.lookS h hk key
  have := h.ok.k3
  obtain ⟨g, cz, A, cp, rfl, hb, hs, hv, hok⟩ := h
  have := getS_b hT hb hs (by omega) (by omega) (Nat.le_trans (Nat.pow_le_pow_right (by omega) hk) (by decide)) hl hj
  rw [hu] at this
  exact this
theorem takeS_tb {w : World} {t : Nat} {F : Nat → Prop} {T : Tbl ByteArray} {key : Int} (hT : Tab w) (h : TbS w t F T) (hk : T.k ≤ 40) (hlen : T.l.length * 8 ≤ 140737488355328) :
    Calls Tryd.prog 19 #[.pointer (some ⟨t, 0, none⟩), .int .u64 key] w fun e w' => e = .returned (.tuple #[Value.string (T.get key), .bool (decide (key ∈ T.l))]) ∧ ∃ F', TbS w' t F' (T.take (⟨#[]⟩ : ByteArray) key) ∧ Fr F w F' w' := by
  have hb8 := h
  have hk3 := h.ok.k3
  obtain ⟨g, cz, A, cp, rfl, hb, hs, hv, hok⟩ := h
  have hok' := hok.take (by omega) (⟨#[]⟩ : ByteArray) key
  by_cases hm : key ∈ T.l
  · have hT' : T.take (⟨#[]⟩ : ByteArray) key = ⟨T.k, T.l.filter (· != key), T.s.take T.k (⟨#[]⟩ : ByteArray) key⟩ := by unfold Tbl.take; rw [if_pos hm]
    rw [decide_eq_true hm]
    rw [hT'] at hok' ⊢
    refine (takeS_yes hT hb hs hv hok.inv (by omega) (by omega) hm hlen).mono ?_
    rintro _ w' ⟨rfl, b1, s1, v1, m1⟩
    have hle : (T.l.filter (· != key)).length = T.l.length - 1 := by
      obtain ⟨i, hi, hki, _⟩ := first_at hm
      rw [← hki, ← erase_filter hok.inv.nodup hi, List.length_eraseIdx, if_pos hi]
    refine ⟨rfl, _, ⟨g, cz, A, cp, rfl, by rw [hle]; exact b1, s1, by rw [hle]; exact v1, hok'⟩, ?_⟩
    exact m1.into fun k hk => .inl (hk.imp id fun h => h.imp id fun h => own_len h)
  · have hT' : T.take (⟨#[]⟩ : ByteArray) key = T := by unfold Tbl.take; rw [if_neg hm]
    rw [decide_eq_false hm, hT']
    refine (takeS_no hT hb hs hok.inv (by omega) (by omega) hm).mono ?_
    rintro _ w' ⟨rfl, n, rfl⟩
    exact ⟨rfl, _, hb8, (Fr.refl _ w).drewN n⟩
theorem lenS_tb {w : World} {t : Nat} {F : Nat → Prop} {T : Tbl ByteArray} (h : TbS w t F T) :
    Calls Tryd.prog 25 #[.pointer (some ⟨t, 0, none⟩)] w fun e w' => e = .returned (.int .i64 (T.l.length : Int)) ∧ w = w' := by
  obtain ⟨g, cz, A, cp, rfl, hb, hs, hv, hok⟩ := h
  exact lenS_b hb
theorem slotsS_tb {w : World} {t : Nat} {F : Nat → Prop} {T : Tbl ByteArray} (h : TbS w t F T) :
    Calls Tryd.prog 24 #[.pointer (some ⟨t, 0, none⟩)] w fun e w' => e = .returned (.int .i64 ((2 ^ T.k : Nat) : Int)) ∧ w = w' := by
  obtain ⟨g, cz, A, cp, rfl, hb, hs, hv, hok⟩ := h
  exact slotsS_b (c1 := .slice A T.l.length cp) (hb.cell 0)
theorem askedS_tb {w : World} {t : Nat} {F : Nat → Prop} {T : Tbl ByteArray} {key : Int} (hT : Tab w) (h : TbS w t F T) (hk : T.k ≤ 40) :
    Calls Tryd.prog 22 #[.pointer (some ⟨t, 0, none⟩), .int .u64 key] w fun e w' => e = .returned (.int .i64 (T.asked key : Int)) ∧ w = w' := by
  obtain ⟨hl, hj, hu, _⟩ := Tbl.lookS h hk key
  have := h.ok.k3
  obtain ⟨g, cz, A, cp, rfl, hb, hs, hv, hok⟩ := h
  exact askedS_b hT hb (Slt.at_ hs) (by omega) (by omega) (Nat.le_trans (Nat.pow_le_pow_right (by omega) hk) (by decide)) hl
theorem keysS_tb {w : World} {t : Nat} {F : Nat → Prop} {T : Tbl ByteArray} (h : TbS w t F T) (hlen : T.l.length * 8 ≤ 140737488355328) :
    Calls Tryd.prog 28 #[.pointer (some ⟨t, 0, none⟩)] w fun e w' => ∃ A' cp', e = .returned (.slice A' T.l.length cp') ∧ Wl w' (.slice A' T.l.length cp') T.l ∧ Fr (fun _ => False) w (own (.slice A' T.l.length cp')) w' := by
  obtain ⟨g, cz, A, cp, rfl, hb, hs, hv, hok⟩ := h
  exact keysS_b hb hv hlen
end Go.Proofs.YtkjeobcfaolcaaaDoor
