/- The document's table: growing, by contract. -/
import Derived.Deep.DeepCutAuto
import Derived.Deep.DeepMust
import Derived.Test.YtkjeobcfaolcaaaDoorPIx8
namespace Go.Proofs.YtkjeobcfaolcaaaDoor
open Go.RowKit
set_option maxHeartbeats 8000000
set_option linter.unusedVariables false
set_option linter.unusedSimpArgs false

theorem slot_infoR : (Tryd.prog.info? 107).map (fun i => (i.zero, i.size, i.bytes)) = some (some (.agg #[.bool false, .int .u64 0, .int .u64 0]), 3, 24) := by kernel_rfl
theorem zerosR {w : World} {B g n : Nat} (h : w.ownsRow B 107 3 (.slice (some ⟨g, 0, none⟩) n n) n (madeCells (Value.agg #[.bool false, .int .u64 0, .int .u64 0]).cells (n * 3)).toList) (h0 : 0 < n) : HolR w g n (St.zero 0) := by
  obtain ⟨g', cap, cur, e, _, hh, hsz, htk⟩ := ownsRow_made h h0
  simp at e
  obtain ⟨rfl, _⟩ := e
  refine ⟨cur, hh, fun i hi => ?_⟩
  have e : ∀ j, j < n * 3 → cur[j]? = some (#[Value.bool false, .int .u64 0, .int .u64 0][j % 3]!) := fun j hj => by
    have h1 := congrArg (fun l => l[j]?) htk
    simp only [List.getElem?_take, if_pos hj, Array.getElem?_toList] at h1
    rw [h1]
    simp [madeCells, Value.cells, hj]
  refine ⟨(e _ (by omega)).trans ?_, (e _ (by omega)).trans ?_, (e _ (by omega)).trans ?_⟩
  · rw [show i * 3 % 3 = 0 by omega]; rfl
  · rw [show (i * 3 + 1) % 3 = 1 by omega]; rfl
  · rw [show (i * 3 + 2) % 3 = 2 by omega]; rfl
theorem pairs_take {β : Type} {s : St β} {k : Nat} {l : List Int} {i : Nat} (hi : i < l.length) : (s.pairs k l).take (i + 1) = (s.pairs k l).take i ++ [(l[i], s.X (s.slot k l[i]))] := by
  rw [List.take_add_one]
  congr 1
  simp [St.pairs, hi]
set_option maxRecDepth 100000 in
theorem growR_b {t g k cz : Nat} {s : St Int} {A : Option Addr} {cp : Nat} {l : List Int} {w : World} (ht : Blk w t 68 #[.slice (some ⟨g, 0, none⟩) (2 ^ k : Nat) cz, .slice A l.length cp])
    (hS : HolR w g (2 ^ k) s) (hv : Wl w (.slice A l.length cp) l) (hI : s.Inv k l) (h1 : 3 ≤ k) (h2 : k ≤ 41) (hlen : l.length * 8 ≤ 140737488355328) :
    Calls Tryd.prog 79 #[.pointer (some ⟨t, 0, none⟩)] w fun e w' => (∃ v, e = .returned v) ∧ ∃ g', Blk w' t 68 #[.slice (some ⟨g', 0, none⟩) (2 ^ (k + 1) : Nat) (2 ^ (k + 1)), .slice A l.length cp] ∧
      HolR w' g' (2 ^ (k + 1)) (s.grown k 0 l) ∧ Fr (fun b => b = t) w (fun b => b = t ∨ b = g') w' := by
  have hsq : (2 : Nat) ^ k ≤ 2 ^ 41 := Nat.pow_le_pow_right (by omega) h2
  have hsq1 : (2 : Nat) ^ (k + 1) = 2 * 2 ^ k := by rw [Nat.pow_succ]; omega
  have h8 := eight h1
  have hgt : t ≠ g := by obtain ⟨cs, hb, _⟩ := hS; exact Blk.ne_ ht hb (by decide)
  have hvt : ¬ own (.slice A l.length cp) t := Rowv.ne_ hv ht (by decide)
  have htw := ht.lt
  have hgw := SltR.lt hS
  have hvw := Lib.hid hv.lt
  have hrm := hI.room
  have hst : Hid (s.grown k 0 l = St.fill (k + 1) 0 (s.pairs k l)) := Lib.hid rfl
  have hI := Lib.hid hI
  obtain ⟨w1, hw1⟩ : ∃ u, Hid (u = w.alloc (.cells #[.slice (some ⟨g, 0, none⟩) (2 ^ k : Nat) cz, .slice none 0 0] 68)) := ⟨_, Lib.hid rfl⟩
  have B1 : Hid (Blk w1 t 68 #[.slice (some ⟨g, 0, none⟩) (2 ^ k : Nat) cz, .slice A l.length cp]) := Lib.hid (by rw [hw1.out]; exact ht.alloc _)
  have S1 : Hid (HolR w1 g (2 ^ k) s) := Lib.hid (by rw [hw1.out]; exact SltR.alloc hS _)
  have V1 : Hid (Wl w1 (.slice A l.length cp) l) := Lib.hid (by rw [hw1.out]; exact hv.alloc _)
  have W1 : Hid (Blk w1 w.heap.size 68 #[.slice (some ⟨g, 0, none⟩) (2 ^ k : Nat) cz, .slice none 0 0]) := Lib.hid (by rw [hw1.out]; exact Blk.new _ _ _)
  have M1 : Hid (Fr (fun b => b = t) w (fun b => b = t) w1) := Lib.hid (by rw [hw1.out]; exact (Fr.refl _ w).alloc _)
  have hs1 : w1.heap.size = w.heap.size + 1 := by rw [hw1.out]; exact World.size_alloc ..
  have d0 : w.cell? ⟨t, 0, none⟩ = some (.slice (some ⟨g, 0, none⟩) (2 ^ k : Nat) cz) := ht.cell 0
  have e0 : w1.cell? ⟨t, 0, none⟩ = some (.slice (some ⟨g, 0, none⟩) (2 ^ k : Nat) cz) := B1.out.cell 0
  have z0 := B1.out.frozen 0
  clear ht hS hv
  obtain ⟨sl, hsl⟩ : ∃ sl, Hid (sl = 2 ^ k) := ⟨_, Lib.hid rfl⟩
  rw [← hsl.out] at hsq hsq1 h8 B1 S1 W1 d0 e0 hrm hw1
  rw [hsq1]
  have hl1 : (l.length : Int) ≤ 17592186044416 := by omega
  have hl2 : (sl : Int) ≤ 2199023255552 := by omega
  obtain ⟨i0, hi, hz0, hz1, hz2⟩ := info_parts slot_infoR
  obtain ⟨w4, hrun, hown4, hgr4⟩ := run_make_full (P := Tryd.prog) w1 0 66 107 i0 (.agg #[.bool false, .int .u64 0, .int .u64 0]) 3 Tryd.underlying66 hi hz0 hz1 .i64 .i64 (2 * sl) (by rw [hz2]; omega) (by unfold maxLen; omega) (Nat.zero_le _)
  have hrun : (Instr.makeSlice 66 (.int .i64 (2 * (sl : Int))) (.int .i64 (2 * (sl : Int)))).run Tryd.prog w1 = .ok (.slice (some ⟨w1.heap.size, 0, none⟩) (2 * sl) (2 * sl)) w4 := by simpa using hrun
  have m4 : Fr (fun _ => False) w1 (fun _ => False) w4 := (Fr.refl _ _).grown hgr4 fun k hk => by cases hk
  have S4 : Hid (HolR w4 w1.heap.size (2 * sl) (St.zero 0)) := Lib.hid (zerosR hown4 (by omega))
  have B4 := Lib.hid (m4.blk B1.out fun h => h)
  have W4 := Lib.hid (m4.blk W1.out fun h => h)
  have V4 := Lib.hid (V1.out.frs m4 fun _ _ h => h)
  have O4 : Hid (HolR w4 g sl s) := Lib.hid (SltR.fr S1.out m4 fun h => h)
  have M4 := Lib.hid (M1.out.beside m4 fun k hk => hk.elim)
  have e4 : w4.cell? ⟨t, 0, none⟩ = some (.slice (some ⟨g, 0, none⟩) sl cz) := B4.out.cell 0
  have z4 := B4.out.frozen 0
  have hne : t ≠ w1.heap.size := by omega
  have hg1 : w1.heap.size ≠ t := by omega
  have hwt : w.heap.size ≠ t := by omega
  have B5 : Hid (Blk (w4.setCell ⟨t, 0, none⟩ (.slice (some ⟨w1.heap.size, 0, none⟩) (2 * sl) (2 * sl))) t 68 #[.slice (some ⟨w1.heap.size, 0, none⟩) (2 * sl) (2 * sl), .slice A l.length cp]) := Lib.hid (B4.out.set_ 0 _)
  have S5 : Hid (HolR (w4.setCell ⟨t, 0, none⟩ (.slice (some ⟨w1.heap.size, 0, none⟩) (2 * sl) (2 * sl))) w1.heap.size (2 * sl) (St.zero 0)) := Lib.hid (SltR.far S4.out (p := ⟨t, 0, none⟩) hg1 _)
  have W5 : Hid (Blk (w4.setCell ⟨t, 0, none⟩ (.slice (some ⟨w1.heap.size, 0, none⟩) (2 * sl) (2 * sl))) w.heap.size 68 #[.slice (some ⟨g, 0, none⟩) sl cz, .slice none 0 0]) := Lib.hid (W4.out.far (p := ⟨t, 0, none⟩) hwt _)
  have O5 : Hid (HolR (w4.setCell ⟨t, 0, none⟩ (.slice (some ⟨w1.heap.size, 0, none⟩) (2 * sl) (2 * sl))) g sl s) := Lib.hid (SltR.far O4.out (p := ⟨t, 0, none⟩) hgt.symm _)
  have V5 : Hid (Wl (w4.setCell ⟨t, 0, none⟩ (.slice (some ⟨w1.heap.size, 0, none⟩) (2 * sl) (2 * sl))) (.slice A l.length cp) l) := Lib.hid (V4.out.set (p := ⟨t, 0, none⟩) hvt _)
  have M5 : Hid (Fr (fun b => b = t) w (fun b => b = t ∨ b = w1.heap.size) (w4.setCell ⟨t, 0, none⟩ (.slice (some ⟨w1.heap.size, 0, none⟩) (2 * sl) (2 * sl)))) := Lib.hid ((M4.out.set (p := ⟨t, 0, none⟩) (.inl rfl) _).into fun j hj => hj.imp id fun h => .inr (by omega))
  have hs5 : (w4.setCell ⟨t, 0, none⟩ (.slice (some ⟨w1.heap.size, 0, none⟩) (2 * sl) (2 * sl))).heap.size = w4.heap.size := by simp [World.setCell]
  have hs4 : w1.heap.size < w4.heap.size := SltR.lt S4.out
  obtain ⟨w5, hw5⟩ : ∃ u, Hid (u = w4.setCell ⟨t, 0, none⟩ (.slice (some ⟨w1.heap.size, 0, none⟩) (2 * sl) (2 * sl))) := ⟨_, Lib.hid rfl⟩
  rw [← hw5.out] at B5 S5 W5 O5 V5 M5 hs5
  clear S4 B4 W4 V4 O4 M4 B1 S1 V1 W1 M1 hown4 hgr4 m4 hi hz0 hz1 hz2 e0 z0
  replace hs1 := Lib.hid hs1
  replace hs5 := Lib.hid hs5
  go_enter Tryd.func79, Tryd.ntmps79
  go_wp2_with fail
  rw [← hw1.out, hrun]
  simp only [Result.andThen]
  go_wp2_with fail
  rw [← hw5.out]
  clear hw1 hw5 d0 e4 z4 hrun
  go_wp2
  have hs2b : 2 * sl ≤ 4398046511104 := by omega
  generalize hs2 : 2 * sl = sl2 at *
  replace hs2 := Lib.hid hs2
  go_loopw [4] (fun iv wr => ∃ m : Nat, m ≤ l.length ∧ iv = .int .i64 m ∧ Hid (HolR wr w1.heap.size sl2 (St.fill (k + 1) 0 ((s.pairs k l).take m)) ∧ Fr (fun b => b = w1.heap.size) w5 (fun b => b = w1.heap.size) wr)) (fun iv _ => l.length - (intOf iv).toNat)
  case atStart => exact ⟨0, by omega, rfl, Lib.hid ⟨S5.out, Fr.refl _ _⟩⟩
  case round =>
    obtain ⟨m, hm, rfl, HH⟩ := hrel
    obtain ⟨HS, HF⟩ := HH.out
    have B := Lib.hid (HF.blk B5.out hne)
    have dt1 : wr.cell? ⟨t, 1, none⟩ = some (.slice A l.length cp) := B.out.cell 1
    have dt0 : wr.cell? ⟨t, 0, none⟩ = some (.slice (some ⟨w1.heap.size, 0, none⟩) sl2 sl2) := B.out.cell 0
    by_cases hml : m < l.length
    · have hvg : ∀ b, own (.slice A l.length cp) b → ¬ b = w1.heap.size := fun b hb e => by have := hvw.out b hb; have := hs1.out; omega
      have V := V5.out.frs HF hvg
      obtain ⟨ga, off, rfl, hc⟩ := V.cell hml
      have hcm := hc m hml
      have W := HF.blk W5.out (show ¬ w.heap.size = w1.heap.size by have := hs1.out; omega)
      have O : HolR wr g sl s := SltR.fr O5.out HF (show ¬ g = w1.heap.size by have := hs1.out; omega)
      have hin : l[m] ∈ l := List.getElem_mem hml
      obtain ⟨hl0, hj0, _, _, hio⟩ := TInv.look hI.out (hmk_lt (by omega) (by omega)) l[m]
      have hu0 : s.U (s.slot k l[m]) = true := by
        rcases hio with ⟨_, h, _⟩ | ⟨h, _⟩
        · exact h
        · exact (h hin).elim
      have hlt : ((s.pairs k l).take m).length < 2 ^ (k + 1) := by rw [List.length_take, hsq1]; simp [St.pairs]; have := hs2.out; omega
      obtain ⟨hl9, hj9, _, _, _⟩ := TInv.look (St.fill_inv (k := k + 1) 0 (by omega) (by omega) ((s.pairs k l).take m) hlt) (hmk_lt (by omega) (by omega)) l[m]
      have htk := pairs_take (s := s) (k := k) hml
      have hsn : Hid (St.fill (k + 1) 0 ((s.pairs k l).take (m + 1)) = (St.fill (k + 1) 0 ((s.pairs k l).take m)).set ((St.fill (k + 1) 0 ((s.pairs k l).take m)).slot (k + 1) l[m]) l[m] (s.X (s.slot k l[m]))) := Lib.hid (by rw [htk]; exact St.fill_snoc _ _ _ _)
      have C1 : Hid (Calls Tryd.prog 39 #[.pointer (some ⟨w.heap.size, 0, none⟩), .int .u64 l[m]] wr fun e w' => e = .returned (.tuple #[.int .u64 (s.X (s.slot k l[m])), .bool true]) ∧ ∃ n, w' = wr.drewN n) := Lib.hid (by
        have e := hsl.out
        subst e
        have := getR_b W O h1 (by omega) (Nat.le_trans hsq (by decide)) hl0 hj0
        rw [show s.U (slotOf s.U s.K (2 ^ k) (hmk k l[m]) l[m]) = true from hu0] at this
        exact this)
      have C2 : Hid (∀ n, Calls Tryd.prog 71 #[.pointer (some ⟨t, 0, none⟩), .int .u64 l[m]] (wr.drewN n) fun e w' => e = .returned (.tuple #[.int .i64 ((St.fill (k + 1) 0 ((s.pairs k l).take m)).slot (k + 1) l[m] : Int), .int .i64 ((St.fill (k + 1) 0 ((s.pairs k l).take m)).asked (k + 1) l[m] : Int)]) ∧ wr.drewN n = w') := Lib.hid fun n => by
        have b := B.out.drewN n
        have sx := SltR.drewN HS n
        rw [← hsq1] at b sx
        exact lookR_b b (SltR.at_ sx) (by omega) (by omega) (by rw [hsq1]; omega) hl9
      replace hj9 : (St.fill (k + 1) 0 ((s.pairs k l).take m)).slot (k + 1) l[m] < sl2 := by rw [← hsq1]; exact hj9
      generalize l[m] = key at *
      generalize s.X (s.slot k key) = x at *
      generalize hfl : St.fill (k + 1) 0 ((s.pairs k l).take m) = sx at *
      generalize sx.slot (k + 1) key = jx at *
      generalize sx.asked (k + 1) key = mx at *
      have kU := (SltR.at_ HS jx hj9).1
      have kK := (SltR.at_ HS jx hj9).2
      have kX := (SltR.val HS hj9).1
      have kz := (SltR.val HS hj9).2
      have kz0 := kz (jx * 3)
      have kz1 := kz (jx * 3 + 1)
      have kz2 := kz (jx * 3 + 2)
      have hjl : decide (jx < sl2) = true := decide_eq_true hj9
      have HS := Lib.hid HS
      have HF := Lib.hid HF
      clear kz hl9 hl0 hio hu0 hc V W O htk hvg hfl hin hlt
      go_wp2_with fail
      refine C1.out.mono ?_
      rintro _ w7 ⟨rfl, n7, rfl⟩
      go_wp2_with fail
      refine (C2.out n7).mono ?_
      rintro _ w8 ⟨rfl, rfl⟩
      clear C1 C2
      go_wp2_with fail
      refine wp_region_mix (fun _ => True) [3, 3, 3, 1, 3, 3, 3, 3, 1, 3, 3, 1, 3, 3, 3, 2] (List.range 16) (by kernel_rfl) (by kernel_rfl) (fun _ _ h => h) trivial ?_
      repeat ((first | refine wpMix_pure rfl rfl (fun K hK => ?_) | refine wpMix_loc rfl rfl (fun K hK => ?_) | refine wpMix_any rfl rfl (fun K hK => ?_)); go_simp; refine hK _ _ ?_; clear hK K)
      refine wpMix_loud rfl rfl (fun n8 K hK => ?_)
      go_wp2
      refine hK _ _ (fun _ => trivial) ?_; clear hK K
      refine wpMix_nil (fun n9 => ?_)
      go_wp2
      go_roundw
      case rel =>
        have e1 := SltR.drewN (HolR.set (SltR.drewN HS.out (n7 + 1 + n8)) hj9 key x) n9
        have e2 := ((((HF.out.drewN (n7 + 1 + n8)).set (p := ⟨w1.heap.size, jx * 3, none⟩) (.inl rfl) (.bool true)).set (p := ⟨w1.heap.size, jx * 3 + 1, none⟩) (.inl rfl) (.int .u64 key)).set (p := ⟨w1.heap.size, jx * 3 + 2, none⟩) (.inl rfl) (.int .u64 x)).drewN n9
        exact ⟨m + 1, by omega, by simp, Lib.hid ⟨by rw [hsn.out]; exact e1, e2⟩⟩
      case measure => simp [intOf]; omega
    · obtain rfl : m = l.length := by omega
      go_wp2
      go_end0
      rw [hs2.out]
      refine ⟨⟨_, rfl⟩, w1.heap.size, B.out, ?_, (M5.out.trans (HF.wide (G := fun b => b = t ∨ b = w1.heap.size) fun b hb => .inr hb)).into fun b hb => ?_⟩
      · have e : (s.pairs k l).take l.length = s.pairs k l := List.take_of_length_le (by simp [St.pairs])
        rw [e, ← hst.out] at HS
        exact HS
      · rcases hb with h | h
        · exact .inr (.inl h)
        · exact .inl h
end Go.Proofs.YtkjeobcfaolcaaaDoor
/- The document's table: Put, by contract. -/
namespace Go.Proofs.YtkjeobcfaolcaaaDoor
open Go.RowKit
set_option maxHeartbeats 8000000
set_option linter.unusedVariables false
set_option linter.unusedSimpArgs false

set_option maxRecDepth 100000 in
theorem putR_had {t g k j m cz : Nat} {key : Int} {s : St Int} {c1 : Value} {w : World} {y : Int} (ht : Blk w t 68 #[.slice (some ⟨g, 0, none⟩) (2 ^ k : Nat) cz, c1])
    (hS : HolR w g (2 ^ k) s) (h1 : 3 ≤ k) (h2 : k ≤ 43) (hl : lgo s.U s.K key (2 ^ k) (2 ^ k) (homeOf key k).toNat 1 = some (j, m)) (hj : j < 2 ^ k) (hu : s.U j = true) :
    Calls Tryd.prog 58 #[.pointer (some ⟨t, 0, none⟩), .int .u64 key, .int .u64 y] w fun e w' => e = .returned (.tuple #[.int .u64 (s.X j), .bool true, .int .i64 0]) ∧ w' = w.setCell ⟨g, j * 3 + 2, none⟩ (.int .u64 y) := by
  have C := Lib.hid (lookR_b ht (SltR.at_ hS) h1 (by omega) (Nat.le_trans (Nat.pow_le_pow_right (by omega) h2) (by decide)) hl)
  have d0 : w.cell? ⟨t, 0, none⟩ = some (.slice (some ⟨g, 0, none⟩) (2 ^ k : Nat) cz) := ht.cell 0
  have dU := (SltR.at_ hS j hj).1
  rw [hu] at dU
  have dX := (SltR.val hS hj).1
  have dz := (SltR.val hS hj).2 (j * 3 + 2)
  have hjl : decide (j < 2 ^ k) = true := decide_eq_true hj
  clear ht hS hl h1 h2 hu
  generalize 2 ^ k = sl at *
  generalize s.X j = x at *
  go_enter Tryd.func58, Tryd.ntmps58
  go_wp2_with fail
  refine C.out.mono ?_
  rintro _ w2 ⟨rfl, rfl⟩
  go_wp2
  go_ret3
  exact ⟨rfl, rfl⟩
set_option maxRecDepth 100000 in
theorem putR_new {t g k j m cz : Nat} {key : Int} {s : St Int} {A : Option Addr} {cp : Nat} {l : List Int} {w : World} {y : Int} (ht : Blk w t 68 #[.slice (some ⟨g, 0, none⟩) (2 ^ k : Nat) cz, .slice A l.length cp])
    (hS : HolR w g (2 ^ k) s) (hv : Wl w (.slice A l.length cp) l) (h1 : 3 ≤ k) (h2 : k ≤ 43) (hl : lgo s.U s.K key (2 ^ k) (2 ^ k) (homeOf key k).toNat 1 = some (j, m)) (hj : j < 2 ^ k) (hu : s.U j = false) (hlen : (l.length + 1) * 8 ≤ 140737488355328) (hroom : ¬ 3 * 2 ^ k < 4 * (l.length + 1)) :
    Calls Tryd.prog 58 #[.pointer (some ⟨t, 0, none⟩), .int .u64 key, .int .u64 y] w fun e w' => e = .returned (.tuple #[.int .u64 0, .bool false, .int .i64 0]) ∧
      ∃ g' cz' A' cp', Blk w' t 68 #[.slice (some ⟨g', 0, none⟩) (2 ^ k : Nat) cz', .slice A' (l.length + 1) cp'] ∧ HolR w' g' (2 ^ k) (s.set j key y) ∧
        Wl w' (.slice A' (l.length + 1) cp') (l ++ [key]) ∧ Fr (fun b => b = t ∨ b = g ∨ own (.slice A l.length cp) b) w (fun b => b = t ∨ b = g' ∨ own (.slice A' (l.length + 1) cp') b) w' := by
  have hgt : t ≠ g := by obtain ⟨cs, hb, _⟩ := hS; exact Blk.ne_ ht hb (by decide)
  have hvt : ¬ own (.slice A l.length cp) t := Rowv.ne_ hv ht (by decide)
  have hvg : ¬ own (.slice A l.length cp) g := by obtain ⟨cs, hb, _⟩ := hS; exact Rowv.ne_ hv hb (by decide)
  have C := Lib.hid (lookR_b ht (SltR.at_ hS) h1 (by omega) (Nat.le_trans (Nat.pow_le_pow_right (by omega) h2) (by decide)) hl)
  have d0 : w.cell? ⟨t, 0, none⟩ = some (.slice (some ⟨g, 0, none⟩) (2 ^ k : Nat) cz) := ht.cell 0
  have d1 : w.cell? ⟨t, 1, none⟩ = some (.slice A l.length cp) := ht.cell 1
  have dU := (SltR.at_ hS j hj).1
  rw [hu] at dU
  have hjl : decide (j < 2 ^ k) = true := decide_eq_true hj
  have hsq : (2 : Nat) ^ k ≤ 2 ^ 43 := Nat.pow_le_pow_right (by omega) (by omega)
  have hvl := Lib.hid hv.lt
  have htl := ht.lt
  have hS0 := Lib.hid hS
  have hv0 := Lib.hid hv
  have ht0 := Lib.hid ht
  clear ht hS hv hl h1 h2 hu
  generalize 2 ^ k = sl at *
  have hgr : decide (4 * ((l.length : Int) + 1) > 3 * (sl : Int)) = false := decide_eq_false (by omega)
  have hl1 : (l.length : Int) ≤ 17592186044416 := by omega
  have hl2 : (sl : Int) ≤ 8796093022208 := by omega
  go_enter Tryd.func58, Tryd.ntmps58
  go_wp2_with fail
  refine C.out.mono ?_
  rintro _ w2 ⟨rfl, rfl⟩
  go_wp2
  have q1 : IntKind.i64.wrap ((l.length : Int) + 1) = (l.length : Int) + 1 := IntWalk.i64_in _ (by omega)
  have q2 : IntKind.i64.wrap (4 * ((l.length : Int) + 1)) = 4 * ((l.length : Int) + 1) := IntWalk.i64_in _ (by omega)
  have q3 : IntKind.i64.wrap (3 * (sl : Int)) = 3 * (sl : Int) := IntWalk.i64_in _ (by omega)
  refine wp_region_mix (fun _ => True) [3, 3, 3, 1, 3, 3, 3, 3, 3, 3, 1, 3, 3, 3] (List.range 14) (by kernel_rfl) (by kernel_rfl) (fun _ _ h => h) trivial ?_
  repeat ((first | refine wpMix_pure rfl rfl (fun K hK => ?_) | refine wpMix_loc rfl rfl (fun K hK => ?_) | refine wpMix_any rfl rfl (fun K hK => ?_)); go_simp; refine hK _ _ ?_; clear hK K)
  refine wpMix_nil (fun n1 => ?_)
  have Bx : Hid (Blk (w.drewN (1 + n1)) t 68 #[.slice (some ⟨g, 0, none⟩) sl cz, .slice A l.length cp]) := Lib.hid (ht0.out.drewN _)
  have Sx : Hid (HolR (w.drewN (1 + n1)) g sl s) := Lib.hid (SltR.drewN hS0.out _)
  have Vx : Hid (Wl (w.drewN (1 + n1)) (.slice A l.length cp) l) := Lib.hid (hv0.out.drewN _)
  have Mx : Hid (Fr (fun b => b = t ∨ b = g ∨ own (.slice A l.length cp) b) w (fun b => b = t ∨ b = g ∨ own (.slice A l.length cp) b) (w.drewN (1 + n1))) := Lib.hid ((Fr.refl _ w).drewN _)
  have kU := (SltR.at_ Sx.out j hj).1
  have kK := (SltR.at_ Sx.out j hj).2
  have kX := (SltR.val Sx.out hj).1
  have kz := (SltR.val Sx.out hj).2
  have kz0 := kz (j * 3)
  have kz1 := kz (j * 3 + 1)
  have kz2 := kz (j * 3 + 2)
  have hjlx : decide (j < sl) = true := decide_eq_true hj
  have dx : (w.drewN (1 + n1)).cell? ⟨t, 0, none⟩ = some (.slice (some ⟨g, 0, none⟩) sl cz) := Bx.out.cell 0
  have dx1 : (w.drewN (1 + n1)).cell? ⟨t, 1, none⟩ = some (.slice A l.length cp) := Bx.out.cell 1
  clear kz
  obtain ⟨wy, hwy⟩ : ∃ u, Hid (u = (((w.drewN (1 + n1)).setCell ⟨g, j * 3, none⟩ (.bool true)).setCell ⟨g, j * 3 + 1, none⟩ (.int .u64 key)).setCell ⟨g, j * 3 + 2, none⟩ (.int .u64 y)) := ⟨_, Lib.hid rfl⟩
  have By : Hid (Blk wy t 68 #[.slice (some ⟨g, 0, none⟩) sl cz, .slice A l.length cp]) := Lib.hid (by rw [hwy.out]; exact ((Bx.out.far (p := ⟨g, _, none⟩) hgt _).far (p := ⟨g, _, none⟩) hgt _).far (p := ⟨g, _, none⟩) hgt _)
  have Sy : Hid (HolR wy g sl (s.set j key y)) := Lib.hid (by rw [hwy.out]; exact HolR.set Sx.out hj key y)
  have Vy : Hid (Wl wy (.slice A l.length cp) l) := Lib.hid (by rw [hwy.out]; exact ((Vx.out.set (p := ⟨g, _, none⟩) hvg _).set (p := ⟨g, _, none⟩) hvg _).set (p := ⟨g, _, none⟩) hvg _)
  have My : Hid (Fr (fun b => b = t ∨ b = g ∨ own (.slice A l.length cp) b) w (fun b => b = t ∨ b = g ∨ own (.slice A l.length cp) b) wy) := Lib.hid (by rw [hwy.out]; exact ((Mx.out.set (p := ⟨g, _, none⟩) (.inl (.inr (.inl rfl))) _).set (p := ⟨g, _, none⟩) (.inl (.inr (.inl rfl))) _).set (p := ⟨g, _, none⟩) (.inl (.inr (.inl rfl))) _)
  have dy : wy.cell? ⟨t, 1, none⟩ = some (.slice A l.length cp) := By.out.cell 1
  have hlx := Lib.hid hlen
  have hsy : Hid (w.heap.size = wy.heap.size) := Lib.hid (by rw [hwy.out]; simp [World.setCell, World.drewN])
  clear Bx Sx Vx Mx
  go_wp2_with (at_builtin; rw [← hwy.out, hsy.out]; refine wpList_word wy rfl (.tmp 80) (.tmp 82) rfl (.slice A l.length cp) l key rfl Vy.out rfl hlx.out ?_; intro A3 c3 w3 hc3 hv3 hm3; have B3 := Lib.hid (hm3.blk By.out hvt); have V3 := Lib.hid hv3; have S3 : Hid (HolR w3 g sl (s.set j key y)) := Lib.hid (SltR.fr Sy.out hm3 hvg); have M3 : Hid (Fr (fun b => b = t ∨ b = g ∨ own (.slice A l.length cp) b) w (fun b => b = t ∨ b = g ∨ own (.slice A3 (l.length + 1) c3) b) w3) := Lib.hid ((My.out.trans (hm3.wide fun k hk => .inr (.inr hk))).into fun k hk => hk.elim (fun h => .inr (My.out.new k (.inl h))) fun hk => hk.elim (fun h => .inr (My.out.new k (.inr (.inl h)))) .inl); have d3 : w3.cell? ⟨t, 1, none⟩ = some (.slice A l.length cp) := B3.out.cell 1; have z3 := B3.out.frozen 1; clear hv3 hm3 By Vy Sy My dy hwy hsy)
  go_ret3
  have hvt3 : ¬ own (.slice A3 (l.length + 1) c3) t := Rowv.ne_ V3.out B3.out (by decide)
  refine ⟨rfl, g, cz, A3, c3, B3.out.set_ 1 _, ?_, V3.out.set (p := ⟨t, _, none⟩) hvt3 _, M3.out.set (p := ⟨t, 1, none⟩) (.inl (.inl rfl)) _⟩
  obtain ⟨cs, hb, hc⟩ := S3.out
  exact ⟨cs, hb.far (p := ⟨t, 1, none⟩) hgt.symm _, hc⟩
set_option maxRecDepth 100000 in
theorem putR_grow {t g k j m cz : Nat} {key : Int} {s : St Int} {A : Option Addr} {cp : Nat} {l : List Int} {w : World} {y : Int} (ht : Blk w t 68 #[.slice (some ⟨g, 0, none⟩) (2 ^ k : Nat) cz, .slice A l.length cp])
    (hS : HolR w g (2 ^ k) s) (hv : Wl w (.slice A l.length cp) l) (h1 : 3 ≤ k) (h2 : k ≤ 41) (hl : lgo s.U s.K key (2 ^ k) (2 ^ k) (homeOf key k).toNat 1 = some (j, m)) (hj : j < 2 ^ k) (hu : s.U j = false) (hlen : (l.length + 1) * 8 ≤ 140737488355328) (hroom : 3 * 2 ^ k < 4 * (l.length + 1)) (hI : s.Inv k l) (hk : key ∉ l) :
    Calls Tryd.prog 58 #[.pointer (some ⟨t, 0, none⟩), .int .u64 key, .int .u64 y] w fun e w' => e = .returned (.tuple #[.int .u64 0, .bool false, .int .i64 0]) ∧
      ∃ g' cz' A' cp', Blk w' t 68 #[.slice (some ⟨g', 0, none⟩) (2 ^ (k + 1) : Nat) cz', .slice A' (l.length + 1) cp'] ∧ HolR w' g' (2 ^ (k + 1)) ((s.grown k 0 l).put (k + 1) key y) ∧
        Wl w' (.slice A' (l.length + 1) cp') (l ++ [key]) ∧ Fr (fun b => b = t ∨ b = g ∨ own (.slice A l.length cp) b) w (fun b => b = t ∨ b = g' ∨ own (.slice A' (l.length + 1) cp') b) w' := by
  have hgt : t ≠ g := by obtain ⟨cs, hb, _⟩ := hS; exact Blk.ne_ ht hb (by decide)
  have hvt : ¬ own (.slice A l.length cp) t := Rowv.ne_ hv ht (by decide)
  have hvg : ¬ own (.slice A l.length cp) g := by obtain ⟨cs, hb, _⟩ := hS; exact Rowv.ne_ hv hb (by decide)
  have C := Lib.hid (lookR_b ht (SltR.at_ hS) h1 (by omega) (Nat.le_trans (Nat.pow_le_pow_right (by omega) h2) (by decide)) hl)
  have d0 : w.cell? ⟨t, 0, none⟩ = some (.slice (some ⟨g, 0, none⟩) (2 ^ k : Nat) cz) := ht.cell 0
  have d1 : w.cell? ⟨t, 1, none⟩ = some (.slice A l.length cp) := ht.cell 1
  have dU := (SltR.at_ hS j hj).1
  rw [hu] at dU
  have hjl : decide (j < 2 ^ k) = true := decide_eq_true hj
  have hsq : (2 : Nat) ^ k ≤ 2 ^ 43 := Nat.pow_le_pow_right (by omega) (by omega)
  have hvl := Lib.hid hv.lt
  have htl := ht.lt
  have hsq1 : (2 : Nat) ^ (k + 1) = 2 * 2 ^ k := by rw [Nat.pow_succ]; omega
  have hIg := St.grown_inv hI 0 (by omega)
  obtain ⟨hl9, hj9, _, _, hio⟩ := TInv.look hIg (hmk_lt (by omega) (by omega)) key
  have hG := Lib.hid (fun n => growR_b (ht.drewN n) (SltR.drewN hS n) (hv.drewN n) hI h1 h2 (by omega))
  have hS0 := Lib.hid hS
  have hv0 := Lib.hid hv
  have ht0 := Lib.hid ht
  have hput : Hid ((s.grown k 0 l).put (k + 1) key y = (s.grown k 0 l).set ((s.grown k 0 l).slot (k + 1) key) key y) := Lib.hid rfl
  replace hj9 : (s.grown k 0 l).slot (k + 1) key < 2 ^ (k + 1) := hj9
  have hL9 : Hid (∀ W g' c1, Blk W t 68 #[.slice (some ⟨g', 0, none⟩) (2 ^ (k + 1) : Nat) (2 ^ (k + 1)), c1] → HolR W g' (2 ^ (k + 1)) (s.grown k 0 l) → Calls Tryd.prog 71 #[.pointer (some ⟨t, 0, none⟩), .int .u64 key] W fun e w' => e = .returned (.tuple #[.int .i64 ((s.grown k 0 l).slot (k + 1) key : Int), .int .i64 ((s.grown k 0 l).asked (k + 1) key : Int)]) ∧ W = w') := Lib.hid fun W g' c1 hb hs =>
    lookR_b hb (SltR.at_ hs) (by omega) (by omega) (Nat.le_trans (Nat.pow_le_pow_right (by omega) (show k + 1 ≤ 42 by omega)) (by decide)) hl9
  clear ht hS hv hl hl9 hio h1 hu hIg hI
  rw [hput.out]
  rw [hsq1] at hL9 hj9 hG ⊢
  generalize 2 ^ k = sl at *
  have hgr : decide (4 * ((l.length : Int) + 1) > 3 * (sl : Int)) = true := decide_eq_true (by omega)
  have hl1 : (l.length : Int) ≤ 17592186044416 := by omega
  have hl2 : (sl : Int) ≤ 8796093022208 := by omega
  go_enter Tryd.func58, Tryd.ntmps58
  go_wp2_with fail
  refine C.out.mono ?_
  rintro _ w2 ⟨rfl, rfl⟩
  go_wp2
  have q1 : IntKind.i64.wrap ((l.length : Int) + 1) = (l.length : Int) + 1 := IntWalk.i64_in _ (by omega)
  have q2 : IntKind.i64.wrap (4 * ((l.length : Int) + 1)) = 4 * ((l.length : Int) + 1) := IntWalk.i64_in _ (by omega)
  have q3 : IntKind.i64.wrap (3 * (sl : Int)) = 3 * (sl : Int) := IntWalk.i64_in _ (by omega)
  refine wp_region_mix (fun _ => True) [3, 3, 3, 1, 3, 3, 3, 3, 3, 3, 1, 3, 3, 3] (List.range 14) (by kernel_rfl) (by kernel_rfl) (fun _ _ h => h) trivial ?_
  repeat ((first | refine wpMix_pure rfl rfl (fun K hK => ?_) | refine wpMix_loc rfl rfl (fun K hK => ?_) | refine wpMix_any rfl rfl (fun K hK => ?_)); go_simp; refine hK _ _ ?_; clear hK K)
  refine wpMix_nil (fun n1 => ?_)
  go_wp2_with fail
  refine (hG.out (1 + n1)).mono ?_
  rintro _ w3 ⟨⟨v3, rfl⟩, g3, b3, s3, m3⟩
  have Bx := Lib.hid b3
  have Sx := Lib.hid s3
  have hg3 : w.heap.size ≤ g3 ∨ g3 = t := (m3.new g3 (.inr rfl)).elim .inr .inl
  have hgt3 : t ≠ g3 := by obtain ⟨cs, hb, _⟩ := s3; exact Blk.ne_ b3 hb (by decide)
  have hvg3 : ¬ own (.slice A l.length cp) g3 := fun h => by have := hvl.out g3 h; omega
  have Vx : Hid (Wl w3 (.slice A l.length cp) l) := Lib.hid ((hv0.out.drewN (1 + n1)).frs m3 fun b hb e => hvt (e ▸ hb))
  have Mx : Hid (Fr (fun b => b = t ∨ b = g ∨ own (.slice A l.length cp) b) w (fun b => b = t ∨ b = g3 ∨ own (.slice A l.length cp) b) w3) := Lib.hid ((((Fr.refl (fun b => b = t ∨ b = g ∨ own (.slice A l.length cp) b) w).drewN (1 + n1)).trans (m3.wide fun b hb => .inl hb)).into fun b hb => by
    rcases hb with h | h | h
    · exact .inl (.inl h)
    · exact .inl (.inr h)
    · exact .inr (.inl (.inr (.inr h))))
  have C9 := Lib.hid (hL9.out _ _ _ b3 s3)
  clear b3 s3 m3 hG C d0 d1 dU
  go_wp2_with fail
  refine C9.out.mono ?_
  rintro _ w4 ⟨rfl, rfl⟩
  clear C9 hL9
  generalize hsx : s.grown k 0 l = sx at *
  generalize hjx0 : sx.slot (k + 1) key = jx at *
  generalize sx.asked (k + 1) key = mx at *
  have kU := (SltR.at_ Sx.out jx hj9).1
  have kK := (SltR.at_ Sx.out jx hj9).2
  have kX := (SltR.val Sx.out hj9).1
  have kz := (SltR.val Sx.out hj9).2
  have kz0 := kz (jx * 3)
  have kz1 := kz (jx * 3 + 1)
  have kz2 := kz (jx * 3 + 2)
  have hjlx : decide (jx < (2 * sl)) = true := decide_eq_true hj9
  have dx : w3.cell? ⟨t, 0, none⟩ = some (.slice (some ⟨g3, 0, none⟩) (2 * sl) (2 * sl)) := Bx.out.cell 0
  have dx1 : w3.cell? ⟨t, 1, none⟩ = some (.slice A l.length cp) := Bx.out.cell 1
  clear kz
  obtain ⟨wy, hwy⟩ : ∃ u, Hid (u = ((w3.setCell ⟨g3, jx * 3, none⟩ (.bool true)).setCell ⟨g3, jx * 3 + 1, none⟩ (.int .u64 key)).setCell ⟨g3, jx * 3 + 2, none⟩ (.int .u64 y)) := ⟨_, Lib.hid rfl⟩
  have By : Hid (Blk wy t 68 #[.slice (some ⟨g3, 0, none⟩) (2 * sl) (2 * sl), .slice A l.length cp]) := Lib.hid (by rw [hwy.out]; exact ((Bx.out.far (p := ⟨g3, _, none⟩) hgt3 _).far (p := ⟨g3, _, none⟩) hgt3 _).far (p := ⟨g3, _, none⟩) hgt3 _)
  have Sy : Hid (HolR wy g3 (2 * sl) (sx.set jx key y)) := Lib.hid (by rw [hwy.out]; exact HolR.set Sx.out hj9 key y)
  have Vy : Hid (Wl wy (.slice A l.length cp) l) := Lib.hid (by rw [hwy.out]; exact ((Vx.out.set (p := ⟨g3, _, none⟩) hvg3 _).set (p := ⟨g3, _, none⟩) hvg3 _).set (p := ⟨g3, _, none⟩) hvg3 _)
  have My : Hid (Fr (fun b => b = t ∨ b = g ∨ own (.slice A l.length cp) b) w (fun b => b = t ∨ b = g3 ∨ own (.slice A l.length cp) b) wy) := Lib.hid (by rw [hwy.out]; exact ((Mx.out.set (p := ⟨g3, _, none⟩) (.inl (.inr (.inl rfl))) _).set (p := ⟨g3, _, none⟩) (.inl (.inr (.inl rfl))) _).set (p := ⟨g3, _, none⟩) (.inl (.inr (.inl rfl))) _)
  have dy : wy.cell? ⟨t, 1, none⟩ = some (.slice A l.length cp) := By.out.cell 1
  have hlx := Lib.hid hlen
  have hsy : Hid (w3.heap.size = wy.heap.size) := Lib.hid (by rw [hwy.out]; simp [World.setCell, World.drewN])
  clear Bx Sx Vx Mx
  go_wp2_with (at_builtin; rw [← hwy.out, hsy.out]; refine wpList_word wy rfl (.tmp 80) (.tmp 82) rfl (.slice A l.length cp) l key rfl Vy.out rfl hlx.out ?_; intro A3 c3 w3 hc3 hv3 hm3; have B3 := Lib.hid (hm3.blk By.out hvt); have V3 := Lib.hid hv3; have S3 : Hid (HolR w3 g3 (2 * sl) (sx.set jx key y)) := Lib.hid (SltR.fr Sy.out hm3 hvg3); have M3 : Hid (Fr (fun b => b = t ∨ b = g ∨ own (.slice A l.length cp) b) w (fun b => b = t ∨ b = g3 ∨ own (.slice A3 (l.length + 1) c3) b) w3) := Lib.hid ((My.out.trans (hm3.wide fun k hk => .inr (.inr hk))).into fun k hk => hk.elim (fun h => .inr (My.out.new k (.inl h))) fun hk => hk.elim (fun h => .inr (My.out.new k (.inr (.inl h)))) .inl); have d3 : w3.cell? ⟨t, 1, none⟩ = some (.slice A l.length cp) := B3.out.cell 1; have z3 := B3.out.frozen 1; clear hv3 hm3 By Vy Sy My dy hwy hsy)
  go_ret3
  have hvt3 : ¬ own (.slice A3 (l.length + 1) c3) t := Rowv.ne_ V3.out B3.out (by decide)
  refine ⟨rfl, g3, (2 * sl), A3, c3, B3.out.set_ 1 _, ?_, V3.out.set (p := ⟨t, _, none⟩) hvt3 _, M3.out.set (p := ⟨t, 1, none⟩) (.inl (.inl rfl)) _⟩
  rw [hsx, hjx0]
  obtain ⟨cs, hb, hc⟩ := S3.out
  exact ⟨cs, hb.far (p := ⟨t, 1, none⟩) hgt3.symm _, hc⟩
end Go.Proofs.YtkjeobcfaolcaaaDoor
/- The document's table: ahead, by contract. -/
namespace Go.Proofs.YtkjeobcfaolcaaaDoor
open Go.RowKit
set_option maxHeartbeats 8000000
set_option linter.unusedVariables false
set_option linter.unusedSimpArgs false

set_option maxRecDepth 100000 in
theorem ahead_b {t g k cz f a : Nat} {key : Int} {c1 : Value} {w : World} (ht : Blk w t 68 #[.slice (some ⟨g, 0, none⟩) (2 ^ k : Nat) cz, c1]) (h1 : 3 ≤ k) (h2 : k ≤ 43) (hf : f < 2 ^ k) (ha : a < 2 ^ k) :
    Calls Tryd.prog 81 #[.pointer (some ⟨t, 0, none⟩), .int .u64 key, .int .i64 (f : Int), .int .i64 (a : Int)] w fun e w' => e = .returned (.bool (decide (dst (2 ^ k) (hmk k key) f < dst (2 ^ k) (hmk k key) a))) ∧ w = w' := by
  have C := rHome_yes (key := key) (w := w) h1 (by omega)
  have hbd := homeOf_bd key (show 1 ≤ k by omega) (show k ≤ 62 by omega)
  have hh := hmk_lt (k := k) (by omega) (by omega) key
  rw [show homeOf key k = ((hmk k key : Nat) : Int) by unfold hmk; omega] at C
  have C := Lib.hid C
  have hq : 2 ^ k ≤ 2 ^ 43 := Nat.pow_le_pow_right (by omega) h2
  have d0 : w.cell? ⟨t, 0, none⟩ = some (.slice (some ⟨g, 0, none⟩) (2 ^ k : Nat) cz) := ht.cell 0
  have hbh : Hid (∀ i : Nat, i < 2 ^ k → Calls Tryd.prog 80 #[.pointer (some ⟨t, 0, none⟩), .int .i64 (i : Int)] w fun e w' => e = .returned (.int .i64 (((i + 1) % 2 ^ k : Nat) : Int)) ∧ w = w') := Lib.hid fun i hi => behind_b ht hi (by omega)
  clear ht h1 h2 hbd
  generalize hmk k key = h at *
  generalize 2 ^ k = sl at *
  go_enter Tryd.func81, Tryd.ntmps81
  go_wp2_with fail
  refine C.out.mono ?_
  rintro _ w2 ⟨rfl, rfl⟩
  clear C
  go_wp2
  go_loopw [9] (fun iv wr => ∃ i : Nat, iv = .int .i64 i ∧ i < sl ∧ Hid ((dst sl i f < dst sl i a ↔ dst sl h f < dst sl h a) ∧ wr = w)) (fun iv _ => dst sl (intOf iv).toNat a)
  case atStart => exact ⟨h, rfl, hh, Lib.hid ⟨Iff.rfl, rfl⟩⟩
  case round =>
    obtain ⟨i, rfl, hi, HH⟩ := hrel
    have hw := HH.out.2
    by_cases hia : i = a
    · subst hia
      have hr : decide (dst sl h f < dst sl h i) = false := decide_eq_false fun hx => by
        have := HH.out.1.2 hx
        unfold dst at this
        simp at this
      replace hr := Lib.hid hr
      replace hw := Lib.hid hw
      go_wp2
      go_ret
      exact ⟨by rw [hr.out]; rfl, hw.out.symm⟩
    · have hne : ((i : Int) != (a : Int)) = true := by simp; omega
      by_cases hif : i = f
      · subst hif
        have hr : decide (dst sl h i < dst sl h a) = true := decide_eq_true (HH.out.1.1 (by unfold dst; simp; split <;> omega))
        replace hr := Lib.hid hr
        replace hw := Lib.hid hw
        go_wp2
        go_ret
        exact ⟨by rw [hr.out]; rfl, hw.out.symm⟩
      · have hne2 : ((i : Int) == (f : Int)) = false := by simp; omega
        have hB := hbh.out i hi
        rw [← hw] at hB
        replace hB := Lib.hid hB
        replace hw := Lib.hid hw
        obtain ⟨q, hq1, hq2⟩ := nxq hi
        have hdq : (dst sl q f < dst sl q a ↔ dst sl i f < dst sl i a) ∧ dst sl q a < dst sl i a ∧ q < sl := by
          unfold dst
          refine ⟨?_, ?_, ?_⟩
          · split <;> (split <;> (split <;> (split <;> omega)))
          · split <;> (split <;> omega)
          · omega
        rw [hq1] at hB
        have hdq := Lib.hid hdq
        have hq2 := Lib.hid hq2
        go_wp2_with fail
        refine hB.out.mono ?_
        rintro _ w3 ⟨rfl, rfl⟩
        go_wp2
        go_roundw
        case rel => exact ⟨q, rfl, hdq.out.2.2, Lib.hid ⟨hdq.out.1.trans HH.out.1, hw.out⟩⟩
        case measure => have := hdq.out.2.1; simpa [intOf] using this
end Go.Proofs.YtkjeobcfaolcaaaDoor
