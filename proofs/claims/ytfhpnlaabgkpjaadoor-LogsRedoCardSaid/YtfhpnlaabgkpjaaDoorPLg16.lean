/- The document's redo log: at, Redo, Put, Get, Over, by contract. -/
import Derived.Test.YtfhpnlaabgkpjaaDoorPLg9
import Derived.Test.YtfhpnlaabgkpjaaDoorPLg11
namespace Go.Proofs.YtfhpnlaabgkpjaaDoor
open Go.RowKit Go.Shelf
set_option maxHeartbeats 8000000
set_option linter.unusedVariables false
set_option linter.unusedSimpArgs false

/-- the answer of at -/
def idxI (o : List (Int × Int)) (a : Int) : Int := if idx o a < o.length then (idx o a : Int) else -1
theorem idx_first {o : List (Int × Int)} {a : Int} {i : Nat} (hi : i < o.length) (h : ∀ j (hj : j < i), (o[j]'(by omega)).1 ≠ a) (he : (o[i]'hi).1 = a) : idx o a = i := by
  unfold idx
  rw [List.findIdx_eq hi]
  refine ⟨by simpa using he, fun j hj => by simpa using h j hj⟩
theorem idx_none {o : List (Int × Int)} {a : Int} (h : ∀ j (hj : j < o.length), (o[j]'hj).1 ≠ a) : idx o a = o.length := by
  unfold idx
  rw [List.findIdx_eq_length]
  intro x hx
  obtain ⟨j, hj, rfl⟩ := List.mem_iff_getElem.1 hx
  simpa using h j hj
theorem at_b {w : World} {v : Value} {o : List (Int × Int)} {a : Int} (h : LiesC w v o) (hl : o.length ≤ 4611686018427387904) :
    Calls Tryd.prog 51 #[v, .int .u64 a] w fun e w' => e = .returned (.int .i64 (idxI o a)) ∧ w = w' := by
  obtain ⟨A, cp, rfl, hcp, hA, hcl⟩ := h
  have hli : (o.length : Int) ≤ 4611686018427387904 := by omega
  obtain ⟨ii, hii⟩ : ∃ u, Hid (idxI o a = u) := ⟨_, Lib.hid rfl⟩
  rw [hii.out]
  replace hcl := Lib.hid hcl
  clear hA hl
  go_enter Tryd.func51, Tryd.ntmps51
  go_wp2
  go_loop [5] (fun iv => ∃ m : Nat, m ≤ o.length ∧ iv = .int .i64 m ∧ Hid (∀ j (hj : j < m) (hj2 : j < o.length), (o[j]'hj2).1 ≠ a)) (fun iv => o.length - (intOf iv).toNat)
  case atStart => exact ⟨0, Nat.zero_le _, rfl, Lib.hid fun j hj => by omega⟩
  case round =>
    obtain ⟨m, hm, rfl, hh⟩ := hrel
    by_cases hlt : m < o.length
    · obtain ⟨g, off, rfl, _, d0, _⟩ := hcl.out m hlt
      have hmi : (m : Int) < (o.length : Int) := by omega
      by_cases he : (o[m]'hlt).1 = a
      · have e := hii.out
        rw [idxI, idx_first hlt (fun j hj => hh.out j hj (by omega)) he, if_pos hlt] at e
        subst e
        rw [he] at d0
        clear he
        go_wp2
        try rw [Exit.noGoto_ret]
        go_ret
        exact ⟨rfl, rfl⟩
      · have hnx : Hid (∀ j (hj : j < m + 1) (hj2 : j < o.length), (o[j]'hj2).1 ≠ a) := Lib.hid fun j hj hj2 => by
          by_cases e : j = m
          · subst e; exact he
          · exact hh.out j (by omega) hj2
        generalize (o[m]'hlt).1 = y at *
        have hb : (y == a) = false := by simpa using he
        clear he
        go_wp2
        go_round
        case rel => exact ⟨m + 1, by omega, by go_num, hnx⟩
        case measure => simp [intOf]; omega
    · obtain rfl : m = o.length := by omega
      have e := hii.out
      rw [idxI, idx_none fun j hj => hh.out j hj hj, if_neg (Nat.lt_irrefl _)] at e
      subst e
      go_wp2
      go_ret
      exact ⟨rfl, rfl⟩
section
variable {w w' : World} {q most : Nat} {F G G' : Nat → Prop} {L : List (Int × Int)}
theorem redo_len : (redo L).length ≤ L.length := by
  refine snoc_ind (P := fun L => (redo L).length ≤ L.length) (Nat.le_refl _) (fun L c ih => ?_) L
  rw [redo_snoc, List.length_append, List.length_singleton]
  exact Nat.le_trans rput_len (by omega)
theorem redo_take {L : List (Int × Int)} {i : Nat} (hi : i < L.length) : redo (L.take (i + 1)) = rput (redo (L.take i)) L[i] := by
  rw [List.take_add_one, List.getElem?_eq_getElem hi]
  exact redo_snoc
theorem redo_app (L M : List (Int × Int)) : (redo L).length ≤ (redo (L ++ M)).length := by
  refine snoc_ind (P := fun M => (redo L).length ≤ (redo (L ++ M)).length) (by simp) (fun M c ih => ?_) M
  rw [← List.append_assoc, redo_snoc]
  exact Nat.le_trans ih rput_ge
theorem redo_mono (L : List (Int × Int)) (j : Nat) : (redo (L.take j)).length ≤ (redo L).length := by
  have := redo_app (L.take j) (L.drop j)
  rwa [List.take_append_drop] at this
set_option maxRecDepth 100000 in
theorem dredo_b (h : LgR w q F most L) (hsz : (L.length + 1) * 16 ≤ 140737488355328) :
    Calls Tryd.prog 32 #[.pointer (some ⟨q, 0, none⟩)] w fun e w' => ∃ v, e = .returned v ∧ Cl w' v (redo L) ∧ Fr (fun _ => False) w (own v) w' := by
  have H := Lib.hid h
  obtain ⟨A, cp, rfl, hb, hL⟩ := h
  have hli : (L.length : Int) ≤ 4611686018427387904 := by omega
  replace hsz := Lib.hid hsz
  replace hb := Lib.hid hb
  replace hL := Lib.hid hL
  go_enter Tryd.func32, Tryd.ntmps32
  go_wp2
  go_loopw [3, 4] (fun ov iv wr => ∃ (i : Nat) (B : Option Addr) (cb : Nat) (o : List (Int × Int)), i ≤ L.length ∧ ov = .slice B o.length cb ∧ iv = .int .i64 i ∧ o.length ≤ i ∧ Hid (o = redo (L.take i)) ∧ Hid (Cl wr (.slice B o.length cb) o ∧ Fr (fun _ => False) w (own (.slice B o.length cb)) wr)) (fun _ iv _ => L.length - (intOf iv).toNat)
  case atStart => exact ⟨0, none, 0, [], Nat.zero_le _, rfl, rfl, Nat.le_refl _, Lib.hid rfl, Lib.hid ⟨Sl.nil _, (Fr.refl (fun _ => False) w).into fun k hk => (own_nil' _ _ _ hk).elim⟩⟩
  case round =>
    obtain ⟨i, B, cb, o, hi, rfl, rfl, hoi, ho, HH⟩ := hrel
    have f1 := HH.out.2
    have q1 : wr.cell? ⟨q, 1, none⟩ = some (.slice A L.length cp) := (f1.blk hb.out fun h => h).cell 1
    by_cases hil : i < L.length
    · obtain ⟨A', cp', eA, _, _, hcl⟩ := (Cl.lies (Sl.fr hL.out f1 fun _ _ h => h))
      injection eA with e1 e2 e3
      subst e1 e3
      obtain ⟨g, off, rfl, _, d0, d1⟩ := hcl i hil
      have hnx := Lib.hid (redo_take hil)
      have hii : (i : Int) < (L.length : Int) := by omega
      have hai := Lib.hid (at_b (a := (L[i]'hil).1) (Cl.lies HH.out.1) (by omega))
      have hsnd : Hid ((L[i]'hil) = ((L[i]'hil).1, (L[i]'hil).2)) := Lib.hid rfl
      generalize (L[i]'hil).1 = a at *
      generalize (L[i]'hil).2 = x at *
      rw [hsnd.out, ← ho.out] at hnx
      clear hcl e2 f1
      go_wp2_with fail
      refine hai.out.mono ?_
      rintro _ u ⟨rfl, rfl⟩
      by_cases hin : idx o a < o.length
      · have hId : idxI o a = (idx o a : Int) := if_pos hin
        rw [hId]
        have hrp : Hid (rput o (a, x) = o.set (idx o a) (a, x)) := Lib.hid (if_pos hin)
        obtain ⟨g5, off5, rfl, hg5, hcl5⟩ := Sl.cell encC_len (by decide) HH.out.1 hin
        have hfst : Hid ((o[idx o a]'hin).1 = a) := Lib.hid (idx_get hin)
        obtain ⟨z, hz⟩ : ∃ z, Hid ((o[idx o a]'hin).2 = z) := ⟨_, Lib.hid rfl⟩
        have c1 : wr.cell? ⟨g5, off5 + idx o a * 2 + 1, none⟩ = some (.int .u64 z) := by
          have := (hcl5 _ hin 1 (by decide)).1
          rw [← Nat.add_assoc] at this
          rw [this, ← hz.out]
          rfl
        have z1 : wr.frozen? ⟨g5, off5 + idx o a * 2 + 1, none⟩ = false := by
          have := (hcl5 _ hin 1 (by decide)).2
          rwa [← Nat.add_assoc] at this
        have U := Lib.hid (fun (u : Value) (x' : Int × Int) (hx : encC x' = (encC (o[idx o a]'hin)).set 1 u) => Sl.upd encC_len HH.out.1 hin (j := 1) (by decide) u x' hx)
        have hU : Hid (encC (a, x) = (encC (o[idx o a]'hin)).set 1 (.int .u64 x)) := Lib.hid (by
          show [Value.int .u64 a, Value.int .u64 x] = [Value.int .u64 (o[idx o a]'hin).1, Value.int .u64 x]
          rw [hfst.out])
        have hini : ((idx o a : Nat) : Int) < (o.length : Int) := by omega
        clear hcl5 hId
        generalize hidx : idx o a = k at *
        replace hidx := Lib.hid hidx
        go_wp2
        go_roundw
        case rel =>
          refine ⟨i + 1, some ⟨g5, off5, none⟩, cb, o.set k (a, x), by omega, by simp, by simp, by simp; omega, Lib.hid (by rw [hnx.out, hrp.out]), Lib.hid ⟨?_, ?_⟩⟩
          · have := U.out (.int .u64 x) (a, x) hU.out
            rw [← Nat.add_assoc] at this
            unfold Cl
            simpa using this
          · have := HH.out.2.set (p := ⟨g5, off5 + k * 2 + 1, none⟩) (.inl (by simp [own, Value.ownBlock])) (.int .u64 x)
            simpa using this
        case measure => simp [intOf]; omega
      · have hId : idxI o a = -1 := if_neg hin
        rw [hId]
        have hrp : Hid (rput o (a, x) = o ++ [(a, x)]) := Lib.hid (if_neg hin)
        have ho1 := Lib.hid (show o.length + 1 ≤ 9223372036854775807 by omega)
        have ho2 : Hid ((o.length + 1) * 16 ≤ 140737488355328) := Lib.hid (by have := hsz.out; omega)
        have HC := Lib.hid HH.out.1
        clear hId hin
        go_wp2_with (at_builtin; refine wpList_cell wr rfl (.tmp 27) (.tmp 35) rfl (.slice B o.length cb) o a x rfl HC.out rfl ho1.out ho2.out ?_; intro A8 cp8 w8 hc8 hv8 hm8; have V8 := Lib.hid hv8; have M8 := Lib.hid hm8; clear hv8 hm8)
        go_roundw
        case rel =>
          refine ⟨i + 1, A8, cp8, o ++ [(a, x)], by omega, by simp, by simp, by simp; omega, Lib.hid (by rw [hnx.out, hrp.out]), Lib.hid ⟨by have := V8.out; unfold Cl at this ⊢; simpa using this, ?_⟩⟩
          have := HH.out.2.trans M8.out
          simpa using this
        case measure => simp [intOf]; omega
    · obtain rfl : i = L.length := by omega
      have hfin : Hid (o = redo L) := Lib.hid (by rw [ho.out, List.take_length])
      go_wp2
      go_ret
      exact ⟨_, rfl, by rw [← hfin.out]; exact HH.out.1, HH.out.2⟩
end
end Go.Proofs.YtfhpnlaabgkpjaaDoor
/- The document's redo log: Put, Get, Over, by contract. -/
namespace Go.Proofs.YtfhpnlaabgkpjaaDoor
open Go.RowKit Go.Shelf
set_option maxHeartbeats 8000000
set_option linter.unusedVariables false
set_option linter.unusedSimpArgs false

section
variable {w w' : World} {q most : Nat} {F G G' : Nat → Prop} {L : List (Int × Int)} {a x : Int}
set_option maxRecDepth 100000 in
theorem dput_full (h : LgR w q F most L) (hsz : (L.length + 1) * 16 ≤ 140737488355328) (hm : most ≤ 1048576) (hi : ¬ idx (redo L) a < (redo L).length) (hf : most ≤ (redo L).length) :
    Calls Tryd.prog 48 #[.pointer (some ⟨q, 0, none⟩), .int .u64 a, .int .u64 x] w fun e w' => e = .returned (.int .i64 5) ∧ Fr (fun _ => False) w (fun _ => False) w' := by
  have hlen := redo_len (L := L)
  have hR := Lib.hid (dredo_b h hsz)
  obtain ⟨A, cp, rfl, hb, hL⟩ := h
  have hId : idxI (redo L) a = -1 := if_neg hi
  have hb := Lib.hid hb
  have hoi : ((redo L).length : Int) ≤ 4611686018427387904 := by omega
  have hd : decide ((redo L).length ≥ most) = true := decide_eq_true hf
  clear hL hi hf hsz hm hlen
  go_enter Tryd.func48, Tryd.ntmps48
  go_wp2_with fail
  refine hR.out.mono ?_
  rintro _ w1 ⟨v, rfl, hv, f1⟩
  have c0 : w1.cell? ⟨q, 0, none⟩ = some (.int .i64 (most : Int)) := (f1.blk hb.out fun h => h).cell 0
  have hat := Lib.hid (at_b (a := a) (Cl.lies hv) (by omega))
  rw [hId] at hat
  obtain ⟨B, cb, rfl, _⟩ := Sl.shape hv
  have f1w : Hid (Fr (fun _ => False) w (fun _ => False) w1) := Lib.hid (f1.into fun _ h => h.elim)
  generalize (redo L).length = k at *
  clear hv f1 hR hId
  go_wp2_with fail
  refine hat.out.mono ?_
  rintro _ u ⟨rfl, rfl⟩
  go_wp2
  go_ret
  exact ⟨rfl, f1w.out⟩
set_option maxRecDepth 100000 in
theorem dput_ok (h : LgR w q F most L) (hsz : (L.length + 1) * 16 ≤ 140737488355328) (hok : idx (redo L) a < (redo L).length ∨ (redo L).length < most) :
    Calls Tryd.prog 48 #[.pointer (some ⟨q, 0, none⟩), .int .u64 a, .int .u64 x] w fun e w' => e = .returned (.int .i64 0) ∧ ∃ F', LgR w' q F' most (L ++ [(a, x)]) ∧ Fr F w F' w' := by
  have hlen := redo_len (L := L)
  have hR := Lib.hid (dredo_b h hsz)
  obtain ⟨A, cp, rfl, hb, hL⟩ := h
  have hb := Lib.hid hb
  have hL := Lib.hid hL
  have hoi : ((redo L).length : Int) ≤ 4611686018427387904 := by omega
  have hz1 := Lib.hid (show L.length + 1 ≤ 9223372036854775807 by omega)
  replace hsz := Lib.hid hsz
  have hcase : (decide (idxI (redo L) a < 0) = false) ∨ (decide (idxI (redo L) a < 0) = true ∧ decide ((redo L).length ≥ most) = false) := by
    unfold idxI
    by_cases h1 : idx (redo L) a < (redo L).length
    · rw [if_pos h1]; exact .inl (decide_eq_false (by omega))
    · rw [if_neg h1]; exact .inr ⟨rfl, decide_eq_false (by omega)⟩
  clear hok hlen
  go_enter Tryd.func48, Tryd.ntmps48
  go_wp2_with fail
  refine hR.out.mono ?_
  rintro _ w1 ⟨v, rfl, hv, f1⟩
  have hb1 := Lib.hid (f1.blk hb.out fun h => h)
  have hL1 := Lib.hid (Sl.fr hL.out f1 fun _ _ h => h)
  have c0 : w1.cell? ⟨q, 0, none⟩ = some (.int .i64 (most : Int)) := hb1.out.cell 0
  have c1 : w1.cell? ⟨q, 1, none⟩ = some (.slice A L.length cp) := hb1.out.cell 1
  have hat := Lib.hid (at_b (a := a) (Cl.lies hv) (by omega))
  obtain ⟨B, cb, rfl, _⟩ := Sl.shape hv
  have f1w : Hid (Fr (fun _ => False) w (fun _ => False) w1) := Lib.hid (f1.into fun _ h => h.elim)
  generalize idxI (redo L) a = ii at *
  generalize (redo L).length = k at *
  clear hv f1 hR
  go_wp2_with fail
  refine hat.out.mono ?_
  rintro _ u ⟨rfl, rfl⟩
  rcases hcase with hd | ⟨hd, hd2⟩
  all_goals
    go_wp2_with (at_builtin; refine wpList_cell w1 rfl (.tmp 27) (.tmp 31) rfl (.slice A L.length cp) L a x rfl hL1.out rfl hz1.out hsz.out ?_; intro A3 cp3 w3 hc3 hv3 hm3; have B3 := hm3.blk hb1.out (Sl.ne_ hL1.out hb1.out (by decide)); have d2 : w3.cell? ⟨q, 1, none⟩ = some (.slice A L.length cp) := B3.cell 1; have zz := B3.frozen 1; have V3 := Lib.hid hv3; have M3 := Lib.hid hm3; clear hv3 hm3 B3)
    go_ret
    obtain ⟨q1, q2, q3⟩ := log_put (i := 1) hb1.out hL1.out (by decide) V3.out M3.out
    refine ⟨rfl, _, ⟨A3, cp3, rfl, by simpa using q1, by unfold Cl; simpa using q2⟩, ?_⟩
    have f0 : Fr (fun b => b = q ∨ own (.slice A L.length cp) b) w (fun b => b = q ∨ own (.slice A L.length cp) b) w1 := (Fr.refl _ w).beside f1w.out fun _ h => h.elim
    exact (Fr.trans f0 q3).into fun k hk => .inl (by simpa using hk)
set_option maxRecDepth 100000 in
theorem dget_b (h : LgR w q F most L) (hsz : (L.length + 1) * 16 ≤ 140737488355328) :
    Calls Tryd.prog 49 #[.pointer (some ⟨q, 0, none⟩), .int .u64 a] w fun e w' => e = .returned (.tuple #[.int .u64 (rget (redo L) a).1, .bool (rget (redo L) a).2]) ∧ Fr (fun _ => False) w (fun _ => False) w' := by
  have hlen := redo_len (L := L)
  have hR := Lib.hid (dredo_b h hsz)
  have hoi : ((redo L).length : Int) ≤ 4611686018427387904 := by omega
  obtain ⟨⟨g1, g2⟩, hg⟩ : ∃ u, Hid (rget (redo L) a = u) := ⟨_, Lib.hid rfl⟩
  rw [hg.out]
  generalize redo L = o at *
  clear h hsz hlen
  go_enter Tryd.func49, Tryd.ntmps49
  go_wp2_with fail
  refine hR.out.mono ?_
  rintro _ w1 ⟨v, rfl, hv, f1⟩
  have hat := Lib.hid (at_b (a := a) (Cl.lies hv) (by omega))
  have f1w : Hid (Fr (fun _ => False) w (fun _ => False) w1) := Lib.hid (f1.into fun _ h => h.elim)
  go_wp2_with fail
  refine hat.out.mono ?_
  rintro _ u ⟨rfl, rfl⟩
  by_cases hin : idx o a < o.length
  · obtain ⟨A, cp, rfl, _, _, hcl⟩ := Cl.lies hv
    obtain ⟨g, off, rfl, _, _, d1⟩ := hcl _ hin
    have hId : idxI o a = (idx o a : Int) := if_pos hin
    rw [hId]
    obtain ⟨hz, rfl⟩ : (o[idx o a]'hin).2 = g1 ∧ g2 = true := by
      have e := hg.out
      unfold rget at e
      rw [if_pos hin, List.getD_eq_getElem?_getD, List.getElem?_eq_getElem hin] at e
      injection e with e1 e2
      exact ⟨e1, e2.symm⟩
    rw [hz] at d1
    have hini : ((idx o a : Nat) : Int) < (o.length : Int) := by omega
    clear hg hat hR hId hv f1 hcl hz
    generalize idx o a = k at *
    go_wp2
    go_ret2
    exact ⟨rfl, f1w.out⟩
  · have hId : idxI o a = -1 := if_neg hin
    rw [hId]
    obtain ⟨rfl, rfl⟩ : g1 = 0 ∧ g2 = false := by
      have e := hg.out
      unfold rget at e
      rw [if_neg hin] at e
      injection e with e1 e2
      exact ⟨e1.symm, e2.symm⟩
    clear hg hat hR hId hin
    go_wp2
    go_ret2
    exact ⟨rfl, f1w.out⟩
end
/-- the entries over words -/
def overGo (n : Nat) : List (Int × Int) → List Int → Option (List Int)
  | [], out => some out
  | (a, x) :: l, out => if (n : Int) ≤ a then none else overGo n l (out.set a.toNat x)
end Go.Proofs.YtfhpnlaabgkpjaaDoor
/- Over, by contract: the program's and the document's. -/
namespace Go.Proofs.YtfhpnlaabgkpjaaDoor
open Go.RowKit Go.Shelf
set_option maxHeartbeats 8000000
set_option linter.unusedVariables false
set_option linter.unusedSimpArgs false

theorem overGo_yes {n : Nat} {a x : Int} {l : List (Int × Int)} {out : List Int} (h : ¬ (n : Int) ≤ a) : overGo n ((a, x) :: l) out = overGo n l (out.set a.toNat x) := if_neg h
theorem overGo_no {n : Nat} {a x : Int} {l : List (Int × Int)} {out : List Int} (h : (n : Int) ≤ a) : overGo n ((a, x) :: l) out = none := if_pos h
/-- what Over answers -/
def OverR (R : Option (List Int)) (c : Int) (w : World) (e : Ending) (w' : World) : Prop :=
  match R with
  | none => e = .returned (.tuple #[.slice none 0 0, .int .i64 4]) ∧ Fr (fun _ => False) w (fun _ => False) w'
  | some out => ∃ v, e = .returned (.tuple #[v, .int .i64 0]) ∧ Wl w' v out ∧ Fr (fun _ => False) w (own v) w'
section
variable {w w' : World} {r q most : Nat} {F G G' : Nat → Prop} {o L : List (Int × Int)} {p : List (Int × Int × Bool)} {cs : List Int} {v : Value}
set_option maxRecDepth 100000 in
theorem wover_b (h : RoW w r F most o p) (hl : o.length ≤ 1048576) (hn : ∀ x ∈ o, 0 ≤ x.1 ∧ x.1 ≤ 18446744073709551615) (hv : Lies w v cs) (hc : cs.length * 8 ≤ 140737488355328) :
    Calls Tryd.prog 18 #[.pointer (some ⟨r, 0, none⟩), v] w (OverR (overGo cs.length o cs) 0 w) := by
  obtain ⟨vl, vp, t, G, T, rfl, h, _⟩ := h
  obtain ⟨Bv, cv, rfl, _, hB0, _⟩ := id hv
  obtain ⟨A, cp, rfl, hcp⟩ := Sl.shape h.ol
  have c0 : w.cell? ⟨r, 0, none⟩ = some (.bool true) := h.blk.cell 0
  have c2 : w.cell? ⟨r, 2, none⟩ = some (.slice A o.length cp) := h.blk.cell 2
  have hb := Lib.hid h.blk
  have hL := Lib.hid h.ol
  have C := Lib.hid (wnone_b c0)
  obtain ⟨R, hR⟩ : ∃ u, Hid (overGo cs.length o cs = u) := ⟨_, Lib.hid rfl⟩
  rw [hR.out]
  have hci : (cs.length : Int) ≤ 17592186044416 := by omega
  have hli : (o.length : Int) ≤ 1048576 := by omega
  have hwu : IntKind.u64.wrap (cs.length : Int) = (cs.length : Int) := by rw [IntKind.wrap_u64]; omega
  replace hv := Lib.hid hv
  replace hn := Lib.hid hn
  have hz2 := Lib.hid (show (0 + cs.length) * 8 ≤ 140737488355328 by omega)
  clear h hB0 hcp hl hc c0
  go_enter Tryd.func18, Tryd.ntmps18
  go_wp2_with fail
  refine C.out.mono ?_
  rintro _ u ⟨rfl, rfl⟩
  go_wp2_with (at_builtin; refine wpList_words w rfl (.const (.slice none 0 0)) (.tmp 11) rfl (.slice none 0 0) (.slice Bv cs.length cv) [] cs rfl (Wl.nil _) rfl hv.out hz2.out ?_; intro A3 cp3 w3 hc3 hv3 hm3; (have q2 : w3.cell? ⟨r, 2, none⟩ = some (.slice A o.length cp) := (hm3.blk hb.out (own_nil' _ _ _)).cell 2); have V3 := Lib.hid hv3; have M3 := Lib.hid hm3; clear hv3 hm3)
  have e0 : ([] : List Int).length + cs.length = cs.length := Nat.zero_add _
  rw [e0, List.nil_append] at V3
  rw [e0] at M3
  clear hv C
  go_loopw [18] (fun iv wr => ∃ (i : Nat) (out : List Int), i ≤ o.length ∧ iv = .int .i64 i ∧ out.length = cs.length ∧ Hid (overGo cs.length (o.drop i) out = R) ∧ Hid (Wl wr (.slice A3 cs.length cp3) out ∧ Fr (fun _ => False) w (own (.slice A3 cs.length cp3)) wr)) (fun iv _ => o.length - (intOf iv).toNat)
  case atStart => exact ⟨0, cs, Nat.zero_le _, rfl, rfl, Lib.hid (by rw [List.drop_zero]; exact hR.out), Lib.hid ⟨V3.out, M3.out.wide fun k hk => (own_nil' _ _ _ hk).elim⟩⟩
  case round =>
    clear V3 M3 q2 c2
    obtain ⟨i, out, hi, rfl, hol, hgo, HH⟩ := hrel
    by_cases hil : i < o.length
    · obtain ⟨A', cp', eA, _, _, hcl⟩ := (Cl.lies (Sl.fr hL.out HH.out.2 fun _ _ h => h))
      injection eA with e1 e2 e3
      subst e1 e3
      obtain ⟨g, off, rfl, _, d0, d1⟩ := hcl i hil
      have hii : (i : Int) < (o.length : Int) := by omega
      have hdr : Hid (o.drop i = ((o[i]'hil).1, (o[i]'hil).2) :: o.drop (i + 1)) := Lib.hid (List.drop_eq_getElem_cons hil)
      obtain ⟨ha0, ha1⟩ := hn.out _ (List.getElem_mem hil)
      generalize (o[i]'hil).1 = a at *
      generalize (o[i]'hil).2 = x at *
      rw [hdr.out] at hgo
      clear hdr hcl e2
      by_cases hge : (cs.length : Int) ≤ a
      · have hd : decide (a ≥ (cs.length : Int)) = true := decide_eq_true hge
        obtain rfl : R = none := by have := hgo.out; rw [overGo_no hge] at this; exact this.symm
        have FF := Lib.hid ((HH.out.2.into (G := fun _ => False) fun _ h => h.elim).alloc (.cells #[.int .u64 a, .int .u64 x] 55))
        clear hge HH hgo
        go_wp2
        try rw [Exit.noGoto_ret]
        go_ret2
        exact ⟨rfl, FF.out⟩
      · have hd : decide (a ≥ (cs.length : Int)) = false := decide_eq_false hge
        have hgo2 : Hid (overGo cs.length (o.drop (i + 1)) (out.set a.toNat x) = R) := Lib.hid (by rw [← overGo_yes hge]; exact hgo.out)
        obtain ⟨an, rfl⟩ : ∃ an : Nat, a = (an : Int) := ⟨a.toNat, by omega⟩
        have V4 : Wl (wr.alloc (.cells #[.int .u64 (an : Int), .int .u64 x] 55)) (.slice A3 out.length cp3) out := by rw [hol]; exact HH.out.1.alloc _
        obtain ⟨g5, off5, rfl, hg5, hc5, hz5, hset⟩ := Wl.upd V4 (j := an) (by omega)
        have FF : Hid (Fr (fun _ => False) w (own (.slice (some ⟨g5, off5, none⟩) cs.length cp3)) ((wr.alloc (.cells #[.int .u64 (an : Int), .int .u64 x] 55)).setCell ⟨g5, off5 + an, none⟩ (.int .u64 x))) := Lib.hid ((HH.out.2.alloc _).set (p := ⟨g5, off5 + an, none⟩) (.inl (by simp [own, Value.ownBlock])) _)
        have V5 : Hid (Wl ((wr.alloc (.cells #[.int .u64 (an : Int), .int .u64 x] 55)).setCell ⟨g5, off5 + an, none⟩ (.int .u64 x)) (.slice (some ⟨g5, off5, none⟩) cs.length cp3) (out.set an x)) := Lib.hid (by have := hset x; rwa [List.length_set, hol] at this)
        have hai : (an : Int) < (cs.length : Int) := by omega
        have hz5 := hz5
        generalize out.getD an 0 = z at *
        clear hge HH hgo V4 hset hg5
        go_wp2
        go_roundw
        case rel => exact ⟨i + 1, out.set an x, by omega, by simp, by rw [List.length_set]; exact hol, by have := hgo2; simpa using this, Lib.hid ⟨V5.out, FF.out⟩⟩
        case measure => simp [intOf]; omega
    · obtain rfl : i = o.length := by omega
      obtain rfl : R = some out := by have := hgo.out; rw [List.drop_length] at this; exact this.symm
      go_wp2
      go_ret2
      exact ⟨_, rfl, HH.out.1, HH.out.2⟩
set_option maxRecDepth 100000 in
theorem dover_b (h : LgR w q F most L) (hsz : (L.length + 1) * 16 ≤ 140737488355328) (hn : ∀ x ∈ redo L, 0 ≤ x.1 ∧ x.1 ≤ 18446744073709551615) (hv : Lies w v cs) (hc : cs.length * 8 ≤ 140737488355328) :
    Calls Tryd.prog 27 #[.pointer (some ⟨q, 0, none⟩), v] w (OverR (overGo cs.length (redo L) cs) 0 w) := by
  have hlen := redo_len (L := L)
  have hD := Lib.hid (dredo_b h hsz)
  have hmx : Tryd.prog.follows .mixedOrders = true := by kernel_rfl
  have hoi : ((redo L).length : Int) ≤ 4611686018427387904 := by omega
  generalize redo L = o at *
  obtain ⟨Bv, cv, rfl, _, _, _⟩ := id hv
  obtain ⟨R, hR⟩ : ∃ u, Hid (overGo cs.length o cs = u) := ⟨_, Lib.hid rfl⟩
  rw [hR.out]
  have hci : (cs.length : Int) ≤ 17592186044416 := by omega
  have hwu : IntKind.u64.wrap (cs.length : Int) = (cs.length : Int) := by rw [IntKind.wrap_u64]; omega
  replace hv := Lib.hid hv
  replace hn := Lib.hid hn
  have hz2 := Lib.hid (show (0 + cs.length) * 8 ≤ 140737488355328 by omega)
  clear h hc hsz hlen
  go_enter Tryd.func27, Tryd.ntmps27
  go_wp2_with fail
  refine hD.out.mono ?_
  rintro _ w1 ⟨vo, rfl, hvo, f1⟩
  have hv1 := Lib.hid (hv.out.frz f1)
  have f1w : Hid (Fr (fun _ => False) w (fun _ => False) w1) := Lib.hid (f1.into fun _ h => h.elim)
  obtain ⟨A, cp, rfl, hcp⟩ := Sl.shape hvo
  have hL1 := Lib.hid (Sl.alloc hvo (.cells #[] 38))
  have hv2 := Lib.hid (hv1.out.alloc (.cells #[] 38))
  have N1 : Hid (Wl (w1.alloc (.cells #[] 38)) (.slice (some ⟨w1.heap.size, 0, none⟩) 0 0) []) := Lib.hid (Wl.new w1 [] (by simp))
  clear hcp hvo f1 hv hv1 hD
  go_wp2_with (at_builtin; refine wpList_words (w1.alloc (.cells #[] 38)) rfl (.tmp 11) (.tmp 12) rfl (.slice (some ⟨w1.heap.size, 0, none⟩) 0 0) (.slice Bv cs.length cv) [] cs rfl N1.out rfl hv2.out hz2.out ?_; intro A3 cp3 w3 hc3 hv3 hm3; (have L3 := Lib.hid (Sl.fr hL1.out hm3 (Sl.notSl hL1.out (e' := 38) (sz' := 1) (enc' := fun z : Int => [.int .u64 z]) (l' := []) N1.out (by decide)))); have V3 := Lib.hid hv3; have M3 := Lib.hid hm3; clear hv3 hm3)
  have e0 : ([] : List Int).length + cs.length = cs.length := Nat.zero_add _
  rw [e0, List.nil_append] at V3
  rw [e0] at M3
  have F3 : Hid (Fr (fun _ => False) w (own (.slice A3 cs.length cp3)) w3) := Lib.hid (((f1w.out.alloc (.cells #[] 38)).into (G := own (.slice (some ⟨w1.heap.size, 0, none⟩) 0 0)) fun k hk => .inr (.inr (by
    have e : w1.heap.size = k := by simpa [own, Value.ownBlock] using hk
    have := f1w.out.size
    omega))).trans M3.out)
  have hno : Hid (∀ k, own (.slice A o.length cp) k → ¬ own (.slice A3 cs.length cp3) k) := Lib.hid (Sl.notSl L3.out (e' := 38) (sz' := 1) (enc' := fun z : Int => [.int .u64 z]) (l' := cs) (by unfold Sl; rw [← List.map_eq_flatMap]; exact V3.out) (by decide))
  clear hv2 N1 M3 f1w hL1
  go_wp2
  go_loopw [8] (fun iv wr => ∃ (i : Nat) (out : List Int), i ≤ o.length ∧ iv = .int .i64 i ∧ out.length = cs.length ∧ Hid (overGo cs.length (o.drop i) out = R) ∧ Hid (Wl wr (.slice A3 cs.length cp3) out ∧ Cl wr (.slice A o.length cp) o ∧ Fr (fun _ => False) w (own (.slice A3 cs.length cp3)) wr)) (fun iv _ => o.length - (intOf iv).toNat)
  case atStart => exact ⟨0, cs, Nat.zero_le _, rfl, rfl, Lib.hid (by rw [List.drop_zero]; exact hR.out), Lib.hid ⟨V3.out, L3.out, F3.out⟩⟩
  case round =>
    clear V3 L3 F3
    obtain ⟨i, out, hi, rfl, hol, hgo, HH⟩ := hrel
    by_cases hil : i < o.length
    · obtain ⟨A', cp', eA, _, _, hcl⟩ := (Cl.lies HH.out.2.1)
      injection eA with e1 e2 e3
      subst e1 e3
      obtain ⟨g, off, rfl, _, d0, d1⟩ := hcl i hil
      have hii : (i : Int) < (o.length : Int) := by omega
      have hdr : Hid (o.drop i = ((o[i]'hil).1, (o[i]'hil).2) :: o.drop (i + 1)) := Lib.hid (List.drop_eq_getElem_cons hil)
      obtain ⟨ha0, ha1⟩ := hn.out _ (List.getElem_mem hil)
      generalize (o[i]'hil).1 = a at *
      generalize (o[i]'hil).2 = x at *
      rw [hdr.out] at hgo
      clear hdr hcl e2
      by_cases hge : (cs.length : Int) ≤ a
      · have hd : decide (a ≥ (cs.length : Int)) = true := decide_eq_true hge
        obtain rfl : R = none := by have := hgo.out; rw [overGo_no hge] at this; exact this.symm
        have FF := Lib.hid ((HH.out.2.2.into (G := fun _ => False) fun _ h => h.elim))
        clear hge HH hgo
        go_wp2
        try rw [Exit.noGoto_ret]
        go_ret2
        exact ⟨rfl, FF.out⟩
      · have hd : decide (a ≥ (cs.length : Int)) = false := decide_eq_false hge
        have hgo2 : Hid (overGo cs.length (o.drop (i + 1)) (out.set a.toNat x) = R) := Lib.hid (by rw [← overGo_yes hge]; exact hgo.out)
        obtain ⟨an, rfl⟩ : ∃ an : Nat, a = (an : Int) := ⟨a.toNat, by omega⟩
        have V4 : Wl wr (.slice A3 out.length cp3) out := by rw [hol]; exact HH.out.1
        obtain ⟨g5, off5, rfl, hg5, hc5, hz5, hset⟩ := Wl.upd V4 (j := an) (by omega)
        have H3 := Lib.hid HH.out.2
        have V5 : Hid (Wl (wr.setCell ⟨g5, off5 + an, none⟩ (.int .u64 x)) (.slice (some ⟨g5, off5, none⟩) cs.length cp3) (out.set an x)) := Lib.hid (by have := hset x; rwa [List.length_set, hol] at this)
        have hai : (an : Int) < (cs.length : Int) := by omega
        have hgn : Hid (¬ own (.slice (some ⟨g, off, none⟩) o.length cp) g5) := Lib.hid fun hk => hno.out g5 hk (by simp [own, Value.ownBlock])
        generalize out.getD an 0 = z at *
        clear hge HH hgo V4 hset hg5
        go_wp2_with fail
        refine wp_region_mixH (fun _ => True) [3, 3, 3, 3, 3, 1, 3, 3, 3, 3, 1, 3, 2] (List.range 13) (by kernel_rfl) (by kernel_rfl) (fun _ _ h => h) trivial ?_
        repeat ((first | refine wpMixH_pure rfl rfl (fun K hK => ?_) | refine wpMixH_loc rfl rfl (fun K hK => ?_) | refine wpMixH_any rfl rfl (fun K hK => ?_)); go_simp; refine hK _ _ ?_; clear hK K)
        refine wpMixH_loud rfl rfl (fun m1 K hK => ?_)
        go_wp2_with fail
        refine hK _ _ (fun h => (Bool.false_ne_true ((Eq.symm (by kernel_rfl)).trans h)).elim) ?_; clear hK K
        refine wpMixH_nil (fun m2 => ?_)
        go_wp2
        go_roundw
        case rel =>
          have FF : Fr (fun _ => False) w (own (.slice (some ⟨g5, off5, none⟩) cs.length cp3)) (((wr.drewN (1 + m1)).setCell ⟨g5, off5 + an, none⟩ (.int .u64 x)).drewN m2) := ((H3.out.2.drewN (1 + m1)).set (p := ⟨g5, off5 + an, none⟩) (.inl (by simp [own, Value.ownBlock])) _).drewN m2
          have LL : Cl (((wr.drewN (1 + m1)).setCell ⟨g5, off5 + an, none⟩ (.int .u64 x)).drewN m2) (.slice (some ⟨g, off, none⟩) o.length cp) o := Sl.drewN (Sl.set (Sl.drewN H3.out.1 (1 + m1)) (p := ⟨g5, off5 + an, none⟩) hgn.out _) m2
          exact ⟨i + 1, out.set an x, by omega, by simp, by rw [List.length_set]; exact hol, by have := hgo2; simpa using this, Lib.hid ⟨V5.out, LL, FF⟩⟩
        case measure => simp [intOf]; omega
    · obtain rfl : i = o.length := by omega
      obtain rfl : R = some out := by have := hgo.out; rw [List.drop_length] at this; exact this.symm
      go_wp2
      go_ret2
      exact ⟨_, rfl, HH.out.1, HH.out.2.2⟩
end
end Go.Proofs.YtfhpnlaabgkpjaaDoor
/- A log's words over cells: all Puts, one by one. Plain. -/
namespace Go.Proofs.YtfhpnlaabgkpjaaDoor
set_option linter.unusedVariables false

def putAll (L : List (Int × Int)) (cs : List Int) : List Int := L.foldl (fun out c => out.set c.1.toNat c.2) cs
section
variable {n : Nat} {o L : List (Int × Int)} {a x : Int} {out cs : List Int}
theorem overGo_app : ∀ (o o2 : List (Int × Int)) (out : List Int), overGo n (o ++ o2) out = (overGo n o out).bind fun r => overGo n o2 r
  | [], o2, out => rfl
  | (a, x) :: o, o2, out => by
    rw [List.cons_append, overGo, overGo]
    split
    · rfl
    · exact overGo_app o o2 _
theorem overGo_comm : ∀ (o : List (Int × Int)) (out : List Int), (∀ c ∈ o, 0 ≤ c.1) → 0 ≤ a → a ∉ o.map (·.1) → overGo n o (out.set a.toNat x) = (overGo n o out).map fun r => r.set a.toNat x
  | [], out, _, _, _ => rfl
  | (b, y) :: o, out, h0, ha, hn => by
    rw [overGo, overGo]
    split
    · rfl
    · have hb : 0 ≤ b := h0 (b, y) List.mem_cons_self
      have hne : b ≠ a := fun e => hn (by rw [e]; exact List.mem_cons_self)
      rw [← overGo_comm o (out.set b.toNat y) (fun c hc => h0 c (List.mem_cons_of_mem _ hc)) ha fun hm => hn (List.mem_cons_of_mem _ hm)]
      congr 1
      exact List.set_comm _ _ (by omega)
theorem overGo_rput (h0 : ∀ c ∈ o, 0 ≤ c.1) (ha : 0 ≤ a) (hnd : (o.map (·.1)).Nodup) : overGo n (rput o (a, x)) cs = if a < n then (overGo n o cs).map fun r => r.set a.toNat x else none := by
  unfold rput
  by_cases hi : idx o a < o.length
  · rw [if_pos hi]
    show overGo n (o.set (idx o a) (a, x)) cs = _
    have hg := idx_get hi
    have ho : o = o.take (idx o a) ++ ((o[idx o a]'hi) :: o.drop (idx o a + 1)) := by rw [← List.drop_eq_getElem_cons hi, List.take_append_drop]
    have hs : o.set (idx o a) (a, x) = o.take (idx o a) ++ ((a, x) :: o.drop (idx o a + 1)) := List.set_eq_take_append_cons_drop.trans (if_pos hi)
    have hdn : a ∉ (o.drop (idx o a + 1)).map (·.1) := fun hm => by
      rw [ho, List.map_append, List.map_cons, List.nodup_append] at hnd
      exact (List.nodup_cons.1 hnd.2.1).1 (by rw [hg]; exact hm)
    have hd0 : ∀ c ∈ o.drop (idx o a + 1), 0 ≤ c.1 := fun c hc => h0 c (List.mem_of_mem_drop hc)
    have e1 : overGo n (o.take (idx o a) ++ ((o[idx o a]'hi) :: o.drop (idx o a + 1))) cs = overGo n o cs := by rw [← ho]
    rw [hs, ← e1, overGo_app, overGo_app]
    generalize overGo n (o.take (idx o a)) cs = R
    cases R with
    | none => simp
    | some r =>
      simp only [Option.bind_some]
      have e2 : (o[idx o a]'hi) = (a, (o[idx o a]'hi).2) := Prod.ext hg rfl
      rw [e2]
      by_cases hlt : a < n
      · rw [if_pos hlt, overGo, overGo, if_neg (by omega), if_neg (by omega), overGo_comm _ _ hd0 ha hdn, overGo_comm _ _ hd0 ha hdn]
        generalize overGo n (o.drop (idx o a + 1)) r = R2
        cases R2 with
        | none => rfl
        | some r2 => simp
      · rw [if_neg hlt, overGo, if_pos (by omega)]
  · rw [if_neg hi, overGo_app]
    generalize overGo n o cs = R
    cases R with
    | none => simp
    | some r =>
      simp only [Option.bind_some, Option.map_some]
      rw [overGo]
      by_cases hlt : a < n
      · rw [if_neg (by omega), if_pos hlt]; rfl
      · rw [if_pos (by omega), if_neg hlt]
theorem rput_keys : (rput o (a, x)).map (·.1) = if a ∈ o.map (·.1) then o.map (·.1) else o.map (·.1) ++ [a] := by
  unfold rput
  by_cases hi : idx o a < o.length
  · have hm := idx_lt.1 hi
    rw [if_pos hi, if_pos hm]
    apply List.ext_getElem
    · simp
    · intro i h1 h2
      simp only [List.getElem_map, List.getElem_set]
      split
      · rename_i e
        subst e
        exact (idx_get hi).symm
      · rfl
  · have hm : a ∉ o.map (·.1) := fun hm => hi (idx_lt.2 hm)
    rw [if_neg hi, if_neg hm, List.map_append]
    rfl
theorem redo_nodup (L : List (Int × Int)) : ((redo L).map (·.1)).Nodup := by
  refine snoc_ind (P := fun L => ((redo L).map (·.1)).Nodup) List.nodup_nil (fun L c ih => ?_) L
  rw [redo_snoc, show c = (c.1, c.2) from rfl, rput_keys]
  split
  · exact ih
  · rename_i h
    rw [List.nodup_append]
    exact ⟨ih, by simp, fun y hy z hz e => h (by have := List.mem_singleton.1 hz; rw [← this, ← e]; exact hy)⟩
theorem redo_mem (L : List (Int × Int)) : ∀ c ∈ redo L, c ∈ L := by
  refine snoc_ind (P := fun L => ∀ c ∈ redo L, c ∈ L) (fun c h => h) (fun L d ih => ?_) L
  intro c hc
  rw [redo_snoc] at hc
  unfold rput at hc
  split at hc
  · rcases List.mem_or_eq_of_mem_set hc with h | h
    · exact List.mem_append_left _ (ih c h)
    · rw [h]; simp
  · rcases List.mem_append.1 hc with h | h
    · exact List.mem_append_left _ (ih c h)
    · exact List.mem_append_right _ h
theorem overGo_redo (L : List (Int × Int)) (cs : List Int) (h0 : ∀ c ∈ L, 0 ≤ c.1) : overGo n (redo L) cs = if ∀ c ∈ L, c.1 < n then some (putAll L cs) else none := by
  revert h0
  refine snoc_ind (P := fun L => (∀ c ∈ L, 0 ≤ c.1) → overGo n (redo L) cs = if ∀ c ∈ L, c.1 < n then some (putAll L cs) else none) (fun _ => ?_) (fun L c ih h0 => ?_) L
  · rw [if_pos (by simp)]; rfl
  · have h0L : ∀ c ∈ L, 0 ≤ c.1 := fun d hd => h0 d (List.mem_append_left _ hd)
    rw [redo_snoc, show c = (c.1, c.2) from rfl, overGo_rput (fun d hd => h0L d (redo_mem L d hd)) (h0 c (by simp)) (redo_nodup L), ih h0L]
    by_cases h1 : ∀ d ∈ L, d.1 < n
    · by_cases h2 : c.1 < n
      · rw [if_pos h2, if_pos h1, if_pos (fun d hd => by
          rcases List.mem_append.1 hd with h | h
          · exact h1 d h
          · have := List.mem_singleton.1 h; rw [this]; exact h2)]
        simp [putAll]
      · rw [if_neg h2, if_neg fun h => h2 (h c (by simp))]
    · have hno : ¬ ∀ d ∈ L ++ [(c.1, c.2)], d.1 < (n : Int) := fun h => h1 fun d hd => h d (List.mem_append_left _ hd)
      rw [if_neg h1, if_neg hno]
      split <;> rfl
/-- a log over cells, and a second one over that -/
theorem over_two (La Lb : List (Int × Int)) (cs f g : List Int) (ha : ∀ c ∈ La, 0 ≤ c.1) (hb : ∀ c ∈ Lb, 0 ≤ c.1) (h1 : overGo n (redo La) cs = some f) (h2 : overGo n (redo Lb) f = some g) : overGo n (redo (La ++ Lb)) cs = some g := by
  rw [overGo_redo La cs ha] at h1
  rw [overGo_redo Lb f hb] at h2
  rw [overGo_redo (La ++ Lb) cs fun c hc => (List.mem_append.1 hc).elim (ha c) (hb c)]
  split at h1
  · rename_i q1
    split at h2
    · rename_i q2
      rw [if_pos fun c hc => (List.mem_append.1 hc).elim (q1 c) (q2 c)]
      cases h1
      cases h2
      simp [putAll]
    · cases h2
  · cases h1
theorem overGo_len : ∀ (o : List (Int × Int)) (cs f : List Int), overGo n o cs = some f → f.length = cs.length
  | [], cs, f, h => by cases h; rfl
  | (a, x) :: o, cs, f, h => by
    rw [overGo] at h
    split at h
    · cases h
    · have := overGo_len o _ f h
      rw [this, List.length_set]
theorem idx_at {i : Nat} (hi : i < o.length) (hnd : (o.map (·.1)).Nodup) : idx o (o[i]'hi).1 = i := by
  refine idx_first hi (fun j hj e => ?_) rfl
  have h2 := List.pairwise_iff_getElem.1 hnd j i (by simp; omega) (by simpa using hi) hj
  exact h2 (by simpa using e)
theorem rget_at {i : Nat} (hi : i < o.length) (hnd : (o.map (·.1)).Nodup) : rget o (o[i]'hi).1 = ((o[i]'hi).2, true) := by
  unfold rget
  rw [idx_at hi hnd, if_pos hi, List.getD_eq_getElem?_getD, List.getElem?_eq_getElem hi]
  rfl
end
end Go.Proofs.YtfhpnlaabgkpjaaDoor
