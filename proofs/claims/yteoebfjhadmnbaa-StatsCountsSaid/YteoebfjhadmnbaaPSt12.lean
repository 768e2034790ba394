/- events.Check, Threads, Of, Commits by contract. -/
import Derived.Deep.DeepCutAuto
import Derived.Deep.DeepMust
import Derived.Test.YteoebfjhadmnbaaPSt11
namespace Go.Proofs.Yteoebfjhadmnbaa
open Go.RowKit
set_option maxHeartbeats 4000000
set_option linter.unusedVariables false
set_option linter.unusedSimpArgs false
theorem evAt_get {l : List Ev} {k : Nat} (h : k < l.length) : evAt l k = l[k] := by unfold evAt; rw [List.getD_eq_getElem?_getD, List.getElem?_eq_getElem h]; rfl
/-- an event in memory, cell by cell -/
theorem LiesV.ev {w : World} {A : Option Addr} {cp : Nat} {l : List Ev} (hL : LiesV w (.slice A l.length cp) l) {k : Nat} (hk : k < l.length) : EvWf (evAt l k) ∧ ∃ g o, A = some ⟨g, o, none⟩ ∧ g < w.heap.size ∧
    w.cell? ⟨g, o + k * 6, none⟩ = some (.int .i64 (evAt l k).th) ∧ w.cell? ⟨g, o + k * 6 + 1, none⟩ = some (.int .i64 (evAt l k).kd) ∧ w.cell? ⟨g, o + k * 6 + 2, none⟩ = some (.int .u64 (evAt l k).ad) ∧
    w.cell? ⟨g, o + k * 6 + 3, none⟩ = some (.int .u64 (evAt l k).wd) ∧ w.cell? ⟨g, o + k * 6 + 4, none⟩ = some (.bool (evAt l k).ow) ∧ w.cell? ⟨g, o + k * 6 + 5, none⟩ = some (.int .i64 (evAt l k).er) := by
  obtain ⟨A', cp', eA, hcp, hA0, hwf, hl48, hcl⟩ := hL
  rw [Value.slice.injEq] at eA
  obtain ⟨rfl, -, rfl⟩ := eA
  obtain ⟨g, o, rfl, hg, hc⟩ := hcl k hk
  rw [evAt_get hk]
  exact ⟨hwf _ (List.getElem_mem hk), g, o, rfl, hg, hc 0 (by decide), hc 1 (by decide), hc 2 (by decide), hc 3 (by decide), hc 4 (by decide), hc 5 (by decide)⟩
theorem LiesV.wf {w : World} {v : Value} {l : List Ev} (h : LiesV w v l) : ∀ e ∈ l, EvWf e := by obtain ⟨_, _, _, _, _, h, _⟩ := h; exact h
theorem LiesV.len {w : World} {v : Value} {l : List Ev} (h : LiesV w v l) : l.length * 48 ≤ 140737488351280 := by obtain ⟨_, _, _, _, _, _, h, _⟩ := h; omega
theorem own_new {s n c : Nat} : ∀ k, own (.slice (some ⟨s, 0, none⟩) n c) k → s ≤ k := fun k hk => by
  obtain rfl : s = k := by simpa [own, Value.ownBlock] using hk
  exact Nat.le_refl _
set_option maxRecDepth 100000 in
theorem check_b {w : World} {A : Option Addr} {cp : Nat} {l : List Ev} (hL : LiesV w (.slice A l.length cp) l) :
    Calls Try.prog 29 #[.slice A l.length cp] w fun x w' => x = .returned (.agg #[.int .i64 (odd l).1, .int .i64 (odd l).2]) ∧ Below w.heap.size w w' := by
  have B0 := Lib.hid (Blk.new w 30 #[.int .i64 0, .int .i64 0])
  have bel0 : Hid (Below w.heap.size w (w.alloc (.cells #[.int .i64 0, .int .i64 0] 30))) := Lib.hid ((Below.refl _ _).alloc (Nat.le_refl _) _)
  have C := Lib.hid (goOver_b (hL.below bel0.out (Nat.le_refl _)))
  clear hL
  obtain ⟨q1, q2, hq⟩ : ∃ q1 q2, odd l = (q1, q2) := ⟨_, _, rfl⟩
  rw [hq]
  dsimp only
  replace hq := Lib.hid hq
  go_enter Try.func29, Try.ntmps29
  go_wp2_with fail
  refine C.out.mono ?_
  rintro e w1 ⟨hb1, h⟩
  obtain ⟨p, o1, o2, rfl, ho⟩ : ∃ p o1 o2, e = .returned (.tuple #[.pointer p, .agg #[.int .i64 o1, .int .i64 o2]]) ∧ odd l = (o1, o2) := by
    rcases h with ⟨hok, b, m, tv, rfl, hLk⟩ | ⟨n, hn, hok, hw, rfl⟩
    · exact ⟨_, _, _, rfl, odd_ok hok⟩
    · exact ⟨_, _, _, rfl, odd_at hn hok hw⟩
  obtain ⟨rfl, rfl⟩ : q1 = o1 ∧ q2 = o2 := by have := hq.out.symm.trans ho; simpa using this
  have B1 := B0.out.below hb1 B0.out.lt
  have bel1 := bel0.out.trans (hb1.mono (by simp))
  have B2 := B1.alloc (.cells #[.int .i64 q1, .int .i64 q2] 30)
  have b0 := B2.cell 0
  have b1 := B2.cell 1
  have f0 := B2.frozen 0
  have f1 := B2.frozen 1
  simp only [List.getElem?_toArray, List.getElem?_cons_zero, List.getElem?_cons_succ] at b0 b1
  have hsz1 : w.heap.size ≤ w1.heap.size := bel1.size
  have hne : w.heap.size ≠ w1.heap.size := Nat.ne_of_lt B1.lt
  have hbel2 := Lib.hid (bel1.alloc hsz1 (.cells #[.int .i64 q1, .int .i64 q2] 30))
  clear bel1 hb1 bel0 C B2 B1 B0 ho hq
  go_wp2
  refine bodyPost_ret (v := .agg #[.int .i64 q1, .int .i64 q2]) (by simp [results, Try.results29, go_sem, b0, b1, f0, f1]) rfl ⟨rfl, ?_⟩
  exact (hbel2.out.setCell (Nat.le_refl _) _).setCell (Nat.le_refl _) _
/-- as many threads as there are numbers up to the greatest -/
def thrF (l : List Ev) : Nat → Int
  | 0 => 0
  | k + 1 => if 0 ≤ (evAt l k).th ∧ (evAt l k).th < 2147483648 then max (thrF l k) ((evAt l k).th + 1) else thrF l k
theorem thrF_bd (l : List Ev) : ∀ k, 0 ≤ thrF l k ∧ thrF l k ≤ 2147483648
  | 0 => by simp [thrF]
  | k + 1 => by
    have := thrF_bd l k
    unfold thrF
    split <;> omega
set_option maxRecDepth 100000 in
theorem threads_b {w : World} {A : Option Addr} {cp : Nat} {l : List Ev} (hL : LiesV w (.slice A l.length cp) l) :
    Calls Try.prog 30 #[.slice A l.length cp] w fun x w' => x = .returned (.int .i64 (thrF l l.length)) ∧ Below w.heap.size w w' := by
  have hlen := hL.len
  have hni : (l.length : Int) ≤ 9223372036854775807 := by omega
  replace hL := Lib.hid hL
  clear hlen
  go_enter Try.func30, Try.ntmps30
  go_wp2_with fail
  go_loopg [3, 8] l.length (fun gk c3 c8 wr => ∃ k : Nat, gk + k = l.length ∧ c3 = .int .i64 (thrF l k) ∧ c8 = .int .i64 (k : Int) ∧ Hid (Below w.heap.size w wr))
  case atStart => exact ⟨0, rfl, rfl, rfl, Lib.hid (Below.refl _ _)⟩
  case round =>
    obtain ⟨k, hgk, rfl, rfl, HW⟩ := hrel
    have HG := Lib.hid hgk
    clear hgk
    by_cases hk : k < l.length
    · obtain ⟨g, rfl⟩ : ∃ g, gk = g + 1 := ⟨gk - 1, by have := HG.out; omega⟩
      obtain ⟨-, gz, oz, rfl, -, d0, d1, d2, d3, d4, d5⟩ := (hL.out.below HW.out (Nat.le_refl _)).ev hk
      have hki : (k : Int) < l.length := by omega
      have hT : Hid (thrF l (k + 1) = if 0 ≤ (evAt l k).th ∧ (evAt l k).th < 2147483648 then max (thrF l k) ((evAt l k).th + 1) else thrF l k) := Lib.hid rfl
      obtain ⟨t1, t2⟩ := thrF_bd l k
      generalize thrF l k = tk at *
      generalize evAt l k = e at *
      obtain ⟨th, kd, ad, wd, ow, er⟩ := e
      dsimp only at *
      have HW2 := Lib.hid (HW.out.alloc HW.out.size (.cells #[.int .i64 th, .int .i64 kd, .int .u64 ad, .int .u64 wd, .bool ow, .int .i64 er] 27))
      by_cases hc : 0 ≤ th ∧ th < 2147483648
      · have hT2 := hT.out
        rw [if_pos hc] at hT2
        obtain ⟨h1, h2⟩ := hc
        replace hT2 := Lib.hid hT2
        clear hT
        go_wp2
        all_goals
          go_roundg g
          case measure => omega
          case rel => exact ⟨k + 1, by have := HG.out; omega, by rw [hT2.out]; exact congrArg (Value.int .i64) (by omega), by go_num, HW2⟩
      · have hT2 := hT.out
        rw [if_neg hc] at hT2
        have hc2 : (0 ≤ th ∧ ¬ th < 2147483648) ∨ ¬ 0 ≤ th := by omega
        replace hT2 := Lib.hid hT2
        clear hT hc
        rcases hc2 with ⟨h1, h2⟩ | h1
        all_goals
          go_wp2
          go_roundg g
          case measure => omega
          case rel => exact ⟨k + 1, by have := HG.out; omega, by rw [hT2.out], by go_num, HW2⟩
    · obtain rfl : k = l.length := by have := HG.out; omega
      clear hk
      go_wp2
      go_ret
      exact ⟨rfl, HW.out⟩
/-- an event's list with one event more -/
theorem wpList_ev {ops : Array Oper} {rest : List Oper} {o : Oper} {a : Act} {Q : Exit → Act → World → Prop} (wr : World) (hgd : o.guard = none) (s x : Operand)
    (ho : o.op = .call { callee := .builtin .append, args := #[s, x], argTypes := #[22, 22] })
    (v : Value) (l : List Ev) (y : Ev) (hs : a.eval s = v) (hl : Sl 27 6 encV wr v l) (hx : a.eval x = .slice (some ⟨wr.heap.size, 0, none⟩) 1 1) (hlen : (l.length + 1) * 48 ≤ 140737488355328)
    (h : ∀ A cap w', l.length + 1 ≤ cap → Sl 27 6 encV w' (.slice A (l.length + 1) cap) (l ++ [y]) → Fr (own v) wr (own (.slice A (l.length + 1) cap)) w' → wpList Try.prog ops Q rest (a.put o.dst (.slice A (l.length + 1) cap)) w') :
    wpList Try.prog ops Q (o :: rest) a (wr.alloc (.cells (encV y).toArray 27)) :=
  wpList_one (enc := encV) encV_len encV_one wr hgd s x 22 ho Try.underlying22 event_info rfl (by decide) v l y hs hl hx (by omega) hlen h
def ofN (l : List Ev) (t : Int) (k : Nat) : List Ev := ((List.range k).map (evAt l)).filter (fun e => e.th == t)
theorem ofN_one (l : List Ev) (t : Int) (k : Nat) : ofN l t (k + 1) = if (evAt l k).th = t then ofN l t k ++ [evAt l k] else ofN l t k := by
  unfold ofN
  rw [List.range_succ, List.map_append, List.filter_append]
  by_cases h : (evAt l k).th = t
  · simp [h]
  · simp [h]
theorem ofN_len (l : List Ev) (t : Int) (k : Nat) : (ofN l t k).length ≤ k := by
  unfold ofN
  exact Nat.le_trans (List.length_filter_le _ _) (by simp)
set_option maxRecDepth 100000 in
theorem of_b {w : World} {A : Option Addr} {cp : Nat} {l : List Ev} (hL : LiesV w (.slice A l.length cp) l) (t : Int) :
    Calls Try.prog 31 #[.slice A l.length cp, .int .i64 t] w fun x w' => ∃ v, x = .returned v ∧ Sl 27 6 encV w' v (ofN l t l.length) ∧ Below w.heap.size w w' ∧ (∀ k, own v k → w.heap.size ≤ k) := by
  have hlen := Lib.hid hL.len
  have hni : (l.length : Int) ≤ 9223372036854775807 := by have := hlen.out; omega
  replace hL := Lib.hid hL
  go_enter Try.func31, Try.ntmps31
  have hN := Lib.hid (Sl.new (enc := encV) (e := 27) encV_len w [] (by simp))
  have hW0 := Lib.hid ((Below.refl w.heap.size w).alloc (Nat.le_refl _) (.cells #[] 27))
  go_wp2_with fail
  go_loopg [5, 11] l.length (fun gk c5 c11 wr => ∃ (k : Nat) (B : Option Addr) (cb : Nat), gk + k = l.length ∧ c5 = .slice B (ofN l t k).length cb ∧ c11 = .int .i64 (k : Int) ∧ Hid (Sl 27 6 encV wr (.slice B (ofN l t k).length cb) (ofN l t k)) ∧ Hid (Below w.heap.size w wr) ∧ Hid (∀ k', own (.slice B (ofN l t k).length cb) k' → w.heap.size ≤ k'))
  case atStart => exact ⟨0, some ⟨w.heap.size, 0, none⟩, 0, rfl, rfl, rfl, hN, hW0, Lib.hid own_new⟩
  case round =>
    obtain ⟨k, B, cb, hgk, rfl, rfl, HS, HW, HU⟩ := hrel
    have HG := Lib.hid hgk
    clear hgk hN hW0
    by_cases hk : k < l.length
    · obtain ⟨g, rfl⟩ : ∃ g, gk = g + 1 := ⟨gk - 1, by have := HG.out; omega⟩
      obtain ⟨-, gz, oz, rfl, -, d0, d1, d2, d3, d4, d5⟩ := (hL.out.below HW.out (Nat.le_refl _)).ev hk
      have hki : (k : Int) < l.length := by omega
      have hT := Lib.hid (ofN_one l t k)
      have hol := ofN_len l t k
      have hol2 : Hid (((ofN l t k).length + 1) * 48 ≤ 140737488355328) := Lib.hid (by have := hlen.out; omega)
      clear hol
      generalize ofN l t k = ok at *
      generalize evAt l k = e at *
      obtain ⟨th, kd, ad, wd, ow, er⟩ := e
      dsimp only at *
      have HW2 := Lib.hid (HW.out.alloc HW.out.size (.cells #[.int .i64 th, .int .i64 kd, .int .u64 ad, .int .u64 wd, .bool ow, .int .i64 er] 27))
      have HS2 := Lib.hid (HS.out.alloc (.cells #[.int .i64 th, .int .i64 kd, .int .u64 ad, .int .u64 wd, .bool ow, .int .i64 er] 27))
      by_cases hc : th = t
      · have hT2 := hT.out
        rw [if_pos hc] at hT2
        have hcd : (th == t) = true := by simp [hc]
        replace hT2 := Lib.hid hT2
        replace hc := Lib.hid hc
        clear hT
        have hE := Blk.new wr 27 #[.int .i64 th, .int .i64 kd, .int .u64 ad, .int .u64 wd, .bool ow, .int .i64 er]
        have e0 := hE.cell 0
        have e1 := hE.cell 1
        have e2 := hE.cell 2
        have e3 := hE.cell 3
        have e4 := hE.cell 4
        have e5 := hE.cell 5
        simp only [List.getElem?_toArray, List.getElem?_cons_zero, List.getElem?_cons_succ] at e0 e1 e2 e3 e4 e5
        go_upto_region 6 with (fail)
        clear hE
        generalize wr.alloc (.cells #[.int .i64 th, .int .i64 kd, .int .u64 ad, .int .u64 wd, .bool ow, .int .i64 er] 27) = wz at *
        generalize wr.heap.size = gb at *
        go_wp2_with (at_builtin; refine wpList_ev wz rfl (.tmp 19) (.tmp 21) rfl (.slice B ok.length cb) ok ⟨th, kd, ad, wd, ow, er⟩ rfl HS2.out rfl hol2.out ?_; intro A2 c2 w2 hc2 hv2 hf2)
        have HW3 := Lib.hid (HW2.out.trans (hf2.below HU.out HW2.out.size))
        have HU3 := Lib.hid (hf2.ge HU.out HW2.out.size)
        go_roundg g
        case measure => omega
        case rel =>
          refine ⟨k + 1, A2, c2, by have := HG.out; omega, ?_, by go_num, ?_, HW3, ?_⟩
          · rw [hT2.out, List.length_append]; rfl
          · rw [hT2.out, List.length_append]; exact Lib.hid hv2
          · rw [hT2.out, List.length_append]; exact HU3
      · have hT2 := hT.out
        rw [if_neg hc] at hT2
        have hcd : (th == t) = false := by simp [hc]
        replace hT2 := Lib.hid hT2
        replace hc := Lib.hid hc
        clear hT
        go_wp2
        go_roundg g
        case measure => omega
        case rel => exact ⟨k + 1, B, cb, by have := HG.out; omega, by rw [hT2.out], by go_num, by rw [hT2.out]; exact HS2, HW2, by rw [hT2.out]; exact HU⟩
    · obtain rfl : k = l.length := by have := HG.out; omega
      clear hk
      go_wp2
      go_ret
      exact ⟨_, rfl, HS.out, HW.out, HU.out⟩
end Go.Proofs.Yteoebfjhadmnbaa
/- events.Commits by contract, of a history that can be. -/
namespace Go.Proofs.Yteoebfjhadmnbaa
open Go.RowKit
set_option maxHeartbeats 4000000
set_option linter.unusedVariables false
set_option linter.unusedSimpArgs false
def encZ (z : Int) : List Value := [.int .i64 z]
theorem encZ_len (n : Int) : (encZ n).length = 1 := rfl
theorem encZ_one (n : Int) : ∀ u ∈ encZ n, u.oneCell' = true := by
  intro u hu
  obtain rfl : u = .int .i64 n := by simpa [encZ] using hu
  rfl
theorem int_info : (Try.prog.info? 3).map (fun i => (i.zero, i.size, i.bytes)) = some (some (.int .i64 0), 1, 8) := by kernel_rfl
/-- a list of whole numbers of the call's own -/
abbrev Zl (w : World) (v : Value) (l : List Int) : Prop := Sl 3 1 encZ w v l
theorem wpList_int {ops : Array Oper} {rest : List Oper} {o : Oper} {a : Act} {Q : Exit → Act → World → Prop} (wr : World) (hgd : o.guard = none) (s x : Operand)
    (ho : o.op = .call { callee := .builtin .append, args := #[s, x], argTypes := #[33, 33] })
    (v : Value) (l : List Int) (y : Int) (hs : a.eval s = v) (hl : Zl wr v l) (hx : a.eval x = .slice (some ⟨wr.heap.size, 0, none⟩) 1 1) (hlen : (l.length + 1) * 8 ≤ 140737488355328)
    (h : ∀ A cap w', l.length + 1 ≤ cap → Zl w' (.slice A (l.length + 1) cap) (l ++ [y]) → Fr (own v) wr (own (.slice A (l.length + 1) cap)) w' → wpList Try.prog ops Q rest (a.put o.dst (.slice A (l.length + 1) cap)) w') :
    wpList Try.prog ops Q (o :: rest) a (wr.alloc (.cells #[.int .i64 y] 3)) :=
  wpList_one (enc := encZ) encZ_len encZ_one wr hgd s x 33 ho Try.underlying33 int_info rfl (by decide) v l y hs hl hx (by omega) hlen h
/-- the places of the commits among the first k events -/
def commF (l : List Ev) (k : Nat) : List Int := ((List.range k).filter (fun i => (evAt l i).kd == 6)).map fun (i : Nat) => (i : Int)
theorem commF_one (l : List Ev) (k : Nat) : commF l (k + 1) = if (evAt l k).kd = 6 then commF l k ++ [(k : Int)] else commF l k := by
  unfold commF
  rw [List.range_succ, List.filter_append, List.map_append]
  by_cases h : (evAt l k).kd = 6
  · simp [h]
  · simp [h]
theorem commF_len (l : List Ev) (k : Nat) : (commF l k).length ≤ k := by
  unfold commF
  rw [List.length_map]
  exact Nat.le_trans (List.length_filter_le _ _) (by simp)
theorem commF_bd (l : List Ev) (k : Nat) : ∀ x ∈ commF l k, 0 ≤ x ∧ x < k := by
  unfold commF
  intro x hx
  obtain ⟨i, hi, rfl⟩ := List.mem_map.1 hx
  have := List.mem_range.1 (List.mem_filter.1 hi).1
  omega
set_option maxRecDepth 100000 in
theorem commits_b {w : World} {A : Option Addr} {cp : Nat} {l : List Ev} (hL : LiesV w (.slice A l.length cp) l) (hok : okTo l l.length) :
    Calls Try.prog 33 #[.slice A l.length cp] w fun x w' => ∃ v, x = .returned (.tuple #[v, .agg #[.int .i64 (-1), .int .i64 0]]) ∧ Zl w' v (commF l l.length) ∧ Below w.heap.size w w' ∧ (∀ k, own v k → w.heap.size ≤ k) := by
  have hlen := Lib.hid hL.len
  have hni : (l.length : Int) ≤ 9223372036854775807 := by have := hlen.out; omega
  have B0 := Lib.hid (Blk.new w 30 #[.int .i64 0, .int .i64 0])
  have bel0 : Hid (Below w.heap.size w (w.alloc (.cells #[.int .i64 0, .int .i64 0] 30))) := Lib.hid ((Below.refl _ _).alloc (Nat.le_refl _) _)
  have C := Lib.hid (check_b (hL.below bel0.out (Nat.le_refl _)))
  rw [odd_ok hok] at C
  replace hL := Lib.hid hL
  clear hok
  go_enter Try.func33, Try.ntmps33
  go_wp2_with fail
  refine C.out.mono ?_
  rintro e w1 ⟨rfl, hb1⟩
  dsimp only
  have B1 := B0.out.below hb1 B0.out.lt
  have bel1 := bel0.out.trans (hb1.mono (by simp))
  have B2 := Lib.hid (B1.alloc (.cells #[.int .i64 (-1), .int .i64 0] 30))
  have D2 := Lib.hid (Blk.new w1 30 #[.int .i64 (-1), .int .i64 0])
  have bel2 := Lib.hid (bel1.alloc bel1.size (.cells #[.int .i64 (-1), .int .i64 0] 30))
  have hlt := B1.lt
  have d1 := D2.out.cell 1
  simp only [List.getElem?_toArray, List.getElem?_cons_zero, List.getElem?_cons_succ] at d1
  clear B1 bel1 B0 bel0 C hb1
  go_upto_region 4 with (fail)
  generalize w1.alloc (.cells #[.int .i64 (-1), .int .i64 0] 30) = w2 at *
  generalize w1.heap.size = b4 at *
  have hN := Lib.hid (Sl.new (enc := encZ) (e := 3) encZ_len w2 [] (by simp))
  have B3 := Lib.hid (B2.out.alloc (.cells #[] 3))
  have D3 := Lib.hid (D2.out.alloc (.cells #[] 3))
  have bel3 := Lib.hid (bel2.out.alloc bel2.out.size (.cells #[] 3))
  have hz2 := bel2.out.size
  have hb4 := D2.out.lt
  clear d1 B2 D2
  go_wp2_with fail
  go_loopg [5, 17] l.length (fun gk c5 c17 wr => ∃ (k : Nat) (B : Option Addr) (cb : Nat), gk + k = l.length ∧ c5 = .slice B (commF l k).length cb ∧ c17 = .int .i64 (k : Int) ∧ Hid (Zl wr (.slice B (commF l k).length cb) (commF l k)) ∧ Hid (Below w.heap.size w wr) ∧ Hid (∀ k', own (.slice B (commF l k).length cb) k' → b4 < k') ∧ Hid (Blk wr w.heap.size 30 #[.int .i64 0, .int .i64 0]) ∧ Hid (Blk wr b4 30 #[.int .i64 (-1), .int .i64 0]))
  case atStart => exact ⟨0, some ⟨w2.heap.size, 0, none⟩, 0, rfl, rfl, rfl, hN, bel3, Lib.hid (fun k' hk' => by have := own_new k' hk'; omega), B3, D3⟩
  case round =>
    obtain ⟨k, B, cb, hgk, rfl, rfl, HS, HW, HU, HB, HD⟩ := hrel
    have HG := Lib.hid hgk
    clear hgk hN bel3 B3 D3 bel2
    by_cases hk : k < l.length
    · obtain ⟨g, rfl⟩ : ∃ g, gk = g + 1 := ⟨gk - 1, by have := HG.out; omega⟩
      obtain ⟨-, gz, oz, rfl, -, d0, d1, d2, d3, d4, d5⟩ := (hL.out.below HW.out (Nat.le_refl _)).ev hk
      have hki : (k : Int) < l.length := by omega
      have hT := Lib.hid (commF_one l k)
      have hol := commF_len l k
      have hol2 : Hid (((commF l k).length + 1) * 8 ≤ 140737488355328) := Lib.hid (by have := hlen.out; omega)
      clear hol
      generalize commF l k = ok at *
      generalize evAt l k = e at *
      obtain ⟨th, kd, ad, wd, ow, er⟩ := e
      dsimp only at *
      have HW2 := Lib.hid (HW.out.alloc HW.out.size (.cells #[.int .i64 th, .int .i64 kd, .int .u64 ad, .int .u64 wd, .bool ow, .int .i64 er] 27))
      have HS2 := Lib.hid (HS.out.alloc (.cells #[.int .i64 th, .int .i64 kd, .int .u64 ad, .int .u64 wd, .bool ow, .int .i64 er] 27))
      have HB2 := Lib.hid (HB.out.alloc (.cells #[.int .i64 th, .int .i64 kd, .int .u64 ad, .int .u64 wd, .bool ow, .int .i64 er] 27))
      have HD2 := Lib.hid (HD.out.alloc (.cells #[.int .i64 th, .int .i64 kd, .int .u64 ad, .int .u64 wd, .bool ow, .int .i64 er] 27))
      by_cases hc : kd = 6
      · have hT2 := hT.out
        rw [if_pos hc] at hT2
        have hcd : (kd == 6) = true := by simp [hc]
        replace hT2 := Lib.hid hT2
        replace hc := Lib.hid hc
        clear hT
        go_upto_region 9 with (fail)
        generalize wr.alloc (.cells #[.int .i64 th, .int .i64 kd, .int .u64 ad, .int .u64 wd, .bool ow, .int .i64 er] 27) = wz at *
        go_wp2_with (at_builtin; refine wpList_int wz rfl (.tmp 25) (.tmp 27) rfl (.slice B ok.length cb) ok (k : Int) rfl HS2.out rfl hol2.out ?_; intro A2 c2 w2 hc2 hv2 hf2)
        have HU2 : ∀ k', own (.slice B ok.length cb) k' → w.heap.size ≤ k' := fun k' h => by have := HU.out k' h; omega
        have HW3 := Lib.hid (HW2.out.trans (hf2.below HU2 HW2.out.size))
        have HU3 : Hid (∀ k', own (.slice A2 (ok.length + 1) c2) k' → b4 < k') := Lib.hid (fun k' h => (hf2.new k' h).elim (HU.out k') fun h1 => by have := HD2.out.lt; omega)
        have HB3 := Lib.hid (hf2.blk HB2.out fun h => by have := HU.out _ h; omega)
        have HD3 := Lib.hid (hf2.blk HD2.out fun h => by have := HU.out _ h; omega)
        go_roundg g
        case measure => omega
        case rel =>
          refine ⟨k + 1, A2, c2, by have := HG.out; omega, ?_, by go_num, ?_, HW3, ?_, HB3, HD3⟩
          · rw [hT2.out, List.length_append]; rfl
          · rw [hT2.out, List.length_append]; exact Lib.hid hv2
          · rw [hT2.out, List.length_append]; exact HU3
      · have hT2 := hT.out
        rw [if_neg hc] at hT2
        have hcd : (kd == 6) = false := by simp [hc]
        replace hT2 := Lib.hid hT2
        replace hc := Lib.hid hc
        clear hT
        go_wp2
        go_roundg g
        case measure => omega
        case rel => exact ⟨k + 1, B, cb, by have := HG.out; omega, by rw [hT2.out], by go_num, by rw [hT2.out]; exact HS2, HW2, by rw [hT2.out]; exact HU, HB2, HD2⟩
    · obtain rfl : k = l.length := by have := HG.out; omega
      clear hk
      have b0 := HB.out.cell 0
      have b1 := HB.out.cell 1
      have f0 := HB.out.frozen 0
      have f1 := HB.out.frozen 1
      have d0 := HD.out.cell 0
      have d1 := HD.out.cell 1
      simp only [List.getElem?_toArray, List.getElem?_cons_zero, List.getElem?_cons_succ] at b0 b1 d0 d1
      have hne : w.heap.size ≠ b4 := by omega
      have hown : ¬ own (.slice B (commF l l.length).length cb) w.heap.size := fun h => by have := HU.out _ h; omega
      replace hown := Lib.hid hown
      go_wp2
      refine wp_region_mixH (fun W' => W'.cell? ⟨b4, 0, none⟩ = some (.int .i64 (-1)) ∧ W'.cell? ⟨b4, 1, none⟩ = some (.int .i64 0)) [3, 0, 3, 2] (List.range 4) (by kernel_rfl) (by kernel_rfl) (fun _ _ h => h) ⟨d0, d1⟩ ?_
      ((first | refine wpMixH_pure rfl rfl (fun K hK => ?_) | refine wpMixH_loc rfl rfl (fun K hK => ?_) | refine wpMixH_any rfl rfl (fun K hK => ?_)); go_simp; refine hK _ _ ?_; clear hK K)
      (refine wpMixH_any rfl rfl (fun K hK => ?_); rw [if_pos (by go_simp)]; apply Exists.intro; refine And.intro (fun w2 hS2 => ?_) (hK _ _ ?_); (focus (obtain ⟨hs0, hs1⟩ := hS2; go_simp; rfl)); clear hK K)
      ((first | refine wpMixH_pure rfl rfl (fun K hK => ?_) | refine wpMixH_loc rfl rfl (fun K hK => ?_) | refine wpMixH_any rfl rfl (fun K hK => ?_)); go_simp; refine hK _ _ ?_; clear hK K)
      refine wpMixH_loud rfl rfl (fun n1 K hK => ?_)
      go_wp2
      refine hK _ _ (fun h => (Bool.false_ne_true ((Eq.symm (by kernel_rfl)).trans h)).elim) ?_; clear hK K
      refine wpMixH_nil (fun n2 => ?_)
      go_wp2
      have hf := HW.out
      refine bodyPost_ret (v := .tuple #[.slice B (commF l l.length).length cb, .agg #[.int .i64 (-1), .int .i64 0]]) (by simp [results, Try.results33, go_sem, b0, b1, f0, f1]) rfl ⟨_, rfl, ?_, ?_, fun k' h => by have := HU.out k' h; omega⟩
      · exact Sl.drewN (Sl.set (Sl.set (Sl.drewN HS.out _) (p := ⟨w.heap.size, 0, none⟩) hown.out _) (p := ⟨w.heap.size, 1, none⟩) hown.out _) _
      · (repeat (first | with_reducible exact (HW).out | (with_reducible refine below_drewNs ?_ _) | (with_reducible refine Below.setCell ?_ ?_ _; rotate_left; focus (first | (with_reducible exact Nat.le_refl _) | (have hsz_ := (HW).out.size; simp only; omega))) | (with_reducible refine Below.alloc ?_ ?_ _; rotate_left; focus (first | (with_reducible exact (HW).out.size) | (have hsz_ := (HW).out.size; simp; omega)))))
end Go.Proofs.Yteoebfjhadmnbaa
/- Waits, plain: where each attempt in a row began; what stands in memory on the way. -/
namespace Go.Proofs.Yteoebfjhadmnbaa
open Go.RowKit
set_option maxHeartbeats 1000000
set_option linter.unusedVariables false
set_option linter.unusedSimpArgs false
structure WS where
  fr : Nat → Int
  st : Int → Option Int
def wtF1 (p : WS) (t : Tr) : Nat → Int := if p.fr t.th.toNat < 0 then (fun j => if j = t.th.toNat then (t.first : Int) else p.fr j) else p.fr
def wtStep (p : WS) (t : Tr) : WS :=
  ⟨if t.how ≠ 7 then (fun j => if j = t.th.toNat then -1 else wtF1 p t j) else wtF1 p t, if t.how = 6 then (fun k => if k = (t.last : Int) then some (wtF1 p t t.th.toNat) else p.st k) else p.st⟩
def ws0 : WS := ⟨fun _ => -1, fun _ => none⟩
def wtF (ts : List Tr) (k : Nat) : WS := (ts.take k).foldl wtStep ws0
theorem wtF_one {ts : List Tr} {k : Nat} (h : k < ts.length) : wtF ts (k + 1) = wtStep (wtF ts k) ts[k] := by
  unfold wtF
  rw [List.take_add_one, List.getElem?_eq_getElem h, List.foldl_append]
  rfl
/-- an attempt's numbers are small -/
def TrOk (N : Nat) (t : Tr) : Prop := (0 ≤ t.th ∧ t.th < 8) ∧ t.first ≤ N ∧ t.last ≤ N
structure WsOk (N : Nat) (p : WS) : Prop where
  fr : ∀ j, -1 ≤ p.fr j ∧ p.fr j ≤ N
  st : ∀ k v, p.st k = some v → 0 ≤ v ∧ v ≤ N
theorem wtF1_bd {N : Nat} {p : WS} {t : Tr} (h : WsOk N p) (ht : TrOk N t) : (∀ j, -1 ≤ wtF1 p t j ∧ wtF1 p t j ≤ N) ∧ 0 ≤ wtF1 p t t.th.toNat := by
  obtain ⟨_, h2, h3⟩ := ht
  have hf := h.fr
  unfold wtF1
  constructor
  · intro j
    have := hf j
    split
    · dsimp only
      split <;> omega
    · omega
  · have := hf t.th.toNat
    split
    · simp
    · omega
theorem wsOk_step {N : Nat} {p : WS} {t : Tr} (h : WsOk N p) (ht : TrOk N t) : WsOk N (wtStep p t) := by
  obtain ⟨k1, k2⟩ := wtF1_bd h ht
  unfold wtStep
  constructor
  · intro j
    have := k1 j
    dsimp only
    split
    · dsimp only
      split <;> omega
    · omega
  · intro k v hv
    dsimp only at hv
    split at hv
    · dsimp only at hv
      split at hv
      · injection hv with hv
        have := k1 t.th.toNat
        omega
      · exact h.st k v hv
    · exact h.st k v hv
theorem wsOk_F {N : Nat} {ts : List Tr} (h : ∀ t ∈ ts, TrOk N t) : ∀ k, k ≤ ts.length → WsOk N (wtF ts k)
  | 0, _ => ⟨fun j => by simp [wtF, ws0], fun k v hv => by simp [wtF, ws0] at hv⟩
  | k + 1, hk => by
    rw [wtF_one (by omega)]
    exact wsOk_step (wsOk_F h k (by omega)) (h _ (List.getElem_mem _))
theorem tries_fl (l : List Ev) : ∀ n, ∀ x ∈ (rn l n).tries, x.first ≤ n ∧ x.last ≤ n
  | 0, x, hx => by simp [rn, St.zero] at hx
  | n + 1, x, hx => by
    have ih := tries_fl l n
    have h1 : ∀ y ∈ (if (evAt l n).kd = 1 then (rn l n).tries ++ [Tr.new (evAt l n).th n] else (rn l n).tries), y.first ≤ n + 1 ∧ y.last ≤ n + 1 := fun y hy => by
      split at hy
      · rcases List.mem_append.1 hy with h | h
        · have := ih y h; omega
        · obtain rfl : y = Tr.new (evAt l n).th n := by simpa using h
          simp [Tr.new]
      · have := ih y hy; omega
    simp only [rn, take] at hx
    split at hx
    · rcases mem_modify hx with h | ⟨y, hy, rfl⟩
      · exact h1 x h
      · have := h1 y hy
        simp [updT]; omega
    · exact h1 x hx
theorem tries_ok {l : List Ev} (hl : ∀ e ∈ l, EvWf e) (hok : okTo l l.length) : ∀ t ∈ (rn l l.length).tries, TrOk l.length t := fun t ht => by
  have hI := inv_rn hl (Nat.le_refl _) hok
  obtain ⟨q, hq⟩ := List.mem_iff_getElem?.1 ht
  obtain ⟨a, h8, e, _⟩ := hI.cl q t hq
  exact ⟨⟨by omega, by omega⟩, tries_fl l _ t ht⟩
/-- a wait at a commit -/
def waitAt (p : WS) (a : Int) : Int := a - (p.st a).getD 0 + 1
def waitsF (l : List Ev) : List Int := (commF l l.length).map (waitAt (wtF (rn l l.length).tries (rn l l.length).tries.length))
/-- what stands in memory: the result's box, the look's, the array of where each thread's row began, the map, the attempts -/
structure WtM (w0 w : World) (b5 b6 bm : Nat) (tv : Value) (ts : List Tr) (p : WS) (n : Nat) : Prop where
  B0 : Blk w w0.heap.size 30 #[.int .i64 0, .int .i64 0]
  B5 : Blk w b5 30 #[.int .i64 (-1), .int .i64 0]
  B6 : Blk w b6 71 (ofF 8 fun i => .int .i64 (p.fr i))
  M : Mp w bm .i64 n (fun k => (p.st k).map (.int .i64))
  T : Sl 74 7 encT w tv ts
  bel : Below w0.heap.size w0 w
  o5 : w0.heap.size < b5
  o6 : b5 < b6
  om : b6 < bm
  ot : ∀ k, own tv k → w0.heap.size < k ∧ k < b5
section
variable {w0 w w' : World} {b5 b6 bm n : Nat} {tv : Value} {ts : List Tr} {p : WS}
theorem WtM.alloc (h : WtM w0 w b5 b6 bm tv ts p n) (o : Obj) : WtM w0 (w.alloc o) b5 b6 bm tv ts p n :=
  ⟨h.B0.alloc o, h.B5.alloc o, h.B6.alloc o, h.M.alloc o, h.T.alloc o, h.bel.alloc h.bel.size o, h.o5, h.o6, h.om, h.ot⟩
theorem WtM.drewN (h : WtM w0 w b5 b6 bm tv ts p n) (m : Nat) : WtM w0 (w.drewN m) b5 b6 bm tv ts p n :=
  ⟨h.B0.drewN m, h.B5.drewN m, h.B6.drewN m, h.M.drewN m, h.T.drewN m, below_drewNs h.bel m, h.o5, h.o6, h.om, h.ot⟩
theorem WtM.below (h : WtM w0 w b5 b6 bm tv ts p n) (hb : Below w.heap.size w w') : WtM w0 w' b5 b6 bm tv ts p n :=
  ⟨h.B0.below hb h.B0.lt, h.B5.below hb h.B5.lt, h.B6.below hb h.B6.lt, h.M.keep (hb.block _ h.M.lt), h.T.keep fun k hk => hb.block k (h.T.lt k hk), h.bel.trans (hb.mono h.bel.size), h.o5, h.o6, h.om, h.ot⟩
theorem WtM.belowB {B : Nat} (h : WtM w0 w b5 b6 bm tv ts p n) (hb : Below B w w') (hB : bm < B) : WtM w0 w' b5 b6 bm tv ts p n := by
  have o5 := h.o5
  have o6 := h.o6
  have om := h.om
  exact ⟨h.B0.below hb (by omega), h.B5.below hb (by omega), h.B6.below hb (by omega), h.M.keep (hb.block _ hB), h.T.keep fun k hk => hb.block k (by have := h.ot k hk; omega), h.bel.trans (hb.mono (by omega)), o5, o6, om, h.ot⟩
theorem WtM.setA (h : WtM w0 w b5 b6 bm tv ts p n) (i : Nat) (v : Int) : WtM w0 (w.setCell ⟨b6, i, none⟩ (.int .i64 v)) b5 b6 bm tv ts ⟨fun j => if j = i then v else p.fr j, p.st⟩ n := by
  have o5 := h.o5
  have o6 := h.o6
  have om := h.om
  refine ⟨h.B0.far (by show _ ≠ b6; omega) _, h.B5.far (by show _ ≠ b6; omega) _, ?_, h.M.far (by show _ ≠ b6; omega) _, h.T.set (fun hk => by have := h.ot _ hk; simp only at this; omega) _, h.bel.setCell (by show _ ≤ b6; omega) _, o5, o6, om, h.ot⟩
  exact (h.B6.fset i (.int .i64 v)).fcongr fun j hj => by dsimp only; split <;> rfl
theorem WtM.put (h : WtM w0 w b5 b6 bm tv ts p n) {a v : Int} (hM : Mp w' bm .i64 (n + 1) (fun k => if k = a then some (.int .i64 v) else (p.st k).map (.int .i64))) (hg : w.grownBy w' (some bm)) : WtM w0 w' b5 b6 bm tv ts ⟨p.fr, fun k => if k = a then some v else p.st k⟩ (n + 1) := by
  have o5 := h.o5
  have o6 := h.o6
  have om := h.om
  refine ⟨h.B0.grown hg (by simp; omega), h.B5.grown hg (by simp; omega), h.B6.grown hg (by simp; omega), hM.congr fun k => by dsimp only; split <;> rfl, h.T.keep fun k hk => hg.block k (h.T.lt k hk) (by have := h.ot k hk; simp; omega), below_grown h.bel hg (by omega) h.M.lt, o5, o6, om, h.ot⟩
end
end Go.Proofs.Yteoebfjhadmnbaa
/- stats.Waits by contract, of a history that can be. -/
namespace Go.Proofs.Yteoebfjhadmnbaa
open Go.RowKit
set_option maxHeartbeats 4000000
set_option linter.unusedVariables false
set_option linter.unusedSimpArgs false
set_option maxRecDepth 100000 in
theorem waits_ok {w : World} {A : Option Addr} {cp : Nat} {l : List Ev} (hL : LiesV w (.slice A l.length cp) l) (hok : okTo l l.length) :
    Calls Try.prog 8 #[.slice A l.length cp] w fun x w' => ∃ v, x = .returned (.tuple #[v, .agg #[.int .i64 (-1), .int .i64 0]]) ∧ Zl w' v (waitsF l) ∧ Below w.heap.size w w' ∧ (∀ k, own v k → w.heap.size ≤ k) := by
  have hlen := Lib.hid hL.len
  have hTO := Lib.hid (tries_ok hL.wf hok)
  have B0 := Lib.hid (Blk.new w 30 #[.int .i64 0, .int .i64 0])
  have bel0 : Hid (Below w.heap.size w (w.alloc (.cells #[.int .i64 0, .int .i64 0] 30))) := Lib.hid ((Below.refl _ _).alloc (Nat.le_refl _) _)
  have C := Lib.hid (tries_b (hL.below bel0.out (Nat.le_refl _)))
  have HCM := Lib.hid (fun (w' : World) (hb : Below w.heap.size w w') => commits_b (hL.below hb (Nat.le_refl _)) hok)
  obtain ⟨ts, hts⟩ : ∃ ts, (rn l l.length).tries = ts := ⟨_, rfl⟩
  have hwf : Hid (waitsF l = (commF l l.length).map (waitAt (wtF ts ts.length))) := Lib.hid (by unfold waitsF; rw [hts])
  have hnt : (ts.length : Int) ≤ 9223372036854775807 := by
    have h1 := (inv_rn hL.wf (Nat.le_refl _) hok).bd.len
    rw [hts] at h1
    have := hlen.out
    omega
  rw [hts] at hTO C
  replace hok := Lib.hid hok
  replace hts := Lib.hid hts
  clear hL
  go_enter Try.func8, Try.ntmps8
  go_wp2_with fail
  refine C.out.mono ?_
  rintro e w1 ⟨hb1, (⟨-, tv, rfl, hS, hu⟩ | ⟨n, hn, -, hw, rfl⟩)⟩
  rotate_left
  · exact absurd (hok.out n hn) hw
  have B1 := B0.out.below hb1 B0.out.lt
  have bel1 := bel0.out.trans (hb1.mono (by simp))
  have D2 := Lib.hid (Blk.new w1 30 #[.int .i64 (-1), .int .i64 0])
  have hlt := B1.lt
  have d1 := D2.out.cell 1
  simp only [List.getElem?_toArray, List.getElem?_cons_zero, List.getElem?_cons_succ] at d1
  have hlen7 := hS.shape
  obtain ⟨At, ct, rfl, hct⟩ := hlen7
  clear hok bel0 B0 C
  go_upto_region 4 with (fail)
  have hU := Lib.hid (fun k hk => (show w.heap.size < k ∧ k < w1.heap.size from ⟨by have := hu k hk; simp at this; omega, hS.lt k hk⟩))
  have B2 := Lib.hid ((B1.alloc (.cells #[.int .i64 (-1), .int .i64 0] 30)).alloc (.cells #[.int .i64 0, .int .i64 0, .int .i64 0, .int .i64 0, .int .i64 0, .int .i64 0, .int .i64 0, .int .i64 0] 71))
  have D3 := Lib.hid (D2.out.alloc (.cells #[.int .i64 0, .int .i64 0, .int .i64 0, .int .i64 0, .int .i64 0, .int .i64 0, .int .i64 0, .int .i64 0] 71))
  have S2 := Lib.hid ((hS.alloc (.cells #[.int .i64 (-1), .int .i64 0] 30)).alloc (.cells #[.int .i64 0, .int .i64 0, .int .i64 0, .int .i64 0, .int .i64 0, .int .i64 0, .int .i64 0, .int .i64 0] 71))
  have E2 : Hid (Blk ((w1.alloc (.cells #[.int .i64 (-1), .int .i64 0] 30)).alloc (.cells #[.int .i64 0, .int .i64 0, .int .i64 0, .int .i64 0, .int .i64 0, .int .i64 0, .int .i64 0, .int .i64 0] 71)) (w1.heap.size + 1) 71 (ofF 8 fun i => .int .i64 (if i < 0 then -1 else 0))) := Lib.hid (by
    have := Blk.new (w1.alloc (.cells #[.int .i64 (-1), .int .i64 0] 30)) 71 #[.int .i64 0, .int .i64 0, .int .i64 0, .int .i64 0, .int .i64 0, .int .i64 0, .int .i64 0, .int .i64 0]
    rw [World.size_alloc] at this
    exact this)
  have bel2 := Lib.hid ((bel1.alloc bel1.size (.cells #[.int .i64 (-1), .int .i64 0] 30)).alloc (by have := bel1.size; simp; omega) (.cells #[.int .i64 0, .int .i64 0, .int .i64 0, .int .i64 0, .int .i64 0, .int .i64 0, .int .i64 0, .int .i64 0] 71))
  clear B1 bel1 D2 hS hu d1 hb1
  go_wp2_with fail
  generalize (w1.alloc (.cells #[.int .i64 (-1), .int .i64 0] 30)).alloc (.cells #[.int .i64 0, .int .i64 0, .int .i64 0, .int .i64 0, .int .i64 0, .int .i64 0, .int .i64 0, .int .i64 0] 71) = w2 at *
  generalize w1.heap.size = b5 at *
  generalize hb6 : b5 + 1 = b6 at *
  have hlt6 : b5 < b6 := by omega
  replace hb6 := Lib.hid hb6
  go_loopg [25] 8 (fun gk c25 wr => ∃ j : Nat, gk + j = 8 ∧ c25 = .int .i64 (j : Int) ∧ Hid (Blk wr w.heap.size 30 #[.int .i64 0, .int .i64 0]) ∧ Hid (Blk wr b5 30 #[.int .i64 (-1), .int .i64 0]) ∧ Hid (Sl 74 7 encT wr (.slice At ts.length ct) ts) ∧ Hid (Blk wr b6 71 (ofF 8 fun i => .int .i64 (if i < j then -1 else 0))) ∧ Hid (Below w.heap.size w wr))
  case atStart => exact ⟨0, rfl, rfl, B2, D3, S2, E2, bel2⟩
  case round =>
    obtain ⟨j, hgk, rfl, B3, D4, S3, E3, bel3⟩ := hrel
    have HG := Lib.hid hgk
    clear hgk B2 D3 S2 E2 bel2
    by_cases hj : j < 8
    · obtain ⟨g, rfl⟩ : ∃ g, gk = g + 1 := ⟨gk - 1, by have := HG.out; omega⟩
      have hji : (j : Int) < 8 := by omega
      have c6 := E3.out.fcell hj
      have f6 := E3.out.frozen j
      have B4 := Lib.hid (B3.out.far (p := ⟨b6, j, none⟩) (by show _ ≠ b6; omega) (.int .i64 (-1)))
      have D5 := Lib.hid (D4.out.far (p := ⟨b6, j, none⟩) (by show _ ≠ b6; omega) (.int .i64 (-1)))
      have S4 := Lib.hid (S3.out.set (p := ⟨b6, j, none⟩) (fun hk => by have := hU.out _ hk; simp only at this; omega) (.int .i64 (-1)))
      have E4 : Hid (Blk (wr.setCell ⟨b6, j, none⟩ (.int .i64 (-1))) b6 71 (ofF 8 fun i => .int .i64 (if i < j + 1 then -1 else 0))) := Lib.hid ((E3.out.fset j (.int .i64 (-1))).fcongr fun i hi => by
        by_cases h1 : i = j
        · rw [if_pos h1, if_pos (by omega)]
        · rw [if_neg h1]
          by_cases h2 : i < j
          · rw [if_pos h2, if_pos (by omega)]
          · rw [if_neg h2, if_neg (by omega)])
      have bel4 := Lib.hid (bel3.out.setCell (p := ⟨b6, j, none⟩) (by show _ ≤ b6; omega) (.int .i64 (-1)))
      clear B3 D4 S3 E3 bel3
      go_wp2
      go_roundg g
      case measure => omega
      case rel => exact ⟨j + 1, by have := HG.out; omega, by go_num, B4, D5, S4, E4, bel4⟩
    · obtain rfl : j = 8 := by have := HG.out; omega
      clear hj HG
      have hmm : ∀ W, (Instr.makeMap 72 none).run Try.prog W = .ok (.map (some W.heap.size)) (W.alloc (.map #[] 0)) := fun W => by kernel_rfl
      have hm6 := E3.out.lt
      have HM0 : Hid (WtM w (wr.alloc (.map #[] 0)) b5 b6 wr.heap.size (.slice At ts.length ct) ts ws0 0) := Lib.hid ⟨B3.out.alloc _, D4.out.alloc _, (E3.out.alloc _).fcongr fun i hi => by rw [if_pos hi]; rfl, Mp.new wr .i64, S3.out.alloc _, bel3.out.alloc bel3.out.size _, hlt, hlt6, hm6, hU.out⟩
      clear B3 D4 S3 E3 bel3
      go_wp2_with fail
      generalize wr.alloc (.map #[] 0) = w3 at *
      generalize wr.heap.size = bm at *
      clear hmm
      have hct2 : (ts.length : Int) ≤ ct := by omega
      go_loopg [34] ts.length (fun gk c34 wr => ∃ k n : Nat, gk + k = ts.length ∧ c34 = .int .i64 (k : Int) ∧ Hid (WtM w wr b5 b6 bm (.slice At ts.length ct) ts (wtF ts k) n))
      case atStart => exact ⟨0, 0, rfl, rfl, HM0⟩
      case round =>
        obtain ⟨k, n, hgk, rfl, HM⟩ := hrel
        have HG := Lib.hid hgk
        clear hgk HM0
        by_cases hk : k < ts.length
        · obtain ⟨g, rfl⟩ : ∃ g, gk = g + 1 := ⟨gk - 1, by have := HG.out; omega⟩
          have hki : (k : Int) < ts.length := by omega
          obtain ⟨gz, oz, rfl, hgl, hcc⟩ := Sl.cell encT_len (by decide) HM.out.T hk
          have ht := hTO.out _ (List.getElem_mem hk)
          have hstep := Lib.hid (wtF_one hk)
          have hws := wsOk_F hTO.out k (by omega)
          have q : ∀ j, j < 7 → wr.cell? ⟨gz, oz + k * 7 + j, none⟩ = (encT ts[k])[j]? := fun j hj => by have := (hcc k hk j hj).1; rw [show oz + (k * 7 + j) = oz + k * 7 + j by omega] at this; exact this
          have q0 := q 0 (by decide)
          have q1 := q 1 (by decide)
          have q2 := q 2 (by decide)
          have q3 := q 3 (by decide)
          have q4 := q 4 (by decide)
          have q5 := q 5 (by decide)
          have q6 := q 6 (by decide)
          have hbd1 := wtF1_bd hws ht
          generalize wtF ts k = p at *
          generalize hx : ts[k] = x at *
          obtain ⟨th, first, last, sn, how, rd, wn⟩ := x
          obtain ⟨⟨ha, hb⟩, hfi, hla⟩ := ht
          dsimp only at ha hb hfi hla
          obtain ⟨tn, rfl⟩ := Int.eq_ofNat_of_zero_le ha
          have htn : tn < 8 := by omega
          simp only [encT, List.getElem?_cons_zero, List.getElem?_cons_succ, Nat.add_zero] at q0 q1 q2 q3 q4 q5 q6
          have hE := Lib.hid (Blk.new wr 74 #[.int .i64 (tn : Int), .int .i64 first, .int .i64 last, .int .u64 sn, .int .i64 how, .int .i64 rd, .int .i64 wn])
          have HM1 := Lib.hid (HM.out.alloc (.cells #[.int .i64 (tn : Int), .int .i64 first, .int .i64 last, .int .u64 sn, .int .i64 how, .int .i64 rd, .int .i64 wn] 74))
          have hlm := HM.out.M.lt
          have hlm6 := HM.out.om
          obtain ⟨f1, hf1⟩ : ∃ f1, wtF1 p ⟨tn, first, last, sn, how, rd, wn⟩ = f1 := ⟨_, rfl⟩
          rw [hf1] at hbd1
          have hst2 : wtStep p ⟨tn, first, last, sn, how, rd, wn⟩ = ⟨if how ≠ 7 then (fun j => if j = tn then -1 else f1 j) else f1, if how = 6 then (fun k => if k = (last : Int) then some (f1 tn) else p.st k) else p.st⟩ := by
            unfold wtStep
            rw [hf1]
            rfl
          have hf2 : f1 = if p.fr tn < 0 then (fun j => if j = tn then (first : Int) else p.fr j) else p.fr := by rw [← hf1]; rfl
          rw [hst2] at hstep
          clear hst2 hx hf1 hcc HM hgl q
          go_upto_region 14 with (fail)
          have e0 := hE.out.cell 0
          have e1 := hE.out.cell 1
          have e2 := hE.out.cell 2
          have e4 := hE.out.cell 4
          simp only [List.getElem?_toArray, List.getElem?_cons_zero, List.getElem?_cons_succ] at e0 e1 e2 e4
          generalize wr.alloc (.cells #[.int .i64 (tn : Int), .int .i64 first, .int .i64 last, .int .u64 sn, .int .i64 how, .int .i64 rd, .int .i64 wn] 74) = wz at *
          have hlx : b6 ≠ wr.heap.size := by omega
          have hmx : bm ≠ wr.heap.size := by omega
          generalize wr.heap.size = bx at *
          clear hlm q0 q1 q2 q3 q4 q5 q6
          have c6 := HM1.out.B6.fcell htn
          have z6 := HM1.out.B6.frozen tn
          by_cases hneg : p.fr tn < 0
          · rw [if_pos hneg] at hf2
            have HM2 := Lib.hid (HM1.out.setA tn first)
            have hE2 := Lib.hid (hE.out.far (p := ⟨b6, tn, none⟩) (by show bx ≠ b6; omega) (.int .i64 first))
            rw [show (⟨fun j => if j = tn then (first : Int) else p.fr j, p.st⟩ : WS) = ⟨f1, p.st⟩ by rw [hf2]] at HM2
            replace hf2 := Lib.hid hf2
            go_upto_region 16 with (fail)
            clear HM1 hE e0 e1 e2 e4 c6 z6 hneg
            generalize wz.setCell ⟨b6, tn, none⟩ (.int .i64 (first : Int)) = wy at *
            have e0 := hE2.out.cell 0
            have e1 := hE2.out.cell 1
            have e2 := hE2.out.cell 2
            have e4 := hE2.out.cell 4
            simp only [List.getElem?_toArray, List.getElem?_cons_zero, List.getElem?_cons_succ] at e0 e1 e2 e4
            have c6 := HM2.out.B6.fcell htn
            have z6 := HM2.out.B6.frozen tn
            dsimp only at c6
            have c6 : wy.cell? ⟨b6, tn, none⟩ = some (.int .i64 (f1 tn)) := c6
            have hcase : how = 6 ∨ how = 7 ∨ (how ≠ 6 ∧ how ≠ 7) := by omega
            rcases hcase with rfl | rfl | ⟨h6, h7⟩
            · -- commits
              have hst3 := hstep.out
              rw [if_pos (by omega), if_pos rfl] at hst3
              replace hst3 := Lib.hid hst3
              clear hstep
              go_upto_region 17 with (fail)
              refine wp_region_mixH (fun W' => W'.cell? ⟨bx, 0, none⟩ = some (.int .i64 (tn : Int)) ∧ W'.cell? ⟨bx, 2, none⟩ = some (.int .i64 (last : Int)) ∧ W'.cell? ⟨b6, tn, none⟩ = some (.int .i64 (f1 tn))) [3, 3, 0, 3, 0, 3, 0, 2] (List.range 8) (by kernel_rfl) (by kernel_rfl) (fun _ _ h => h) ⟨e0, e2, c6⟩ ?_
              repeat (first | ((first | refine wpMixH_pure rfl rfl (fun K hK => ?_) | refine wpMixH_loc rfl rfl (fun K hK => ?_) | refine wpMixH_any rfl rfl (fun K hK => ?_)); go_simp; refine hK _ _ ?_; clear hK K) | (refine wpMixH_any rfl rfl (fun K hK => ?_); rw [if_pos (by go_simp)]; apply Exists.intro; refine And.intro (fun w2 hS2 => ?_) (hK _ _ ?_); (focus (obtain ⟨hs0, hs1, hs2⟩ := hS2; go_simp; rfl)); clear hK K))
              refine wpMixH_loud rfl rfl (fun n1 K hK => ?_)
              have HM3 := Lib.hid (HM2.out.drewN (1 + n1))
              have hE3 := Lib.hid (hE2.out.drewN (1 + n1))
              rw [show wy.drew.drewN n1 = wy.drewN (1 + n1) from drewN_drewN wy 1 n1]
              generalize wy.drewN (1 + n1) = wx at *
              refine wpList_mapUpdate_mp wx rfl (.tmp 51) (.tmp 53) (.tmp 57) 72 rfl 3 3 .i64 Try.underlying72 Try.underlying3 bm n _ rfl HM3.out.M (last : Int) (.int .i64 (f1 tn)) rfl rfl ?_
              intro w5 hM5 hg5 hz5
              have HM4 := Lib.hid (HM3.out.put hM5 hg5)
              have hE4 := Lib.hid (hE3.out.grown hg5 (by simp; omega))
              clear hM5 hg5 hz5 HM3 hE3 e0 e1 e2 e4 c6 z6 HM2 hE2
              go_wp2_with fail
              refine hK _ _ (fun h => (Bool.false_ne_true ((Eq.symm (by kernel_rfl)).trans h)).elim) ?_; clear hK K
              refine wpMixH_nil (fun n2 => ?_)
              have HM5 := Lib.hid (HM4.out.drewN n2)
              have hE5 := Lib.hid (hE4.out.drewN n2)
              clear HM4 hE4
              generalize w5.drewN n2 = w6 at *
              have e0 := hE5.out.cell 0
              have e4 := hE5.out.cell 4
              simp only [List.getElem?_toArray, List.getElem?_cons_zero, List.getElem?_cons_succ] at e0 e4
              have c6 := HM5.out.B6.fcell htn
              have z6 := HM5.out.B6.frozen tn
              dsimp only at c6
              have HM6 := Lib.hid (HM5.out.setA tn (-1))
              go_wp2
              go_roundg g
              case measure => omega
              case rel => exact ⟨k + 1, n + 1, by have := HG.out; omega, by go_num, by rw [hst3.out]; exact HM6⟩
            · have hst3 := hstep.out
              rw [if_neg (by omega), if_neg (by omega)] at hst3
              replace hst3 := Lib.hid hst3
              clear hstep
              go_wp2
              go_roundg g
              case measure => omega
              case rel => exact ⟨k + 1, n, by have := HG.out; omega, by go_num, by rw [hst3.out]; exact HM2⟩
            · have hst3 := hstep.out
              rw [if_pos h7, if_neg h6] at hst3
              have hb6 : (how == 6) = false := by simp [h6]
              have hb7 : (how != 7) = true := by simp [h7]
              replace hst3 := Lib.hid hst3
              replace h6 := Lib.hid h6
              replace h7 := Lib.hid h7
              have HM6 := Lib.hid (HM2.out.setA tn (-1))
              clear hstep
              go_wp2
              go_roundg g
              case measure => omega
              case rel => exact ⟨k + 1, n, by have := HG.out; omega, by go_num, by rw [hst3.out]; exact HM6⟩
          · rw [if_neg hneg] at hf2
            have HM2 : Hid (WtM w wz b5 b6 bm (.slice (some ⟨gz, oz, none⟩) ts.length ct) ts ⟨f1, p.st⟩ n) := Lib.hid (by rw [hf2]; exact HM1.out)
            have hE2 := hE
            replace hf2 := Lib.hid hf2
            go_upto_region 16 with (fail)
            clear HM1 hE e0 e1 e2 e4 c6 z6 hneg
            generalize wz = wy at *
            have e0 := hE2.out.cell 0
            have e1 := hE2.out.cell 1
            have e2 := hE2.out.cell 2
            have e4 := hE2.out.cell 4
            simp only [List.getElem?_toArray, List.getElem?_cons_zero, List.getElem?_cons_succ] at e0 e1 e2 e4
            have c6 := HM2.out.B6.fcell htn
            have z6 := HM2.out.B6.frozen tn
            dsimp only at c6
            have c6 : wy.cell? ⟨b6, tn, none⟩ = some (.int .i64 (f1 tn)) := c6
            have hcase : how = 6 ∨ how = 7 ∨ (how ≠ 6 ∧ how ≠ 7) := by omega
            rcases hcase with rfl | rfl | ⟨h6, h7⟩
            · -- commits
              have hst3 := hstep.out
              rw [if_pos (by omega), if_pos rfl] at hst3
              replace hst3 := Lib.hid hst3
              clear hstep
              go_upto_region 17 with (fail)
              refine wp_region_mixH (fun W' => W'.cell? ⟨bx, 0, none⟩ = some (.int .i64 (tn : Int)) ∧ W'.cell? ⟨bx, 2, none⟩ = some (.int .i64 (last : Int)) ∧ W'.cell? ⟨b6, tn, none⟩ = some (.int .i64 (f1 tn))) [3, 3, 0, 3, 0, 3, 0, 2] (List.range 8) (by kernel_rfl) (by kernel_rfl) (fun _ _ h => h) ⟨e0, e2, c6⟩ ?_
              repeat (first | ((first | refine wpMixH_pure rfl rfl (fun K hK => ?_) | refine wpMixH_loc rfl rfl (fun K hK => ?_) | refine wpMixH_any rfl rfl (fun K hK => ?_)); go_simp; refine hK _ _ ?_; clear hK K) | (refine wpMixH_any rfl rfl (fun K hK => ?_); rw [if_pos (by go_simp)]; apply Exists.intro; refine And.intro (fun w2 hS2 => ?_) (hK _ _ ?_); (focus (obtain ⟨hs0, hs1, hs2⟩ := hS2; go_simp; rfl)); clear hK K))
              refine wpMixH_loud rfl rfl (fun n1 K hK => ?_)
              have HM3 := Lib.hid (HM2.out.drewN (1 + n1))
              have hE3 := Lib.hid (hE2.out.drewN (1 + n1))
              rw [show wy.drew.drewN n1 = wy.drewN (1 + n1) from drewN_drewN wy 1 n1]
              generalize wy.drewN (1 + n1) = wx at *
              refine wpList_mapUpdate_mp wx rfl (.tmp 51) (.tmp 53) (.tmp 57) 72 rfl 3 3 .i64 Try.underlying72 Try.underlying3 bm n _ rfl HM3.out.M (last : Int) (.int .i64 (f1 tn)) rfl rfl ?_
              intro w5 hM5 hg5 hz5
              have HM4 := Lib.hid (HM3.out.put hM5 hg5)
              have hE4 := Lib.hid (hE3.out.grown hg5 (by simp; omega))
              clear hM5 hg5 hz5 HM3 hE3 e0 e1 e2 e4 c6 z6 HM2 hE2
              go_wp2_with fail
              refine hK _ _ (fun h => (Bool.false_ne_true ((Eq.symm (by kernel_rfl)).trans h)).elim) ?_; clear hK K
              refine wpMixH_nil (fun n2 => ?_)
              have HM5 := Lib.hid (HM4.out.drewN n2)
              have hE5 := Lib.hid (hE4.out.drewN n2)
              clear HM4 hE4
              generalize w5.drewN n2 = w6 at *
              have e0 := hE5.out.cell 0
              have e4 := hE5.out.cell 4
              simp only [List.getElem?_toArray, List.getElem?_cons_zero, List.getElem?_cons_succ] at e0 e4
              have c6 := HM5.out.B6.fcell htn
              have z6 := HM5.out.B6.frozen tn
              dsimp only at c6
              have HM6 := Lib.hid (HM5.out.setA tn (-1))
              go_wp2
              go_roundg g
              case measure => omega
              case rel => exact ⟨k + 1, n + 1, by have := HG.out; omega, by go_num, by rw [hst3.out]; exact HM6⟩
            · have hst3 := hstep.out
              rw [if_neg (by omega), if_neg (by omega)] at hst3
              replace hst3 := Lib.hid hst3
              clear hstep
              go_wp2
              go_roundg g
              case measure => omega
              case rel => exact ⟨k + 1, n, by have := HG.out; omega, by go_num, by rw [hst3.out]; exact HM2⟩
            · have hst3 := hstep.out
              rw [if_pos h7, if_neg h6] at hst3
              have hb6 : (how == 6) = false := by simp [h6]
              have hb7 : (how != 7) = true := by simp [h7]
              replace hst3 := Lib.hid hst3
              replace h6 := Lib.hid h6
              replace h7 := Lib.hid h7
              have HM6 := Lib.hid (HM2.out.setA tn (-1))
              clear hstep
              go_wp2
              go_roundg g
              case measure => omega
              case rel => exact ⟨k + 1, n, by have := HG.out; omega, by go_num, by rw [hst3.out]; exact HM6⟩
        · obtain rfl : k = ts.length := by have := HG.out; omega
          clear hk
          have hni : (l.length : Int) ≤ 9223372036854775807 := by have := hlen.out; omega
          have hws := Lib.hid (wsOk_F hTO.out ts.length (Nat.le_refl _))
          go_wp2_with fail
          refine (HCM.out _ HM.out.bel).mono ?_
          rintro _ w4 ⟨cv, rfl, hcv, b4, hcu⟩
          have hcb := Lib.hid (commF_bd l l.length)
          have hcl := commF_len l l.length
          obtain ⟨cs, hcs⟩ : ∃ cs, commF l l.length = cs := ⟨_, rfl⟩
          rw [hcs] at hcv hcb hcl hwf
          replace hcs := Lib.hid hcs
          obtain ⟨Ac, cc, rfl, hcc⟩ := hcv.shape
          have HM4 := Lib.hid (HM.out.below b4)
          have hbm := HM.out.M.lt
          have hcu2 := Lib.hid (fun k' hk' => (show bm < k' from by have := hcu k' hk'; omega))
          have HC4 := Lib.hid hcv
          have HM5 := Lib.hid (HM4.out.alloc (.cells #[.int .i64 (-1), .int .i64 0] 30))
          have HC5 := Lib.hid (HC4.out.alloc (.cells #[.int .i64 (-1), .int .i64 0] 30))
          have hz4 := b4.size
          clear HM hcv hcu HM4 HC4 HG
          go_upto_region 22 with (fail)
          have hz5 : w4.heap.size < (w4.alloc (.cells #[.int .i64 (-1), .int .i64 0] 30)).heap.size := by simp
          generalize w4.alloc (.cells #[.int .i64 (-1), .int .i64 0] 30) = w5 at *
          have hN := Lib.hid (Sl.new (enc := encZ) (e := 3) encZ_len w5 [] (by simp))
          have HM6 := Lib.hid (HM5.out.alloc (.cells #[] 3))
          have HC6 := Lib.hid (HC5.out.alloc (.cells #[] 3))
          have hcv5 : Hid (∀ k', own (.slice Ac cs.length cc) k' → k' < w5.heap.size) := Lib.hid (fun k' h => HC5.out.lt k' h)
          clear HM5 HC5 b4
          go_wp2_with fail
          have hb5 : bm < w5.heap.size := by omega
          have hcl8 : Hid ((cs.length + 1) * 8 ≤ 140737488355328) := Lib.hid (by have := hlen.out; omega)
          have hcli : (cs.length : Int) ≤ 9223372036854775807 := by omega
          go_loopg [13, 73] cs.length (fun gk c13 c73 wr => ∃ (j : Nat) (B : Option Addr) (cb : Nat), gk + j = cs.length ∧ c13 = .slice B j cb ∧ c73 = .int .i64 (j : Int) ∧ Hid (Zl wr (.slice B j cb) ((cs.take j).map (waitAt (wtF ts ts.length)))) ∧ Hid (WtM w wr b5 b6 bm (.slice At ts.length ct) ts (wtF ts ts.length) n) ∧ Hid (Zl wr (.slice Ac cs.length cc) cs) ∧ Hid (∀ k', own (.slice B j cb) k' → w5.heap.size ≤ k') ∧ Hid (Below w5.heap.size w5 wr))
          case atStart => exact ⟨0, some ⟨w5.heap.size, 0, none⟩, 0, rfl, rfl, rfl, hN, HM6, HC6, Lib.hid own_new, Lib.hid ((Below.refl _ _).alloc (Nat.le_refl _) _)⟩
          case round =>
            obtain ⟨j, B, cb, hgk, rfl, rfl, HS, HM, HC, HU, HX⟩ := hrel
            have HG := Lib.hid hgk
            clear hgk hN HM6 HC6
            by_cases hj : j < cs.length
            · obtain ⟨g, rfl⟩ : ∃ g, gk = g + 1 := ⟨gk - 1, by have := HG.out; omega⟩
              have hji : (j : Int) < cs.length := by omega
              obtain ⟨gz, oz, rfl, -, hq⟩ := Sl.cell encZ_len (by decide) HC.out hj
              have q0 : wr.cell? ⟨gz, oz + j, none⟩ = some (.int .i64 cs[j]) := by have := (hq j hj 0 (by decide)).1; rw [show oz + (j * 1 + 0) = oz + j by omega] at this; exact this
              have hxb := hcb.out _ (List.getElem_mem hj)
              have hT : Hid ((cs.take (j + 1)).map (waitAt (wtF ts ts.length)) = (cs.take j).map (waitAt (wtF ts ts.length)) ++ [cs[j] - ((wtF ts ts.length).st cs[j]).getD 0 + 1]) := Lib.hid (by rw [List.take_add_one, List.getElem?_eq_getElem hj, List.map_append]; rfl)
              obtain ⟨sv, hsv⟩ : ∃ sv, ((wtF ts ts.length).st cs[j]).getD 0 = sv := ⟨_, rfl⟩
              have hsb : 0 ≤ sv ∧ sv ≤ l.length := by
                rw [← hsv]
                cases hh : (wtF ts ts.length).st cs[j] with
                | none => simp
                | some v => have := hws.out.st _ _ hh; simpa using this
              have hgl : Hid (((((wtF ts ts.length).st cs[j]).map (Value.int .i64))).getD (.int .i64 0) = .int .i64 sv) := Lib.hid (by
                rw [← hsv]
                cases (wtF ts ts.length).st cs[j] <;> rfl)
              rw [hsv] at hT
              clear hsv hq
              have hlj : ((cs.take j).map (waitAt (wtF ts ts.length))).length = j := by simp; omega
              obtain ⟨os, hos⟩ : ∃ os, (cs.take j).map (waitAt (wtF ts ts.length)) = os := ⟨_, rfl⟩
              rw [hos] at HS hT hlj
              replace hos := Lib.hid hos
              have HMM := HM.out.M
              have hol2 : Hid ((os.length + 1) * 8 ≤ 140737488355328) := Lib.hid (by have := hcl8.out; omega)
              generalize cs[j] = cj at *
              obtain ⟨hc0, hc1⟩ := hxb
              obtain ⟨hs0, hs1⟩ := hsb
              have hlk : (Instr.lookup 72 (.map (some bm)) (.int .i64 cj) false).run Try.prog wr = .ok (.int .i64 sv) wr := by
                have := HMM.lookup (P := Try.prog) (t := 72) Try.underlying72 Try.underlying3 (z := .int .i64 0) (by first | rfl | kernel_rfl) cj false
                rw [this]
                exact congrArg (fun v => Result.ok v wr) hgl.out
              obtain rfl : os.length = j := hlj
              have HS' := HS
              have hU' := HU
              clear HMM hgl HS HU
              go_wp2_with (at_builtin; refine wpList_int wr rfl (.tmp 77) (.tmp 84) rfl (.slice B os.length cb) os (cj - sv + 1) rfl HS'.out rfl hol2.out ?_; intro A2 c2 w7 hc2 hv2 hf2)
              have b7 := hf2.below hU'.out HX.out.size
              have HX7 := Lib.hid (HX.out.trans b7)
              have HU7 : Hid (∀ k', own (.slice A2 (os.length + 1) c2) k' → w5.heap.size ≤ k') := Lib.hid (hf2.ge hU'.out HX.out.size)
              have HM7 := Lib.hid (HM.out.belowB b7 hb5)
              have HC7 := Lib.hid (HC.out.keep fun k' h => b7.block k' (hcv5.out k' h))
              go_roundg g
              case measure => omega
              case rel => exact ⟨os.length + 1, A2, c2, by have := HG.out; omega, rfl, by go_num, by rw [hT.out]; exact Lib.hid hv2, HM7, HC7, HU7, HX7⟩
            · obtain rfl : j = cs.length := by have := HG.out; omega
              clear hj
              rw [List.take_length] at HS
              have hb0 := HM.out.B0
              have hd := HM.out.B5
              have b0 := hb0.cell 0
              have b1 := hb0.cell 1
              have f0 := hb0.frozen 0
              have f1 := hb0.frozen 1
              have d0 := hd.cell 0
              have d1 := hd.cell 1
              simp only [List.getElem?_toArray, List.getElem?_cons_zero, List.getElem?_cons_succ] at b0 b1 d0 d1
              have hne : w.heap.size ≠ b5 := by omega
              have hown : ¬ own (.slice B cs.length cb) w.heap.size := fun h => by have := HU.out _ h; omega
              replace hown := Lib.hid hown
              have HW := Lib.hid HM.out.bel
              clear hb0 hd
              go_wp2
              refine wp_region_mixH (fun W' => W'.cell? ⟨b5, 0, none⟩ = some (.int .i64 (-1)) ∧ W'.cell? ⟨b5, 1, none⟩ = some (.int .i64 0)) [3, 0, 3, 2] (List.range 4) (by kernel_rfl) (by kernel_rfl) (fun _ _ h => h) ⟨d0, d1⟩ ?_
              ((first | refine wpMixH_pure rfl rfl (fun K hK => ?_) | refine wpMixH_loc rfl rfl (fun K hK => ?_) | refine wpMixH_any rfl rfl (fun K hK => ?_)); go_simp; refine hK _ _ ?_; clear hK K)
              (refine wpMixH_any rfl rfl (fun K hK => ?_); rw [if_pos (by go_simp)]; apply Exists.intro; refine And.intro (fun w2 hS2 => ?_) (hK _ _ ?_); (focus (obtain ⟨hs0, hs1⟩ := hS2; go_simp; rfl)); clear hK K)
              ((first | refine wpMixH_pure rfl rfl (fun K hK => ?_) | refine wpMixH_loc rfl rfl (fun K hK => ?_) | refine wpMixH_any rfl rfl (fun K hK => ?_)); go_simp; refine hK _ _ ?_; clear hK K)
              refine wpMixH_loud rfl rfl (fun n1 K hK => ?_)
              go_wp2
              refine hK _ _ (fun h => (Bool.false_ne_true ((Eq.symm (by kernel_rfl)).trans h)).elim) ?_; clear hK K
              refine wpMixH_nil (fun n2 => ?_)
              go_wp2
              refine bodyPost_ret (v := .tuple #[.slice B cs.length cb, .agg #[.int .i64 (-1), .int .i64 0]]) (by simp [results, Try.results8, go_sem, b0, b1, f0, f1]) rfl ⟨_, rfl, ?_, ?_, fun k' h => by have := HU.out k' h; omega⟩
              · rw [hwf.out]
                exact Sl.drewN (Sl.set (Sl.set (Sl.drewN HS.out _) (p := ⟨w.heap.size, 0, none⟩) hown.out _) (p := ⟨w.heap.size, 1, none⟩) hown.out _) _
              · (repeat (first | with_reducible exact (HW).out | (with_reducible refine below_drewNs ?_ _) | (with_reducible refine Below.setCell ?_ ?_ _; rotate_left; focus (first | (with_reducible exact Nat.le_refl _) | (have hsz_ := (HW).out.size; simp only; omega))) | (with_reducible refine Below.alloc ?_ ?_ _; rotate_left; focus (first | (with_reducible exact (HW).out.size) | (have hsz_ := (HW).out.size; simp; omega)))))
end Go.Proofs.Yteoebfjhadmnbaa
