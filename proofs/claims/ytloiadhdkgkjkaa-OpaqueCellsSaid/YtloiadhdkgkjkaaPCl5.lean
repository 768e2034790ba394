/- The document's answer for chapter 16: Writing by contract. -/
import Derived.Test.YtloiadhdkgkjkaaMixH
import Derived.Deep.DeepCutAuto
import Derived.Sort.Grow
import Derived.Shelf.SlSortCmp.NoneTotal
import Derived.Test.YtloiadhdkgkjkaaPCl1
import Derived.Test.YtloiadhdkgkjkaaPCl4
namespace Go.Proofs.Ytloiadhdkgkjkaa
open Go.RowKit
set_option maxHeartbeats 40000000
set_option linter.unusedVariables false
set_option linter.unusedSimpArgs false
theorem LiesV.blt {w : World} {g o cp : Nat} {l : List Ev} (h : LiesV w (.slice (some ⟨g, o, none⟩) l.length cp) l) {j : Nat} (hj : j < l.length) : g < w.heap.size := by
  obtain ⟨A', cp', e, -, -, -, -, k⟩ := h
  injection e with e1 e2 e3
  obtain ⟨g', o', e4, h5, -⟩ := k j hj
  rw [← e1] at e4
  injection e4 with e4
  injection e4 with e4 e5
  omega
def encI (n : Nat) : List Value := [.int .i64 n]
theorem encI_len (n : Nat) : (encI n).length = 1 := rfl
theorem encI_one (n : Nat) : ∀ u ∈ encI n, u.oneCell' = true := by
  intro u hu
  simp only [encI, List.mem_cons, List.not_mem_nil, or_false] at hu
  subst hu
  rfl
theorem intO_info : (Try.prog.info? 3).map (fun i => (i.zero, i.size, i.bytes)) = some (some (.int .i64 0), 1, 8) := by kernel_rfl
theorem wpList_intO {ops : Array Oper} {rest : List Oper} {o : Oper} {a : Act} {Q : Exit → Act → World → Prop} (wr : World) (hgd : o.guard = none) (s x : Operand)
    (ho : o.op = .call { callee := .builtin .append, args := #[s, x], argTypes := #[48, 48] })
    (v : Value) (l : List Nat) (y : Nat) (hs : a.eval s = v) (hl : Sl 3 1 encI wr v l) (hx : a.eval x = .slice (some ⟨wr.heap.size, 0, none⟩) 1 1) (hb1 : l.length + 1 ≤ 9223372036854775807) (hlen : (l.length + 1) * 8 ≤ 140737488355328)
    (h : ∀ A cap w', l.length + 1 ≤ cap → Sl 3 1 encI w' (.slice A (l.length + 1) cap) (l ++ [y]) → Fr (own v) wr (own (.slice A (l.length + 1) cap)) w' → wpList Try.prog ops Q rest (a.put o.dst (.slice A (l.length + 1) cap)) w') :
    wpList Try.prog ops Q (o :: rest) a (wr.alloc (.cells #[.int .i64 y] 3)) :=
  wpList_one (enc := encI) encI_len encI_one wr hgd s x 48 ho Try.underlying48 intO_info rfl (by decide) v l y hs hl hx hb1 hlen h
/-- Who is locked, and the places of the writing commits, behind n events. -/
def wrS (l : List Ev) : Nat → (Nat → Bool) × List Nat
  | 0 => (fun _ => false, [])
  | n + 1 =>
    let e := evAt l n
    let t := e.th.toNat
    let s := wrS l n
    if e.kd = 5 then (upd s.1 t true, s.2) else if e.kd = 6 ∧ s.1 t = true then (upd s.1 t false, s.2 ++ [n]) else s
theorem wrS_len (l : List Ev) : ∀ n, (wrS l n).2.length ≤ n
  | 0 => Nat.le_refl _
  | n + 1 => by
    have := wrS_len l n
    unfold wrS
    dsimp only
    split
    · dsimp only; omega
    split
    · simp; omega
    · omega
theorem wrS_lt (l : List Ev) : ∀ n, ∀ x ∈ (wrS l n).2, x < n
  | 0 => by simp [wrS]
  | n + 1 => by
    have h := wrS_lt l n
    unfold wrS
    dsimp only
    intro x hx
    split at hx
    · have := h x hx; omega
    split at hx
    · dsimp only at hx
      rw [List.mem_append, List.mem_singleton] at hx
      rcases hx with hx | hx
      · have := h x hx; omega
      · omega
    · have := h x hx; omega
set_option maxRecDepth 100000 in
theorem rwriting_b {w : World} {A : Option Addr} {cp : Nat} {l : List Ev} (hL : LiesV w (.slice A l.length cp) l) (hth : ∀ k, k < l.length → 0 ≤ (evAt l k).th ∧ (evAt l k).th < 8) :
    Calls Try.prog 32 #[.slice A l.length cp] w fun x w' => Below w.heap.size w w' ∧ ∃ ov, x = .returned ov ∧ Sl 3 1 encI w' ov (wrS l l.length).2 ∧ ∀ q, own ov q → w.heap.size ≤ q := by
  have hln := hL.len
  have hlen : (l.length : Int) ≤ 9223372036854775807 := by omega
  have hB0 := Blk.new w 107 (ofF 8 (fun j => .bool ((wrS l 0).1 j)))
  have hb0 := (Below.refl w.heap.size w).alloc (Nat.le_refl _) (.cells (ofF 8 (fun j => .bool ((wrS l 0).1 j))) 107)
  rw [show ofF 8 (fun j => Value.bool ((wrS l 0).1 j)) = #[.bool false, .bool false, .bool false, .bool false, .bool false, .bool false, .bool false, .bool false] from rfl] at hb0
  have hB1 : Hid (Blk (w.alloc (.cells #[.bool false, .bool false, .bool false, .bool false, .bool false, .bool false, .bool false, .bool false] 107)) w.heap.size 107 (ofF 8 (fun j => .bool ((wrS l 0).1 j)))) := Lib.hid hB0
  have hb1 := Lib.hid hb0
  clear hB0 hb0
  replace hL := Lib.hid hL
  replace hth := Lib.hid hth
  go_enter Try.func32, Try.ntmps32
  go_wp2
  go_loopw [4, 5] (fun c4 c5 wr => ∃ (n : Nat) (ov : Value), n ≤ l.length ∧ c5 = .int .i64 (n : Int) ∧ c4 = ov ∧ Hid (Sl 3 1 encI wr ov (wrS l n).2) ∧ Hid (∀ q, own ov q → w.heap.size ≤ q) ∧ Hid (Blk wr w.heap.size 107 (ofF 8 (fun j => .bool ((wrS l n).1 j)))) ∧ Hid (Below w.heap.size w wr)) (fun _ c5 _ => l.length - (intOf c5).toNat)
  case atStart => exact ⟨0, _, Nat.zero_le _, rfl, rfl, Lib.hid (Sl.nil _), Lib.hid (fun q hq => absurd hq (no_own_nil q)), hB1, hb1⟩
  case round =>
    obtain ⟨n, ov, hn, rfl, rfl, hS, hown, hB, hbr⟩ := hrel
    clear hB1 hb1
    by_cases hlt : n < l.length
    · have b1 : (n : Int) < l.length := by omega
      have w1 := IntWalk.i64_in (n := (n : Int) + 1) (by omega)
      obtain ⟨g, o, rfl, hc⟩ := (hL.out.below hbr.out (Nat.le_refl _)).at hlt
      obtain ⟨d0, d1, -, -, -, -⟩ := hc n hlt
      have hgl := hL.out.blt hlt
      have hne1 : g ≠ w.heap.size := Nat.ne_of_lt hgl
      have hne2 : w.heap.size ≠ g := (Nat.ne_of_lt hgl).symm
      obtain ⟨ht0, ht8⟩ := hth.out n hlt
      have hwl : Hid (((wrS l n).2.length + 1) * 8 ≤ 140737488355328) := Lib.hid (by have := wrS_len l n; omega)
      have hu : Hid (wrS l (n + 1) = if (evAt l n).kd = 5 then (upd (wrS l n).1 (evAt l n).th.toNat true, (wrS l n).2) else if (evAt l n).kd = 6 ∧ (wrS l n).1 (evAt l n).th.toNat = true then (upd (wrS l n).1 (evAt l n).th.toNat false, (wrS l n).2 ++ [n]) else wrS l n) := Lib.hid rfl
      generalize evAt l n = ev at *
      obtain ⟨x0, x1, ad, wd, ow, er⟩ := ev
      dsimp only at d0 d1 ht0 ht8 hu
      obtain ⟨t, rfl⟩ := Int.eq_ofNat_of_zero_le ht0
      rw [Int.toNat_natCast] at hu
      have ht : t < 8 := by omega
      generalize hs : wrS l n = s at *
      obtain ⟨lk, out⟩ := s
      dsimp only at hS hB hu hwl
      replace hs := Lib.hid hs
      have c0 := hB.out.fcell (i := t) ht
      have fz := hB.out.frozen t
      clear hc
      by_cases h5 : x1 = 5
      · subst h5
        rw [if_pos rfl] at hu
        have hB5 := Lib.hid ((hB.out.fset t (.bool true)).fcongr (g' := fun j => .bool (upd lk t true j)) (fun j hj => by unfold upd; by_cases e : j = t <;> simp [e]))
        have hS5 := Lib.hid (hS.out.set (p := ⟨w.heap.size, t, none⟩) (hS.out.ne_ hB.out (by decide)) (.bool true))
        have hb5 := Lib.hid (hbr.out.setCell (p := ⟨w.heap.size, t, none⟩) (Nat.le_refl _) (.bool true))
        clear hS hB hbr
        go_wp2
        go_roundw
        case rel => exact ⟨n + 1, _, hlt, by go_num, rfl, by rw [hu.out]; exact hS5, hown, by rw [hu.out]; exact hB5, hb5⟩
        case measure => simp [intOf]; omega
      · have f5 : (x1 == 5) = false := by simpa using h5
        rw [if_neg h5] at hu
        by_cases h6 : x1 = 6
        · subst h6
          obtain ⟨b, hb⟩ : ∃ b, lk t = b := ⟨_, rfl⟩
          rw [hb] at c0
          cases b with
          | true =>
            rw [if_pos ⟨rfl, hb⟩] at hu
            replace hb := Lib.hid hb
            have hB5 := hB.out.fset t (.bool false)
            have hS5 := hS.out.set (p := ⟨w.heap.size, t, none⟩) (hS.out.ne_ hB.out (by decide)) (.bool false)
            have hb5 := hbr.out.setCell (p := ⟨w.heap.size, t, none⟩) (Nat.le_refl _) (.bool false)
            obtain ⟨wx, hwx⟩ : ∃ wx, wx = wr.setCell ⟨w.heap.size, t, none⟩ (.bool false) := ⟨_, rfl⟩
            have hsz : wr.heap.size = wx.heap.size := by rw [hwx]; simp [World.setCell]
            rw [← hwx] at hB5 hS5 hb5
            have hB6 := hB5.fcongr (g' := fun j => .bool (upd lk t false j)) (fun j hj => by unfold upd; by_cases e : j = t <;> simp [e])
            have hA : Hid (∀ A5 cap5 w5, Sl 3 1 encI w5 (.slice A5 (out.length + 1) cap5) (out ++ [n]) → Fr (own _) wx (own (.slice A5 (out.length + 1) cap5)) w5 → Sl 3 1 encI w5 (.slice A5 (out.length + 1) cap5) (wrS l (n + 1)).2 ∧ (∀ q, own (.slice A5 (out.length + 1) cap5) q → w.heap.size ≤ q) ∧ Blk w5 w.heap.size 107 (ofF 8 (fun j => .bool ((wrS l (n + 1)).1 j))) ∧ Below w.heap.size w w5) := Lib.hid (fun A5 cap5 w5 hS6 hF6 => ⟨by rw [hu.out]; exact hS6, hF6.ge hown.out hb5.size, by rw [hu.out]; exact hF6.blk hB6 (hS5.ne_ hB6 (by decide)), hb5.trans (hF6.below hown.out hb5.size)⟩)
            replace hS5 := Lib.hid hS5
            replace hwx := Lib.hid hwx
            replace hsz := Lib.hid hsz
            clear hS hB hbr hB5 hb5 hB6
            go_wp2_with (at_builtin; rw [← hwx.out]; refine wpList_intO wx rfl (.tmp 39) (.tmp 41) rfl _ out n rfl hS5.out (by rw [← hsz.out]; rfl) (by have := hwl.out; omega) hwl.out ?_; intro A5 cap5 w5 hc5 hS6 hF6; have HR := Lib.hid (hA.out A5 cap5 w5 hS6 hF6); clear hS6 hF6)
            go_roundw
            case rel => exact ⟨n + 1, _, hlt, by go_num, rfl, Lib.hid HR.out.1, Lib.hid HR.out.2.1, Lib.hid HR.out.2.2.1, Lib.hid HR.out.2.2.2⟩
            case measure => simp [intOf]; omega
          | false =>
            rw [if_neg (by rw [hb]; simp)] at hu
            replace hb := Lib.hid hb
            go_wp2
            go_roundw
            case rel => exact ⟨n + 1, _, hlt, by go_num, rfl, by rw [hu.out]; exact hS, hown, by rw [hu.out]; exact hB, hbr⟩
            case measure => simp [intOf]; omega
        · have f6 : (x1 == 6) = false := by simpa using h6
          rw [if_neg (fun h => h6 h.1)] at hu
          go_wp2
          go_roundw
          case rel => exact ⟨n + 1, _, hlt, by go_num, rfl, by rw [hu.out]; exact hS, hown, by rw [hu.out]; exact hB, hbr⟩
          case measure => simp [intOf]; omega
    · have hn2 : n = l.length := by omega
      subst hn2
      go_wp2
      go_ret
      exact ⟨hbr.out, _, rfl, hS.out, hown.out⟩
end Go.Proofs.Ytloiadhdkgkjkaa
/- slices.Compact over cells of the call's own, by contract. -/
namespace Go.Proofs.Ytloiadhdkgkjkaa
open Go.RowKit
set_option maxHeartbeats 4000000
set_option linter.unusedVariables false
set_option linter.unusedSimpArgs false
theorem cell_equal (a x b y : Int) (w : World) : (Op.equalIn 10000 45 (.agg #[.int .u64 a, .int .u64 x]) (.agg #[.int .u64 b, .int .u64 y])).run Try.prog w = .ok (decide (a = b) && decide (x = y)) w := by
  have h1 : Try.prog.underlying 45 = some _ := Try.underlying45
  have h2 : Try.prog.underlying 35 = some _ := Try.underlying35
  have c1 : Try.prog.cellsOf 35 = 1 := by kernel_rfl
  have e : ∀ (t : TypeId) (n m : Int) (d : Nat), Try.prog.underlying t = some (TypeDesc.int .u64) → (Op.equalIn (d + 1) t (.int .u64 n) (.int .u64 m)).run Try.prog w = .ok (decide (n = m)) w := by
    intro t n m d ht
    have hb : (n == m) = decide (n = m) := by by_cases h : n = m <;> simp [h]
    simp [Op.equalIn, run_underlying ht, hb]
  have hd : 10000 = 9998 + 1 + 1 := rfl
  rw [hd]
  generalize 9998 = d at *
  rw [Op.equalIn]
  simp [run_underlying h1, part, e, h2, c1, sizeOf, typeInfo]
  by_cases h : a = b <;> by_cases h' : x = y <;> simp [h, h']
theorem cell_eql (a x b y : Int) (w : World) : (binOp .eql 45 (.agg #[.int .u64 a, .int .u64 x]) (.agg #[.int .u64 b, .int .u64 y])).run Try.prog w = .ok (.bool (decide (a = b) && decide (x = y))) w := by
  have hsi : Try.prog.stoodInHeld 45 = false := by kernel_rfl
  simp [binOp, Op.equal, Op.maxDepth, cell_equal, hsi]
theorem cell_neq (a x b y : Int) (w : World) : (binOp .neq 45 (.agg #[.int .u64 a, .int .u64 x]) (.agg #[.int .u64 b, .int .u64 y])).run Try.prog w = .ok (.bool (!(decide (a = b) && decide (x = y)))) w := by
  have hsi : Try.prog.stoodInHeld 45 = false := by kernel_rfl
  simp [binOp, Op.equal, Op.maxDepth, cell_equal, hsi]
/-- A list without those that are as the one ahead of them: of its first n. -/
def ddT (l : List (Int × Int)) : Nat → List (Int × Int)
  | 0 => []
  | n + 1 => if n = 0 ∨ l.getD n (0, 0) ≠ l.getD (n - 1) (0, 0) then ddT l n ++ [l.getD n (0, 0)] else ddT l n
def compC (l : List (Int × Int)) : List (Int × Int) := ddT l l.length
theorem ddT_le (l : List (Int × Int)) : ∀ n, (ddT l n).length ≤ n
  | 0 => by simp [ddT]
  | n + 1 => by have := ddT_le l n; unfold ddT; split <;> simp <;> omega
theorem ddT_yes {l : List (Int × Int)} {n : Nat} (h : l.getD n (0, 0) ≠ l.getD (n - 1) (0, 0)) : ddT l (n + 1) = ddT l n ++ [l.getD n (0, 0)] := by
  rw [ddT, if_pos (.inr h)]
theorem ddT_no {l : List (Int × Int)} {n : Nat} (h0 : 0 < n) (h : l.getD n (0, 0) = l.getD (n - 1) (0, 0)) : ddT l (n + 1) = ddT l n := by
  rw [ddT, if_neg (by rintro (h1 | h1); · omega
                      · exact h1 h)]
theorem ddT_pre {l : List (Int × Int)} : ∀ n, n ≤ l.length → (∀ j, 1 ≤ j → j < n → l.getD j (0, 0) ≠ l.getD (j - 1) (0, 0)) → ddT l n = l.take n
  | 0, _, _ => by simp [ddT]
  | n + 1, hn, h => by
    have ih := ddT_pre n (by omega) fun j h1 h2 => h j h1 (by omega)
    rw [ddT, if_pos (by by_cases e : n = 0; · exact .inl e
                        · exact .inr (h n (by omega) (by omega))), ih, List.take_succ_eq_append_getElem (by omega), List.getD_eq_getElem?_getD, List.getElem?_eq_getElem (by omega)]
    rfl
/-- What stands within Compact's second loop: so many of L's cells are what stays, the rest from here on is as it was. -/
structure CpI (l L : List (Int × Int)) (n m : Nat) : Prop where
  len : L.length = l.length
  eq : m = (ddT l n).length
  lo : L.take m = ddT l n
  hi : ∀ j, n - 1 ≤ j → L.getD j (0, 0) = l.getD j (0, 0)
  lt : m + 1 ≤ n
theorem CpI.start {l : List (Int × Int)} {k : Nat} (hk : k < l.length) (h0 : 0 < k) (h : ∀ j, 1 ≤ j → j < k → l.getD j (0, 0) ≠ l.getD (j - 1) (0, 0)) (he : l.getD k (0, 0) = l.getD (k - 1) (0, 0)) : CpI l l (k + 1) k := by
  have e := ddT_pre k (by omega) h
  have e2 := ddT_no h0 he
  exact ⟨rfl, by rw [e2, e, List.length_take]; omega, by rw [e2, e], fun _ _ => rfl, by omega⟩
theorem CpI.skip {l L : List (Int × Int)} {n m : Nat} (h : CpI l L n m) (h0 : 0 < n) (he : l.getD n (0, 0) = l.getD (n - 1) (0, 0)) : CpI l L (n + 1) m := by
  have e := ddT_no h0 he
  exact ⟨h.len, by rw [e]; exact h.eq, by rw [e]; exact h.lo, fun j hj => h.hi j (by omega), by have := h.lt; omega⟩
theorem CpI.put {l L : List (Int × Int)} {n m : Nat} (h : CpI l L n m) (hn : n < l.length) (he : l.getD n (0, 0) ≠ l.getD (n - 1) (0, 0)) : CpI l (L.set m (l.getD n (0, 0))) (n + 1) (m + 1) := by
  have e := ddT_yes he
  have hm := h.eq
  have hlt := h.lt
  have hL := h.len
  refine ⟨by rw [List.length_set]; exact h.len, by rw [e, List.length_append, ← hm]; rfl, ?_, fun j hj => ?_, by omega⟩
  · rw [List.take_succ_eq_append_getElem (by rw [List.length_set]; omega), List.getElem_set_self, List.take_set_of_le (Nat.le_refl m), h.lo, e]
  · rw [List.getD_eq_getElem?_getD, List.getElem?_set_ne (by omega), ← List.getD_eq_getElem?_getD]
    exact h.hi j (by omega)
/-- Cells behind those that stay, turned: those that stay are there. -/
theorem Sl.head {w : World} {g o n cp : Nat} {L : List (Int × Int)} (h : Sl 45 2 encC w (.slice (some ⟨g, o, none⟩) n cp) L) {m : Nat} (hm : m ≤ L.length) (vs : List Value) :
    Sl 45 2 encC (w.setCells g (o + m * 2) vs) (.slice (some ⟨g, o, none⟩) m cp) (L.take m) ∧ Fr (own (.slice (some ⟨g, o, none⟩) n cp)) w (own (.slice (some ⟨g, o, none⟩) m cp)) (w.setCells g (o + m * 2) vs) := by
  obtain ⟨h0, h⟩ := h
  rcases h with ⟨h1, h2⟩ | ⟨g', off', cap', cur, h1, h2, h3, h4, h5, h6, h7⟩
  · cases h1
  injection h1 with h1a h1b h1c
  simp only [Option.some.injEq, Addr.mk.injEq, and_true] at h1a
  obtain ⟨rfl, rfl⟩ := h1a
  subst h1b h1c
  obtain ⟨q1, q2, q3, q4, q5, q6⟩ := heap_setCells g vs (o + m * 2) w cur h3
  refine ⟨?_, q4, q5, q6, by rw [q3]; exact Nat.le_refl _, fun k _ hF => q2 k fun e => hF (by subst e; simp [own, Value.ownBlock]), fun k hk => .inl (by simpa [own, Value.ownBlock] using hk)⟩
  unfold Sl
  have hml : (L.take m).length = m := by rw [List.length_take]; omega
  rw [hml]
  refine ⟨by rw [flat_len encC_len, hml], .inr ⟨g, o, cp, _, rfl, Nat.zero_le _, q1, by omega, h5, by rw [setAll_size]; exact h6, ?_⟩⟩
  rw [flat_take encC_len, ← h7]
  apply List.ext_getElem?
  intro j
  have hmm : m * 2 ≤ L.length * 2 := Nat.mul_le_mul_right 2 hm
  rw [List.getElem?_take, List.getElem?_take, List.getElem?_drop, List.getElem?_take, List.getElem?_drop]
  by_cases hj : j < m * 2
  · rw [if_pos hj, if_pos hj, if_pos (by omega), Array.getElem?_toList, setAll_get, if_neg (by omega), Array.getElem?_toList]
  · rw [if_neg hj, if_neg hj]
theorem run_clear_cells (w : World) (ty : TypeId) (g o n c : Nat) (hn : 0 < n) (hc : ∀ j, j < n * 2 → (w.cell? ⟨g, o + j, none⟩).isSome = true ∧ w.frozen? ⟨g, o + j, none⟩ = false) :
    ∃ vs, (Builtin.clear_ #[43] ty #[.slice (some ⟨g, o, none⟩) n c]).run Try.prog w = .ok (.tuple #[]) (w.setCells g o vs) := by
  have hl : (Builtin.zeroCells #[Value.int .u64 0, .int .u64 0] n).toList.length = n * 2 := by simp [Builtin.zeroCells]
  have hst := run_storeCells_cells (P := Try.prog) g o (Builtin.zeroCells #[Value.int .u64 0, .int .u64 0] n).toList 0 w (fun j hj => (hc j (by omega)).1) (fun j hj => (hc j (by omega)).2) (fun v hv => by
    have : ∃ k : Nat, (#[Value.int .u64 0, .int .u64 0] : Array Value)[k % 2]! = v := by
      simp only [Builtin.zeroCells, Array.toList_map, List.mem_map] at hv
      obtain ⟨k, _, e⟩ := hv
      exact ⟨k, e⟩
    obtain ⟨k, rfl⟩ := this
    rcases (show k % 2 = 0 ∨ k % 2 = 1 by omega) with e | e <;> rw [e] <;> rfl)
  simp only [Nat.add_zero] at hst
  refine ⟨(Builtin.zeroCells #[Value.int .u64 0, .int .u64 0] n).toList, ?_⟩
  obtain ⟨m, rfl⟩ : ∃ m, n = m + 1 := ⟨n - 1, by omega⟩
  simp [Builtin.clear_, run_underlying Try.underlying43, Try.zeroValue45, Value.cells, hst]
set_option maxRecDepth 100000 in
theorem compactC_b {w : World} {A : Option Addr} {cp : Nat} {l : List (Int × Int)} (h : Sl 45 2 encC w (.slice A l.length cp) l) (hll : l.length ≤ 4611686018427387904) :
    Calls Try.prog 46 #[.slice A l.length cp] w fun x w' => x = .returned (.slice A (compC l).length cp) ∧ Sl 45 2 encC w' (.slice A (compC l).length cp) (compC l) ∧ Fr (own (.slice A l.length cp)) w (own (.slice A (compC l).length cp)) w' := by
  have hcap := h.shape
  have hlen : (l.length : Int) ≤ 4611686018427387904 := by omega
  have hEq := cell_eql
  have hNe := cell_neq
  by_cases h2 : l.length < 2
  · have e : compC l = l := by
      unfold compC
      rw [ddT_pre _ (Nat.le_refl _) (fun j h1 h2 => by omega), List.take_length]
    have h2' : (l.length : Int) < 2 := by omega
    rw [e]
    replace h := Lib.hid h
    go_enter Try.func46, Try.ntmps46
    go_wp2
    go_ret
    exact ⟨rfl, h.out, Fr.refl _ _⟩
  obtain ⟨g, off, rfl, hg, hc⟩ := h.cell encC_len (by decide) (show 0 < l.length by omega)
  have hcp : l.length ≤ cp ∧ cp ≤ 9223372036854775807 := by
    rcases h.2 with ⟨h1, _⟩ | ⟨g', off', cap', cur, h1, _, _, h4, h5, _⟩
    · cases h1
    · injection h1 with _ _ h1c
      subst h1c
      unfold maxLen at h5
      exact ⟨h4, by omega⟩
  have h2' : ¬ (l.length : Int) < 2 := by omega
  have hc' := Lib.hid hc
  replace h := Lib.hid h
  clear hc hcap
  go_enter Try.func46, Try.ntmps46
  go_wp2
  go_loopw [3] (fun c wr => ∃ (k m : Nat), 1 ≤ k ∧ k ≤ l.length ∧ c = .int .i64 (k : Int) ∧ wr = w.drewN m ∧ Hid (∀ j, 1 ≤ j → j < k → l.getD j (0, 0) ≠ l.getD (j - 1) (0, 0))) (fun c _ => l.length - (intOf c).toNat)
  case atStart => exact ⟨1, 0, Nat.le_refl _, by omega, rfl, rfl, Lib.hid fun j h1 h2 => by omega⟩
  case round =>
    obtain ⟨k, m0, hk1, hk, rfl, rfl, hall⟩ := hrel
    by_cases hlt : k < l.length
    · have b1 : (k : Int) < l.length := by omega
      have b2 : (k : Int) - 1 < l.length := by omega
      have b3 : (0 : Int) ≤ (k : Int) - 1 := by omega
      have w1 := IntWalk.i64_in (n := (k : Int) + 1) (by omega)
      have w2 := IntWalk.i64_in (n := (k : Int) - 1) (by omega)
      have x0 := (hc'.out k hlt 0 (by decide)).1
      have x1 := (hc'.out k hlt 1 (by decide)).1
      have y0 := (hc'.out (k - 1) (by omega) 0 (by decide)).1
      have y1 := (hc'.out (k - 1) (by omega) 1 (by decide)).1
      have ex : l.getD k (0, 0) = l[k] := by rw [List.getD_eq_getElem?_getD, List.getElem?_eq_getElem hlt]; rfl
      have ey : l.getD (k - 1) (0, 0) = l[k - 1] := by rw [List.getD_eq_getElem?_getD, List.getElem?_eq_getElem (by omega)]; rfl
      have hP : Hid (l[k] = l[k - 1] → CpI l l (k + 1) k) := Lib.hid fun he => CpI.start hlt (by omega) hall.out (by rw [ex, ey]; exact he)
      have hQ : Hid (l[k] ≠ l[k - 1] → ∀ j, 1 ≤ j → j < k + 1 → l.getD j (0, 0) ≠ l.getD (j - 1) (0, 0)) := Lib.hid fun he j h1 h2 => by
        by_cases e : j = k
        · subst e; rw [ex, ey]; exact he
        · exact hall.out j h1 (by omega)
      clear ex ey hall
      simp only [encC, List.getElem?_cons_zero, List.getElem?_cons_succ, Nat.add_zero] at x0 x1 y0 y1
      generalize l[k] = X at *
      generalize l[k - 1] = Y at *
      obtain ⟨X0, X1⟩ := X
      obtain ⟨Y0, Y1⟩ := Y
      dsimp only at x0 x1 y0 y1
      obtain ⟨kk, rfl⟩ : ∃ kk, k = kk + 1 := ⟨k - 1, by omega⟩
      rw [Nat.add_sub_cancel] at y0 y1
      generalize hK1 : kk + 1 = K1 at *
      have hwr : IntKind.i64.wrap ((K1 : Int) - 1) = (kk : Int) := by rw [IntWalk.i64_in _ (by omega)]; omega
      have b4 : (kk : Int) < l.length := by omega
      replace hK1 := Lib.hid hK1
      clear b2 b3 w2
      have x0' : (w.drewN m0).cell? ⟨g, off + K1 * 2, none⟩ = some (.int .u64 X0) := x0
      have x1' : (w.drewN m0).cell? ⟨g, off + K1 * 2 + 1, none⟩ = some (.int .u64 X1) := x1
      have y0' : (w.drewN m0).cell? ⟨g, off + kk * 2, none⟩ = some (.int .u64 Y0) := y0
      have y1' : (w.drewN m0).cell? ⟨g, off + kk * 2 + 1, none⟩ = some (.int .u64 Y1) := y1
      clear x0 x1 y0 y1
      have hXY := Lib.hid (And.intro x0' (And.intro x1' (And.intro y0' y1')))
      obtain ⟨wz, hwr0⟩ : ∃ wz, wz = w.drewN m0 := ⟨_, rfl⟩
      rw [← hwr0] at x0' x1' y0' y1' hXY ⊢
      replace hwr0 := Lib.hid hwr0
      by_cases he : X0 = Y0 ∧ X1 = Y1
      · obtain ⟨rfl, rfl⟩ := he
        have hC := Lib.hid (hP.out rfl)
        have hE2 : ∀ w, (binOp .eql 45 (.agg #[.int .u64 X0, .int .u64 X1]) (.agg #[.int .u64 X0, .int .u64 X1])).run Try.prog w = .ok (.bool true) w := fun w => by rw [hEq]; simp
        have hcK : (cp = K1) = False := eq_false (by have := hcp.1; omega)
        clear hP hQ x0' x1' y0' y1' hE2
        have hE2 : ∀ w, (binOp .eql 45 (.agg #[.int .u64 X0, .int .u64 X1]) (.agg #[.int .u64 X0, .int .u64 X1])).run Try.prog w = .ok (.bool true) w := fun w => by rw [hEq]; simp
        clear hEq
        obtain ⟨x0', x1', y0', y1'⟩ := hXY.out
        go_wp2_with fail
        go_quiet (fail)
        go_wp2
        clear x0' x1' y0' y1' hE2
        go_loopw [3, 5] (fun c3 c5 w2 => ∃ (n m : Nat) (L : List (Int × Int)), 1 ≤ n ∧ K1 + n ≤ l.length ∧ c3 = .int .i64 (m : Int) ∧ c5 = .int .i64 (n : Int) ∧ Hid (CpI l L (K1 + n) m) ∧ Hid (Sl 45 2 encC w2 (.slice (some ⟨g, off, none⟩) l.length cp) L) ∧ Hid (Fr (own (.slice (some ⟨g, off, none⟩) l.length cp)) w (own (.slice (some ⟨g, off, none⟩) l.length cp)) w2)) (fun _ c5 _ => l.length - (intOf c5).toNat)
        case atStart => exact ⟨1, K1, l, Nat.le_refl _, by omega, rfl, rfl, hC, Lib.hid (by rw [hwr0.out]; exact (h.out.drewN _).drewN _), Lib.hid (by rw [hwr0.out]; exact ((Fr.refl _ _).drewN _).drewN _)⟩
        case round =>
          obtain ⟨n, m, L, hn1, hn, rfl, rfl, hI, hS, hF⟩ := hrel
          have hLl := hI.out.len
          have hmlt := hI.out.lt
          by_cases hlt2 : K1 + n < l.length
          · obtain ⟨nn, rfl⟩ : ∃ nn, n = nn + 1 := ⟨n - 1, by omega⟩
            obtain ⟨g', o', e1, hg', hcc⟩ := hS.out.cell encC_len (by decide) (show 0 < L.length by omega)
            injection e1 with e1
            injection e1 with e1 e2
            subst e1 e2
            have p0 := (hcc (K1 + (nn + 1)) (by omega) 0 (by decide)).1
            have p1 := (hcc (K1 + (nn + 1)) (by omega) 1 (by decide)).1
            have q0 := (hcc (K1 + nn) (by omega) 0 (by decide)).1
            have q1 := (hcc (K1 + nn) (by omega) 1 (by decide)).1
            obtain ⟨s0, f0⟩ := hcc m (by omega) 0 (by decide)
            obtain ⟨s1, f1⟩ := hcc m (by omega) 1 (by decide)
            have eP := hI.out.hi (K1 + (nn + 1)) (by omega)
            have eQ := hI.out.hi (K1 + nn) (by omega)
            have eP2 : L[K1 + (nn + 1)]'(by omega) = l.getD (K1 + (nn + 1)) (0, 0) := by rw [← eP, List.getD_eq_getElem?_getD, List.getElem?_eq_getElem (by omega)]; rfl
            have eQ2 : L[K1 + nn]'(by omega) = l.getD (K1 + nn) (0, 0) := by rw [← eQ, List.getD_eq_getElem?_getD, List.getElem?_eq_getElem (by omega)]; rfl
            rw [eP2] at p0 p1
            rw [eQ2] at q0 q1
            have hPut : Hid (l.getD (K1 + (nn + 1)) (0, 0) ≠ l.getD (K1 + nn) (0, 0) → CpI l (L.set m (l.getD (K1 + (nn + 1)) (0, 0))) (K1 + (nn + 1 + 1)) (m + 1)) := Lib.hid fun he => by
              have := hI.out.put (by omega) he
              exact this
            have hSkip : Hid (l.getD (K1 + (nn + 1)) (0, 0) = l.getD (K1 + nn) (0, 0) → CpI l L (K1 + (nn + 1 + 1)) m) := Lib.hid fun he => hI.out.skip (by omega) he
            generalize l.getD (K1 + (nn + 1)) (0, 0) = P at *
            generalize l.getD (K1 + nn) (0, 0) = Q at *
            have hSet : Hid (∀ n' : Nat, Sl 45 2 encC (((wr.drewN n').setCell ⟨g, off + m * 2, none⟩ (.int .u64 P.1)).setCell ⟨g, off + m * 2 + 1, none⟩ (.int .u64 P.2)) (.slice (some ⟨g, off, none⟩) l.length cp) (L.set m P) ∧ Fr (own (.slice (some ⟨g, off, none⟩) l.length cp)) w (own (.slice (some ⟨g, off, none⟩) l.length cp)) (((wr.drewN n').setCell ⟨g, off + m * 2, none⟩ (.int .u64 P.1)).setCell ⟨g, off + m * 2 + 1, none⟩ (.int .u64 P.2))) := Lib.hid fun n' => by
              have u1 := (hS.out.drewN n').upd encC_len (i := m) (j := 0) (by omega) (by decide) (.int .u64 P.1) (P.1, (L[m]'(by omega)).2) rfl
              have u2 := u1.upd encC_len (i := m) (j := 1) (by rw [List.length_set]; omega) (by decide) (.int .u64 P.2) P (by rw [List.getElem_set_self]; rfl)
              rw [List.set_set] at u2
              exact ⟨u2, ((hF.out.drewN n').set (p := ⟨g, off + m * 2, none⟩) (.inl (by simp [own, Value.ownBlock])) _).set (p := ⟨g, off + m * 2 + 1, none⟩) (.inl (by simp [own, Value.ownBlock])) _⟩
            obtain ⟨P0, P1⟩ := P
            obtain ⟨Q0, Q1⟩ := Q
            simp only [encC, List.getElem?_cons_zero, List.getElem?_cons_succ, Nat.add_zero] at p0 p1 q0 q1 s0 s1 f0 f1
            rw [show off + (K1 + (nn + 1)) * 2 = off + K1 * 2 + (nn + 1) * 2 by omega] at p0
            rw [show off + ((K1 + (nn + 1)) * 2 + 1) = off + K1 * 2 + (nn + 1) * 2 + 1 by omega] at p1
            rw [show off + (K1 + nn) * 2 = off + K1 * 2 + nn * 2 by omega] at q0
            rw [show off + ((K1 + nn) * 2 + 1) = off + K1 * 2 + nn * 2 + 1 by omega] at q1
            rw [show off + (m * 2 + 1) = off + m * 2 + 1 by omega] at s1 f1
            generalize (L[m]'(by omega)).1 = o0 at s0
            generalize (L[m]'(by omega)).2 = o1 at s1
            clear eP eQ eP2 eQ2 hcc
            generalize hN : nn + 1 = N at *
            have hwr : IntKind.i64.wrap ((N : Int) - 1) = (nn : Int) := by rw [IntWalk.i64_in _ (by omega)]; omega
            have c1 : (N : Int) < ((l.length - K1 : Nat) : Int) := by omega
            have c2 : (nn : Int) < ((l.length - K1 : Nat) : Int) := by omega
            have c3 : (m : Int) < (l.length : Int) := by omega
            have w3 := IntWalk.i64_in (n := (N : Int) + 1) (by omega)
            have w4 := IntWalk.i64_in (n := (m : Int) + 1) (by omega)
            replace hN := Lib.hid hN
            by_cases he : P0 = Q0 ∧ P1 = Q1
            · obtain ⟨rfl, rfl⟩ := he
              have hNE : ∀ w, (binOp .neq 45 (.agg #[.int .u64 P0, .int .u64 P1]) (.agg #[.int .u64 P0, .int .u64 P1])).run Try.prog w = .ok (.bool false) w := fun w => by rw [hNe]; simp
              have hI2 := Lib.hid (hSkip.out rfl)
              clear hPut hSkip hSet hI hNe
              go_wp2_with fail
              go_quiet (fail)
              go_wp2
              go_roundw
              case rel => exact ⟨N + 1, m, L, by omega, by omega, rfl, by go_num, hI2, Lib.hid (hS.out.drewN _), Lib.hid (hF.out.drewN _)⟩
              case measure => simp [intOf]; omega
            · have hNE : ∀ w, (binOp .neq 45 (.agg #[.int .u64 P0, .int .u64 P1]) (.agg #[.int .u64 Q0, .int .u64 Q1])).run Try.prog w = .ok (.bool true) w := fun w => by
                rw [hNe]
                have : (decide (P0 = Q0) && decide (P1 = Q1)) = false := by simpa using he
                rw [this]; rfl
              have hI2 := Lib.hid (hPut.out (fun e => he (by injection e with e1 e2; exact ⟨e1, e2⟩)))
              replace he := Lib.hid he
              clear hPut hSkip hI hNe
              go_wp2_with fail
              go_quiet (fail)
              go_wp2
              go_roundw
              case rel => exact ⟨N + 1, m + 1, _, by omega, by omega, by go_num, by go_num, hI2, Lib.hid (hSet.out _).1, Lib.hid (hSet.out _).2⟩
              case measure => simp [intOf]; omega
          · have hend : K1 + n = l.length := by omega
            obtain ⟨g', o', e1, hg', hcc⟩ := hS.out.cell encC_len (by decide) (show 0 < L.length by omega)
            injection e1 with e1
            injection e1 with e1 e2
            subst e1 e2
            have hcl : Hid (∀ ty, ∃ vs, (Builtin.clear_ #[43] ty #[.slice (some ⟨g, off + m * 2, none⟩) (l.length - m) (cp - m)]).run Try.prog wr = .ok (.tuple #[]) (wr.setCells g (off + m * 2) vs)) := Lib.hid fun ty => run_clear_cells wr ty g (off + m * 2) (l.length - m) (cp - m) (by omega) fun j hj => by
              obtain ⟨k1, k2⟩ := hcc (m + j / 2) (by omega) (j % 2) (by omega)
              rw [show off + ((m + j / 2) * 2 + j % 2) = off + m * 2 + j by omega] at k1 k2
              refine ⟨?_, k2⟩
              rw [k1, List.getElem?_eq_getElem (by rw [encC_len]; omega)]
              rfl
            have hm0 := hI.out.eq
            have hlo := hI.out.lo
            rw [hend] at hm0 hlo
            have hR : Hid (∀ vs, Sl 45 2 encC (wr.setCells g (off + m * 2) vs) (.slice (some ⟨g, off, none⟩) m cp) (compC l) ∧ Fr (own (.slice (some ⟨g, off, none⟩) l.length cp)) w (own (.slice (some ⟨g, off, none⟩) m cp)) (wr.setCells g (off + m * 2) vs) ∧ (compC l).length = m) := Lib.hid fun vs => by
              obtain ⟨r1, r2⟩ := hS.out.head (m := m) (by omega) vs
              unfold compC
              rw [← hlo]
              exact ⟨r1, hF.out.trans r2, by rw [hlo, hm0]⟩
            have hcm : (cp = m) = False := eq_false (by have := hcp.1; omega)
            have c1 : ¬ (n : Int) < ((l.length - K1 : Nat) : Int) := by omega
            have c3 : (m : Int) ≤ (l.length : Int) := by omega
            clear hcc hm0 hlo
            obtain ⟨vs, hrun⟩ := hcl.out 0
            go_wp2
            go_ret
            obtain ⟨r1, r2, r3⟩ := hR.out vs
            exact ⟨by rw [r3]; rfl, by rw [r3]; exact r1, by rw [r3]; exact r2⟩
      · have hC := Lib.hid (hQ.out (fun e => he (by injection e with e1 e2; exact ⟨e1, e2⟩)))
        have hE2 : ∀ w, (binOp .eql 45 (.agg #[.int .u64 X0, .int .u64 X1]) (.agg #[.int .u64 Y0, .int .u64 Y1])).run Try.prog w = .ok (.bool false) w := fun w => by
          rw [hEq]
          have : (decide (X0 = Y0) && decide (X1 = Y1)) = false := by simpa using he
          rw [this]
        clear hP hQ hEq he
        go_wp2_with fail
        go_quiet (fail)
        go_wp2
        go_roundw
        case rel => exact ⟨K1 + 1, m0 + nq, by omega, by omega, by go_num, by rw [hwr0.out, drewN_drewN], hC⟩
        case measure => simp [intOf]; omega
    · have e : k = l.length := by omega
      subst e
      have e : compC l = l := by
        unfold compC
        rw [ddT_pre _ (Nat.le_refl _) hall.out, List.take_length]
      have e2 : Hid (compC l = l) := Lib.hid e
      clear e hall hk1 hk hlt
      go_wp2
      go_ret
      rw [e2.out]
      exact ⟨rfl, h.out.drewN _, (Fr.refl _ _).drewN _⟩
end Go.Proofs.Ytloiadhdkgkjkaa
/- The document's answer for chapter 16: stood over cells that came in; two lists of numbers, of cells. -/
namespace Go.Proofs.Ytloiadhdkgkjkaa
open Go.RowKit
set_option maxHeartbeats 40000000
set_option linter.unusedVariables false
set_option linter.unusedSimpArgs false
set_option maxRecDepth 100000 in
theorem rstoodP_b {w : World} {vc vw : Value} {cells : List Int} {words : List (Int × Int)} (h1 : Lies w vc cells) (h2 : LiesP w vw words) (hc : (cells.length : Int) ≤ 9223372036854775807) (hn : (words.length : Int) ≤ 9223372036854775807) (hb : ∀ p ∈ words, 0 ≤ p.1 ∧ p.1 < (cells.length : Int)) :
    Calls Try.prog 34 #[vc, vw] w fun x w' => x = .returned (.bool (stoodR cells words)) ∧ ∃ n, w' = w.drewN n := by
  obtain ⟨A1, c1, rfl, hc1, -, k1⟩ := h1
  obtain ⟨A2, c2, rfl, h2⟩ := h2
  go_enter Try.func34, Try.ntmps34
  go_wp2
  go_loopg [5] words.length (fun gk c5 wr => ∃ j nd : Nat, gk + j = words.length ∧ c5 = .int .i64 (j : Int) ∧ wr = w.drewN nd ∧ Hid (∀ p ∈ words.take j, (cells.getD p.1.toNat 0 == p.2) = true))
  case atStart => exact ⟨0, 0, rfl, rfl, rfl, Lib.hid (by simp)⟩
  case round =>
    obtain ⟨j, nd, hj, rfl, rfl, hall⟩ := hrel
    rcases Nat.lt_or_ge j words.length with hlt | hge
    · obtain ⟨g2, o2, e2, hg2, d0, d1⟩ := h2 j hlt
      subst e2
      obtain ⟨hp0, hp1⟩ := hb _ (List.getElem_mem hlt)
      have htk : words.take (j + 1) = words.take j ++ [words[j]] := by rw [List.take_add_one, List.getElem?_eq_getElem hlt]; rfl
      have hmem : words[j] ∈ words := List.getElem_mem hlt
      generalize words[j] = p at *
      obtain ⟨p1, p2⟩ := p
      dsimp only at hp0 hp1 d0 d1
      obtain ⟨a, rfl⟩ := Int.eq_ofNat_of_zero_le hp0
      have ha : a < cells.length := by omega
      obtain ⟨g1, o1, rfl, f⟩ := k1 a ha
      obtain ⟨y, hy⟩ : ∃ y, cells.getD a 0 = y := ⟨_, rfl⟩
      rw [hy] at f
      have b1 : (j : Int) < words.length := by omega
      clear k1 h2 hg2
      replace hp0 := Lib.hid hp0
      replace htk := Lib.hid htk
      replace hmem := Lib.hid hmem
      replace hy := Lib.hid hy
      by_cases he : y = p2
      · have he1 : (y != p2) = false := by simpa using he
        replace he := Lib.hid he
        go_wp2
        go_quiet (fail)
        go_wp2
        obtain ⟨k, rfl⟩ : ∃ k, gk = k + 1 := ⟨gk - 1, by omega⟩
        go_roundg k
        case measure => omega
        case rel =>
          refine ⟨j + 1, nd + nq, by omega, by simp, rfl, Lib.hid fun q hq => ?_⟩
          rw [htk.out, List.mem_append, List.mem_singleton] at hq
          rcases hq with hq | hq
          · exact hall.out q hq
          · subst hq
            show (cells.getD ((a : Int)).toNat 0 == p2) = true
            rw [Int.toNat_natCast, hy.out, he.out]
            simp
      · have he1 : (y != p2) = true := by simpa using he
        replace he := Lib.hid he
        go_wp2
        go_quiet (fail)
        go_wp2
        go_ret
        refine ⟨ret_bool ?_, nd + nq, drewN_drewN _ _ _⟩
        symm
        unfold stoodR
        rw [List.all_eq_false]
        refine ⟨_, hmem.out, ?_⟩
        dsimp only
        rw [Int.toNat_natCast, hy.out]
        simpa using he.out
    · go_wp2
      go_ret
      refine ⟨ret_bool ?_, nd, rfl⟩
      symm
      unfold stoodR
      rw [List.all_eq_true]
      intro p hp
      exact hall.out p (by rw [List.take_of_length_le hge]; exact hp)
set_option maxRecDepth 100000 in
theorem sameInts_b {w : World} {va vb : Value} {l : List Nat} (h1 : Sl 3 1 encI w va l) (h2 : Sl 3 1 encI w vb l) (hn : (l.length : Int) ≤ 9223372036854775806) :
    Calls Try.prog 22 #[va, vb] w fun x w' => x = .returned (.bool true) ∧ ∃ n, w' = w.drewN n := by
  obtain ⟨A1, c1, rfl, -⟩ := h1.shape
  obtain ⟨A2, c2, rfl, -⟩ := h2.shape
  replace h1 := Lib.hid h1
  replace h2 := Lib.hid h2
  go_enter Try.func22, Try.ntmps22
  go_wp2
  go_loopg [5] l.length (fun gk c5 wr => ∃ j nd : Nat, gk + j = l.length ∧ c5 = .int .i64 (j : Int) ∧ wr = w.drewN nd)
  case atStart => exact ⟨0, 0, rfl, rfl, rfl⟩
  case round =>
    obtain ⟨j, nd, hj, rfl, rfl⟩ := hrel
    rcases Nat.lt_or_ge j l.length with hlt | hge
    · obtain ⟨g1, o1, rfl, -, d⟩ := h1.out.cell encI_len (by decide) hlt
      obtain ⟨g2, o2, rfl, -, f⟩ := h2.out.cell encI_len (by decide) hlt
      have d0 := (d j hlt 0 (by decide)).1
      have f0 := (f j hlt 0 (by decide)).1
      simp only [encI, List.getElem?_cons_zero, Nat.mul_one, Nat.add_zero] at d0 f0
      clear d f
      generalize l[j] = x at *
      have b1 : (j : Int) < l.length := by omega
      have w1 := IntWalk.i64_in (n := (j : Int) + 1) (by omega)
      obtain ⟨wq, hwq⟩ : ∃ wq, wq = w.drewN nd := ⟨_, rfl⟩
      have d0' : wq.cell? ⟨g1, o1 + j, none⟩ = some (.int .i64 x) := by rw [hwq]; exact d0
      have f0' : wq.cell? ⟨g2, o2 + j, none⟩ = some (.int .i64 x) := by rw [hwq]; exact f0
      rw [← hwq]
      replace hwq := Lib.hid hwq
      clear d0 f0
      go_wp2_with fail
      go_quiet (fail)
      go_wp2
      obtain ⟨k, rfl⟩ : ∃ k, gk = k + 1 := ⟨gk - 1, by omega⟩
      go_roundg k
      case measure => omega
      case rel => exact ⟨j + 1, nd + nq, by omega, by go_num, by rw [hwq.out, drewN_drewN]⟩
    · have b1 : ¬ (j : Int) < l.length := by omega
      go_wp2
      go_ret
      exact ⟨rfl, nd, rfl⟩
set_option maxRecDepth 100000 in
theorem sameCells_b {w : World} {va vb : Value} {l : List (Int × Int)} (h1 : LiesP w va l) (h2 : LiesP w vb l) (hn : (l.length : Int) ≤ 9223372036854775806) :
    Calls Try.prog 23 #[va, vb] w fun x w' => x = .returned (.bool true) ∧ ∃ n, w' = w.drewN n := by
  obtain ⟨A1, c1, rfl, h1⟩ := h1
  obtain ⟨A2, c2, rfl, h2⟩ := h2
  replace h1 := Lib.hid h1
  replace h2 := Lib.hid h2
  go_enter Try.func23, Try.ntmps23
  go_wp2
  go_loopg [5] l.length (fun gk c5 wr => ∃ j nd : Nat, gk + j = l.length ∧ c5 = .int .i64 (j : Int) ∧ wr = w.drewN nd)
  case atStart => exact ⟨0, 0, rfl, rfl, rfl⟩
  case round =>
    obtain ⟨j, nd, hj, rfl, rfl⟩ := hrel
    rcases Nat.lt_or_ge j l.length with hlt | hge
    · obtain ⟨g1, o1, e1, -, d0, d1⟩ := h1.out j hlt
      obtain ⟨g2, o2, e2, -, f0, f1⟩ := h2.out j hlt
      subst e1 e2
      generalize l[j] = x at *
      obtain ⟨a, b⟩ := x
      dsimp only at d0 d1 f0 f1
      have b1 : (j : Int) < l.length := by omega
      have w1 := IntWalk.i64_in (n := (j : Int) + 1) (by omega)
      have hNE : ∀ w, (binOp .neq 45 (.agg #[.int .u64 a, .int .u64 b]) (.agg #[.int .u64 a, .int .u64 b])).run Try.prog w = .ok (.bool false) w := fun w => by rw [cell_neq]; simp
      obtain ⟨wq, hwq⟩ : ∃ wq, wq = w.drewN nd := ⟨_, rfl⟩
      have d0' : wq.cell? ⟨g1, o1 + j * 2, none⟩ = some (.int .u64 a) := by rw [hwq]; exact d0
      have d1' : wq.cell? ⟨g1, o1 + j * 2 + 1, none⟩ = some (.int .u64 b) := by rw [hwq]; exact d1
      have f0' : wq.cell? ⟨g2, o2 + j * 2, none⟩ = some (.int .u64 a) := by rw [hwq]; exact f0
      have f1' : wq.cell? ⟨g2, o2 + j * 2 + 1, none⟩ = some (.int .u64 b) := by rw [hwq]; exact f1
      rw [← hwq]
      replace hwq := Lib.hid hwq
      clear d0 f0 d1 f1
      go_wp2_with fail
      go_quiet (fail)
      go_wp2
      obtain ⟨k, rfl⟩ : ∃ k, gk = k + 1 := ⟨gk - 1, by omega⟩
      go_roundg k
      case measure => omega
      case rel => exact ⟨j + 1, nd + nq, by omega, by go_num, by rw [hwq.out, drewN_drewN]⟩
    · have b1 : ¬ (j : Int) < l.length := by omega
      go_wp2
      go_ret
      exact ⟨rfl, nd, rfl⟩
end Go.Proofs.Ytloiadhdkgkjkaa
/- slices.ContainsFunc over cells, by contract; opaque.Together's closure. -/
namespace Go.Proofs.Ytloiadhdkgkjkaa
open Go.RowKit
set_option maxHeartbeats 4000000
set_option linter.unusedVariables false
set_option linter.unusedSimpArgs false
def idxP (p : Int × Int → Bool) (l : List (Int × Int)) : Int := match l.findIdx? p with | some i => (i : Int) | none => -1
theorem idxP_some {p : Int × Int → Bool} {l : List (Int × Int)} {i : Nat} (hi : i < l.length) (h1 : p (l[i]'hi) = true) (h0 : ∀ j (hj : j < i), p (l[j]'(Nat.lt_trans hj hi)) = false) : idxP p l = i := by
  unfold idxP
  have : l.findIdx? p = some i := List.findIdx?_eq_some_iff_getElem.2 ⟨hi, h1, fun j hj => by simpa using h0 j hj⟩
  rw [this]
theorem idxP_none {p : Int × Int → Bool} {l : List (Int × Int)} (h : ∀ j (hj : j < l.length), p (l[j]'hj) = false) : idxP p l = -1 := by
  unfold idxP
  have : l.findIdx? p = none := List.findIdx?_eq_none_iff.2 fun x hx => by
    obtain ⟨j, hj, rfl⟩ := List.mem_iff_getElem.1 hx
    simpa using h j hj
  rw [this]
theorem idxP_any (p : Int × Int → Bool) (l : List (Int × Int)) : decide (idxP p l ≥ 0) = l.any p := by
  unfold idxP
  split
  · rename_i i h
    obtain ⟨h1, h2, -⟩ := List.findIdx?_eq_some_iff_getElem.1 h
    have : l.any p = true := List.any_eq_true.2 ⟨_, List.getElem_mem h1, h2⟩
    rw [this]; simp
  · rename_i h
    have : l.any p = false := by
      rw [List.any_eq_false]
      intro x hx
      have := List.findIdx?_eq_none_iff.1 h x hx
      simpa using this
    rw [this]; simp
set_option maxRecDepth 100000 in
theorem indexC_b {p : Int × Int → Bool} {gf : Nat} {cap : Array Value} {w : World} {A : Option Addr} {cp : Nat} {l : List (Int × Int)} (hL : LiesP w (.slice A l.length cp) l) (hll : l.length ≤ 9223372036854775807) (eg : ∀ args w, (callFunc gf args).run Try.prog w = .ok (.enter gf args) w)
    (C : ∀ W, Below w.heap.size w W → ∀ c ∈ l, Calls Try.prog gf (#[.agg #[.int .u64 c.1, .int .u64 c.2]] ++ cap) W fun x W' => x = .returned (.bool (p c)) ∧ Below W.heap.size W W') :
    Calls Try.prog 56 #[.slice A l.length cp, .func (.func gf) #[] cap] w fun x w' => x = .returned (.int .i64 (idxP p l)) ∧ Below w.heap.size w w' := by
  have hlen : (l.length : Int) ≤ 9223372036854775807 := by omega
  replace hL := Lib.hid hL
  replace C := Lib.hid C
  replace hll := Lib.hid hll
  go_enter Try.func56, Try.ntmps56
  go_wp2_with fail
  go_loopw [8] (fun i wr => ∃ k : Nat, k ≤ l.length ∧ i = .int .i64 k ∧ Hid (∀ j (hj : j < k) (hj2 : j < l.length), p (l[j]'hj2) = false) ∧ Hid (Below w.heap.size w wr)) (fun i _ => l.length - (intOf i).toNat)
  case atStart => exact ⟨0, Nat.zero_le _, rfl, Lib.hid fun j hj => by omega, Lib.hid (Below.refl _ _)⟩
  case round =>
    obtain ⟨k, hk, rfl, hno, hbl⟩ := hrel
    by_cases hlt : k < l.length
    · obtain ⟨A', cp', eA, hcl⟩ := hL.out.below hbl.out
      injection eA with e1 e2 e3
      subst e1 e3
      obtain ⟨g, o, hA, hg, d0, d1⟩ := hcl k hlt
      subst hA
      have HC := Lib.hid (C.out wr hbl.out l[k] (List.getElem_mem hlt))
      have hnk := Lib.hid (fun (h1 : p l[k] = true) => idxP_some hlt h1 (fun j hj => hno.out j hj (Nat.lt_trans hj hlt)))
      have hno' := Lib.hid (fun (h1 : p l[k] = false) j (hj : j < k + 1) (hj2 : j < l.length) => show p (l[j]'hj2) = false from by
        by_cases e : j = k
        · subst e; exact h1
        · exact hno.out j (by omega) hj2)
      generalize l[k] = e at *
      obtain ⟨a0, x0⟩ := e
      dsimp only at d0 d1 HC
      generalize p (a0, x0) = r at *
      have hlt' : (k : Int) < (l.length : Int) := by omega
      clear hcl hg C e2
      go_wp2_with fail
      refine HC.out.mono ?_
      rintro _ w3 ⟨rfl, hb3⟩
      have hbl3 := Lib.hid (hbl.out.trans (hb3.mono hbl.out.size))
      clear hb3 HC
      cases r
      · go_wp2
        go_roundw
        case rel => exact ⟨k + 1, hlt, by go_num, Lib.hid (hno'.out (by trivial)), hbl3⟩
        case measure => simp [intOf]; omega
      · go_wp2
        go_ret
        exact ⟨ret_int (hnk.out (by trivial)).symm, hbl3.out⟩
    · go_wp2
      go_ret
      exact ⟨ret_int (idxP_none fun j hj => hno.out j (by omega) hj).symm, hbl.out⟩
set_option maxRecDepth 100000 in
theorem containsC_b {p : Int × Int → Bool} {gf : Nat} {cap : Array Value} {w : World} {A : Option Addr} {cp : Nat} {l : List (Int × Int)} (hL : LiesP w (.slice A l.length cp) l) (hll : l.length ≤ 9223372036854775807) (eg : ∀ args w, (callFunc gf args).run Try.prog w = .ok (.enter gf args) w)
    (C : ∀ W, Below w.heap.size w W → ∀ c ∈ l, Calls Try.prog gf (#[.agg #[.int .u64 c.1, .int .u64 c.2]] ++ cap) W fun x W' => x = .returned (.bool (p c)) ∧ Below W.heap.size W W') :
    Calls Try.prog 40 #[.slice A l.length cp, .func (.func gf) #[] cap] w fun x w' => x = .returned (.bool (l.any p)) ∧ Below w.heap.size w w' := by
  have H := Lib.hid (indexC_b hL hll eg C)
  have ha := Lib.hid (idxP_any p l)
  generalize idxP p l = i at *
  generalize l.any p = b at *
  clear hL C eg
  replace hll := Lib.hid hll
  go_enter Try.func40, Try.ntmps40
  go_wp2_with fail
  refine H.out.mono ?_
  rintro _ w1 ⟨rfl, hb1⟩
  replace hb1 := Lib.hid hb1
  clear H
  go_wp2
  all_goals go_ret
  all_goals exact ⟨ret_bool (by rw [← ha.out]), hb1.out⟩
section
variable {B : Nat} {w : World} {vb nb mb : Nat} {v : Vw} {size : Nat} {fv cv : Nat → Value} {sv : Value}
set_option maxRecDepth 100000 in
theorem tog1_b (h : VwW B w vb nb mb v size fv cv sv) {xb : Nat} (hx : Blk w xb 62 #[.pointer (some ⟨vb, 0, none⟩)]) (hs : size ≤ 65536) (c : Int × Int) :
    Calls Try.prog 41 #[.agg #[.int .u64 c.1, .int .u64 c.2], .pointer (some ⟨xb, 0, none⟩)] w fun x w' => x = .returned (.bool (decide (c.1 ≥ (size : Int)))) ∧ Below w.heap.size w w' := by
  obtain ⟨a, y⟩ := c
  have hbel := Lib.hid ((Below.refl w.heap.size w).alloc (Nat.le_refl _) (.cells #[.int .u64 a, .int .u64 y] 45))
  have x0 := (hx.alloc (.cells #[.int .u64 a, .int .u64 y] 45)).cell 0
  have v1 := (h.vblk.alloc (.cells #[.int .u64 a, .int .u64 y] 45)).cell 1
  simp only [List.getElem?_toArray, List.getElem?_cons_zero, List.getElem?_cons_succ] at x0 v1
  have hs' : (size : Int) ≤ 65536 := by omega
  clear h hx
  dsimp only
  go_enter Try.func41, Try.ntmps41
  go_wp2
  go_quiet (fail)
  go_wp2
  all_goals go_ret
  all_goals exact ⟨ret_bool (by simp_all), below_drewNs hbel.out _⟩
end
end Go.Proofs.Ytloiadhdkgkjkaa
/- opaque.Together by contract, behind see's. -/
namespace Go.Proofs.Ytloiadhdkgkjkaa
open Go.RowKit
set_option maxHeartbeats 4000000
set_option linter.unusedVariables false
set_option linter.unusedSimpArgs false
/-- When these words stood there together, behind fewer than k commits. -/
def togK (cells : Nat → List (Nat × Int)) (words : List (Int × Int)) (k : Nat) : List Nat := (List.range k).filter fun n => stoodW cells n words
theorem togK_yes {cells : Nat → List (Nat × Int)} {words : List (Int × Int)} {k : Nat} (h : stoodW cells k words = true) : togK cells words (k + 1) = togK cells words k ++ [k] := by
  unfold togK; rw [List.range_succ, List.filter_append]; simp [h]
theorem togK_no {cells : Nat → List (Nat × Int)} {words : List (Int × Int)} {k : Nat} (h : stoodW cells k words = false) : togK cells words (k + 1) = togK cells words k := by
  unfold togK; rw [List.range_succ, List.filter_append]; simp [h]
theorem togK_len (cells : Nat → List (Nat × Int)) (words : List (Int × Int)) (k : Nat) : (togK cells words k).length ≤ k := by
  unfold togK; have := List.length_filter_le (fun n => stoodW cells n words) (List.range k); simpa using this
set_option maxRecDepth 100000 in
theorem together_b {w : World} {Af A Aw : Option Addr} {first : List Int} {l : List Ev} {words : List (Int × Int)} {cf cp cw : Nat}
    (SEE : ∀ W, Below w.heap.size w W → Calls Try.prog 26 #[.slice Af first.length cf, .slice A l.length cp] W (SeeP W first l))
    (hJ : seeOdd first.length l = (-1, 0) → VJ (vn first (rn l l.length).tries l l.length) first.length) (hsz : l.length * 48 + 480 ≤ 140737488355328)
    (hfl : seeOdd first.length l = (-1, 0) → first.length ≤ 65536)
    (hW : LiesP w (.slice Aw words.length cw) words) (hwl : words.length ≤ 9223372036854775807) (hwb : ∀ p ∈ words, 0 ≤ p.1) :
    Calls Try.prog 17 #[.slice Af first.length cf, .slice A l.length cp, .slice Aw words.length cw] w fun x w' => Below w.heap.size w w' ∧ (((seeOdd first.length l).2 ≠ 0 ∧ x = .returned (.tuple #[.slice none 0 0, .agg #[.int .i64 (seeOdd first.length l).1, .int .i64 (seeOdd first.length l).2]])) ∨
      (seeOdd first.length l = (-1, 0) ∧ okTo l l.length ∧ ((words.any (fun c => decide (c.1 ≥ (first.length : Int))) = true ∧ x = .returned (.tuple #[.slice none 0 0, .agg #[.int .i64 (-1), .int .i64 4]])) ∨
        (words.any (fun c => decide (c.1 ≥ (first.length : Int))) = false ∧ ∃ ov, x = .returned (.tuple #[ov, .agg #[.int .i64 (-1), .int .i64 0]]) ∧ Sl 3 1 encI w' ov (togK (vn first (rn l l.length).tries l l.length).cells words ((vn first (rn l l.length).tries l l.length).commits + 1)) ∧ ∀ q, own ov q → w.heap.size ≤ q)))) := by
  have hR1 := Blk.new w 28 #[.int .i64 0, .int .i64 0]
  have hb1 := (Below.refl w.heap.size w).alloc (Nat.le_refl _) (.cells #[.int .i64 0, .int .i64 0] 28)
  have S1 := Lib.hid (SEE _ hb1)
  replace hR1 := Lib.hid hR1
  replace hb1 := Lib.hid hb1
  replace hJ := Lib.hid hJ
  replace hfl := Lib.hid hfl
  replace hsz := Lib.hid hsz
  replace hW := Lib.hid hW
  replace hwl := Lib.hid hwl
  replace hwb := Lib.hid hwb
  obtain ⟨w1, hw1⟩ : ∃ w1, w1 = w.alloc (.cells #[.int .i64 0, .int .i64 0] 28) := ⟨_, rfl⟩
  rw [← hw1] at hR1 hb1 S1
  replace hw1 := Lib.hid hw1
  clear SEE
  go_enter Try.func17, Try.ntmps17
  go_wp2_with fail
  rw [← hw1.out]
  refine S1.out.mono ?_
  rintro e w2 ⟨hb2, (⟨ho, rfl⟩ | ⟨ho, hok, B, vb, nb, mb, fv, cv, sv, hB, rfl, hV, hVI⟩)⟩
  · obtain ⟨at0, hat0⟩ : ∃ x, (seeOdd first.length l).1 = x := ⟨_, rfl⟩
    obtain ⟨er0, her0⟩ : ∃ x, (seeOdd first.length l).2 = x := ⟨_, rfl⟩
    rw [hat0, her0]
    replace hat0 := Lib.hid hat0
    replace her0 := Lib.hid her0
    have hR2 := hR1.out.below hb2 hR1.out.lt
    have hbw := hb1.out.trans (hb2.mono hb1.out.size)
    have hb3 := Lib.hid ((hbw.alloc hbw.size (.cells #[.pointer none] 62)).alloc (hbw.alloc hbw.size _).size (.cells #[.int .i64 at0, .int .i64 er0] 28))
    have hR3 := (hR2.alloc (.cells #[.pointer none] 62)).alloc (.cells #[.int .i64 at0, .int .i64 er0] 28)
    have hX3 := (Blk.new w2 62 #[.pointer none]).alloc (.cells #[.int .i64 at0, .int .i64 er0] 28)
    have x0 := (hX3.cell 0).trans (show _ = some (.pointer none) from rfl)
    have r0 := hR3.cell 0
    have r1 := hR3.cell 1
    have f0 := hR3.frozen 0
    have f1 := hR3.frozen 1
    simp only [List.getElem?_toArray, List.getElem?_cons_zero, List.getElem?_cons_succ] at r0 r1
    have hlt2 := hR2.lt
    have hne2 : w.heap.size ≠ w2.heap.size := by omega
    have hne3 : w.heap.size ≠ w2.heap.size + 1 := by omega
    clear hb2 hR2 hR3 hR1 S1 hbw hX3
    replace ho := Lib.hid ho
    go_wp2
    refine wp_region_mixH (fun _ => True) [1, 3, 2] (List.range 3) (by kernel_rfl) (by kernel_rfl) (fun _ _ h => h) trivial ?_
    (repeat ((first | refine wpMixH_pure rfl rfl (fun K hK => ?_) | refine wpMixH_loc rfl rfl (fun K hK => ?_) | refine wpMixH_any rfl rfl (fun K hK => ?_)); go_simp; refine hK _ _ ?_; clear hK K))
    refine wpMixH_loud rfl rfl (fun n1 K hK => ?_)
    go_wp2
    refine hK _ _ (fun _ => trivial) ?_; clear hK K
    refine wpMixH_nil (fun n2 => ?_)
    go_wp2
    refine bodyPost_ret (v := .tuple #[.slice none 0 0, .agg #[.int .i64 at0, .int .i64 er0]]) (by simp [results, Try.results17, go_sem, r0, r1, f0, f1]) rfl ⟨below_drewNs (((below_drewNs hb3.out _).setCell (Nat.le_refl _) _).setCell (Nat.le_refl _) _) _, .inl ⟨ho.out, by rw [hat0.out, her0.out]⟩⟩
  · obtain ⟨vv, hvv⟩ : ∃ vv, vv = vn first (rn l l.length).tries l l.length := ⟨_, rfl⟩
    rw [← hvv] at hV hVI hJ
    have hVJ := Lib.hid (hJ.out ho)
    have hco := Lib.hid (cellsOk hVI hVJ.out (by have := hsz.out; omega))
    have hfl' := hfl.out ho
    have hbw := hb1.out.trans (hb2.mono hb1.out.size)
    have hR2 := hR1.out.below hb2 hR1.out.lt
    have hlt2 := hR2.lt
    obtain ⟨w3, hw3⟩ : ∃ w3, w3 = (w2.alloc (.cells #[.pointer (some ⟨vb, 0, none⟩)] 62)).alloc (.cells #[.int .i64 (-1), .int .i64 0] 28) := ⟨_, rfl⟩
    have hb3 : Below w.heap.size w w3 := by rw [hw3]; exact (hbw.alloc hbw.size _).alloc (hbw.alloc hbw.size _).size _
    have hR3 : Blk w3 w.heap.size 28 #[.int .i64 0, .int .i64 0] := by rw [hw3]; exact (hR2.alloc _).alloc _
    have hX3 : Blk w3 w2.heap.size 62 #[.pointer (some ⟨vb, 0, none⟩)] := by rw [hw3]; exact (Blk.new _ _ _).alloc _
    have hO3 : Blk w3 (w2.heap.size + 1) 28 #[.int .i64 (-1), .int .i64 0] := by
      have := Blk.new (w2.alloc (.cells #[.pointer (some ⟨vb, 0, none⟩)] 62)) 28 #[.int .i64 (-1), .int .i64 0]
      rw [World.size_alloc] at this
      rw [hw3]; exact this
    have hV3 : VwW B w3 vb nb mb vv first.length fv cv sv := by rw [hw3]; exact (hV.alloc _).alloc _
    have hW3 := Lib.hid (hW.out.below hb3)
    have u0 := (hX3.cell 0).trans (show _ = some (.pointer (some ⟨vb, 0, none⟩)) from rfl)
    rw [hw3] at u0
    have hsl3 : w3.heap.size = w2.heap.size + 2 := by rw [hw3]; simp
    have hclt : vv.commits + 1 ≤ 9223372036854775807 := by have := hVI.cm; have := hsz.out; omega
    have hwc : IntKind.i64.wrap ((vv.commits : Int) + 1) = (vv.commits : Int) + 1 := IntWalk.i64_in _ (by omega)
    replace hclt := Lib.hid hclt
    have hcm := Lib.hid hVI.cm
    have eg : ∀ args w, (callFunc 41 args).run Try.prog w = .ok (.enter 41 args) w := fun _ _ => rfl
    have CC := Lib.hid (containsC_b (p := fun c => decide (c.1 ≥ (first.length : Int))) (cap := #[.pointer (some ⟨w2.heap.size, 0, none⟩)]) hW3.out hwl.out eg (fun W hb c hc => tog1_b (hV3.below hb) (hX3.below hb hX3.lt) hfl' c))
    replace hb3 := Lib.hid hb3
    replace hR3 := Lib.hid hR3
    replace hX3 := Lib.hid hX3
    replace hO3 := Lib.hid hO3
    replace hV3 := Lib.hid hV3
    replace hw3 := Lib.hid hw3
    replace hlt2 := Lib.hid hlt2
    replace hsl3 := Lib.hid hsl3
    replace hvv := Lib.hid hvv
    replace hVI := Lib.hid hVI
    replace hfl' := Lib.hid hfl'
    clear hb2 hR2 hbw hV S1 hR1 hb1 hB hJ
    replace eg := Lib.hid eg
    go_wp2_with fail
    rw [← hw3.out]
    refine CC.out.mono ?_
    obtain ⟨far, hfar⟩ : ∃ b, b = words.any (fun c => decide (c.1 ≥ (first.length : Int))) := ⟨_, rfl⟩
    rw [← hfar]
    replace hfar := Lib.hid hfar
    rintro _ w5 ⟨rfl, hb5⟩
    clear u0 CC
    have hR5 := Lib.hid (hR3.out.below hb5 hR3.out.lt)
    have hX5 := Lib.hid (hX3.out.below hb5 hX3.out.lt)
    have hO5 := Lib.hid (hO3.out.below hb5 hO3.out.lt)
    have hV5 := Lib.hid (hV3.out.below hb5)
    have hW5 := Lib.hid (hW3.out.below hb5)
    have hbw5 := Lib.hid (hb3.out.trans (hb5.mono hb3.out.size))
    have hs5 := Lib.hid hb5.size
    clear hb5 hR3 hX3 hO3 hV3 hW3
    cases far with
    | true =>
      have CO := Lib.hid (fun W => odd_b (-1) 4 W)
      go_wp2_with fail
      refine (CO.out _).mono ?_
      rintro _ w6 ⟨rfl, hb6⟩
      have hR6 := hR5.out.below hb6 hR5.out.lt
      have hbw6 := Lib.hid (hbw5.out.trans (hb6.mono hbw5.out.size))
      have r0 := (hR6.cell 0).trans (show _ = some (.int .i64 0) from rfl)
      have r1 := (hR6.cell 1).trans (show _ = some (.int .i64 0) from rfl)
      have f0 := hR6.frozen 0
      have f1 := hR6.frozen 1
      clear hb6 hR6
      go_wp2
      refine bodyPost_ret (v := .tuple #[.slice none 0 0, .agg #[.int .i64 (-1), .int .i64 4]]) (by simp [results, Try.results17, go_sem, r0, r1, f0, f1]) rfl ⟨(hbw6.out.setCell (Nat.le_refl _) _).setCell (Nat.le_refl _) _, Or.inr ⟨ho, hok, Or.inl ⟨hfar.out.symm, rfl⟩⟩⟩
    | false =>
      have hwa : Hid (∀ p ∈ words, 0 ≤ p.1 ∧ p.1 < (first.length : Int)) := Lib.hid fun p hp => by
        have := List.any_eq_false.1 hfar.out.symm p hp
        exact ⟨hwb.out p hp, by simpa using this⟩
      obtain ⟨w6, hw6⟩ : ∃ w6, w6 = w5.alloc (.cells #[] 3) := ⟨_, rfl⟩
      have hN6 : Sl 3 1 encI w6 (.slice (some ⟨w5.heap.size, 0, none⟩) 0 0) [] := by rw [hw6]; exact Sl.new (e := 3) encI_len w5 [] (by simp)
      have hb6 : Below w5.heap.size w5 w6 := by rw [hw6]; exact (Below.refl _ _).alloc (Nat.le_refl _) _
      have x6 := ((hX5.out.below hb6 hX5.out.lt).cell 0).trans (show _ = some (.pointer (some ⟨vb, 0, none⟩)) from rfl)
      have v6 := (hV5.out.below hb6).c2
      rw [hw6] at x6 v6
      have hown6 : Hid (∀ q, own (.slice (some ⟨w5.heap.size, 0, none⟩) 0 0) q → w5.heap.size ≤ q) := Lib.hid fun q hq => by
        have h1 : w5.heap.size = q := by simpa [own, Value.ownBlock] using hq
        omega
      replace hb6 := Lib.hid hb6
      replace hN6 := Lib.hid hN6
      replace hw6 := Lib.hid hw6
      go_wp2
      rw [← hw6.out]
      go_loopw [10, 31] (fun c10 c31 wr => ∃ (k : Nat) (ov : Value), k ≤ vv.commits + 1 ∧ c31 = .int .i64 k ∧ c10 = ov ∧ Hid (Sl 3 1 encI wr ov (togK vv.cells words k)) ∧ Hid (∀ q, own ov q → w5.heap.size ≤ q) ∧ Hid (Below w5.heap.size w5 wr)) (fun _ c31 _ => vv.commits + 1 - (intOf c31).toNat)
      case atStart => exact ⟨0, _, Nat.zero_le _, rfl, rfl, by simpa [togK] using hN6, hown6, hb6⟩
      case round =>
        obtain ⟨k, ov, hk, rfl, rfl, hS, hown, hbl⟩ := hrel
        clear x6 v6 hN6 hown6 hb6
        have hX7 := Lib.hid (hX5.out.below hbl.out hX5.out.lt)
        have hsz7 := Lib.hid hbl.out.size
        by_cases hlt : k < vv.commits + 1
        · have hlt' : (k : Int) < (vv.commits : Int) + 1 := by omega
          have x7 := (hX7.out.cell 0).trans (show _ = some (.pointer (some ⟨vb, 0, none⟩)) from rfl)
          have ST := Lib.hid (stood_b (hV5.out.below hbl.out) hco.out (hW5.out.below hbl.out) hwl.out hwa.out k)
          have hkk : (k : Int) + 1 ≤ 9223372036854775807 := by have := hclt.out; omega
          have hwk : IntKind.i64.wrap ((k : Int) + 1) = (k : Int) + 1 := IntWalk.i64_in _ (by omega)
          replace hkk := Lib.hid hkk
          obtain ⟨b, hb⟩ : ∃ b, b = stoodW vv.cells k words := ⟨_, rfl⟩
          rw [← hb] at ST
          replace hb := Lib.hid hb
          cases b with
          | true =>
            go_wp2_with fail
            refine ST.out.mono ?_
            rintro _ w7 ⟨rfl, hb7⟩
            have hS7 := Lib.hid (hS.out.keep (w' := w7) fun q hq => hb7.block q (hS.out.lt q hq))
            have hbl7 := Lib.hid (hbl.out.trans (hb7.mono hbl.out.size))
            have hs7 := Lib.hid (Nat.le_trans hbl.out.size hb7.size)
            have HAPP := Lib.hid (fun (A4 : Option Addr) (cap4 : Nat) (w4 : World) (hS4 : Sl 3 1 encI w4 (.slice A4 ((togK vv.cells words k).length + 1) cap4) (togK vv.cells words k ++ [k])) (hF4 : Fr (own u10) w7 (own (.slice A4 ((togK vv.cells words k).length + 1) cap4)) w4) => show ∃ (k' : Nat) (ov : Value), k' ≤ vv.commits + 1 ∧ Value.int IntKind.i64 ((k : Int) + 1) = .int .i64 k' ∧ (.slice A4 ((togK vv.cells words k).length + 1) cap4) = ov ∧ Hid (Sl 3 1 encI w4 ov (togK vv.cells words k')) ∧ Hid (∀ q, own ov q → w5.heap.size ≤ q) ∧ Hid (Below w5.heap.size w5 w4) from
              ⟨k + 1, _, hlt, by go_num, rfl, Lib.hid (by rw [togK_yes hb.out.symm]; exact hS4), Lib.hid (fun q hq => (hF4.new q hq).elim (hown.out q) fun h => Nat.le_trans hs7.out h), Lib.hid (hbl7.out.trans (hF4.below hown.out hs7.out))⟩)
            have htl := Lib.hid (togK_len vv.cells words k)
            clear hb7
            go_wp2_with (at_builtin; refine wpList_intO w7 rfl (.tmp 38) (.tmp 40) rfl u10 (togK vv.cells words k) k rfl hS7.out rfl (by have := htl.out; have := hclt.out; omega) (by have := htl.out; have := hcm.out; have := hsz.out; omega) ?_; intro A4 cap4 w4 hc4 hS4 hF4; have HREL := Lib.hid (HAPP.out A4 cap4 w4 hS4 hF4); clear hS4 hF4)
            go_roundw
            case rel => exact HREL.out
            case measure => simp [intOf]; omega
          | false =>
            go_wp2_with fail
            refine ST.out.mono ?_
            rintro _ w7 ⟨rfl, hb7⟩
            have hS7 := Lib.hid (hS.out.keep (w' := w7) fun q hq => hb7.block q (hS.out.lt q hq))
            have hbl7 := Lib.hid (hbl.out.trans (hb7.mono hbl.out.size))
            rw [← togK_no hb.out.symm] at hS7
            clear hb7
            go_wp2
            go_roundw
            case rel => exact ⟨k + 1, _, hlt, by go_num, rfl, hS7, hown, hbl7⟩
            case measure => simp [intOf]; omega
        · have hkk : k = vv.commits + 1 := by omega
          subst hkk
          have hR7 := hR5.out.below hbl.out hR5.out.lt
          have hO7 := hO5.out.below hbl.out hO5.out.lt
          have r0 := (hR7.cell 0).trans (show _ = some (.int .i64 0) from rfl)
          have r1 := (hR7.cell 1).trans (show _ = some (.int .i64 0) from rfl)
          have f0 := hR7.frozen 0
          have f1 := hR7.frozen 1
          have o0 := (hO7.cell 0).trans (show _ = some (.int .i64 (-1)) from rfl)
          have o1 := (hO7.cell 1).trans (show _ = some (.int .i64 0) from rfl)
          have hnR : ¬ own u10 w.heap.size := fun h => by have := hown.out _ h; have := hR5.out.lt; omega
          have hb8 := Lib.hid (hbw5.out.trans (hbl.out.mono hbw5.out.size))
          have hne2 : w.heap.size ≠ w2.heap.size + 1 := by have := hlt2.out; omega
          have hfin : Hid (∀ j jj, Sl 3 1 encI ((((wr.drewN j).setCell ⟨w.heap.size, 0, none⟩ (.int .i64 (-1))).setCell ⟨w.heap.size, 1, none⟩ (.int .i64 0)).drewN jj) u10 (togK vv.cells words (vv.commits + 1))) := Lib.hid (fun j jj => (((hS.out.drewN j).set (p := ⟨w.heap.size, 0, none⟩) hnR _).set (p := ⟨w.heap.size, 1, none⟩) hnR _).drewN jj)
          have hown2 := Lib.hid (fun q (hq : own u10 q) => Nat.le_trans hbw5.out.size (hown.out q hq))
          clear hR7 hO7 hS hbl hX7 hown
          rw [hvv.out] at hfin
          go_wp2
          refine wp_region_mixH (fun _ => True) [3, 1, 3, 2] (List.range 4) (by kernel_rfl) (by kernel_rfl) (fun _ _ h => h) trivial ?_
          (repeat ((first | refine wpMixH_pure rfl rfl (fun K hK => ?_) | refine wpMixH_loc rfl rfl (fun K hK => ?_) | refine wpMixH_any rfl rfl (fun K hK => ?_)); go_simp; refine hK _ _ ?_; clear hK K))
          refine wpMixH_loud rfl rfl (fun n1 K hK => ?_)
          go_wp2
          refine hK _ _ (fun _ => trivial) ?_; clear hK K
          refine wpMixH_nil (fun n2 => ?_)
          go_wp2
          refine bodyPost_ret (v := .tuple #[u10, .agg #[.int .i64 (-1), .int .i64 0]]) (by simp [results, Try.results17, go_sem, r0, r1, f0, f1]) rfl ⟨below_drewNs (((below_drewNs hb8.out _).setCell (Nat.le_refl _) _).setCell (Nat.le_refl _) _) _, Or.inr ⟨ho, hok, Or.inr ⟨hfar.out.symm, _, rfl, hfin.out _ _, hown2.out⟩⟩⟩
end Go.Proofs.Ytloiadhdkgkjkaa
/- What opaque.Never sorts by: cmp.Compare, cmp.Or, its closure, by contract. -/
namespace Go.Proofs.Ytloiadhdkgkjkaa
open Go.RowKit Go.Sort
set_option maxHeartbeats 4000000
set_option linter.unusedVariables false
set_option linter.unusedSimpArgs false
def cmpI (a b : Int) : Int := if a < b then -1 else if b < a then 1 else 0
def orI (a b : Int) : Int := if a ≠ 0 then a else b
/-- How two cells stand: by their addresses, then by their words. -/
def cmpC (x y : Int × Int) : Int := orI (cmpI x.1 y.1) (cmpI x.2 y.2)
set_option maxRecDepth 100000 in
theorem compare_b (a b : Int) (w : World) : Calls Try.prog 45 #[.int .u64 a, .int .u64 b] w fun x w' => x = .returned (.int .i64 (cmpI a b)) ∧ w' = w := by
  by_cases h1 : a < b
  · go_enter Try.func45, Try.ntmps45
    go_wp2
    all_goals go_ret
    all_goals exact ⟨ret_int (by unfold cmpI; (repeat' split) <;> omega), rfl⟩
  · by_cases h2 : b < a
    · go_enter Try.func45, Try.ntmps45
      go_wp2
      all_goals go_ret
      all_goals exact ⟨ret_int (by unfold cmpI; (repeat' split) <;> omega), rfl⟩
    · go_enter Try.func45, Try.ntmps45
      go_wp2
      all_goals go_ret
      all_goals exact ⟨ret_int (by unfold cmpI; (repeat' split) <;> omega), rfl⟩
set_option maxRecDepth 100000 in
theorem or_b {a b : Int} {w : World} {g : Nat} (h0 : w.cell? ⟨g, 0, none⟩ = some (.int .i64 a)) (h1 : w.cell? ⟨g, 1, none⟩ = some (.int .i64 b)) : Calls Try.prog 44 #[.slice (some ⟨g, 0, none⟩) 2 2] w fun x w' => x = .returned (.int .i64 (orI a b)) ∧ w' = w := by
  go_enter Try.func44, Try.ntmps44
  go_wp2
  go_loopw [8] (fun i wr => ∃ k : Nat, k ≤ 2 ∧ i = .int .i64 k ∧ (1 ≤ k → a = 0) ∧ (2 ≤ k → b = 0) ∧ wr = w) (fun i _ => 2 - (intOf i).toNat)
  case atStart => exact ⟨0, by omega, rfl, by omega, by omega, rfl⟩
  case round =>
    obtain ⟨k, hk, rfl, ha, hb, rfl⟩ := hrel
    rcases (show k = 0 ∨ k = 1 ∨ k = 2 by omega) with rfl | rfl | rfl
    · clear ha hb
      by_cases ha : a = 0
      · subst ha
        go_wp2
        go_roundw
        case rel => exact ⟨1, by omega, rfl, fun _ => by trivial, by omega, by trivial⟩
        case measure => simp [intOf]
      · have ha' : (a != 0) = true := by simpa using ha
        go_wp2
        all_goals go_ret
        all_goals exact ⟨ret_int (by unfold orI; rw [if_pos ha]), rfl⟩
    · clear hb
      have ha0 := ha (by omega)
      clear ha
      by_cases hb : b = 0
      · subst hb
        go_wp2
        go_roundw
        case rel => exact ⟨2, by omega, rfl, fun _ => ha0, fun _ => by trivial, by trivial⟩
        case measure => simp [intOf]
      · have hb' : (b != 0) = true := by simpa using hb
        go_wp2
        all_goals go_ret
        all_goals exact ⟨ret_int (by unfold orI; rw [if_neg (by simpa using ha0)]), rfl⟩
    · have ha0 := ha (by omega)
      have hb0 := hb (by omega)
      clear ha hb
      go_wp2
      all_goals go_ret
      all_goals exact ⟨ret_int (by unfold orI; rw [if_neg (by simpa using ha0), hb0]), rfl⟩
/-- W with draws and blocks laid behind it. -/
def Gw (W w' : World) : Prop := ∃ q os, w' = grow (W.drewN q) os
theorem Gw.refl (W : World) : Gw W W := ⟨0, #[], by rw [grow_empty]; rfl⟩
theorem Gw.alloc {W w' : World} (h : Gw W w') (o : Obj) : Gw W (w'.alloc o) := by
  obtain ⟨q, os, rfl⟩ := h
  exact ⟨q, os ++ #[o], by rw [alloc_eq_grow, grow_grow]⟩
theorem Gw.drewN {W w' : World} (h : Gw W w') (n : Nat) : Gw W (w'.drewN n) := by
  obtain ⟨q, os, rfl⟩ := h
  exact ⟨q + n, os, by show grow ((W.drewN q).drewN n) os = _; rw [drewN_drewN]⟩
set_option maxRecDepth 100000 in
theorem never1_b (x y : Int × Int) (W : World) : Calls Try.prog 43 #[.agg #[.int .u64 x.1, .int .u64 x.2], .agg #[.int .u64 y.1, .int .u64 y.2]] W fun e w' => e = .returned (.int .i64 (cmpC x y)) ∧ Gw W w' := by
  obtain ⟨x1, x2⟩ := x
  obtain ⟨y1, y2⟩ := y
  have hX := (Blk.new W 45 #[.int .u64 x1, .int .u64 x2]).alloc (.cells #[.int .u64 y1, .int .u64 y2] 45)
  have hY := Blk.new (W.alloc (.cells #[.int .u64 x1, .int .u64 x2] 45)) 45 #[.int .u64 y1, .int .u64 y2]
  rw [World.size_alloc] at hY
  obtain ⟨wA, hwA⟩ : ∃ wA, wA = (W.alloc (.cells #[.int .u64 x1, .int .u64 x2] 45)).alloc (.cells #[.int .u64 y1, .int .u64 y2] 45) := ⟨_, rfl⟩
  have hG := Lib.hid (((Gw.refl W).alloc (.cells #[.int .u64 x1, .int .u64 x2] 45)).alloc (.cells #[.int .u64 y1, .int .u64 y2] 45))
  rw [← hwA] at hX hY hG
  have a0 := (hX.cell 0).trans (show _ = some (.int .u64 x1) from rfl)
  have b0 := (hY.cell 0).trans (show _ = some (.int .u64 y1) from rfl)
  have S0 : Hid (∀ J, (wA.drewN J).cell? ⟨W.heap.size, 1, none⟩ = some (.int .u64 x2) ∧ (wA.drewN J).cell? ⟨W.heap.size + 1, 1, none⟩ = some (.int .u64 y2)) := Lib.hid fun J => ⟨((hX.drewN J).cell 1).trans rfl, ((hY.drewN J).cell 1).trans rfl⟩
  have hr : Hid (orI (cmpI x1 y1) (cmpI x2 y2) = cmpC (x1, x2) (y1, y2)) := Lib.hid rfl
  have S1 : Hid (∀ J J2 o, (((wA.drewN J).alloc o).drewN J2).cell? ⟨W.heap.size, 1, none⟩ = some (.int .u64 x2) ∧ (((wA.drewN J).alloc o).drewN J2).cell? ⟨W.heap.size + 1, 1, none⟩ = some (.int .u64 y2)) := Lib.hid fun J J2 o => ⟨((((hX.drewN J).alloc o).drewN J2).cell 1).trans rfl, ((((hY.drewN J).alloc o).drewN J2).cell 1).trans rfl⟩
  have C1 := Lib.hid (fun W' => compare_b x1 y1 W')
  have C2 := Lib.hid (fun W' => compare_b x2 y2 W')
  have OR := Lib.hid (fun (w' : World) (n g : Nat) (hg : g = w'.heap.size) => show Calls Try.prog 44 #[.slice (some ⟨g, 0, none⟩) 2 2] ((w'.alloc (.cells #[.int .i64 (cmpI x1 y1), .int .i64 (cmpI x2 y2)] 3)).drewN n) fun x w'' => x = .returned (.int .i64 (orI (cmpI x1 y1) (cmpI x2 y2))) ∧ w'' = (w'.alloc (.cells #[.int .i64 (cmpI x1 y1), .int .i64 (cmpI x2 y2)] 3)).drewN n from by
    subst hg
    exact or_b (((Blk.new w' 3 #[.int .i64 (cmpI x1 y1), .int .i64 (cmpI x2 y2)]).drewN n).cell 0) (((Blk.new w' 3 #[.int .i64 (cmpI x1 y1), .int .i64 (cmpI x2 y2)]).drewN n).cell 1))
  generalize cmpC (x1, x2) (y1, y2) = r at *
  generalize cmpI x1 y1 = r1 at *
  generalize cmpI x2 y2 = r2 at *
  replace hwA := Lib.hid hwA
  clear hX hY
  dsimp only
  go_enter Try.func43, Try.ntmps43
  go_wp2
  rw [← hwA.out]
  refine wp_region_mixH (fun W' => W'.cell? ⟨W.heap.size, 1, none⟩ = some (.int .u64 x2) ∧ W'.cell? ⟨W.heap.size + 1, 1, none⟩ = some (.int .u64 y2)) [3, 1, 3, 1, 2, 3, 0, 3, 0, 2, 2, 2, 3] [0, 1, 2, 3, 5, 6, 7, 8, 4, 9, 10, 11, 12] (by kernel_rfl) (by kernel_rfl) (fun _ _ h => h) (S0.out 1) ?_
  (repeat (first | ((first | refine wpMixH_pure rfl rfl (fun K hK => ?_) | refine wpMixH_loc rfl rfl (fun K hK => ?_) | refine wpMixH_any rfl rfl (fun K hK => ?_)); go_simp; refine hK _ _ ?_; clear hK K) | (refine wpMixH_any rfl rfl (fun K hK => ?_); rw [if_pos (by go_simp)]; apply Exists.intro; refine And.intro (fun w2 hS2 => ?_) (hK _ _ ?_); (focus (obtain ⟨hs1, hs2⟩ := hS2; go_simp; rfl)); clear hK K)))
  refine wpMixH_loud rfl rfl (fun n1 K hK => ?_)
  go_wp2_with fail
  refine (C1.out _).mono ?_
  rintro _ w3 ⟨rfl, rfl⟩
  go_wp2
  refine hK _ _ (fun _ => (S0.out _)) ?_; clear hK K
  (repeat (first | ((first | refine wpMixH_pure rfl rfl (fun K hK => ?_) | refine wpMixH_loc rfl rfl (fun K hK => ?_) | refine wpMixH_any rfl rfl (fun K hK => ?_)); go_simp; refine hK _ _ ?_; clear hK K) | (refine wpMixH_any rfl rfl (fun K hK => ?_); rw [if_pos (by go_simp)]; apply Exists.intro; refine And.intro (fun w2 hS2 => ?_) (hK _ _ ?_); (focus (obtain ⟨hs1, hs2⟩ := hS2; go_simp; rfl)); clear hK K)))
  refine wpMixH_loud rfl rfl (fun n2 K hK => ?_)
  go_wp2_with fail
  refine (C2.out _).mono ?_
  rintro _ w4 ⟨rfl, rfl⟩
  go_wp2
  refine hK _ _ (fun _ => (S0.out _)) ?_; clear hK K
  (repeat (first | ((first | refine wpMixH_pure rfl rfl (fun K hK => ?_) | refine wpMixH_loc rfl rfl (fun K hK => ?_) | refine wpMixH_any rfl rfl (fun K hK => ?_)); go_simp; refine hK _ _ ?_; clear hK K) | (refine wpMixH_any rfl rfl (fun K hK => ?_); rw [if_pos (by go_simp)]; apply Exists.intro; refine And.intro (fun w2 hS2 => ?_) (hK _ _ ?_); (focus (obtain ⟨hs1, hs2⟩ := hS2; go_simp; rfl)); clear hK K)))
  refine wpMixH_loud rfl rfl (fun n3 K hK => ?_)
  go_wp2
  refine hK _ _ (fun h => (Bool.false_ne_true ((Eq.symm (by kernel_rfl)).trans h)).elim) ?_; clear hK K
  refine wpMixH_loud rfl rfl (fun n4 K hK => ?_)
  go_wp2_with fail
  refine (OR.out _ _ _ (by first | rfl | simp)).mono ?_
  rintro _ w5 ⟨rfl, rfl⟩
  go_wp2
  refine hK _ _ (fun h => (Bool.false_ne_true ((Eq.symm (by kernel_rfl)).trans h)).elim) ?_; clear hK K
  (repeat (first | ((first | refine wpMixH_pure rfl rfl (fun K hK => ?_) | refine wpMixH_loc rfl rfl (fun K hK => ?_) | refine wpMixH_any rfl rfl (fun K hK => ?_)); go_simp; refine hK _ _ ?_; clear hK K)))
  refine wpMixH_nil (fun n5 => ?_)
  go_wp2
  go_ret
  exact ⟨ret_int hr.out, by first | exact ((((hG.out.drewN _).drewN _).alloc _).drewN _).drewN _ | exact (((hG.out.drewN _).alloc _).drewN _).drewN _⟩
end Go.Proofs.Ytloiadhdkgkjkaa
/- slices.SortFunc over cells, by the shelf's contract: what opaque.Never sorts. -/
namespace Go.Proofs.Ytloiadhdkgkjkaa
open Go.Shelf Go.RowKit Go.Lib Go.Sort
set_option maxHeartbeats 4000000
set_option linter.unusedVariables false
set_option linter.unusedSimpArgs false
def sortC_ren : Go.Shelf.Ren := ⟨fun | 6 => 42 | 15 => 58 | 14 => 57 | 28 => 70 | 29 => 71 | 20 => 62 | 21 => 63 | 22 => 64 | 23 => 65 | 24 => 66 | 25 => 67 | 26 => 68 | 27 => 69 | 46 => 80 | 47 => 81 | 48 => 82 | 49 => 83 | 50 => 84 | 57 => 89 | n => n, fun | 22 => 43 | 24 => 45 | 25 => 96 | 3 => 3 | 39 => 112 | 0 => 0 | 53 => 142 | 55 => 35 | 4 => 4 | 46 => 135 | 45 => 134 | 50 => 139 | 5 => 5 | 9 => 9 | 66 => 151 | 70 => 155 | 76 => 163 | 77 => 164 | n => n, fun | n => n⟩
theorem sortC_lay : Go.Proofs.SlLaysF0.n6 Try.prog sortC_ren := {
  mixed := by kernel_rfl
  f6 := ⟨Try.f42.name, by decide, Try.func42.trans (congrArg some (by kernel_rfl))⟩
  f14 := ⟨Try.f57.name, by decide, Try.func57.trans (congrArg some (by kernel_rfl))⟩
  f15 := Try.func58.trans (congrArg some (by kernel_rfl))
  f20 := ⟨Try.f62.name, by decide, Try.func62.trans (congrArg some (by kernel_rfl))⟩
  f21 := ⟨Try.f63.name, by decide, Try.func63.trans (congrArg some (by kernel_rfl))⟩
  f22 := ⟨Try.f64.name, by decide, Try.func64.trans (congrArg some (by kernel_rfl))⟩
  f23 := ⟨Try.f65.name, by decide, Try.func65.trans (congrArg some (by kernel_rfl))⟩
  f24 := ⟨Try.f66.name, by decide, Try.func66.trans (congrArg some (by kernel_rfl))⟩
  f25 := ⟨Try.f67.name, by decide, Try.func67.trans (congrArg some (by kernel_rfl))⟩
  f26 := ⟨Try.f68.name, by decide, Try.func68.trans (congrArg some (by kernel_rfl))⟩
  f27 := ⟨Try.f69.name, by decide, Try.func69.trans (congrArg some (by kernel_rfl))⟩
  f28 := Try.func70.trans (congrArg some (by kernel_rfl))
  f29 := Try.func71.trans (congrArg some (by kernel_rfl))
  f46 := ⟨Try.f80.name, by decide, Try.func80.trans (congrArg some (by kernel_rfl))⟩
  f47 := Try.func81.trans (congrArg some (by kernel_rfl))
  f48 := Try.func82.trans (congrArg some (by kernel_rfl))
  f49 := ⟨Try.f83.name, by decide, Try.func83.trans (congrArg some (by kernel_rfl))⟩
  f50 := ⟨Try.f84.name, by decide, Try.func84.trans (congrArg some (by kernel_rfl))⟩
  f57 := ⟨Try.f89.name, by decide, Try.func89.trans (congrArg some (by kernel_rfl))⟩
  t0 := Try.underlying0
  a0 := Try.isAgg0
  z0 := Try.sizeOf0
  v0 := Try.zeroValue0
  t3 := Try.underlying3
  a3 := Try.isAgg3
  z3 := Try.sizeOf3
  v3 := Try.zeroValue3
  t4 := Try.underlying4
  a4 := Try.isAgg4
  z4 := Try.sizeOf4
  v4 := Try.zeroValue4
  t5 := Try.underlying5
  a5 := Try.isAgg5
  z5 := Try.sizeOf5
  v5 := Try.zeroValue5
  t9 := Try.underlying9
  a9 := Try.isAgg9
  z9 := Try.sizeOf9
  v9 := Try.zeroValue9
  t22 := Try.underlying43
  a22 := Try.isAgg43
  z22 := Try.sizeOf43
  v22 := Try.zeroValue43
  t25 := Try.underlying96
  a25 := Try.isAgg96
  z25 := Try.sizeOf96
  v25 := Try.zeroValue96
  t39 := Try.underlying112
  a39 := Try.isAgg112
  z39 := Try.sizeOf112
  v39 := Try.zeroValue112
  t45 := Try.underlying134
  a45 := Try.isAgg134
  z45 := Try.sizeOf134
  v45 := Try.zeroValue134
  t46 := Try.underlying135
  a46 := Try.isAgg135
  z46 := Try.sizeOf135
  v46 := Try.zeroValue135
  t50 := Try.underlying139
  a50 := Try.isAgg139
  z50 := Try.sizeOf139
  v50 := Try.zeroValue139
  t53 := Try.underlying142
  a53 := Try.isAgg142
  z53 := Try.sizeOf142
  v53 := Try.zeroValue142
  t55 := Try.underlying35
  a55 := Try.isAgg35
  z55 := Try.sizeOf35
  v55 := Try.zeroValue35
  t66 := Try.underlying151
  a66 := Try.isAgg151
  z66 := Try.sizeOf151
  v66 := Try.zeroValue151
  t70 := Try.underlying155
  a70 := Try.isAgg155
  z70 := Try.sizeOf155
  v70 := Try.zeroValue155
  t76 := Try.underlying163
  a76 := Try.isAgg163
  z76 := Try.sizeOf163
  v76 := Try.zeroValue163
  t77 := Try.underlying164
  a77 := Try.isAgg164
  z77 := Try.sizeOf164
  v77 := Try.zeroValue164 }
/-- What Never sorts to. -/
def leC (x y : Int × Int) : Bool := !(ltOf cmpC) y x
def srtC (l : List (Int × Int)) : List (Int × Int) := l.mergeSort leC
theorem cmpC_lt (x y : Int × Int) : ltOf cmpC x y = decide (x.1 < y.1 ∨ (x.1 = y.1 ∧ x.2 < y.2)) := by
  obtain ⟨a, b⟩ := x
  obtain ⟨c, d⟩ := y
  unfold ltOf cmpC orI cmpI
  dsimp only
  apply decide_eq_decide.2
  (repeat' split) <;> omega
theorem cmpC_swo : SWO (ltOf cmpC) where
  irrefl := fun x => by rw [cmpC_lt]; simp
  trans := fun x y z h1 h2 => by
    rw [cmpC_lt] at *
    simp only [decide_eq_true_eq] at *
    omega
  ntrans := fun x y z h1 h2 => by
    rw [cmpC_lt] at *
    simp only [decide_eq_false_iff_not] at *
    omega
theorem cmpC_tot (x y : Int × Int) (h1 : ltOf cmpC x y = false) (h2 : ltOf cmpC y x = false) : x = y := by
  rw [cmpC_lt] at *
  simp only [decide_eq_false_iff_not] at *
  obtain ⟨a, b⟩ := x
  obtain ⟨c, d⟩ := y
  dsimp only at *
  obtain ⟨rfl, rfl⟩ : a = c ∧ b = d := by omega
  rfl
theorem flatK_list (d : List (Int × Int)) : flatK encC 2 d.toArray = (d.flatMap encC).toArray := by
  apply Array.ext_getElem?
  intro t
  rcases Nat.lt_or_ge t (d.length * 2) with ht | ht
  · have e : t = t / 2 * 2 + t % 2 := by omega
    have hq : t / 2 < d.length := by omega
    have hr : t % 2 < 2 := by omega
    have g := get_flatK encC 2 d.toArray t (by simpa using ht)
    have hs : t < (flatK encC 2 d.toArray).size := by rw [size_flatK]; simpa using ht
    rw [Array.getElem?_eq_getElem hs]
    rw [getElem!_pos (flatK encC 2 d.toArray) t hs] at g
    rw [g]
    have f := flat_get encC_len d (t / 2) (t % 2) hq hr
    rw [← e] at f
    simp only [List.getElem?_toArray]
    rw [f]
    have e2 : d.toArray[t / 2]! = d[t / 2] := by rw [getElem!_pos d.toArray (t / 2) (by simpa using hq)]; simp
    rw [e2, List.getElem!_eq_getElem?_getD]
    have h3 : t % 2 < (encC d[t / 2]).length := by rw [encC_len]; exact hr
    rw [List.getElem?_eq_getElem h3]; rfl
  · rw [Array.getElem?_eq_none (by rw [size_flatK]; simpa using ht), Array.getElem?_eq_none (by simpa [flat_len encC_len] using ht)]
theorem sort_sl {w : World} {g off cp : Nat} {l d : List (Int × Int)} (h : Sl 45 2 encC w (.slice (some ⟨g, off, none⟩) l.length cp) l) (hd : d.length = l.length) (n : Nat) (os : Array Obj) :
    Sl 45 2 encC (sortWorldK encC 2 w g off n d.toArray os) (.slice (some ⟨g, off, none⟩) l.length cp) d ∧ Fr (own (.slice (some ⟨g, off, none⟩) l.length cp)) w (own (.slice (some ⟨g, off, none⟩) l.length cp)) (sortWorldK encC 2 w g off n d.toArray os) := by
  have hlt := h.lt g (by simp [own, Value.ownBlock])
  obtain ⟨h0, h⟩ := h
  rcases h with ⟨h1, h2⟩ | ⟨g', off', cap', cur, h1, h2, h3, h4, h5, h6, h7⟩
  · cases h1
  injection h1 with h1a h1b h1c
  simp only [Option.some.injEq, Addr.mk.injEq, and_true] at h1a
  obtain ⟨rfl, rfl⟩ := h1a
  subst h1c
  have hb : (sortWorldK encC 2 w g off n d.toArray os).heap[g]? = some (.cells (putCells id off (flatK encC 2 d.toArray) cur) 45 (0, 0)) := by
    unfold sortWorldK putRowK putRow mapBlock
    rw [heap_grow_old _ _ (by simpa [Sort.ahead] using hlt)]
    simp [Array.getElem?_modify, h3, Sort.ahead, onCells]
  refine ⟨?_, ?_⟩
  · unfold Sl
    rw [hd]
    refine ⟨by rw [flat_len encC_len, hd], .inr ⟨g, off, cp, _, rfl, Nat.zero_le _, hb, h4, h5, by simpa [putCells] using h6, ?_⟩⟩
    have hfl : (d.flatMap encC).length = l.length * 2 := by rw [flat_len encC_len, hd]
    rw [flatK_list]
    apply List.ext_getElem?
    intro j
    rw [List.getElem?_take, List.getElem?_drop]
    by_cases hj : j < l.length * 2
    · rw [if_pos hj]
      unfold putCells
      simp only [Array.getElem?_toList, Array.getElem?_mapIdx]
      have hc : off + j < cur.size := by have := Nat.mul_le_mul_right 2 h4; omega
      rw [Array.getElem?_eq_getElem hc, Option.map_some, if_pos ⟨by omega, by simp [hfl]; omega⟩, show off + j - off = j by omega]
      have h8 : j < (d.flatMap encC).length := by omega
      rw [List.getElem?_eq_getElem h8, getElem!_pos (d.flatMap encC).toArray j (by simpa using h8)]
      simp
    · rw [if_neg hj, List.getElem?_eq_none (by omega)]
  · refine ⟨rfl, rfl, rfl, by simp [sortWorldK, putRowK, putRow, mapBlock, Sort.ahead], fun k hk hF => ?_, fun k hk => .inl hk⟩
    have hne : k ≠ g := fun e => hF (by subst e; simp [own, Value.ownBlock])
    unfold sortWorldK putRowK putRow mapBlock
    rw [heap_grow_old _ _ (by simpa [Sort.ahead] using hk)]
    simp [Array.getElem?_modify, Ne.symm hne, Sort.ahead]
theorem sortC_b {w : World} {A : Option Addr} {cp : Nat} {l : List (Int × Int)} (h : Sl 45 2 encC w (.slice A l.length cp) l) (hl : l.length < 4611686018427387904) :
    Calls Try.prog 42 #[.slice A l.length cp, .func (.func 43) #[] #[]] w fun x w' => x = .returned (.tuple #[]) ∧ Sl 45 2 encC w' (.slice A l.length cp) (srtC l) ∧ Fr (own (.slice A l.length cp)) w (own (.slice A l.length cp)) w' := by
  rcases Nat.eq_zero_or_pos l.length with hz | hz
  · have e : l = [] := List.eq_nil_of_length_eq_zero hz
    subst e
    refine (AnyF.slices_SortFunc_none sortC_lay A cp (.func (.func 43) #[] #[]) w).mono ?_
    rintro _ _ ⟨rfl, rfl⟩
    exact ⟨rfl, by unfold srtC; rw [List.mergeSort_nil]; exact h, Fr.refl _ _⟩
  · obtain ⟨g, off, rfl, hg, hc⟩ := h.cell encC_len (by decide) hz
    have hH : HoldsK encC 2 w g off l.toArray := by
      unfold HoldsK
      intro j hj
      rw [flatK_list] at hj ⊢
      have hj' : j < l.length * 2 := by simpa [flat_len encC_len] using hj
      have e : j = j / 2 * 2 + j % 2 := by omega
      obtain ⟨k1, k2⟩ := hc (j / 2) (by omega) (j % 2) (by omega)
      rw [← flat_get encC_len l (j / 2) (j % 2) (by omega) (by omega), ← e] at k1
      rw [← e] at k2
      have h8 : j < (l.flatMap encC).length := by rw [flat_len encC_len]; exact hj'
      rw [List.getElem?_eq_getElem h8] at k1
      exact ⟨by rw [k1, getElem!_pos (l.flatMap encC).toArray j (by simpa using h8)]; simp, k2⟩
    have hcmp : CmpLays Try.prog 43 #[] encC 2 cmpC g off l.toArray.size w := by
      intro m os dk _ x y
      refine (never1_b x y _).mono ?_
      rintro _ w' ⟨rfl, q, os', rfl⟩
      exact ⟨rfl, q, os', rfl⟩
    have R := AnyQ.slices_SortFunc_total sortC_lay 2 Try.isAgg45 Try.sizeOf45 encC encC_len encC_one cmpC cmpC_swo 43 #[] g off cp l.toArray w (fun _ _ => rfl) hcmp hH hg (by simpa using hl) cmpC_tot
    refine (show Calls Try.prog 42 #[.slice (some ⟨g, off, none⟩) l.length cp, .func (.func 43) #[] #[]] w _ from R).mono ?_
    rintro _ w' ⟨rfl, n, os, rfl⟩
    obtain ⟨r1, r2⟩ := sort_sl h (d := srtC l) (by unfold srtC; rw [List.length_mergeSort]) n os
    exact ⟨rfl, r1, r2⟩
end Go.Proofs.Ytloiadhdkgkjkaa
/- opaque.Never, plain: what is counted, what never stood there; bounds on what see gathers. -/
namespace Go.Proofs.Ytloiadhdkgkjkaa
set_option maxHeartbeats 1000000
set_option linter.unusedVariables false
set_option linter.unusedSimpArgs false
/-- All words that see has gathered are words. -/
structure VB (v : Vw) : Prop where
  ce : ∀ a, ∀ p ∈ v.cells a, 0 ≤ p.2 ∧ p.2 ≤ 18446744073709551615
  ws : ∀ t, ∀ p ∈ (v.now t).ws, 0 ≤ p.2 ∧ p.2 ≤ 18446744073709551615
  rd : ∀ x ∈ v.sights, ∀ p ∈ x.reads, inB p
theorem cutL_sub {l : List (Nat × Int)} {n : Nat} {p : Nat × Int} (h : p ∈ cutL l n) : p ∈ l := by
  unfold cutL at h
  split at h
  · exact List.dropLast_subset l h
  · exact h
theorem putAll_word {n : Nat} : ∀ {ws : List (Int × Int)} {c : Nat → List (Nat × Int)}, (∀ a, ∀ p ∈ c a, 0 ≤ p.2 ∧ p.2 ≤ 18446744073709551615) → (∀ p ∈ ws, 0 ≤ p.2 ∧ p.2 ≤ 18446744073709551615) → ∀ a, ∀ p ∈ putAll c n ws a, 0 ≤ p.2 ∧ p.2 ≤ 18446744073709551615
  | [], c, h, _ => h
  | q :: ws, c, h, hq => by
    refine putAll_word (ws := ws) (c := putC c n q) (fun a p hp => ?_) (fun p hp => hq p (List.mem_cons_of_mem _ hp))
    unfold putC at hp
    split at hp
    · rcases List.mem_append.1 hp with hp | hp
      · exact h a p (cutL_sub hp)
      · rw [List.mem_singleton] at hp
        subst hp
        exact hq q (List.mem_cons_self ..)
    · exact h a p hp
theorem VB.start (first : List Int) (h : ∀ x ∈ first, 0 ≤ x ∧ x ≤ 18446744073709551615) : VB (vw0 first) where
  ce := fun a p hp => by
    simp only [vw0, List.mem_singleton] at hp
    subst hp
    dsimp only
    rw [List.getD_eq_getElem?_getD]
    rcases Nat.lt_or_ge a first.length with ha | ha
    · rw [List.getElem?_eq_getElem ha]; exact h _ (List.getElem_mem ha)
    · rw [List.getElem?_eq_none ha]; simp
  ws := fun t p hp => by simp [vw0] at hp
  rd := fun x hx => by simp [vw0] at hx
theorem upd_ws {now : Nat → Nw} {k : Nat} {x : Nw} (h : ∀ t, ∀ p ∈ (now t).ws, 0 ≤ p.2 ∧ p.2 ≤ 18446744073709551615) (hx : ∀ p ∈ x.ws, 0 ≤ p.2 ∧ p.2 ≤ 18446744073709551615) : ∀ t, ∀ p ∈ (upd now k x t).ws, 0 ≤ p.2 ∧ p.2 ≤ 18446744073709551615 := fun t p hp => by
  unfold upd at hp
  split at hp
  · exact hx p hp
  · exact h t p hp
theorem VB.ev {v : Vw} {e : Ev} {T : List Tr} (h : VB v) (he : EvWf e) : VB (vEv T v e) := by
  obtain ⟨-, -, ha, hw, -⟩ := he
  unfold vEv
  dsimp only
  split
  · refine ⟨h.ce, upd_ws h.ws (by simp), fun x hx => ?_⟩
    rcases List.mem_append.1 hx with hx | hx
    · exact h.rd x hx
    · rw [List.mem_singleton] at hx; subst hx; simp
  split
  · split
    · exact h
    · refine ⟨h.ce, h.ws, fun x hx => ?_⟩
      rcases List.mem_or_eq_of_mem_set hx with hx | hx
      · exact h.rd x hx
      · subst hx
        intro p hp
        dsimp only at hp
        rcases List.mem_append.1 hp with hp | hp
        · rcases sg_zero_or (l := v.sights) (v.now e.th.toNat).tri with hz | hz
          · rw [hz] at hp; simp [Sg.zero] at hp
          · exact h.rd _ hz p hp
        · rw [List.mem_singleton] at hp
          subst hp
          exact ⟨ha, hw⟩
  split
  · refine ⟨h.ce, upd_ws h.ws (fun p hp => ?_), h.rd⟩
    rcases List.mem_append.1 hp with hp | hp
    · exact h.ws _ p hp
    · rw [List.mem_singleton] at hp
      subst hp
      exact hw
  split
  · exact ⟨h.ce, upd_ws h.ws (h.ws _), h.rd⟩
  split
  · exact ⟨putAll_word h.ce (h.ws _), h.ws, h.rd⟩
  · exact h
theorem VB.tail {v : Vw} (h : VB v) (i : Nat) (e : Ev) : VB (vTl v i e) := by
  unfold vTl
  dsimp only
  split
  · refine ⟨h.ce, h.ws, fun x hx => ?_⟩
    rcases List.mem_or_eq_of_mem_set hx with hx | hx
    · exact h.rd x hx
    · subst hx
      rcases sg_zero_or (l := v.sights) (v.now e.th.toNat).tri with hz | hz
      · rw [hz]; simp [Sg.zero]
      · exact h.rd (v.sights.getD (v.now e.th.toNat).tri Sg.zero) hz
  · exact h
theorem evAt_mem {l : List Ev} {k : Nat} (h : k < l.length) : evAt l k ∈ l := by
  unfold evAt
  rw [List.getD_eq_getElem?_getD, List.getElem?_eq_getElem h]
  exact List.getElem_mem h
theorem VB.vn {first : List Int} {T : List Tr} {l : List Ev} (hb : ∀ x ∈ first, 0 ≤ x ∧ x ≤ 18446744073709551615) (hl : ∀ e ∈ l, EvWf e) : ∀ {k : Nat}, k ≤ l.length → VB (vn first T l k)
  | 0, _ => VB.start first hb
  | k + 1, hk => ((VB.vn hb hl (k := k) (by omega)).ev (hl _ (evAt_mem (by omega)))).tail _ _
def rdN (v : Vw) : Nat := (v.sights.map fun x => x.reads.length).sum
theorem sum_set (f : Sg → Nat) (c : Nat) : ∀ (l : List Sg) (q : Nat) (y : Sg), (q < l.length → f y ≤ f (l.getD q Sg.zero) + c) → ((l.set q y).map f).sum ≤ (l.map f).sum + c
  | [], q, y, _ => by simp
  | x :: l, 0, y, h => by have := h (by simp); simp at this ⊢; omega
  | x :: l, q + 1, y, h => by
    have ih := sum_set f c l q y (fun hq => by have := h (by simpa using hq); simpa using this)
    simp only [List.set_cons_succ, List.map_cons, List.sum_cons]
    omega
theorem rdN_ev (T : List Tr) (v : Vw) (e : Ev) : rdN (vEv T v e) ≤ rdN v + 1 := by
  unfold vEv
  dsimp only
  split
  · simp [rdN]
  split
  · split
    · omega
    · exact sum_set _ 1 _ _ _ (fun _ => by simp)
  split
  · exact Nat.le_succ _
  split
  · exact Nat.le_succ _
  split
  · exact Nat.le_succ _
  · exact Nat.le_succ _
theorem rdN_tl (v : Vw) (i : Nat) (e : Ev) : rdN (vTl v i e) ≤ rdN v := by
  unfold vTl
  dsimp only
  split
  · exact sum_set (fun x => x.reads.length) 0 _ _ _ (fun _ => by simp)
  · exact Nat.le_refl _
theorem rdN_vn (first : List Int) (T : List Tr) (l : List Ev) : ∀ k, rdN (vn first T l k) ≤ k
  | 0 => by simp [vn, vw0, rdN]
  | k + 1 => by
    unfold vn
    have := rdN_vn first T l k
    have := rdN_ev T (vn first T l k) (evAt l k)
    have := rdN_tl (vEv T (vn first T l k) (evAt l k)) k (evAt l k)
    omega
/-- This word stood in this cell once. -/
def seenB (cells : Nat → List (Nat × Int)) (c : Int × Int) : Bool := (cells c.1.toNat).any fun p => p.2 == c.2
/-- What was read, and never stood there, in the order of the attempts. -/
def nevK (v : Vw) (k j : Nat) : List (Int × Int) := (((v.sights.take k).flatMap fun x => x.reads) ++ ((v.sights.getD k Sg.zero).reads.take j)).filter fun c => !(seenB v.cells c)
def nevU (v : Vw) : List (Int × Int) := (v.sights.flatMap fun x => x.reads).filter fun c => !(seenB v.cells c)
def neverL (v : Vw) : List (Int × Int) := compC (srtC (nevU v))
theorem nevK_all (v : Vw) : nevK v v.sights.length 0 = nevU v := by
  unfold nevK nevU
  rw [List.take_length, List.take_zero, List.append_nil]
theorem nevK_next {v : Vw} {k : Nat} (hk : k < v.sights.length) : nevK v k (v.sights.getD k Sg.zero).reads.length = nevK v (k + 1) 0 := by
  unfold nevK
  rw [List.take_length, List.take_zero, List.append_nil, List.take_succ_eq_append_getElem hk, List.flatMap_append]
  simp [List.getD_eq_getElem?_getD, List.getElem?_eq_getElem hk]
theorem nevK_step {v : Vw} {k j : Nat} {c : Int × Int} (hc : (v.sights.getD k Sg.zero).reads[j]? = some c) : nevK v k (j + 1) = if seenB v.cells c = true then nevK v k j else nevK v k j ++ [c] := by
  unfold nevK
  rw [List.take_add_one, hc, ← List.append_assoc, List.filter_append]
  by_cases h : seenB v.cells c = true
  · rw [if_pos h]; simp [h]
  · rw [if_neg h]; simp [h]
theorem sum_take_le (f : Sg → Nat) : ∀ (l : List Sg) (k : Nat), ((l.take k).map f).sum + (if k < l.length then f (l.getD k Sg.zero) else 0) ≤ (l.map f).sum
  | [], k => by simp
  | x :: l, 0 => by simp
  | x :: l, k + 1 => by
    have ih := sum_take_le f l k
    simp only [List.take_succ_cons, List.map_cons, List.sum_cons, List.length_cons, List.getD_cons_succ, Nat.add_lt_add_iff_right]
    omega
theorem nevK_len (v : Vw) {k : Nat} (j : Nat) (hk : k < v.sights.length) : (nevK v k j).length ≤ rdN v := by
  unfold nevK
  refine Nat.le_trans (List.length_filter_le _ _) ?_
  rw [List.length_append, List.length_flatMap, List.length_take]
  have := sum_take_le (fun x => x.reads.length) v.sights k
  rw [if_pos hk] at this
  unfold rdN
  omega
theorem nevU_len (v : Vw) : (nevU v).length ≤ rdN v := by
  unfold nevU rdN
  refine Nat.le_trans (List.length_filter_le _ _) ?_
  rw [List.length_flatMap]
  exact Nat.le_refl _
/-- A map that counts. -/
def fC (cnt : Int × Int → Nat) (p : Int × Int) : Option Value := if cnt p = 0 then none else some (.int .i64 (cnt p))
theorem fC_get (cnt : Int × Int → Nat) (p : Int × Int) : (fC cnt p).getD (.int .i64 0) = .int .i64 (cnt p) := by
  unfold fC
  by_cases h : cnt p = 0
  · rw [if_pos h, h]; rfl
  · rw [if_neg h]; rfl
def addC (cnt : Int × Int → Nat) (p : Int × Int) : Int × Int → Nat := fun q => if q = p then cnt p + 1 else cnt q
theorem fC_add (cnt : Int × Int → Nat) (p : Int × Int) : updO (fC cnt) p (.int .i64 ((cnt p + 1 : Nat) : Int)) = fC (addC cnt p) := by
  funext q
  unfold updO fC addC
  by_cases h : q = p
  · rw [if_pos h, if_pos h, if_neg (by omega)]
  · rw [if_neg h, if_neg h]
/-- So often it was counted: the cells that were visited, and of cell a so many words. -/
def cntV (size : Nat) (cells : Nat → List (Nat × Int)) (vis : Nat → Bool) (a k : Nat) (p : Int × Int) : Nat :=
  if 0 ≤ p.1 ∧ p.1 < (size : Int) then (if p.1.toNat = a then ((cells a).take k).countP (fun q => q.2 == p.2) else if vis p.1.toNat = true then (cells p.1.toNat).countP (fun q => q.2 == p.2) else 0) else 0
theorem cntV_start {size : Nat} {cells : Nat → List (Nat × Int)} (a : Nat) : cntV size cells (fun _ => false) a 0 = fun _ => 0 := by
  funext p
  unfold cntV
  simp
theorem cntV_in {size a : Nat} {cells : Nat → List (Nat × Int)} {vis : Nat → Bool} (ha : vis a = false) : cntV size cells vis size 0 = cntV size cells vis a 0 := by
  funext p
  unfold cntV
  simp only [List.take_zero]
  by_cases h : 0 ≤ p.1 ∧ p.1 < (size : Int)
  · rw [if_pos h, if_pos h, if_neg (by omega)]
    by_cases h1 : p.1.toNat = a
    · rw [if_pos h1, h1, ha]; rfl
    · rw [if_neg h1]
  · rw [if_neg h, if_neg h]
theorem cntV_out {size a : Nat} {cells : Nat → List (Nat × Int)} {vis : Nat → Bool} : cntV size cells vis a (cells a).length = cntV size cells (upd vis a true) size 0 := by
  funext p
  unfold cntV
  by_cases h : 0 ≤ p.1 ∧ p.1 < (size : Int)
  · rw [if_pos h, if_pos h, List.take_length, if_neg (show ¬ p.1.toNat = size by omega)]
    by_cases h1 : p.1.toNat = a
    · rw [if_pos h1, if_pos (by rw [h1, upd_at]), h1]
    · rw [if_neg h1, upd_ne _ _ h1]
  · rw [if_neg h, if_neg h]
theorem cntV_add {size a k : Nat} {cells : Nat → List (Nat × Int)} {vis : Nat → Bool} (ha : a < size) {q : Nat × Int} (hq : (cells a)[k]? = some q) : addC (cntV size cells vis a k) ((a : Int), q.2) = cntV size cells vis a (k + 1) := by
  funext p
  unfold addC
  by_cases h : p = ((a : Int), q.2)
  · rw [if_pos h]
    subst h
    unfold cntV
    dsimp only
    rw [if_pos (show 0 ≤ (a : Int) ∧ (a : Int) < (size : Int) from ⟨by omega, by omega⟩), if_pos (Int.toNat_natCast a), List.take_add_one, hq, List.countP_append]
    simp [ha]
  · rw [if_neg h]
    unfold cntV
    by_cases h0 : 0 ≤ p.1 ∧ p.1 < (size : Int)
    · rw [if_pos h0, if_pos h0]
      by_cases h1 : p.1.toNat = a
      · rw [if_pos h1, if_pos h1, List.take_add_one, hq, List.countP_append]
        have hne : (q.2 == p.2) = false := by
          rw [beq_eq_false_iff_ne]
          intro e
          exact h (Prod.ext (by show p.1 = (a : Int); omega) e.symm)
        simp [hne]
      · rw [if_neg h1, if_neg h1]
    · rw [if_neg h0, if_neg h0]
theorem cntV_le {size : Nat} {cells : Nat → List (Nat × Int)} {vis : Nat → Bool} {a k n : Nat} (hn : ∀ b, b < size → (cells b).length ≤ n) (ha : a < size) (p : Int × Int) : cntV size cells vis a k p ≤ n := by
  unfold cntV
  split
  · rename_i h
    split
    · refine Nat.le_trans List.countP_le_length ?_
      rw [List.length_take]
      have := hn a ha
      omega
    · split
      · exact Nat.le_trans List.countP_le_length (hn _ (by omega))
      · exact Nat.zero_le _
  · exact Nat.zero_le _
theorem cntV_seen {size : Nat} {cells : Nat → List (Nat × Int)} {vis : Nat → Bool} (hv : ∀ b, b < size → vis b = true) {p : Int × Int} (hp : 0 ≤ p.1 ∧ p.1 < (size : Int)) : (cntV size cells vis size 0 p = 0) ↔ seenB cells p = false := by
  unfold cntV seenB
  rw [if_pos hp, if_neg (by omega), if_pos (hv _ (by omega)), List.countP_eq_zero, List.any_eq_false]
end Go.Proofs.Ytloiadhdkgkjkaa
/- opaque: what Together and Never answer, plain; their contracts' sentences. -/
namespace Go.Proofs.Ytloiadhdkgkjkaa
open Go.RowKit
set_option maxHeartbeats 4000000
set_option linter.unusedVariables false
set_option linter.unusedSimpArgs false
/-- What Together answers: its error, the numbers. -/
def togA (first : List Int) (l : List Ev) (words : List (Int × Int)) : (Int × Int) × List Nat :=
  if (seeOdd first.length l).2 ≠ 0 then (seeOdd first.length l, [])
  else if words.any (fun c => decide (c.1 ≥ (first.length : Int))) = true then ((-1, 4), [])
  else ((-1, 0), togK (vAll first l).cells words ((vAll first l).commits + 1))
/-- What Never answers, behind its error. -/
def nevA (first : List Int) (l : List Ev) : List (Int × Int) := if (seeOdd first.length l).2 ≠ 0 then [] else neverL (vAll first l)
def TogetherC : Prop := ∀ (w : World) (Fv Hv : Value) (first : List Int) (l : List Ev) (Aw : Option Addr) (cw : Nat) (words : List (Int × Int)), OpIn w Fv Hv first l → LiesP w (.slice Aw words.length cw) words → words.length ≤ 9223372036854775807 → (∀ p ∈ words, 0 ≤ p.1) →
  Calls Try.prog 17 #[Fv, Hv, .slice Aw words.length cw] w fun x w' => Below w.heap.size w w' ∧ ∃ ov, x = .returned (.tuple #[ov, .agg #[.int .i64 (togA first l words).1.1, .int .i64 (togA first l words).1.2]]) ∧ Sl 3 1 encI w' ov (togA first l words).2 ∧ ∀ q, own ov q → w.heap.size ≤ q
def NeverC : Prop := ∀ (w : World) (Fv Hv : Value) (first : List Int) (l : List Ev), OpIn w Fv Hv first l →
  Calls Try.prog 19 #[Fv, Hv] w fun x w' => Below w.heap.size w w' ∧ ∃ ov, x = .returned (.tuple #[ov, .agg #[.int .i64 (seeOdd first.length l).1, .int .i64 (seeOdd first.length l).2]]) ∧ Sl 45 2 encC w' ov (nevA first l) ∧ ∀ q, own ov q → w.heap.size ≤ q
end Go.Proofs.Ytloiadhdkgkjkaa
