/- The document's answer for chapter 16: the cells behind each number of commits; lists of lists of words in memory. -/
import Derived.Test.YtloiadhdkgkjkaaMix
import Derived.Test.YtloiadhdkgkjkaaPCl5
namespace Go.Proofs.Ytloiadhdkgkjkaa
open Go.RowKit
set_option maxHeartbeats 40000000
set_option linter.unusedVariables false
set_option linter.unusedSimpArgs false
/-- A slice's head: where, how long, how much room. -/
def encW (x : Option Addr × Nat × Nat) : List Value := [.slice x.1 x.2.1 x.2.2]
theorem encW_len (x : Option Addr × Nat × Nat) : (encW x).length = 1 := rfl
theorem encW_one (x : Option Addr × Nat × Nat) : ∀ u ∈ encW x, u.oneCell' = true := by
  intro u hu
  simp only [encW, List.mem_cons, List.not_mem_nil, or_false] at hu
  subst hu
  rfl
def headV (x : Option Addr × Nat × Nat) : Value := .slice x.1 x.2.1 x.2.2
theorem headO_info : (Try.prog.info? 22).map (fun i => (i.zero, i.size, i.bytes)) = some (some (.slice none 0 0), 1, 24) := by kernel_rfl
theorem wpList_headO {ops : Array Oper} {rest : List Oper} {o : Oper} {a : Act} {Q : Exit → Act → World → Prop} (wr : World) (hgd : o.guard = none) (s x : Operand)
    (ho : o.op = .call { callee := .builtin .append, args := #[s, x], argTypes := #[75, 75] })
    (v : Value) (l : List (Option Addr × Nat × Nat)) (y : Option Addr × Nat × Nat) (hs : a.eval s = v) (hl : Sl 22 1 encW wr v l) (hx : a.eval x = .slice (some ⟨wr.heap.size, 0, none⟩) 1 1) (hb1 : l.length + 1 ≤ 9223372036854775807) (hlen : (l.length + 1) * 24 ≤ 140737488355328)
    (h : ∀ A cap w', l.length + 1 ≤ cap → Sl 22 1 encW w' (.slice A (l.length + 1) cap) (l ++ [y]) → Fr (own v) wr (own (.slice A (l.length + 1) cap)) w' → wpList Try.prog ops Q rest (a.put o.dst (.slice A (l.length + 1) cap)) w') :
    wpList Try.prog ops Q (o :: rest) a (wr.alloc (.cells #[.slice y.1 y.2.1 y.2.2] 22)) :=
  wpList_one (enc := encW) encW_len encW_one wr hgd s x 75 ho Try.underlying75 headO_info rfl (by decide) v l y hs hl hx hb1 hlen h
/-- A list of lists of words, each in a block of its own; none of it lies below B. -/
structure StsW (B : Nat) (w : World) (ov : Value) (vs : List (Option Addr × Nat × Nat)) (L : List (List Int)) : Prop where
  sl : Sl 22 1 encW w ov vs
  len : vs.length = L.length
  at_ : ∀ i (hi : i < vs.length), Wl w (headV (vs[i]'hi)) (L.getD i [])
  geo : ∀ q, own ov q → B ≤ q
  gev : ∀ x ∈ vs, ∀ q, own (headV x) q → B ≤ q
theorem StsW.keep {B : Nat} {w w' : World} {ov : Value} {vs : List (Option Addr × Nat × Nat)} {L : List (List Int)} (h : StsW B w ov vs L) (h1 : ∀ q, own ov q → q < w.heap.size → w'.heap[q]? = w.heap[q]?) (h2 : ∀ x ∈ vs, ∀ q, own (headV x) q → q < w.heap.size → w'.heap[q]? = w.heap[q]?) : StsW B w' ov vs L where
  sl := h.sl.keep fun k hk => h1 k hk (h.sl.lt k hk)
  len := h.len
  at_ := fun i hi => (h.at_ i hi).keep fun k hk => h2 _ (List.getElem_mem hi) k hk ((h.at_ i hi).lt k hk)
  geo := h.geo
  gev := h.gev
theorem StsW.below {B : Nat} {w w' : World} {ov : Value} {vs : List (Option Addr × Nat × Nat)} {L : List (List Int)} (h : StsW B w ov vs L) (hb : Below w.heap.size w w') : StsW B w' ov vs L :=
  h.keep (fun q _ hq => hb.block q hq) (fun _ _ q _ hq => hb.block q hq)
theorem StsW.drewN {B : Nat} {w : World} {ov : Value} {vs : List (Option Addr × Nat × Nat)} {L : List (List Int)} (h : StsW B w ov vs L) (n : Nat) : StsW B (w.drewN n) ov vs L := ⟨h.sl, h.len, h.at_, h.geo, h.gev⟩
theorem flat_u64 : ∀ m : List Int, m.flatMap (fun n => [Value.int .u64 n]) = u64s m
  | [] => rfl
  | a :: m => by rw [List.flatMap_cons, flat_u64 m]; rfl
theorem wl_sl {w : World} {v : Value} {m : List Int} (h : Wl w v m) : Sl 35 1 (fun n => [Value.int .u64 n]) w v m := by
  unfold Sl
  rw [flat_u64]
  exact h
theorem StsW.snoc {B : Nat} {w w' : World} {ov ov' : Value} {vs : List (Option Addr × Nat × Nat)} {L : List (List Int)} {x : Option Addr × Nat × Nat} {m : List Int} (h : StsW B w ov vs L) (hw : Wl w (headV x) m) (hx : ∀ q, own (headV x) q → B ≤ q)
    (hS : Sl 22 1 encW w' ov' (vs ++ [x])) (hF : Fr (own ov) w (own ov') w') (hB : B ≤ w.heap.size) : StsW B w' ov' (vs ++ [x]) (L ++ [m]) where
  sl := hS
  len := by rw [List.length_append, List.length_append, h.len]; rfl
  at_ := fun i hi => by
    by_cases hi2 : i < vs.length
    · rw [List.getElem_append_left hi2, List.getD_eq_getElem?_getD, List.getElem?_append_left (by rw [← h.len]; exact hi2), ← List.getD_eq_getElem?_getD]
      refine (h.at_ i hi2).keep fun k hk => hF.block k ((h.at_ i hi2).lt k hk) fun ho => ?_
      obtain ⟨cs, hb⟩ := h.sl.ofBlk ho
      exact absurd hk (Sl.ne_ (e := 35) (show Sl 35 1 (fun n => [Value.int .u64 n]) w _ (L.getD i []) from wl_sl (h.at_ i hi2)) hb (by decide))
    · have e : i = vs.length := by rw [List.length_append] at hi; simp at hi; omega
      subst e
      rw [List.getElem_append_right (Nat.le_refl _)]
      simp only [Nat.sub_self, List.getElem_cons_zero]
      rw [h.len, List.getD_eq_getElem?_getD, List.getElem?_append_right (Nat.le_refl _)]
      simp only [Nat.sub_self, List.getElem?_cons_zero, Option.getD_some]
      refine hw.keep fun k hk => hF.block k (hw.lt k hk) fun ho => ?_
      obtain ⟨cs, hb⟩ := h.sl.ofBlk ho
      exact absurd hk (Sl.ne_ (e := 35) (show Sl 35 1 (fun n => [Value.int .u64 n]) w _ m from wl_sl hw) hb (by decide))
  geo := hF.ge h.geo hB
  gev := fun y hy q hq => by
    rw [List.mem_append, List.mem_singleton] at hy
    rcases hy with hy | hy
    · exact h.gev y hy q hq
    · subst hy; exact hx q hq
/-- 'append([]uint64(nil), m...)'. -/
theorem wpList_wcopy {ops : Array Oper} {rest : List Oper} {o : Oper} {a : Act} {Q : Exit → Act → World → Prop} (wr : World) (hgd : o.guard = none) (s x : Operand)
    (ho : o.op = .call { callee := .builtin .append, args := #[s, x], argTypes := #[22, 22] })
    (u : Value) (m : List Int) (hs : a.eval s = .slice none 0 0) (hx : a.eval x = u) (hm : Lies wr u m) (hlen : m.length * 8 ≤ 140737488355328)
    (h : ∀ A cap w', m.length ≤ cap → Wl w' (.slice A m.length cap) m → Below wr.heap.size wr w' → (∀ q, own (.slice A m.length cap) q → wr.heap.size ≤ q) → wpList Try.prog ops Q rest (a.put o.dst (.slice A m.length cap)) w') :
    wpList Try.prog ops Q (o :: rest) a wr := by
  refine wpList_words wr hgd s x ho (.slice none 0 0) u [] m hs (Wl.nil _) hx hm (by simpa using hlen) ?_
  intro A cap w' h1 h2 h3
  simp only [List.length_nil, Nat.zero_add, List.nil_append] at h1 h2 h3 ⊢
  exact h A cap w' h1 h2 (h3.below (fun q hq => absurd hq (no_own_nil q)) (Nat.le_refl _)) (h3.ge (fun q hq => absurd hq (no_own_nil q)) (Nat.le_refl _))
/-- The Writes of a thread in n events from a place on, laid into the cells. -/
def apF (l : List Ev) (th : Int) (fr : Nat) (now : List Int) : Nat → List Int
  | 0 => now
  | n + 1 => if (evAt l (fr + n)).th = th ∧ (evAt l (fr + n)).kd = 3 then (apF l th fr now n).set (evAt l (fr + n)).ad.toNat (evAt l (fr + n)).wd else apF l th fr now n
theorem apF_len (l : List Ev) (th : Int) (fr : Nat) (now : List Int) : ∀ n, (apF l th fr now n).length = now.length
  | 0 => rfl
  | n + 1 => by
    unfold apF
    split
    · rw [List.length_set]; exact apF_len l th fr now n
    · exact apF_len l th fr now n
def stS (first : List Int) (l : List Ev) (W : List Nat) : Nat → List Int × List (List Int)
  | 0 => (first, [first])
  | j + 1 =>
    let c := W.getD j 0
    let th := (evAt l c).th
    let b := begF l th (c + 1)
    let now := apF l th b (stS first l W j).1 (c - b)
    (now, (stS first l W j).2 ++ [now])
theorem stS_len (first : List Int) (l : List Ev) (W : List Nat) : ∀ j, (stS first l W j).1.length = first.length ∧ (stS first l W j).2.length = j + 1
  | 0 => ⟨rfl, rfl⟩
  | j + 1 => by
    obtain ⟨h1, h2⟩ := stS_len first l W j
    unfold stS
    dsimp only
    exact ⟨by rw [apF_len]; exact h1, by rw [List.length_append, h2]; rfl⟩
theorem begF_le (l : List Ev) (t : Int) : ∀ n, begF l t (n + 1) ≤ n
  | 0 => by unfold begF; split <;> simp [begF]
  | n + 1 => by
    have := begF_le l t n
    unfold begF
    split
    · exact Nat.le_refl _
    · omega
end Go.Proofs.Ytloiadhdkgkjkaa
/- The document's answer for chapter 16: States by contract. -/
namespace Go.Proofs.Ytloiadhdkgkjkaa
open Go.RowKit
set_option maxHeartbeats 40000000
set_option linter.unusedVariables false
set_option linter.unusedSimpArgs false
set_option maxRecDepth 100000 in
theorem rstates_b {w : World} {Fv : Value} {A : Option Addr} {cp : Nat} {first : List Int} {l : List Ev} (hF : Lies w Fv first) (hL : LiesV w (.slice A l.length cp) l) (hth : ∀ k, k < l.length → 0 ≤ (evAt l k).th ∧ (evAt l k).th < 8)
    (had : ∀ k, k < l.length → (evAt l k).kd = 3 → 0 ≤ (evAt l k).ad ∧ (evAt l k).ad < (first.length : Int)) (hfl : first.length ≤ 65536) :
    Calls Try.prog 31 #[Fv, .slice A l.length cp] w fun x w' => Below w.heap.size w w' ∧ ∃ ov vs, x = .returned ov ∧ StsW w.heap.size w' ov vs (stS first l (wrS l l.length).2 (wrS l l.length).2.length).2 := by
  have hln := hL.len
  have hlen : (l.length : Int) ≤ 9223372036854775807 := by omega
  have C1 := Lib.hid (fun W (h : LiesV W (.slice A l.length cp) l) => rwriting_b h hth)
  have hWl := wrS_lt l l.length
  have hWn := wrS_len l l.length
  generalize (wrS l l.length).2 = W at *
  obtain ⟨Af, cf, rfl, -⟩ := (show ∃ A cp, Fv = .slice A first.length cp ∧ True from by obtain ⟨A, cp, h1, _⟩ := hF; exact ⟨A, cp, h1, trivial⟩)
  replace hL := Lib.hid hL
  replace hF := Lib.hid hF
  replace hth := Lib.hid hth
  replace had := Lib.hid had
  replace hWl := Lib.hid hWl
  have hf8 : Hid (first.length * 8 ≤ 140737488355328) := Lib.hid (by omega)
  go_enter Try.func31, Try.ntmps31
  go_wp2_with (at_builtin; first | (refine wpList_wcopy w rfl _ _ rfl _ first rfl rfl hF.out hf8.out ?_; intro A1 cap1 w1 hc1 hW1 hb1 ho1) | (refine wpList_wcopy w1 rfl _ _ rfl _ first rfl rfl hW1.lies hf8.out ?_; intro A2 cap2 w2 hc2 hW2 hb2 ho2))
  have hb2' := hb1.trans (hb2.mono hb1.size)
  have ho2' : ∀ q, own (.slice A2 first.length cap2) q → w.heap.size ≤ q := fun q hq => Nat.le_trans hb1.size (ho2 q hq)
  have hN2 := hW1.keep (w' := w2) fun k hk => hb2.block k (hW1.lt k hk)
  have hap : ∀ q, own (.slice A2 first.length cap2) q → ¬ own (.slice A1 first.length cap1) q := fun q h1 h2 => by have := ho2 q h1; have := hW1.lt q h2; omega
  obtain ⟨w3, hw3⟩ : ∃ w3, w3 = w2.alloc (.cells #[.slice A2 first.length cap2] 22) := ⟨_, rfl⟩
  have hT3 : StsW w.heap.size w3 (.slice (some ⟨w2.heap.size, 0, none⟩) 1 1) [(A2, first.length, cap2)] [first] := by
    rw [hw3]
    refine ⟨Sl.new (e := 22) encW_len w2 [(A2, first.length, cap2)] (by simp), rfl, fun i hi => ?_, fun q hq => ?_, fun x hx q hq => ?_⟩
    · have e : i = 0 := by simpa using hi
      subst e
      exact hW2.alloc _
    · have e : w2.heap.size = q := by simpa [own, Value.ownBlock] using hq
      have := hb2'.size
      omega
    · rw [List.mem_singleton] at hx
      subst hx
      exact ho2' q hq
  have hN3 : Wl w3 (.slice A1 first.length cap1) first := by rw [hw3]; exact hN2.alloc _
  have hb3 : Below w.heap.size w w3 := by rw [hw3]; exact hb2'.alloc hb2'.size _
  have C2 := Lib.hid (C1.out w3 (hL.out.below hb3 (Nat.le_refl _)))
  replace hw3 := Lib.hid hw3
  replace ho1 := Lib.hid ho1
  clear hW1 hb1 hW2 hb2 ho2 hb2' ho2' hN2 hc1 hc2 C1 hF
  go_wp2_with fail
  rw [← hw3.out]
  refine C2.out.mono ?_
  rintro _ w4 ⟨hb4, ovW, rfl, hSW, hoW⟩
  obtain ⟨AW, cW, rfl, -⟩ := hSW.shape
  have hT4 := Lib.hid (hT3.below hb4)
  have hN4 := Lib.hid (hN3.keep (w' := w4) fun k hk => hb4.block k (hN3.lt k hk))
  have hbw4 := Lib.hid (hb3.trans (hb4.mono hb3.size))
  replace hSW := Lib.hid hSW
  have hap4 : Hid (∀ x ∈ [(A2, first.length, cap2)], ∀ q, own (headV x) q → ¬ own (.slice A1 first.length cap1) q) := Lib.hid fun x hx q hq => by
    rw [List.mem_singleton] at hx
    subst hx
    exact hap q hq
  have hWlen : (W.length : Int) ≤ 9223372036854775807 := by omega
  clear hb4 hoW C2 hT3 hN3 hb3 hap
  go_wp2
  go_loopw [6, 8] (fun c6 c8 wr => ∃ (j : Nat) (vs : List (Option Addr × Nat × Nat)), j ≤ W.length ∧ c8 = .int .i64 (j : Int) ∧ Hid (StsW w.heap.size wr c6 vs (stS first l W j).2) ∧ Hid (Wl wr (.slice A1 first.length cap1) (stS first l W j).1) ∧ Hid (∀ x ∈ vs, ∀ q, own (headV x) q → ¬ own (.slice A1 first.length cap1) q) ∧ Hid (Sl 3 1 encI wr (.slice AW W.length cW) W) ∧ Hid (Below w.heap.size w wr)) (fun _ c8 _ => W.length - (intOf c8).toNat)
  case atStart => exact ⟨0, _, Nat.zero_le _, rfl, hT4, hN4, hap4, hSW, hbw4⟩
  case round =>
    obtain ⟨j, vs, hj, rfl, hT, hN, hap, hS, hbr⟩ := hrel
    clear hT4 hN4 hap4 hSW hbw4
    by_cases hlt : j < W.length
    · have hc : W.getD j 0 < l.length := by rw [List.getD_eq_getElem?_getD, List.getElem?_eq_getElem hlt]; exact hWl.out _ (List.getElem_mem hlt)
      obtain ⟨gW, oW, rfl, -, cW0⟩ := hS.out.cell encI_len (by decide) hlt
      have k0 := (cW0 j hlt 0 (by decide)).1
      simp only [encI, List.getElem?_cons_zero, Nat.add_zero, Nat.mul_one] at k0
      have hsu : Hid (stS first l W (j + 1) = (apF l (evAt l (W.getD j 0)).th (begF l (evAt l (W.getD j 0)).th (W.getD j 0 + 1)) (stS first l W j).1 (W.getD j 0 - begF l (evAt l (W.getD j 0)).th (W.getD j 0 + 1)), (stS first l W j).2 ++ [apF l (evAt l (W.getD j 0)).th (begF l (evAt l (W.getD j 0)).th (W.getD j 0 + 1)) (stS first l W j).1 (W.getD j 0 - begF l (evAt l (W.getD j 0)).th (W.getD j 0 + 1))])) := Lib.hid rfl
      have e0 : W[j] = W.getD j 0 := by rw [List.getD_eq_getElem?_getD, List.getElem?_eq_getElem hlt]; rfl
      rw [e0] at k0
      generalize W.getD j 0 = c at *
      have CB := Lib.hid (rbegin_b (hL.out.below hbr.out (Nat.le_refl _)) hc)
      have hbc := begF_le l (evAt l c).th c
      obtain ⟨th, hthc⟩ : ∃ th, (evAt l c).th = th := ⟨_, rfl⟩
      rw [hthc] at CB hsu hbc
      generalize begF l th (c + 1) = b at *
      have hsl := (stS_len first l W j).1
      have hs2 := (stS_len first l W j).2
      generalize stS first l W j = s at *
      obtain ⟨now, L⟩ := s
      dsimp only at hT hN hsu hsl hs2
      have b1 : (j : Int) < W.length := by omega
      have hWj := Lib.hid e0
      clear cW0 e0
      replace hthc := Lib.hid hthc
      replace hs2 := Lib.hid hs2
      go_wp2_with fail
      refine CB.out.mono ?_
      rintro _ _ ⟨rfl, n1, rfl⟩
      obtain ⟨wq, hwq⟩ : ∃ wq, wq = wr.drewN n1 := ⟨_, rfl⟩
      have hTq := Lib.hid (hT.out.drewN n1)
      have hNq := Lib.hid (hN.out.drewN n1)
      have hSq := Lib.hid (hS.out.drewN n1)
      have hbq := Lib.hid (below_drewNs hbr.out n1)
      have kq : (wr.drewN n1).cell? ⟨gW, oW + j, none⟩ = some (.int .i64 c) := k0
      rw [← hwq] at hTq hNq hSq hbq kq ⊢
      clear hT hN hS hbr k0 CB hwq
      go_wp2
      go_loopw [9] (fun c9 wr => ∃ n : Nat, n ≤ c - b ∧ c9 = .int .i64 ((b + n : Nat) : Int) ∧ Hid (Wl wr (.slice A1 first.length cap1) (apF l th b now n)) ∧ Hid (Fr (own (.slice A1 first.length cap1)) wq (own (.slice A1 first.length cap1)) wr)) (fun c9 _ => c + 1 - (intOf c9).toNat)
      case atStart => exact ⟨0, Nat.zero_le _, rfl, hNq, Lib.hid (Fr.refl _ _)⟩
      case round =>
        obtain ⟨n, hn, rfl, hNn, hFr⟩ := hrel
        have hbn := Lib.hid (hbq.out.trans (hFr.out.below ho1.out hbq.out.size))
        have hSn := Lib.hid (hSq.out.fr hFr.out (fun k h1 h2 => by obtain ⟨cs, hb⟩ := hSq.out.ofBlk h1; exact Sl.ne_ (wl_sl hNq.out) hb (by decide) h2))
        obtain ⟨gW', oW', eW, -, cW0⟩ := hSn.out.cell encI_len (by decide) hlt
        injection eW with eW
        injection eW with e1 e2
        subst e1 e2
        have kn := (cW0 j hlt 0 (by decide)).1
        rw [hWj.out] at kn
        simp only [encI, List.getElem?_cons_zero, Nat.add_zero, Nat.mul_one] at kn
        clear cW0
        by_cases hnc : n < c - b
        · have hmc : b + n < c := by omega
          have hml : b + n < l.length := by omega
          obtain ⟨g, o, rfl, hce⟩ := (hL.out.below hbn.out (Nat.le_refl _)).at hc
          obtain ⟨y0, -, -, -, -, -⟩ := hce c hc
          obtain ⟨d0, d1, d2, d3, -, -⟩ := hce (b + n) hml
          rw [hthc.out] at y0
          have hu : Hid (apF l th b now (n + 1) = if (evAt l (b + n)).th = th ∧ (evAt l (b + n)).kd = 3 then (apF l th b now n).set (evAt l (b + n)).ad.toNat (evAt l (b + n)).wd else apF l th b now n) := Lib.hid rfl
          have hadn := had.out (b + n) hml
          generalize evAt l (b + n) = ev at *
          obtain ⟨x0, x1, ad, wd, ow, er⟩ := ev
          dsimp only at d0 d1 d2 d3 hu hadn
          have hcI : (c : Int) < (l.length : Int) := by omega
          generalize hm : b + n = m at *
          have hmI : (m : Int) < (c : Int) := by omega
          have hmI2 : (m : Int) < (l.length : Int) := by omega
          have w1 := IntWalk.i64_in (n := (m : Int) + 1) (by omega)
          replace hm := Lib.hid hm
          clear hce
          by_cases g0 : x0 = th
          · have g1 : (x0 == th) = true := by simpa using g0
            by_cases g2 : x1 = 3
            · have g3 : (x1 == 3) = true := by simpa using g2
              obtain ⟨ha0, ha1⟩ := hadn g2
              obtain ⟨a, rfl⟩ := Int.eq_ofNat_of_zero_le ha0
              rw [if_pos ⟨g0, g2⟩, Int.toNat_natCast] at hu
              have hal : a < (apF l th b now n).length := by rw [apF_len, hsl]; omega
              have hlenN : (apF l th b now n).length = first.length := by rw [apF_len, hsl]
              rw [← hlenN] at hNn
              obtain ⟨gN, oN, rfl, hgN, kc, kf, hset⟩ := Wl.upd hNn.out hal
              have hset2 := Lib.hid (hset wd)
              have hFs := Lib.hid (hFr.out.set (p := ⟨gN, oN + a, none⟩) (.inl (by simp [own, Value.ownBlock])) (.int .u64 wd))
              replace g0 := Lib.hid g0
              replace g2 := Lib.hid g2
              go_wp2
              go_quiet (fail)
              go_wp2
              obtain ⟨wz, hwz⟩ : ∃ wz, wz = wr.drewN nq := ⟨_, rfl⟩
              have z2 : (wr.drewN nq).cell? ⟨g, o + m * 6 + 2, none⟩ = some (.int .u64 a) := d2
              have z3 : (wr.drewN nq).cell? ⟨g, o + m * 6 + 3, none⟩ = some (.int .u64 wd) := d3
              have zc : (wr.drewN nq).cell? ⟨gN, oN + a, none⟩ = some (.int .u64 ((apF l th b now n).getD a 0)) := kc
              have zf : (wr.drewN nq).frozen? ⟨gN, oN + a, none⟩ = false := kf
              have hset3 := Lib.hid (fun j jj => ((show Wl (((wr.drewN nq).drewN j).setCell ⟨gN, oN + a, none⟩ (.int .u64 wd)) _ _ from hset2.out)).drewN jj)
              have hFs3 := Lib.hid (fun j jj => (((hFr.out.drewN nq).drewN j).set (p := ⟨gN, oN + a, none⟩) (.inl (by simp [own, Value.ownBlock])) (.int .u64 wd)).drewN jj)
              rw [← hwz] at z2 z3 zc zf hset3 hFs3 ⊢
              have ha1' : (a : Int) < (first.length : Int) := ha1
              clear hset2 hFs hset kc kf hNn hFr hbn hSn kn d0 d1 d2 d3 y0 hwz
              refine wp_region_mixH (fun _ => True) [3, 3, 3, 3, 3, 1, 3, 3, 3, 3, 1, 3, 2] (List.range 13) (by kernel_rfl) (by kernel_rfl) (fun _ _ h => h) trivial ?_
              (repeat ((first | refine wpMixH_pure rfl rfl (fun K hK => ?_) | refine wpMixH_loc rfl rfl (fun K hK => ?_) | refine wpMixH_any rfl rfl (fun K hK => ?_)); go_simp; refine hK _ _ ?_; clear hK K))
              refine wpMixH_loud rfl rfl (fun n3 K hK => ?_)
              go_wp2
              refine hK _ _ (fun _ => trivial) ?_; clear hK K
              refine wpMixH_nil (fun n4 => ?_)
              go_wp2
              go_roundw
              case rel => exact ⟨n + 1, by omega, by have := hm.out; go_num, Lib.hid (by rw [hu.out]; have h9 := hset3.out (1 + n3) n4; rw [List.length_set, hlenN] at h9; exact h9), Lib.hid (hFs3.out _ _)⟩
              case measure => have := hm.out; simp [intOf]; omega
            · have g3 : (x1 == 3) = false := by simpa using g2
              rw [if_neg (fun h => g2 h.2)] at hu
              replace g0 := Lib.hid g0
              replace g2 := Lib.hid g2
              go_wp2
              go_quiet (fail)
              go_wp2
              go_roundw
              case rel => exact ⟨n + 1, by omega, by have := hm.out; go_num, Lib.hid (by rw [hu.out]; exact hNn.out.drewN _), Lib.hid (hFr.out.drewN _)⟩
              case measure => have := hm.out; simp [intOf]; omega
          · have g1 : (x0 == th) = false := by simpa using g0
            rw [if_neg (fun h => g0 h.1)] at hu
            replace g0 := Lib.hid g0
            go_wp2
            go_quiet (fail)
            go_wp2
            go_roundw
            case rel => exact ⟨n + 1, by omega, by have := hm.out; go_num, Lib.hid (by rw [hu.out]; exact hNn.out.drewN _), Lib.hid (hFr.out.drewN _)⟩
            case measure => have := hm.out; simp [intOf]; omega
        · have hnc2 : n = c - b := by omega
          have hcI : ¬ ((b + n : Nat) : Int) < (c : Int) := by omega
          subst hnc2
          generalize hm : b + (c - b) = m at *
          replace hm := Lib.hid hm
          have hlenN : (apF l th b now (c - b)).length = first.length := by rw [apF_len, hsl]
          have hTn := hTq.out.keep (w' := wr) (fun q h1 h2 => hFr.out.block q h2 fun ho => by obtain ⟨cs, hb⟩ := hTq.out.sl.ofBlk h1; exact Sl.ne_ (wl_sl hNq.out) hb (by decide) ho) (fun x hx q h1 h2 => hFr.out.block q h2 (hap.out x hx q h1))
          generalize apF l th b now (c - b) = N at *
          have hvl : Hid ((vs.length + 1) * 24 ≤ 140737488355328) := Lib.hid (by rw [hTn.len, hs2.out]; omega)
          have hN8 : Hid (N.length * 8 ≤ 140737488355328) := Lib.hid (by rw [hlenN]; exact hf8.out)
          have FIN : Hid (∀ A5 cap5 w5 A6 cap6 w6, Wl w5 (.slice A5 N.length cap5) N → Below wr.heap.size wr w5 → (∀ q, own (.slice A5 N.length cap5) q → wr.heap.size ≤ q) → Sl 22 1 encW w6 (.slice A6 (vs.length + 1) cap6) (vs ++ [(A5, N.length, cap5)]) → Fr (own _) w5 (own (.slice A6 (vs.length + 1) cap6)) w6 →
              StsW w.heap.size w6 (.slice A6 (vs.length + 1) cap6) (vs ++ [(A5, N.length, cap5)]) (L ++ [N]) ∧ Wl w6 (.slice A1 first.length cap1) N ∧ (∀ x ∈ vs ++ [(A5, N.length, cap5)], ∀ q, own (headV x) q → ¬ own (.slice A1 first.length cap1) q) ∧ Sl 3 1 encI w6 (.slice (some ⟨gW, oW, none⟩) W.length cW) W ∧ Below w.heap.size w w6) := Lib.hid fun A5 cap5 w5 A6 cap6 w6 h5 hb5 ho5 hS6 hF6 => by
            have hT5 := hTn.below hb5
            have hN5 := hNn.out.keep (w' := w5) fun k hk => hb5.block k (hNn.out.lt k hk)
            have hS5 := hSn.out.keep (w' := w5) fun k hk => hb5.block k (hSn.out.lt k hk)
            have hbw5 := hbn.out.trans (hb5.mono hbn.out.size)
            refine ⟨hT5.snoc h5 (fun q hq => Nat.le_trans hbn.out.size (ho5 q hq)) hS6 hF6 hbw5.size, ?_, ?_, ?_, hbw5.trans (hF6.below hT5.geo hbw5.size)⟩
            · exact hN5.fr hF6 fun k h1 h2 => by obtain ⟨cs, hb⟩ := hT5.sl.ofBlk h2; exact Sl.ne_ (wl_sl hN5) hb (by decide) h1
            · intro x hx q h1 h2
              rw [List.mem_append, List.mem_singleton] at hx
              rcases hx with hx | hx
              · exact hap.out x hx q h1 h2
              · subst hx
                have := ho5 q h1
                have := hNn.out.lt q h2
                omega
            · exact hS5.fr hF6 fun k h1 h2 => by obtain ⟨cs, hb⟩ := hT5.sl.ofBlk h2; exact Sl.ne_ hS5 hb (by decide) h1
          have hT5 : Hid (∀ w5, Below wr.heap.size wr w5 → Sl 22 1 encW w5 _ vs) := Lib.hid fun w5 hb5 => (hTn.below hb5).sl
          have hLi := Lib.hid hNn.out.lies
          replace hlenN := Lib.hid hlenN
          clear hTn hFr hNn hbn hSn hTq hNq hSq hbq kq
          go_wp2_with (at_builtin; first | (refine wpList_wcopy wr rfl (.const (.slice none 0 0)) (.tmp 72) rfl _ N rfl rfl hLi.out hN8.out ?_; intro A5 cap5 w5 hc5 hW5 hb5 ho5; have hT6 := hT5.out w5 hb5) | (refine wpList_headO w5 rfl (.tmp 71) (.tmp 74) rfl _ vs (A5, N.length, cap5) rfl hT6 rfl (by have := hvl.out; omega) hvl.out ?_; intro A6 cap6 w6 hc6 hS6 hF6; have FN := Lib.hid (FIN.out A5 cap5 w5 A6 cap6 w6 hW5 hb5 ho5 hS6 hF6); clear hS6 hF6 hT6 hW5 hb5 ho5))
          go_roundw
          case rel => exact ⟨j + 1, _, hlt, by go_num, Lib.hid (by rw [hsu.out]; exact FN.out.1), Lib.hid (by rw [hsu.out]; exact FN.out.2.1), Lib.hid FN.out.2.2.1, Lib.hid FN.out.2.2.2.1, Lib.hid FN.out.2.2.2.2⟩
          case measure => simp [intOf]; omega
    · have hj2 : j = W.length := by omega
      subst hj2
      go_wp2
      go_ret
      exact ⟨hbr.out, _, vs, rfl, hT.out⟩
end Go.Proofs.Ytloiadhdkgkjkaa
/- The document's answer for chapter 16: Wrong by contract. -/
namespace Go.Proofs.Ytloiadhdkgkjkaa
open Go.RowKit
set_option maxHeartbeats 40000000
set_option linter.unusedVariables false
set_option linter.unusedSimpArgs false
theorem evAt_get {l : List Ev} {k : Nat} (h : k < l.length) : evAt l k = l[k] := by unfold evAt; rw [List.getD_eq_getElem?_getD, List.getElem?_eq_getElem h]; rfl
theorem rwrong_b (a e : Int) (he : -9223372036854775808 ≤ e ∧ e ≤ 9223372036854775807) (w : World) : Calls Try.prog 39 #[.int .i64 a, .int .i64 e] w fun x w' => x = .returned (.agg #[.int .i64 a, .int .i64 e]) ∧ Below w.heap.size w w' := by
  have w1 := IntWalk.i64_in (n := e) he
  have hb1 := (Below.refl w.heap.size w).alloc (Nat.le_refl _) (.cells #[.int .i64 0, .int .i64 0] 28)
  have hR := Blk.new w 28 #[.int .i64 0, .int .i64 0]
  have c0 := hR.cell 0
  have c1 := hR.cell 1
  have f0 := hR.frozen 0
  have f1 := hR.frozen 1
  simp only [List.getElem?_toArray, List.getElem?_cons_zero, List.getElem?_cons_succ] at c0 c1
  clear hR
  replace hb1 := Lib.hid hb1
  go_enter Try.func39, Try.ntmps39
  go_wp2
  refine bodyPost_ret (v := .agg #[.int .i64 a, .int .i64 e]) (by simp [results, Try.results39, go_sem, c0, c1, f0, f1]) rfl ⟨rfl, (Below.refl _ _).alloc (Nat.le_refl _) _⟩
set_option maxRecDepth 100000 in
theorem rWrong_b {w : World} {Fv : Value} {A : Option Addr} {cp : Nat} {first : List Int} {l : List Ev} (hF : Lies w Fv first) (hL : LiesV w (.slice A l.length cp) l) (hwf : ∀ e ∈ l, EvWf e) (hsz : l.length * 48 + 480 ≤ 140737488355328) (hfl : first.length ≤ 9223372036854775807) :
    Calls Try.prog 30 #[Fv, .slice A l.length cp] w fun x w' => x = .returned (.agg #[.int .i64 (seeOdd first.length l).1, .int .i64 (seeOdd first.length l).2]) ∧ Below w.heap.size w w' := by
  obtain ⟨Af, cf, rfl, -⟩ := (show ∃ A cp, Fv = .slice A first.length cp ∧ True from by obtain ⟨A, cp, h1, _⟩ := hF; exact ⟨A, cp, h1, trivial⟩)
  clear hF
  have hlen : (l.length : Int) ≤ 9223372036854775807 := by omega
  have hfl' : (first.length : Int) ≤ 9223372036854775807 := by omega
  have hu64 := IntWalk.u64_in (n := (first.length : Int)) (by omega)
  have hR1 := Lib.hid (Blk.new w 28 #[.int .i64 0, .int .i64 0])
  have hb1 := Lib.hid ((Below.refl w.heap.size w).alloc (Nat.le_refl _) (.cells #[.int .i64 0, .int .i64 0] 28))
  have C1 := Lib.hid (fun W (h : LiesV W (.slice A l.length cp) l) => rcheck_b h hwf hsz)
  by_cases hn : first.length = 0 ∨ 65536 < first.length
  · have hseq : Hid (seeOdd first.length l = (-1, 2)) := Lib.hid (by unfold seeOdd; rw [if_pos hn])
    by_cases h0 : first.length = 0
    · have g0 : (first.length : Int) < 1 := by omega
      replace h0 := Lib.hid h0
      replace hn := Lib.hid hn
      go_enter Try.func30, Try.ntmps30
      have CW := Lib.hid (rwrong_b (-1) 2 (by decide))
      go_wp2_with fail
      refine (CW.out _).mono ?_
      rintro _ w2 ⟨rfl, hb2⟩
      have hR2 := hR1.out.below hb2 hR1.out.lt
      have hbe := Lib.hid (hb1.out.trans (hb2.mono hb1.out.size))
      have r0 := hR2.cell 0
      have r1 := hR2.cell 1
      have f0 := hR2.frozen 0
      have f1 := hR2.frozen 1
      simp only [List.getElem?_toArray, List.getElem?_cons_zero, List.getElem?_cons_succ] at r0 r1
      clear hb2 hR2 CW
      go_wp2
      refine bodyPost_ret (v := .agg #[.int .i64 (-1), .int .i64 2]) (by simp [results, Try.results30, go_sem, r0, r1, f0, f1]) rfl ⟨by rw [hseq.out], (hbe.out.setCell (Nat.le_refl _) _).setCell (Nat.le_refl _) _⟩
    · have g0 : ¬ (first.length : Int) < 1 := by omega
      have g1 : (65536 : Int) < (first.length : Int) := by omega
      replace h0 := Lib.hid h0
      replace hn := Lib.hid hn
      go_enter Try.func30, Try.ntmps30
      have CW := Lib.hid (rwrong_b (-1) 2 (by decide))
      go_wp2_with fail
      refine (CW.out _).mono ?_
      rintro _ w2 ⟨rfl, hb2⟩
      have hR2 := hR1.out.below hb2 hR1.out.lt
      have hbe := Lib.hid (hb1.out.trans (hb2.mono hb1.out.size))
      have r0 := hR2.cell 0
      have r1 := hR2.cell 1
      have f0 := hR2.frozen 0
      have f1 := hR2.frozen 1
      simp only [List.getElem?_toArray, List.getElem?_cons_zero, List.getElem?_cons_succ] at r0 r1
      clear hb2 hR2 CW
      go_wp2
      refine bodyPost_ret (v := .agg #[.int .i64 (-1), .int .i64 2]) (by simp [results, Try.results30, go_sem, r0, r1, f0, f1]) rfl ⟨by rw [hseq.out], (hbe.out.setCell (Nat.le_refl _) _).setCell (Nat.le_refl _) _⟩
  have hseq : Hid (seeOdd first.length l = if (odd l).2 ≠ 0 then odd l else if 0 ≤ idxE plainE l then (idxE plainE l, 260) else if 0 ≤ idxE (farE first.length) l then (idxE (farE first.length) l, 4) else (-1, 0)) := Lib.hid (by unfold seeOdd; rw [if_neg hn])
  have g0 : ¬ (first.length : Int) < 1 := by omega
  have g1 : ¬ (65536 : Int) < (first.length : Int) := by omega
  have hL1 := Lib.hid (hL.below hb1.out (Nat.le_refl _))
  replace hn := Lib.hid hn
  go_enter Try.func30, Try.ntmps30
  go_wp2_with fail
  refine (C1.out _ hL1.out).mono ?_
  rintro _ w2 ⟨rfl, hb2⟩
  have hR2 := hR1.out.below hb2 hR1.out.lt
  have hbw2 := hb1.out.trans (hb2.mono hb1.out.size)
  obtain ⟨o1, ho1⟩ : ∃ o1, (odd l).1 = o1 := ⟨_, rfl⟩
  obtain ⟨o2, ho2⟩ : ∃ o2, (odd l).2 = o2 := ⟨_, rfl⟩
  have hod : Hid (odd l = (o1, o2)) := Lib.hid (by rw [← ho1, ← ho2])
  rw [ho1, ho2]
  replace ho1 := Lib.hid ho1
  replace ho2 := Lib.hid ho2
  obtain ⟨w3, hw3⟩ : ∃ w3, w3 = w2.alloc (.cells #[.int .i64 o1, .int .i64 o2] 28) := ⟨_, rfl⟩
  have hR3 : Hid (Blk w3 w.heap.size 28 #[.int .i64 0, .int .i64 0]) := Lib.hid (by rw [hw3]; exact hR2.alloc _)
  have hO3 : Hid (Blk w3 w2.heap.size 28 #[.int .i64 o1, .int .i64 o2]) := Lib.hid (by rw [hw3]; exact Blk.new _ _ _)
  have hb3 : Hid (Below w.heap.size w w3) := Lib.hid (by rw [hw3]; exact hbw2.alloc hbw2.size _)
  have hne : w.heap.size ≠ w2.heap.size := Nat.ne_of_lt hR2.lt
  have hL3 := Lib.hid (hL.below hb3.out (Nat.le_refl _))
  subst hw3
  have x0 := (hO3.out.cell 0).trans (show _ = some (.int .i64 o1) from rfl)
  have x1 := (hO3.out.cell 1).trans (show _ = some (.int .i64 o2) from rfl)
  clear hb2 hR2 hbw2 C1 hL1 hb1 hR1
  by_cases ho : o2 = 0
  · have ho3 : (o2 != 0) = false := by simpa using ho
    replace ho := Lib.hid ho
    rw [hod.out, if_neg (by show ¬ o2 ≠ 0; rw [ho.out]; simp)] at hseq
    go_wp2_with fail
    go_loopw [6] (fun c wr => ∃ k : Nat, k ≤ l.length ∧ c = .int .i64 (k : Int) ∧ wr = (w2.alloc (.cells #[.int .i64 o1, .int .i64 o2] 28)) ∧ Hid (∀ j, j < k → plainE (evAt l j) = false)) (fun c _ => l.length - (intOf c).toNat)
    case atStart => exact ⟨0, Nat.zero_le _, rfl, rfl, Lib.hid fun j hj => by omega⟩
    case round =>
      obtain ⟨k, hk, rfl, rfl, hall⟩ := hrel
      by_cases hlt : k < l.length
      · have b1 : (k : Int) < l.length := by omega
        have w1 := IntWalk.i64_in (n := (k : Int) + 1) (by omega)
        obtain ⟨g, o, rfl, hc⟩ := hL3.out.at hlt
        obtain ⟨-, d1, -, -, -, -⟩ := hc k hlt
        have hyes : plainE (evAt l k) = true → Hid (seeOdd first.length l = ((k : Int), 260)) := fun h => Lib.hid (by
          have e : idxE plainE l = (k : Int) := idxE_some hlt (by rw [← evAt_get hlt]; exact h) (fun j hj => by rw [← evAt_get (by omega)]; exact hall.out j hj)
          rw [hseq.out, e, if_pos (by omega)])
        obtain ⟨x1, hx1⟩ : ∃ x, (evAt l k).kd = x := ⟨_, rfl⟩
        rw [hx1] at d1
        unfold plainE at hyes
        rw [hx1] at hyes
        clear hc
        by_cases g10 : x1 = 10
        · have f10 : (x1 == 10) = true := by simpa using g10
          have hseq := hyes (by rw [f10]; rfl)
          clear hyes
          replace g10 := Lib.hid g10
          have CW := Lib.hid (rwrong_b (k) 260 (by decide))
          go_wp2_with fail
          refine (CW.out _).mono ?_
          rintro _ w9 ⟨rfl, hb2⟩
          have hR2 := hR3.out.below hb2 hR3.out.lt
          have hbe := Lib.hid (hb3.out.trans (hb2.mono hb3.out.size))
          have r0 := hR2.cell 0
          have r1 := hR2.cell 1
          have f0 := hR2.frozen 0
          have f1 := hR2.frozen 1
          simp only [List.getElem?_toArray, List.getElem?_cons_zero, List.getElem?_cons_succ] at r0 r1
          clear hb2 hR2 CW
          go_wp2
          refine bodyPost_ret (v := .agg #[.int .i64 k, .int .i64 260]) (by simp [results, Try.results30, go_sem, r0, r1, f0, f1]) rfl ⟨by rw [hseq.out], (hbe.out.setCell (Nat.le_refl _) _).setCell (Nat.le_refl _) _⟩
        · have f10 : (x1 == 10) = false := by simpa using g10
          by_cases g11 : x1 = 11
          · have f11 : (x1 == 11) = true := by simpa using g11
            have hseq := hyes (by rw [f11, Bool.or_true])
            clear hyes
            replace g11 := Lib.hid g11
            replace g10 := Lib.hid g10
            have CW := Lib.hid (rwrong_b (k) 260 (by decide))
            go_wp2_with fail
            refine (CW.out _).mono ?_
            rintro _ w9 ⟨rfl, hb2⟩
            have hR2 := hR3.out.below hb2 hR3.out.lt
            have hbe := Lib.hid (hb3.out.trans (hb2.mono hb3.out.size))
            have r0 := hR2.cell 0
            have r1 := hR2.cell 1
            have f0 := hR2.frozen 0
            have f1 := hR2.frozen 1
            simp only [List.getElem?_toArray, List.getElem?_cons_zero, List.getElem?_cons_succ] at r0 r1
            clear hb2 hR2 CW
            go_wp2
            refine bodyPost_ret (v := .agg #[.int .i64 k, .int .i64 260]) (by simp [results, Try.results30, go_sem, r0, r1, f0, f1]) rfl ⟨by rw [hseq.out], (hbe.out.setCell (Nat.le_refl _) _).setCell (Nat.le_refl _) _⟩
          · have f11 : (x1 == 11) = false := by simpa using g11
            have hno : Hid (plainE (evAt l k) = false) := Lib.hid (by unfold plainE; rw [hx1, f10, f11]; rfl)
            clear hyes
            replace g11 := Lib.hid g11
            replace g10 := Lib.hid g10
            go_wp2
            go_roundw
            case rel => exact ⟨k + 1, hlt, by go_num, by trivial, Lib.hid fun j hj => by
              by_cases e : j = k
              · subst e; exact hno.out
              · exact hall.out j (by omega)⟩
            case measure => simp [intOf]; omega
      · have hk2 : k = l.length := by omega
        subst hk2
        have hp : idxE plainE l = -1 := idxE_none fun j hj => by rw [← evAt_get hj]; exact hall.out j hj
        rw [hp, if_neg (by decide)] at hseq
        clear hall
        go_wp2_with fail
        go_loopw [7] (fun c wr => ∃ k : Nat, k ≤ l.length ∧ c = .int .i64 (k : Int) ∧ wr = (w2.alloc (.cells #[.int .i64 o1, .int .i64 o2] 28)) ∧ Hid (∀ j, j < k → farE first.length (evAt l j) = false)) (fun c _ => l.length - (intOf c).toNat)
        case atStart => exact ⟨0, Nat.zero_le _, rfl, rfl, Lib.hid fun j hj => by omega⟩
        case round =>
          obtain ⟨k, hk, rfl, rfl, hall⟩ := hrel
          by_cases hlt : k < l.length
          · have b1 : (k : Int) < l.length := by omega
            have w1 := IntWalk.i64_in (n := (k : Int) + 1) (by omega)
            obtain ⟨g, o, rfl, hc⟩ := hL3.out.at hlt
            obtain ⟨-, d1, d2, -, -, -⟩ := hc k hlt
            have hyes : farE first.length (evAt l k) = true → Hid (seeOdd first.length l = ((k : Int), 4)) := fun h => Lib.hid (by
              have e : idxE (farE first.length) l = (k : Int) := idxE_some hlt (by rw [← evAt_get hlt]; exact h) (fun j hj => by rw [← evAt_get (by omega)]; exact hall.out j hj)
              rw [hseq.out, e, if_pos (by omega)])
            obtain ⟨x1, hx1⟩ : ∃ x, (evAt l k).kd = x := ⟨_, rfl⟩
            obtain ⟨x2, hx2⟩ : ∃ x, (evAt l k).ad = x := ⟨_, rfl⟩
            rw [hx1] at d1
            rw [hx2] at d2
            unfold farE at hyes
            rw [hx1, hx2] at hyes
            clear hc
            by_cases gk : x1 = 2 ∨ x1 = 3
            · have fk : (x1 == 2 || x1 == 3) = true := by simpa using gk
              by_cases ga : (first.length : Int) ≤ x2
              · have hseq := hyes (by rw [fk, decide_eq_true ga]; rfl)
                clear hyes
                rcases gk with rfl | rfl
                · replace fk := Lib.hid fk
                  have CW := Lib.hid (rwrong_b (k) 4 (by decide))
                  go_wp2_with fail
                  refine (CW.out _).mono ?_
                  rintro _ w9 ⟨rfl, hb2⟩
                  have hR2 := hR3.out.below hb2 hR3.out.lt
                  have hbe := Lib.hid (hb3.out.trans (hb2.mono hb3.out.size))
                  have r0 := hR2.cell 0
                  have r1 := hR2.cell 1
                  have f0 := hR2.frozen 0
                  have f1 := hR2.frozen 1
                  simp only [List.getElem?_toArray, List.getElem?_cons_zero, List.getElem?_cons_succ] at r0 r1
                  clear hb2 hR2 CW
                  go_wp2
                  refine bodyPost_ret (v := .agg #[.int .i64 k, .int .i64 4]) (by simp [results, Try.results30, go_sem, r0, r1, f0, f1]) rfl ⟨by rw [hseq.out], (hbe.out.setCell (Nat.le_refl _) _).setCell (Nat.le_refl _) _⟩
                · replace fk := Lib.hid fk
                  have CW := Lib.hid (rwrong_b (k) 4 (by decide))
                  go_wp2_with fail
                  refine (CW.out _).mono ?_
                  rintro _ w9 ⟨rfl, hb2⟩
                  have hR2 := hR3.out.below hb2 hR3.out.lt
                  have hbe := Lib.hid (hb3.out.trans (hb2.mono hb3.out.size))
                  have r0 := hR2.cell 0
                  have r1 := hR2.cell 1
                  have f0 := hR2.frozen 0
                  have f1 := hR2.frozen 1
                  simp only [List.getElem?_toArray, List.getElem?_cons_zero, List.getElem?_cons_succ] at r0 r1
                  clear hb2 hR2 CW
                  go_wp2
                  refine bodyPost_ret (v := .agg #[.int .i64 k, .int .i64 4]) (by simp [results, Try.results30, go_sem, r0, r1, f0, f1]) rfl ⟨by rw [hseq.out], (hbe.out.setCell (Nat.le_refl _) _).setCell (Nat.le_refl _) _⟩
              · have hno : Hid (farE first.length (evAt l k) = false) := Lib.hid (by unfold farE; rw [hx1, hx2, decide_eq_false ga, Bool.and_false])
                clear hyes
                rcases gk with rfl | rfl
                · replace fk := Lib.hid fk
                  go_wp2
                  go_roundw
                  case rel => exact ⟨k + 1, hlt, by go_num, by trivial, Lib.hid fun j hj => by
                    by_cases e : j = k
                    · subst e; exact hno.out
                    · exact hall.out j (by omega)⟩
                  case measure => simp [intOf]; omega
                · replace fk := Lib.hid fk
                  go_wp2
                  go_roundw
                  case rel => exact ⟨k + 1, hlt, by go_num, by trivial, Lib.hid fun j hj => by
                    by_cases e : j = k
                    · subst e; exact hno.out
                    · exact hall.out j (by omega)⟩
                  case measure => simp [intOf]; omega
            · have f2 : (x1 == 2) = false := by simp; omega
              have f3 : (x1 == 3) = false := by simp; omega
              have hno : Hid (farE first.length (evAt l k) = false) := Lib.hid (by unfold farE; rw [hx1, f2, f3]; rfl)
              clear hyes
              replace gk := Lib.hid gk
              go_wp2
              go_roundw
              case rel => exact ⟨k + 1, hlt, by go_num, by trivial, Lib.hid fun j hj => by
                by_cases e : j = k
                · subst e; exact hno.out
                · exact hall.out j (by omega)⟩
              case measure => simp [intOf]; omega
          · have hk2 : k = l.length := by omega
            subst hk2
            have hp : idxE (farE first.length) l = -1 := idxE_none fun j hj => by rw [← evAt_get hj]; exact hall.out j hj
            rw [hp, if_neg (by decide)] at hseq
            clear hall
            have CW := Lib.hid (rwrong_b (-1) 0 (by decide))
            go_wp2_with fail
            refine (CW.out _).mono ?_
            rintro _ w9 ⟨rfl, hb2⟩
            have hR2 := hR3.out.below hb2 hR3.out.lt
            have hbe := Lib.hid (hb3.out.trans (hb2.mono hb3.out.size))
            have r0 := hR2.cell 0
            have r1 := hR2.cell 1
            have f0 := hR2.frozen 0
            have f1 := hR2.frozen 1
            simp only [List.getElem?_toArray, List.getElem?_cons_zero, List.getElem?_cons_succ] at r0 r1
            clear hb2 hR2 CW
            go_wp2
            refine bodyPost_ret (v := .agg #[.int .i64 (-1), .int .i64 0]) (by simp [results, Try.results30, go_sem, r0, r1, f0, f1]) rfl ⟨by rw [hseq.out], (hbe.out.setCell (Nat.le_refl _) _).setCell (Nat.le_refl _) _⟩
  · have ho3 : (o2 != 0) = true := by simpa using ho
    rw [hod.out, if_pos ho] at hseq
    have r0 := (hR3.out.cell 0).trans (show _ = some (.int .i64 0) from rfl)
    have r1 := (hR3.out.cell 1).trans (show _ = some (.int .i64 0) from rfl)
    have f0 := hR3.out.frozen 0
    have f1 := hR3.out.frozen 1
    replace ho := Lib.hid ho
    go_wp2
    refine bodyPost_ret (v := .agg #[.int .i64 o1, .int .i64 o2]) (by simp [results, Try.results30, go_sem, r0, r1, f0, f1]) rfl ⟨by rw [hseq.out], (hb3.out.setCell (Nat.le_refl _) _).setCell (Nat.le_refl _) _⟩
end Go.Proofs.Ytloiadhdkgkjkaa
/- A region that draws its order, two of whose writing operations may change places: a walk of what comes ahead, and two walks from there on. -/
namespace Go.Proofs.Ytloiadhdkgkjkaa
section
variable {P : Program} {ops : Array Oper} {S : World → Prop} {Q : Exit → Act → World → Prop} {mk : Nat → Nat} {E : Act → World → Prop}

/-- The walk of a prefix; E: what must hold behind it. -/
def wpMixE (P : Program) (ops : Array Oper) (S : World → Prop) (Q : Exit → Act → World → Prop) (mk : Nat → Nat) (E : Act → World → Prop) : List Nat → Act → World → Prop
  | [], a, w => E a w
  | i :: rest, a, w => mixAt P .any ops S Q mk i (wpMixE P ops S Q mk E rest) a w
/-- The order of a prefix. -/
def mixOrdP (md : Region.Mode) (ops : Array Oper) (mk : Nat → Nat) : List Nat → Array Bool → Bool
  | [], _ => true
  | i :: rest, listed => (if mk i = 2 then decide (Region.ready md ops listed = [i]) else (Region.ready md ops listed).contains i && Region.free md ops listed i && (mk i == 0 || mk i == 3 || loudsWait md ops mk i listed)) && mixOrdP md ops mk rest (listed.setIfInBounds i true)
def listedBy : List Nat → Array Bool → Array Bool
  | [], l => l
  | i :: rest, l => listedBy rest (l.setIfInBounds i true)

theorem mixAny_of_mixE (hsel : Region.noSelect ops = true) (f : Nat) : ∀ (ord : List Nat) (listed : Array Bool) (a : Act) (w : World), Closed .any ops listed → mixOrdP .any ops mk ord listed = true →
    (∀ a w, Closed .any ops (listedBy ord listed) → E a w → mixAny P .any ops S Q mk f (listedBy ord listed) a w) → wpMixE P ops S Q mk E ord a w → mixAny P .any ops S Q mk (ord.length + f) listed a w
  | [], listed, a, w, hcl, _, hE, h => by
    have := hE a w hcl h
    rw [List.length_nil, Nat.zero_add]
    exact this
  | i :: rest, listed, a, w, hcl, hB, hE, h => by
    rw [mixOrdP, Bool.and_eq_true] at hB
    obtain ⟨hB1, hB2⟩ := hB
    unfold wpMixE at h
    have e : (i :: rest).length + f = (rest.length + f) + 1 := by simp; omega
    rw [e]
    by_cases hm : mk i = 2
    · rw [if_pos hm] at hB1
      have hr : Region.ready .any ops listed = [i] := of_decide_eq_true hB1
      refine ⟨fun h0 => (by rw [h0] at hr; cases hr), fun j hj => ?_⟩
      rw [hr] at hj
      obtain rfl : j = i := by simpa using hj
      have hcl' := hcl.set (i := j) (by rw [hr]; simp)
      exact mixAt_mono (fun a' w' _ h' => mixAny_of_mixE hsel f rest _ a' w' hcl' hB2 hE h') (fun a' h' => mixAny_of_mixE hsel f rest _ a' w hcl' hB2 hE h') h
    · rw [if_neg hm] at hB1
      simp only [Bool.and_eq_true, Bool.or_eq_true, beq_iff_eq] at hB1
      obtain ⟨⟨hr, hf⟩, hl⟩ := hB1
      have hr' : i ∈ Region.ready .any ops listed := by simpa using hr
      obtain ⟨_, oi, hoi, _⟩ := mem_ready.1 hr'
      unfold mixAt at h
      simp only [hoi] at h
      obtain ⟨v, hy, hK⟩ := mixYields_of hm h
      exact mixAny_first hoi rfl hm (Region.noSelect_spec hsel) (rest.length + f) listed a w hcl (fun h0 h3 j hj hj2 hun => loudsWait_spec (hl.resolve_left (fun h => h.elim h0 h3)) j hj hj2 hun) (Region.free_spec hoi hf) hr' hy
        (mixAny_of_mixE hsel f rest _ _ w (hcl.set hr') hB2 hE hK)

def mixB2 (ops : Array Oper) (ms pre : List Nat) (i j : Nat) (t1 t2 : List Nat) : Bool :=
  Region.noSelect ops && decide (pre.length + (t1.length + 1) = ops.size) && decide (t1.length = t2.length) && mixOrdP .any ops (fun i => ms.getD i 2) pre (Array.replicate ops.size false) &&
  decide (Region.ready .any ops (listedBy pre (Array.replicate ops.size false)) = [i, j]) &&
  mixOrd .any ops (fun i => ms.getD i 2) t1 ((listedBy pre (Array.replicate ops.size false)).setIfInBounds i true) && mixOrd .any ops (fun i => ms.getD i 2) t2 ((listedBy pre (Array.replicate ops.size false)).setIfInBounds j true)

theorem wp_region_mix2 {id : Nat} {a : Act} {w : World} {l : List Oper} (S : World → Prop) (ms pre : List Nat) (i j : Nat) (t1 t2 : List Nat) (hm : P.follows .mixedOrders = true) (hB : mixB2 l.toArray ms pre i j t1 t2 = true) (hS : ∀ w n, S w → S (w.drewN n)) (hs : S w.drew)
    (h : wpMixE P l.toArray S Q (fun i => ms.getD i 2) (fun a w => wpMix P l.toArray S Q (fun i => ms.getD i 2) (i :: t1) a w ∧ wpMix P l.toArray S Q (fun i => ms.getD i 2) (j :: t2) a w) pre a w.drew) : (Code.region id l.toArray true).wp P Q a w := by
  simp only [mixB2, Bool.and_eq_true, decide_eq_true_eq] at hB
  obtain ⟨⟨⟨⟨⟨⟨hsel, hlen⟩, hl12⟩, hord⟩, hrd⟩, ho1⟩, ho2⟩ := hB
  refine wp_region_any hm ?_
  have hcl : Closed .any l.toArray (Array.replicate l.toArray.size false) := fun j oj _ hl => by
    rcases Nat.lt_or_ge j l.toArray.size with h | h
    · simp at h hl; simp [h] at hl
    · simp at h hl; simp [h] at hl
  have key := mixAny_sound hS _ _ _ _ hcl (fun _ => hs) (mixAny_of_mixE hsel (t1.length + 1) pre _ a w.drew hcl hord (fun a w hcl' ⟨h1, h2⟩ => by
    refine ⟨fun h0 => (by rw [h0] at hrd; cases hrd), fun k hk => ?_⟩
    rw [hrd] at hk
    have hc1 := hcl'.set (i := i) (by rw [hrd]; simp)
    have hc2 := hcl'.set (i := j) (by rw [hrd]; simp)
    rcases List.mem_cons.1 hk with rfl | hk
    · unfold wpMix at h1
      exact mixAt_mono (fun a' w' _ h' => mixAny_of_mix hsel t1 _ a' w' hc1 ho1 h') (fun a' h' => mixAny_of_mix hsel t1 _ a' w hc1 ho1 h') h1
    · obtain rfl : k = j := by simpa using hk
      unfold wpMix at h2
      rw [hl12]
      exact mixAt_mono (fun a' w' _ h' => mixAny_of_mix hsel t2 _ a' w' hc2 ho2 h') (fun a' h' => mixAny_of_mix hsel t2 _ a' w hc2 ho2 h') h2) h) 0
  rw [hlen] at key
  exact key

theorem wpMixE_nil {a : Act} {w : World} (h : E a w) : wpMixE P ops S Q mk E [] a w := h
theorem wpMixE_any {i : Nat} {rest : List Nat} {a : Act} {w : World} {o : Oper} (ho : ops[i]? = some o) (hm : mk i = 0)
    (h : ∀ K : Act → World → Prop, (∀ a w, wpMixE P ops S Q mk E rest a w → K a w) → if Region.wanted o (yielded ops a.tmps) then ∃ v, (∀ w', S w' → o.quietAt P a (fun w'' => w'' = w') w' v) ∧ K (a.put o.dst v) w else K (a.put o.dst undef) w) : wpMixE P ops S Q mk E (i :: rest) a w := by
  unfold wpMixE mixAt mixOp mixQ
  simp only [ho, hm]
  exact h _ fun _ _ h => h
theorem wpMixE_pure {i : Nat} {rest : List Nat} {a : Act} {w : World} {o : Oper} (ho : ops[i]? = some o) (hm : mk i = 3)
    (h : ∀ K : Act → World → Prop, (∀ a w, wpMixE P ops S Q mk E rest a w → K a w) → if Region.wanted o (yielded ops a.tmps) then ∃ v, (∀ w', o.quietAt P a (fun w'' => w'' = w') w' v) ∧ K (a.put o.dst v) w else K (a.put o.dst undef) w) : wpMixE P ops S Q mk E (i :: rest) a w := by
  unfold wpMixE mixAt mixOp mixQ
  simp only [ho, hm]
  exact h _ fun _ _ h => h
end
end Go.Proofs.Ytloiadhdkgkjkaa
