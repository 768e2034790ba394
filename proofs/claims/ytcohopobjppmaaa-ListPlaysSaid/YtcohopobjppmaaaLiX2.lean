/- The document's plain set of words, by contract: Insert, Remove. -/
import Derived.Test.YtcohopobjppmaaaLiX
namespace Go.Proofs.Ytcohopobjppmaaa
open Go.RowKit
set_option maxHeartbeats 2000000
set_option linter.unusedVariables false
set_option linter.unusedSimpArgs false

theorem Lies.take {w : World} {A : Option Addr} {l : List Int} {n c i : Nat} (h : Lies w (.slice A n c) l) (hi : i ≤ n) : Lies w (.slice A i c) (l.take i) := by
  obtain ⟨A', c', hv, hc, h0, hx⟩ := h
  injection hv with h1 h2 h3
  subst h1
  subst h3
  refine ⟨A, c, by rw [List.length_take, Nat.min_eq_left (by omega)], by rw [List.length_take]; omega, h0, fun j hj => ?_⟩
  rw [List.length_take] at hj
  obtain ⟨g, o, e, hcell⟩ := hx j (by omega)
  refine ⟨g, o, e, hcell.trans ?_⟩
  simp only [List.getD_eq_getElem?_getD]
  rw [List.getElem?_take, if_pos (by omega)]
theorem Lies.drop {w : World} {g o : Nat} {l : List Int} {n c i : Nat} (h : Lies w (.slice (some ⟨g, o, none⟩) n c) l) (hi : i ≤ n) : Lies w (.slice (some ⟨g, o + i, none⟩) (n - i) (c - i)) (l.drop i) := by
  obtain ⟨A', c', hv, hc, h0, hx⟩ := h
  injection hv with h1 h2 h3
  subst h1
  subst h3
  refine ⟨some ⟨g, o + i, none⟩, c - i, by rw [List.length_drop, h2], by rw [List.length_drop]; omega, (fun e => nomatch e), fun j hj => ?_⟩
  rw [List.length_drop] at hj
  obtain ⟨g', o', e, hcell⟩ := hx (i + j) (by omega)
  injection e with e
  injection e with e1 e2
  subst e1
  subst e2
  refine ⟨g, o + i, rfl, ?_⟩
  rw [show o + i + j = o + (i + j) by omega, hcell]
  simp only [List.getD_eq_getElem?_getD]
  rw [List.getElem?_drop]
theorem Lies.empty {w : World} (A : Option Addr) (c : Nat) (h : A = none → c = 0) : Lies w (.slice A 0 c) [] := ⟨A, c, rfl, Nat.zero_le _, h, fun j hj => by simp at hj⟩
/-- nil, or at an address -/
def flat (v : Value) (n : Nat) : Prop := (v = .slice none 0 0 ∧ n = 0) ∨ ∃ g o c, v = .slice (some ⟨g, o, none⟩) n c
theorem Wl.flat {w : World} {v : Value} {l : List Int} (h : Wl w v l) : Go.Proofs.Ytcohopobjppmaaa.flat v l.length := by
  obtain ⟨_, h | ⟨g, off, cap, cur, h1, _⟩⟩ := h
  · exact .inl h
  · exact .inr ⟨g, off, cap, h1⟩
theorem Fr.new_ {w w' : World} {v : Value} (h : Fr (own (.slice none 0 0)) w (own v) w') {g o n c : Nat} (e : v = .slice (some ⟨g, o, none⟩) n c) : w.heap.size ≤ g :=
  (h.new g (by rw [e]; rfl)).elim (fun hk => nomatch hk) id
theorem Lies.set {w : World} {v : Value} {l : List Int} (h : Lies w v l) {p : Addr} (hp : ∀ g o n c, v = .slice (some ⟨g, o, none⟩) n c → g ≠ p.block) (u : Value) : Lies (w.setCell p u) v l := by
  obtain ⟨A, c, rfl, hc, h0, hx⟩ := h
  refine ⟨A, c, rfl, hc, h0, fun j hj => ?_⟩
  obtain ⟨g, o, rfl, hcell⟩ := hx j hj
  refine ⟨g, o, rfl, ?_⟩
  rw [← hcell]
  unfold World.cell?
  rw [Below.heap_setCell w p u g (hp g o _ _ rfl)]
theorem Lies.lt {w : World} {v : Value} {l : List Int} (h : Lies w v l) (hl : 0 < l.length) : ∀ g o n c, v = .slice (some ⟨g, o, none⟩) n c → g < w.heap.size := by
  obtain ⟨A, c, rfl, hc, h0, hx⟩ := h
  intro g o n c' e
  obtain ⟨g', o', e', hcell⟩ := hx 0 hl
  injection e with e1 _ _
  rw [e'] at e1
  injection e1 with e1
  injection e1 with e1 _
  subst e1
  exact Nat.lt_of_not_le fun hh => by
    unfold World.cell? at hcell
    rw [Array.getElem?_eq_none hh] at hcell
    cases hcell
/-- a list of words is answered -/
def WordsP (v0 : Value) (w : World) (R : List Int) (e : Ending) (w' : World) : Prop := ∃ v, e = .returned v ∧ Lies w' v R ∧ Below w.heap.size w w' ∧ flat v R.length ∧ (v = v0 ∨ ∀ g o n c, v = .slice (some ⟨g, o, none⟩) n c → w.heap.size ≤ g)
set_option maxRecDepth 100000 in
theorem rins_b {v : Value} {l : List Int} {key : Int} {w : World} (hL : Lies w v l) (hfl : flat v l.length) (hn : l.length ≤ 60000) : Calls Try.prog 35 #[v, .int .u64 key] w (WordsP v w (rIns l key)) := by
  have hH := rhas_b (key := key) hL (by omega)
  have hP := Lib.hid (place_b (key := key) hL (by omega))
  have hple := pos_le l key
  by_cases hh : rHas l key = true
  · rw [hh] at hH
    have hR : rIns l key = l := if_pos hh
    rw [hR]
    clear hh hR hple
    have hH := Lib.hid hH
    have hL := Lib.hid hL
    obtain ⟨A, c, rfl, hc, -⟩ := hL.out.of
    have hfl' := hfl
    generalize hnl : l.length = n at *
    have hnl := Lib.hid hnl
    go_enter Try.func35, Try.ntmps35
    go_wp2_with fail
    refine hH.out.mono ?_
    rintro _ w2 ⟨rfl, rfl⟩
    go_wp2
    go_ret
    exact ⟨.slice A n c, rfl, hL.out, Below.refl _ _, by rw [hnl.out]; exact hfl', .inl rfl⟩
  · have hR : rIns l key = l.take (pos l key) ++ key :: l.drop (pos l key) := if_neg hh
    have hh : rHas l key = false := by simpa using hh
    rw [hh] at hH
    rw [hR]
    clear hh hR
    have hH := Lib.hid hH
    rcases hfl with ⟨rfl, hl0⟩ | ⟨g, o, c, rfl⟩
    · obtain rfl : l = [] := List.eq_nil_of_length_eq_zero hl0
      have hp0 : pos [] key = 0 := rfl
      rw [hp0] at hP ⊢
      have hE : Hid (∀ W : World, Lies W (.slice none 0 0) ([] : List Int)) := Lib.hid fun W => Lies.empty none 0 fun _ => rfl
      clear hL hple hn hl0 hp0
      go_enter Try.func35, Try.ntmps35
      go_wp2_with fail
      refine hH.out.mono ?_
      rintro _ w2 ⟨rfl, rfl⟩
      go_wp2_with fail
      refine hP.out.mono ?_
      rintro _ w2 ⟨rfl, rfl⟩
      go_wp2_with (first
        | (at_builtin; refine wpList_words w rfl (.tmp 16) (.tmp 19) rfl (.slice none 0 0) (.slice none 0 0) [] [] rfl (Wl.nil w) rfl (hE.out w) (by simp) ?_; intro A1 c1 w1 hc1 hv1 hm1; simp only [List.nil_append, List.length_nil, Nat.zero_add] at hc1 hv1 hm1 ⊢; have hv1 := Lib.hid hv1; have hm1 := Lib.hid hm1)
        | (at_builtin; refine wpList_word w1 rfl (.tmp 21) (.tmp 23) rfl (.slice A1 0 c1) [] key rfl hv1.out rfl (by simp) ?_; intro A2 c2 w2 hc2 hv2 hm2; simp only [List.nil_append, List.length_nil, Nat.zero_add] at hc2 hv2 hm2 ⊢; have hv2 := Lib.hid hv2; have hm2 := Lib.hid hm2)
        | (at_builtin; refine wpList_words w2 rfl (.tmp 25) (.tmp 28) rfl (.slice A2 1 c2) (.slice none 0 0) [key] [] rfl hv2.out rfl (hE.out w2) (by simp) ?_; intro A3 c3 w3 hc3 hv3 hm3; simp only [List.append_nil, List.length_nil, Nat.add_zero, List.length_singleton] at hc3 hv3 hm3 ⊢; have hv3 := Lib.hid hv3; have hm3 := Lib.hid hm3))
      have hnew := Lib.hid (fun g o (e : A3 = some ⟨g, o, none⟩) => Fr.new_ (hm1.out.trans (hm2.out.trans hm3.out)) (show Value.slice A3 1 c3 = .slice (some ⟨g, o, none⟩) 1 c3 by rw [e]))
      have hfin := Lib.hid (((((Fr.refl (fun _ => False) w).into (G := own (.slice none 0 0)) (fun k (hk : own (.slice none 0 0) k) => nomatch hk)).trans hm1.out).trans (hm2.out.trans hm3.out)).below (B := w.heap.size) (fun _ (h : False) => h.elim) (Nat.le_refl _))
      clear hm1 hm2 hm3 hv1 hv2
      go_ret
      exact ⟨_, rfl, by simpa using hv3.out.lies, hfin.out, by simpa using hv3.out.flat, .inr fun g o n c e => hnew.out g o (by have e : Value.slice A3 _ c3 = _ := e; injection e)⟩
    · obtain ⟨-, hcap, -⟩ : l.length = l.length ∧ l.length ≤ c ∧ True := by
        obtain ⟨A', c', hv, hc, _⟩ := hL
        injection hv with h1 h2 h3
        subst h3
        exact ⟨rfl, hc, trivial⟩
      have hT := Lib.hid (hL.take hple)
      have hD := Lib.hid (hL.drop hple)
      have hll : Hid ((l.take (pos l key)).length = pos l key ∧ (l.drop (pos l key)).length = l.length - pos l key) := Lib.hid ⟨by rw [List.length_take]; omega, by rw [List.length_drop]⟩
      have hD0 : Hid (c = pos l key → l.drop (pos l key) = []) := Lib.hid fun h => List.drop_eq_nil_of_le (by omega)
      clear hL
      generalize l.take (pos l key) = la at *
      generalize l.drop (pos l key) = lb at *
      generalize pos l key = i at *
      generalize l.length = n at *
      have hi1 : (i : Int) ≤ n := by omega
      have hi2 : (n : Int) ≤ c := by omega
      have hi3 : (i : Int) ≤ c := by omega
      have h8 : Hid (i ≤ 60000) := Lib.hid (by omega)
      have h9 : Hid (n ≤ 60000) := Lib.hid hn
      by_cases hci : c = i
      · subst hci
        obtain rfl : n = c := by omega
        have hb0 : lb = [] := hD0.out rfl
        subst hb0
        have hE : Hid (∀ W : World, Lies W (.slice (some ⟨g, o, none⟩) 0 0) ([] : List Int)) := Lib.hid fun W => Lies.empty _ 0 fun _ => rfl
        go_enter Try.func35, Try.ntmps35; go_wp2_with fail; refine hH.out.mono ?_; rintro _ w2 ⟨rfl, rfl⟩; go_wp2_with fail; refine hP.out.mono ?_; rintro _ w2 ⟨rfl, rfl⟩; go_wp2_with (first | (at_builtin; refine wpList_words w rfl (.tmp 16) (.tmp 19) rfl (.slice none 0 0) (.slice (some ⟨g, o, none⟩) n n) [] la rfl (Wl.nil w) rfl hT.out (by rw [hll.out.1]; have := h8.out; simp; omega) ?_; intro A1 c1 w1 hc1 hv1 hm1; have hla := hll.out.1; simp only [List.nil_append, List.length_nil, Nat.zero_add, hla] at hc1 hv1 hm1 ⊢; clear hla; have hv1 := Lib.hid hv1; have hm1 := Lib.hid hm1) | (at_builtin; refine wpList_word w1 rfl (.tmp 21) (.tmp 23) rfl (.slice A1 n c1) la key rfl hv1.out rfl (by rw [hll.out.1]; have := h8.out; omega) ?_; intro A2 c2 w2 hc2 hv2 hm2; have hla := hll.out.1; simp only [hla] at hc2 hv2 hm2 ⊢; clear hla; have hv2 := Lib.hid hv2; have hm2 := Lib.hid hm2) | (at_builtin; refine wpList_words w2 rfl (.tmp 25) (.tmp 28) rfl (.slice A2 (n + 1) c2) (.slice (some ⟨g, o, none⟩) 0 0) (la ++ [key]) [] rfl hv2.out rfl (hE.out w2) (by rw [List.length_append, hll.out.1]; have := h8.out; have := h9.out; have := hll.out.2; simp; omega) ?_; intro A3 c3 w3 hc3 hv3 hm3; have hv3 := Lib.hid hv3; have hm3 := Lib.hid hm3)); have hnew := Lib.hid (fun g' o' (e : A3 = some ⟨g', o', none⟩) => Fr.new_ (hm1.out.trans (hm2.out.trans hm3.out)) (show Value.slice A3 ((la ++ [key]).length + ([]).length) c3 = .slice (some ⟨g', o', none⟩) ((la ++ [key]).length + ([]).length) c3 by rw [e])); have hfin := Lib.hid (Fr.below (((((Fr.refl (fun _ => False) w).into (G := own (.slice none 0 0)) (fun k (hk : own (.slice none 0 0) k) => nomatch hk)).trans hm1.out).trans (hm2.out.trans hm3.out))) (B := w.heap.size) (fun _ (h : False) => h.elim) (Nat.le_refl _)); clear hm1 hm2 hm3 hv1 hv2; go_ret; exact ⟨_, rfl, by first | simpa using hv3.out.lies | (have := hv3.out.lies; rw [List.append_assoc] at this; simpa [List.length_append, hll.out.1] using this), hfin.out, by first | simpa using hv3.out.flat | (have := hv3.out.flat; rw [List.append_assoc] at this; simpa [List.length_append, hll.out.1] using this), .inr fun g' o' n' c' e => hnew.out g' o' (by have e : Value.slice A3 _ c3 = _ := e; injection e)⟩
      · have hcf : (c = i) = False := eq_false hci
        have hD := Lib.hid (fun W (hb : Below w.heap.size w W) => hD.out.below hb)
        go_enter Try.func35, Try.ntmps35; go_wp2_with fail; refine hH.out.mono ?_; rintro _ w2 ⟨rfl, rfl⟩; go_wp2_with fail; refine hP.out.mono ?_; rintro _ w2 ⟨rfl, rfl⟩; go_wp2_with (first | (at_builtin; refine wpList_words w rfl (.tmp 16) (.tmp 19) rfl (.slice none 0 0) (.slice (some ⟨g, o, none⟩) i c) [] la rfl (Wl.nil w) rfl hT.out (by rw [hll.out.1]; have := h8.out; simp; omega) ?_; intro A1 c1 w1 hc1 hv1 hm1; have hla := hll.out.1; simp only [List.nil_append, List.length_nil, Nat.zero_add, hla] at hc1 hv1 hm1 ⊢; clear hla; have hv1 := Lib.hid hv1; have hm1 := Lib.hid hm1) | (at_builtin; refine wpList_word w1 rfl (.tmp 21) (.tmp 23) rfl (.slice A1 i c1) la key rfl hv1.out rfl (by rw [hll.out.1]; have := h8.out; omega) ?_; intro A2 c2 w2 hc2 hv2 hm2; have hla := hll.out.1; simp only [hla] at hc2 hv2 hm2 ⊢; clear hla; have hv2 := Lib.hid hv2; have hm2 := Lib.hid hm2) | (at_builtin; refine wpList_words w2 rfl (.tmp 25) (.tmp 28) rfl (.slice A2 (i + 1) c2) (.slice (some ⟨g, o + i, none⟩) (n - i) (c - i)) (la ++ [key]) lb rfl hv2.out rfl (hD.out w2 (Fr.below (hm1.out.trans hm2.out) (B := w.heap.size) (fun _ (h : own (.slice none 0 0) _) => nomatch h) (Nat.le_refl _))) (by rw [List.length_append, hll.out.1]; have := h8.out; have := h9.out; have := hll.out.2; simp; omega) ?_; intro A3 c3 w3 hc3 hv3 hm3; have hv3 := Lib.hid hv3; have hm3 := Lib.hid hm3)); have hnew := Lib.hid (fun g' o' (e : A3 = some ⟨g', o', none⟩) => Fr.new_ (hm1.out.trans (hm2.out.trans hm3.out)) (show Value.slice A3 ((la ++ [key]).length + (lb).length) c3 = .slice (some ⟨g', o', none⟩) ((la ++ [key]).length + (lb).length) c3 by rw [e])); have hfin := Lib.hid (Fr.below (((((Fr.refl (fun _ => False) w).into (G := own (.slice none 0 0)) (fun k (hk : own (.slice none 0 0) k) => nomatch hk)).trans hm1.out).trans (hm2.out.trans hm3.out))) (B := w.heap.size) (fun _ (h : False) => h.elim) (Nat.le_refl _)); clear hm1 hm2 hm3 hv1 hv2; go_ret; exact ⟨_, rfl, by first | simpa using hv3.out.lies | (have := hv3.out.lies; rw [List.append_assoc] at this; simpa [List.length_append, hll.out.1] using this), hfin.out, by first | simpa using hv3.out.flat | (have := hv3.out.flat; rw [List.append_assoc] at this; simpa [List.length_append, hll.out.1] using this), .inr fun g' o' n' c' e => hnew.out g' o' (by have e : Value.slice A3 _ c3 = _ := e; injection e)⟩
theorem rRem_snoc {l : List Int} {key : Int} {i : Nat} (hi : i < l.length) : rRem (l.take (i + 1)) key = rRem (l.take i) key ++ (if (l.getD i 0 != key) = true then [l.getD i 0] else []) := by
  rw [List.take_succ_eq_append_getElem hi]
  unfold rRem
  rw [List.filter_append]
  congr 1
  rw [List.getD_eq_getElem?_getD, List.getElem?_eq_getElem hi]
  simp only [Option.getD_some, List.filter_cons, List.filter_nil]
theorem rRem_len (l : List Int) (key : Int) (i : Nat) : (rRem (l.take i) key).length ≤ i := by
  unfold rRem
  exact Nat.le_trans (List.length_filter_le _ _) (List.length_take_le _ _)
set_option maxRecDepth 100000 in
theorem rrem_b {v : Value} {l : List Int} {key : Int} {w : World} (hL : Lies w v l) (hn : l.length ≤ 60000) : Calls Try.prog 36 #[v, .int .u64 key] w (WordsP v w (rRem l key)) := by
  have hsn := Lib.hid (fun i => rRem_snoc (l := l) (key := key) (i := i))
  have hle := Lib.hid (rRem_len l key)
  obtain ⟨A, c, rfl, hc, -⟩ := hL.of
  have hL := Lib.hid hL
  have hend : Hid (rRem l key = rRem (l.take l.length) key) := Lib.hid (by rw [List.take_length])
  generalize rRem l key = R at *
  generalize hll : l.length = n at *
  have hll := Lib.hid hll
  have hn9 : (n : Int) ≤ 60000 := by omega
  go_enter Try.func36, Try.ntmps36
  go_wp2
  go_loopg [5, 6] n (fun gk c5 c6 wr => ∃ (i m cp : Nat) (A5 : Option Addr), gk + i = n ∧ c6 = .int .i64 (i : Int) ∧ c5 = .slice A5 m cp ∧ m ≤ cp ∧ m ≤ 60000 ∧ Hid ((rRem (l.take i) key).length = m ∧ Wl wr (.slice A5 m cp) (rRem (l.take i) key) ∧ Fr (fun _ => False) w (own (.slice A5 m cp)) wr))
  case atStart => exact ⟨0, 0, 0, none, rfl, rfl, rfl, by omega, by omega, Lib.hid ⟨rfl, Wl.nil _, (Fr.refl _ _).into (fun k hk => nomatch hk)⟩⟩
  case round =>
    obtain ⟨i, m, cp, A5, hgi, rfl, rfl, hmc, hm6, hO⟩ := hrel
    by_cases hin : i < n
    · have hLr := hL.out.below (hO.out.2.2.below (fun _ h => h.elim) (Nat.le_refl _))
      obtain ⟨-, -, g, o, rfl, hcell⟩ := hLr.at_ hin
      have hin' : (i : Int) < n := by omega
      have hf0 : decide (i < n) = true := decide_eq_true hin
      obtain ⟨k, rfl⟩ : ∃ k, gk = k + 1 := ⟨gk - 1, by omega⟩
      have hs := hsn.out i (by first | exact hin | (rw [hll.out]; exact hin))
      have hl1 := Lib.hid (hle.out (i + 1))
      generalize l.getD i 0 = x at *
      have hmi : Hid (m ≤ 60000 ∧ i < n) := Lib.hid ⟨hm6, hin⟩
      clear hLr
      cases hx : (x != key) with
      | true =>
        rw [hx, if_pos rfl] at hs
        have hs := Lib.hid hs
        go_wp2_with (at_builtin; refine wpList_word wr rfl (.tmp 19) (.tmp 24) rfl (.slice A5 m cp) (rRem (l.take i) key) x rfl hO.out.2.1 rfl (by rw [hO.out.1]; have := hmi.out.1; omega) ?_; intro A6 c6 w6 hc6 hv6 hm6')
        have hfin : Hid ((rRem (l.take (i + 1)) key).length = m + 1 ∧ Wl w6 (.slice A6 (m + 1) c6) (rRem (l.take (i + 1)) key) ∧ Fr (fun _ => False) w (own (.slice A6 (m + 1) c6)) w6) := Lib.hid (by
          rw [hO.out.1] at hv6 hm6'
          rw [hs.out]
          exact ⟨by rw [List.length_append, hO.out.1]; rfl, hv6, hO.out.2.2.trans hm6'⟩)
        have hc7 : Hid (m + 1 ≤ c6) := Lib.hid (by rw [hO.out.1] at hc6; exact hc6)
        clear hv6 hm6' hc6
        go_roundg k
        case measure => omega
        case rel => exact ⟨i + 1, m + 1, c6, A6, by omega, by simp, by rw [hO.out.1], hc7.out, by have := hl1.out; rw [hfin.out.1] at this; have := hmi.out.2; omega, hfin⟩
      | false =>
        rw [hx, if_neg (by simp), List.append_nil] at hs
        have hs := Lib.hid hs
        go_wp2
        go_roundg k
        case measure => omega
        case rel => exact ⟨i + 1, m, cp, A5, by omega, by simp, rfl, hmc, hm6, Lib.hid (by rw [hs.out]; exact hO.out)⟩
    · have hf0 : decide (i < n) = false := decide_eq_false hin
      have hin2 : Hid (i = n) := Lib.hid (by omega)
      go_wp2
      go_ret
      refine ⟨_, rfl, ?_, hO.out.2.2.below (fun _ h => h.elim) (Nat.le_refl _), ?_, .inr fun g o n c e => (hO.out.2.2.new g (by have e : Value.slice A5 m cp = _ := e; rw [e]; rfl)).elim (fun h => h.elim) id⟩
      · rw [hend.out, ← hin2.out]
        exact hO.out.2.1.lies
      · rw [hend.out, ← hin2.out, hO.out.1]
        have := hO.out.2.1.flat
        rw [hO.out.1] at this
        exact this
end Go.Proofs.Ytcohopobjppmaaa
