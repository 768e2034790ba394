/- A plain set of words, as the law keeps it: with a word, without one. -/
import Derived.Test.YtgbgodhkehnbdaaSkP
namespace Go.Proofs.Ytgbgodhkehnbdaa
open Go.RowKit
set_option maxHeartbeats 2000000
set_option linter.unusedVariables false
set_option linter.unusedSimpArgs false

theorem Lies.front {w : World} {A : Option Addr} {cp : Nat} {a b : List Int} (h : Lies w (.slice A (a.length + b.length) cp) (a ++ b)) : Lies w (.slice A a.length cp) a := by
  obtain ⟨A', cp', e, hc, h0, h⟩ := h
  injection e with e1 e2 e3
  subst e1
  subst e3
  refine ⟨_, _, rfl, by simp at hc; omega, h0, fun j hj => ?_⟩
  obtain ⟨g, o, e, hcell⟩ := h j (by simp; omega)
  refine ⟨g, o, e, ?_⟩
  rw [hcell, List.getD_eq_getElem?_getD, List.getD_eq_getElem?_getD, List.getElem?_append_left hj]
theorem Lies.rest {w : World} {g o cp : Nat} {a b : List Int} (h : Lies w (.slice (some ⟨g, o, none⟩) (a.length + b.length) cp) (a ++ b)) : Lies w (.slice (some ⟨g, o + a.length, none⟩) b.length (cp - a.length)) b := by
  obtain ⟨A', cp', e, hc, h0, h⟩ := h
  injection e with e1 e2 e3
  subst e1
  subst e3
  refine ⟨_, _, rfl, by simp at hc; omega, (fun h => nomatch h), fun j hj => ?_⟩
  obtain ⟨g', o', e, hcell⟩ := h (a.length + j) (by simp; omega)
  injection e with e
  injection e with e1 e2 _
  subst e1
  subst e2
  refine ⟨g, o + a.length, rfl, ?_⟩
  rw [Nat.add_assoc, hcell, List.getD_eq_getElem?_getD, List.getD_eq_getElem?_getD, List.getElem?_append_right (by omega), Nat.add_sub_cancel_left]
theorem Lies.none {w : World} {A : Option Addr} : Lies w (.slice A 0 0) [] := ⟨A, 0, rfl, Nat.le_refl _, fun _ => rfl, fun j hj => absurd hj (by simp)⟩

/-- what a new list of words leaves behind -/
def Neu (v : Value) (l : List Int) (w w' : World) : Prop := Wl w' v l ∧ Below w.heap.size w w' ∧ ∀ k, own v k → w.heap.size ≤ k

theorem without_b {v : Value} {l : List Int} {x : Int} {w : World} (hl : Lies w v l) (hn : (l.length : Int) ≤ 100000) :
    Calls Try.prog 21 #[v, .int .u64 x] w fun e w' => ∃ u, e = .returned u ∧ Neu u (lwithout l x) w w' := by
  obtain ⟨A, cp, rfl, hcp, h0, hc⟩ := hl
  have hL0 : Lies w (.slice A l.length cp) l := ⟨A, cp, rfl, hcp, h0, hc⟩
  have HL := Lib.hid hL0
  clear hL0 h0 hc
  go_enter Try.func21, Try.ntmps21
  go_wp2
  go_loopg [5, 6] l.length (fun gk c5 c6 wr => ∃ (j : Nat) (B : Option Addr) (cb : Nat) (m : List Int), gk + j = l.length ∧ c6 = .int .i64 (j : Int) ∧ c5 = .slice B m.length cb ∧ m = lwithout (l.take j) x ∧ m.length ≤ j ∧ Neu (.slice B m.length cb) m w wr)
  case atStart => exact ⟨0, none, 0, [], rfl, rfl, rfl, rfl, Nat.le_refl _, Wl.nil _, Below.refl _ _, fun k hk => nomatch hk⟩
  case round =>
    obtain ⟨j, B, cb, m, hj, rfl, rfl, hm, hmj, hW, hB, ho⟩ := hrel
    have Hm := Lib.hid hm
    have HB := Lib.hid hB
    have Ho := Lib.hid ho
    clear hm hB ho
    by_cases hlt : j < l.length
    · obtain ⟨A', cp', e, _, _, hc⟩ := HL.out.below HB.out
      injection e with e1 e2 e3
      subst e1
      subst e3
      obtain ⟨g, o, rfl, d⟩ := hc j hlt
      have hs := Lib.hid (lwithout_take l j x hlt)
      generalize l.getD j 0 = y at *
      have hji : (j : Int) < l.length := by omega
      have hjc : (l.length : Int) ≤ cp := by omega
      have hml : (m.length + 1) * 8 ≤ 140737488355328 := by omega
      obtain ⟨k, rfl⟩ : ∃ k, gk = k + 1 := ⟨gk - 1, by omega⟩
      clear hc e2
      by_cases hy : y = x
      · have hy2 : (y != x) = false := by simpa using hy
        have hres : Hid (m = lwithout (l.take (j + 1)) x) := Lib.hid (by rw [Hm.out, hs.out, if_pos hy])
        clear hy
        go_wp2
        go_roundg k
        case measure => omega
        case rel => exact ⟨j + 1, B, cb, m, by omega, by go_num, rfl, hres.out, by omega, hW, HB.out, Ho.out⟩
      · have hy2 : (y != x) = true := by simpa using hy
        have hres : Hid (m ++ [y] = lwithout (l.take (j + 1)) x) := Lib.hid (by rw [Hm.out, hs.out, if_neg hy])
        clear hy
        go_wp2_with (at_builtin; refine wpList_word wr rfl (.tmp 19) (.tmp 24) rfl _ m y rfl hW rfl hml ?_; intro A3 c3 w3 hc3 hw3 hf3)
        have hb3 := HB.out.trans (hf3.below (fun k hk => Ho.out k hk) HB.out.size)
        have ho3 := hf3.ge (B := w.heap.size) (fun k hk => Ho.out k hk) HB.out.size
        go_roundg k
        case measure => omega
        case rel => exact ⟨j + 1, A3, c3, m ++ [y], by omega, by go_num, by simp, hres.out, by simp; omega, by simpa using hw3, hb3, by simpa using ho3⟩
    · have hji : (l.length : Int) ≤ j := by omega
      have hres : Hid (m = lwithout l x) := Lib.hid (by rw [Hm.out, List.take_of_length_le (by omega)])
      go_wp2
      go_ret
      exact ⟨_, rfl, by rw [← hres.out]; exact ⟨hW, HB.out, Ho.out⟩⟩

theorem with_b {v : Value} {l : List Int} {x : Int} {w : World} (hl : Wl w v l) (hn : (l.length : Int) ≤ 100000) :
    Calls Try.prog 20 #[v, .int .u64 x] w fun e w' => ∃ u, e = .returned u ∧ Wl w' u (lwith l x) ∧ Below w.heap.size w w' ∧ ∀ k, own u k → own v k ∨ w.heap.size ≤ k := by
  have hL := Lib.hid hl.lies
  obtain ⟨A, cp, rfl, hcp⟩ := hl.shape
  have hple := lplace_le l x
  have hth := Lib.hid (rfl : lthere l x = lthere l x)
  by_cases hthere : lthere l x = true
  · have hW := Lib.hid (show lwith l x = l by unfold lwith; rw [if_pos hthere])
    unfold lthere at hthere
    simp only [Bool.and_eq_true, decide_eq_true_eq, beq_iff_eq] at hthere
    obtain ⟨h1, h2⟩ := hthere
    obtain ⟨A', cp', e, _, _, hc⟩ := hL.out
    injection e with e1 e2 e3
    subst e1
    subst e3
    obtain ⟨g, o, rfl, d⟩ := hc _ h1
    rw [h2] at d
    have hpl := Lib.hid (rfl : lplace l x = lplace l x)
    generalize hp : lplace l x = p at *
    have hpi : (p : Int) < l.length := by omega
    have hpc : (l.length : Int) ≤ cp := by omega
    have Hl := Lib.hid hl
    clear hc e2 hth h2 hpl hl
    go_enter Try.func20, Try.ntmps20
    go_wp2_with (go_at_call 30; refine (place_b hL.out (by omega)).mono ?_; rintro e _ ⟨rfl, rfl⟩; rw [hp])
    go_ret
    exact ⟨_, rfl, by rw [hW.out]; exact Hl.out, Below.refl _ _, fun k hk => .inl hk⟩
  · have hW := Lib.hid (show lwith l x = l.take (lplace l x) ++ [x] ++ l.drop (lplace l x) by unfold lwith; rw [if_neg hthere])
    have hc : ∀ j, j < l.length → j = lplace l x → ∃ g o, A = some ⟨g, o, none⟩ ∧ w.cell? ⟨g, o + j, none⟩ = some (.int .u64 (l.getD j 0)) ∧ (l.getD j 0 == x) = false := fun j hj e => by
      obtain ⟨A', cp', e', _, _, hc⟩ := hL.out
      injection e' with e1 e2 e3
      subst e1
      subst e3
      obtain ⟨g, o, ha, d⟩ := hc j hj
      refine ⟨g, o, ha, d, ?_⟩
      unfold lthere at hthere
      rw [← e] at hthere
      simp [hj] at hthere
      simpa [List.getD_eq_getElem?_getD, hj] using hthere
    have hpl := Lib.hid (rfl : lplace l x = lplace l x)
    generalize hp : lplace l x = p at *
    have hW' := hW.out
    have hsp := List.take_append_drop p l
    have hal : (l.take p).length = p := by simp; omega
    generalize l.take p = a at *
    generalize l.drop p = b at *
    subst hsp
    subst hal
    have HW := Lib.hid hW'
    have HP := Lib.hid hp
    rw [List.length_append] at hn hcp hc
    have hL2 : Lies w (.slice A (a.length + b.length) cp) (a ++ b) := by have := hL.out; rwa [List.length_append] at this
    have h0 : A = none → cp = 0 := by
      obtain ⟨A', cp', e', _, h0, _⟩ := hL2
      injection e' with e1 e2 e3
      subst e1
      subst e3
      exact h0
    have hF := Lib.hid hL2.front
    have HL2 := Lib.hid hL2
    clear hW hpl hW' hp hth hthere hL2 hple
    have hfin : ∀ (A1 A2 A3 : Option Addr) (c1 c2 c3 : Nat) (w1 w2 w3 : World), Fr (own (.slice none 0 0)) w (own (.slice A1 a.length c1)) w1 → Fr (own (.slice A1 a.length c1)) w1 (own (.slice A2 (a.length + 1) c2)) w2 → Fr (own (.slice A2 (a.length + 1) c2)) w2 (own (.slice A3 (a.length + 1 + b.length) c3)) w3 → Wl w3 (.slice A3 (a.length + 1 + b.length) c3) (a ++ [x] ++ b) →
        ∃ u', Ending.returned (.slice A3 (a.length + 1 + b.length) c3) = .returned u' ∧ Wl w3 u' (lwith (a ++ b) x) ∧ Below w.heap.size w w3 ∧ ∀ k, own u' k → own (.slice A (a.length + b.length) cp) k ∨ w.heap.size ≤ k := fun A1 A2 A3 c1 c2 c3 w1 w2 w3 f1 f2 f3 h => by
      have hn : ∀ k, own (.slice none 0 0) k → w.heap.size ≤ k := fun k hk => nomatch hk
      have g1 := f1.ge (B := w.heap.size) hn (Nat.le_refl _)
      have b1 := f1.below hn (Nat.le_refl _)
      have g2 := f2.ge (B := w.heap.size) g1 b1.size
      have b2 := b1.trans (f2.below g1 b1.size)
      have g3 := f3.ge (B := w.heap.size) g2 b2.size
      exact ⟨_, rfl, by rw [HW.out]; exact h, b2.trans (f3.below g2 b2.size), fun k hk => .inr (g3 k hk)⟩
    have hB2 : ∀ (A1 A2 : Option Addr) (c1 c2 : Nat) (w1 w2 : World), Fr (own (.slice none 0 0)) w (own (.slice A1 a.length c1)) w1 → Fr (own (.slice A1 a.length c1)) w1 (own (.slice A2 (a.length + 1) c2)) w2 → Below w.heap.size w w2 := fun A1 A2 c1 c2 w1 w2 f1 f2 => by
      have hn : ∀ k, own (.slice none 0 0) k → w.heap.size ≤ k := fun k hk => nomatch hk
      have b1 := f1.below hn (Nat.le_refl _)
      exact b1.trans (f2.below (f1.ge (B := w.heap.size) hn (Nat.le_refl _)) b1.size)
    have HB2 := Lib.hid hB2
    have Hfin := Lib.hid hfin
    clear hB2
    have hcl := Lib.hid hl
    clear hfin hl hL
    have hai : (a.length : Int) ≤ 100000 := by omega
    have hbi : (b.length : Int) ≤ 100000 := by omega
    have hci : (a.length : Int) + b.length ≤ cp := by omega
    rw [List.length_append]
    have hA : A = none ∨ ∃ g o, A = some ⟨g, o, none⟩ := by
      cases A with
      | none => exact .inl rfl
      | some ad =>
        rcases hcl.out.2 with ⟨h, _⟩ | ⟨g, off, cap, cur, h, _⟩
        · injection h with h; cases h
        · injection h with h; injection h with h; subst h; exact .inr ⟨_, _, rfl⟩
    have Hcl := Lib.hid (fun k hk => hcl.out.lt k hk)
    clear hcl
    rcases hA with rfl | ⟨g, o, rfl⟩
    · obtain rfl := h0 rfl
      obtain rfl : a = [] := List.eq_nil_of_length_eq_zero (by omega)
      obtain rfl : b = [] := List.eq_nil_of_length_eq_zero (by simpa using hcp)
      go_enter Try.func20, Try.ntmps20
      go_wp2_with (first | (go_at_call 30; refine (place_b (l := []) Lies.none (by simp)).mono ?_; rintro e _ ⟨rfl, rfl⟩; rw [show lplace [] x = 0 from rfl]) | (at_builtin; refine wpList_word w rfl (.tmp 27) (.tmp 29) rfl (.slice none 0 0) [] x rfl (Wl.nil _) rfl (by simp) ?_; intro A2 c2 w2 hc2 hw2 hf2; simp only [List.nil_append, List.length_nil, Nat.zero_add] at hw2 hc2 hf2 ⊢) | (at_builtin; refine wpList_words w2 rfl (.tmp 31) (.tmp 34) rfl (.slice A2 1 c2) (.slice none 0 0) [x] [] rfl hw2 rfl Lies.none (by simp) ?_; intro A3 c3 w3 hc3 hw3 hf3))
      go_ret
      exact Hfin.out none A2 A3 0 c2 c3 w w2 w3 (Fr.refl _ _) (by simpa using hf2) (by simpa using hf3) (by simpa using hw3)
    have hg : g < w.heap.size := Hcl.out g rfl
    by_cases hb : b = []
    · subst hb
      have hF2 := Lib.hid (HL2.out.rest)
      by_cases hcc : cp = a.length
      · subst hcc
        go_enter Try.func20, Try.ntmps20
        go_wp2_with (first | (go_at_call 30; refine (place_b HL2.out (by simp; omega)).mono ?_; rintro e _ ⟨rfl, rfl⟩; rw [HP.out]) | (at_builtin; refine wpList_words _ rfl (.const (.slice none 0 0)) (.tmp 25) rfl (.slice none 0 0) (.slice (some ⟨g, o, none⟩) a.length a.length) [] a rfl (Wl.nil _) rfl hF.out (by simp; omega) ?_; intro A1 c1 w1 hc1 hw1 hf1; simp only [List.nil_append, List.length_nil, Nat.zero_add] at hw1 hc1 hf1 ⊢) | (at_builtin; refine wpList_word w1 rfl (.tmp 27) (.tmp 29) rfl (.slice A1 a.length c1) a x rfl hw1 rfl (by omega) ?_; intro A2 c2 w2 hc2 hw2 hf2) | (at_builtin; refine wpList_words w2 rfl (.tmp 31) (.tmp 34) rfl (.slice A2 (a.length + 1) c2) (.slice (some ⟨g, o, none⟩) 0 0) (a ++ [x]) [] rfl (by simpa using hw2) rfl (Lies.none) (by simp; omega) ?_; intro A3 c3 w3 hc3 hw3 hf3))
        go_ret
        exact Hfin.out _ _ _ _ _ _ _ _ _ hf1 hf2 (by simpa using hf3) (by simpa using hw3)
      · have hcf : (cp = a.length) = False := eq_false hcc
        have hcl' : a.length < cp := by simp at hcp; omega
        simp only [List.length_nil] at hF2
        clear hcc
        go_enter Try.func20, Try.ntmps20
        go_wp2_with (first | (go_at_call 30; refine (place_b HL2.out (by simp; omega)).mono ?_; rintro e _ ⟨rfl, rfl⟩; rw [HP.out]) | (at_builtin; refine wpList_words _ rfl (.const (.slice none 0 0)) (.tmp 25) rfl (.slice none 0 0) (.slice (some ⟨g, o, none⟩) a.length cp) [] a rfl (Wl.nil _) rfl hF.out (by simp; omega) ?_; intro A1 c1 w1 hc1 hw1 hf1; simp only [List.nil_append, List.length_nil, Nat.zero_add] at hw1 hc1 hf1 ⊢) | (at_builtin; refine wpList_word w1 rfl (.tmp 27) (.tmp 29) rfl (.slice A1 a.length c1) a x rfl hw1 rfl (by omega) ?_; intro A2 c2 w2 hc2 hw2 hf2) | (at_builtin; refine wpList_words w2 rfl (.tmp 31) (.tmp 34) rfl (.slice A2 (a.length + 1) c2) (.slice (some ⟨g, o + a.length, none⟩) 0 (cp - a.length)) (a ++ [x]) [] rfl (by simpa using hw2) rfl (hF2.out.below (HB2.out _ _ _ _ _ _ hf1 hf2)) (by simp; omega) ?_; intro A3 c3 w3 hc3 hw3 hf3))
        go_ret
        exact Hfin.out _ _ _ _ _ _ _ _ _ hf1 hf2 (by simpa using hf3) (by simpa using hw3)
    · obtain ⟨y, r, hbr⟩ := List.exists_cons_of_ne_nil hb
      have hb0 : 0 < b.length := by rw [hbr]; simp
      have hF2 := Lib.hid (HL2.out.rest)
      obtain ⟨g', o', he, d, hyx⟩ := hc a.length (by omega) rfl
      injection he with he
      injection he with he1 he2 _
      subst he1
      subst he2
      have hgd : (a ++ b).getD a.length 0 = y := by rw [hbr]; simp [List.getD_eq_getElem?_getD]
      rw [hgd] at d hyx
      have hcf : (cp = a.length) = False := eq_false (by omega)
      have hcl' : a.length < cp := by omega
      have hr1 : (a.length : Int) < (a.length : Int) + b.length := by omega
      clear hgd hb hc hbr
      go_enter Try.func20, Try.ntmps20
      go_wp2_with (first | (go_at_call 30; refine (place_b HL2.out (by simp; omega)).mono ?_; rintro e _ ⟨rfl, rfl⟩; rw [HP.out]) | (at_builtin; refine wpList_words _ rfl (.const (.slice none 0 0)) (.tmp 25) rfl (.slice none 0 0) (.slice (some ⟨g, o, none⟩) a.length cp) [] a rfl (Wl.nil _) rfl hF.out (by simp; omega) ?_; intro A1 c1 w1 hc1 hw1 hf1; simp only [List.nil_append, List.length_nil, Nat.zero_add] at hw1 hc1 hf1 ⊢) | (at_builtin; refine wpList_word w1 rfl (.tmp 27) (.tmp 29) rfl (.slice A1 a.length c1) a x rfl hw1 rfl (by omega) ?_; intro A2 c2 w2 hc2 hw2 hf2) | (at_builtin; refine wpList_words w2 rfl (.tmp 31) (.tmp 34) rfl (.slice A2 (a.length + 1) c2) (.slice (some ⟨g, o + a.length, none⟩) b.length (cp - a.length)) (a ++ [x]) b rfl (by simpa using hw2) rfl (hF2.out.below (HB2.out _ _ _ _ _ _ hf1 hf2)) (by simp; omega) ?_; intro A3 c3 w3 hc3 hw3 hf3))
      go_ret
      exact Hfin.out _ _ _ _ _ _ _ _ _ hf1 hf2 (by simpa using hf3) (by simpa using hw3)
end Go.Proofs.Ytgbgodhkehnbdaa
