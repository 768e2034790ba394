/- The skip list by its contracts: asking. -/
import Derived.Test.YtgbgodhkehnbdaaSkB
import Derived.WalkSmall
namespace Go.Proofs.Ytgbgodhkehnbdaa
open Go.RowKit
set_option maxHeartbeats 2000000
set_option linter.unusedVariables false
set_option linter.unusedSimpArgs false

/-- what a search has found are words -/
structure FBd (f : Found) : Prop where
  cell : ∀ x ∈ f.cell, 0 ≤ x ∧ x ≤ 18446744073709551615
  link : ∀ x ∈ f.link, 0 ≤ x ∧ x ≤ 18446744073709551615
  word : 0 ≤ f.word ∧ f.word ≤ 18446744073709551615
theorem mem_set_bd {l : List Int} (h : ∀ x ∈ l, 0 ≤ x ∧ x ≤ 18446744073709551615) (k : Nat) {v : Int} (hv : 0 ≤ v ∧ v ≤ 18446744073709551615) : ∀ x ∈ l.set k v, 0 ≤ x ∧ x ≤ 18446744073709551615 := fun x hx => by
  rcases List.mem_or_eq_of_mem_set hx with h1 | h1
  · exact h x h1
  · rw [h1]; exact hv
theorem skGo_bd {x : Int} {past : Bool} : ∀ (n : Nat) (base : Int) (k words : Nat) (f : Found) (s : St), Fits s → FBd f → FBd (skGo x past n base k words f s).1
  | 0, base, k, words, f, s, hs, hf => hf
  | n + 1, base, k, words, f, s, hs, hf => by
    rw [skGo]
    simp only
    have h1 := sget_word hs (uAdd base k)
    have h2 := sget_fits hs (uAdd base k)
    rcases hq : sget s (uAdd base k) with ⟨link, e, s1⟩
    rw [hq] at h1 h2
    simp only at h1 h2 ⊢
    split
    · have hf1 : FBd { f with cell := f.cell.set k (uAdd base k), link := f.link.set k link } := ⟨mem_set_bd hf.cell k (uAdd_bd _ _), mem_set_bd hf.link k h1, hf.word⟩
      split
      · split
        · exact skGo_bd n base (k - 1) words _ s1 h2 hf1
        · exact hf1
      · split
        · exact hf1
        · have h3 := sget_word h2 (IntKind.u64.wrap (link - 1))
          have h4 := sget_fits h2 (IntKind.u64.wrap (link - 1))
          rcases hq2 : sget s1 (IntKind.u64.wrap (link - 1)) with ⟨w, e2, s2⟩
          rw [hq2] at h3 h4
          simp only at h3 h4 ⊢
          have hf2 : FBd { f with cell := f.cell.set k (uAdd base k), link := f.link.set k link, word := w } := ⟨hf1.cell, hf1.link, h3⟩
          split
          · split
            · exact skGo_bd n _ k _ _ s2 h4 hf2
            · split
              · exact skGo_bd n _ _ _ _ s2 h4 hf2
              · exact hf2
          · exact hf2
    · exact hf
theorem skSearch_bd {s s' : St} {a x er : Int} {past : Bool} {f : Found} (h : skSearch s a x past = (f, er, s')) (hs : Fits s) : FBd f := by
  have := skGo_bd (x := x) (past := past) 65545 a 7 0 noFound s hs ⟨by decide, by decide, by decide⟩
  unfold skSearch at h
  rw [h] at this
  exact this

theorem fhas_b {fb : Nat} {f : Found} {x : Int} {w : World} (h : Fnd w fb f) :
    Calls Try.prog 28 #[.pointer (some ⟨fb, 0, none⟩), .int .u64 x] w fun e w' => e = .returned (.bool (f.has x)) ∧ w = w' := by
  have d0 := h.atl 0 (by omega)
  have dw := h.atw
  by_cases h0 : f.link.getD 0 0 = 0
  · have e0 := Lib.hid (show f.has x = false by unfold Found.has; rw [h0]; rfl)
    rw [h0] at d0
    clear h0 dw h
    go_enter Try.func28, Try.ntmps28
    go_wp2
    go_ret
    exact ⟨by rw [e0.out]; rfl, rfl⟩
  · have hl : (f.link.getD 0 0 != 0) = true := by simpa using h0
    by_cases h1 : f.word = x
    · have e0 := Lib.hid (show f.has x = true by unfold Found.has; rw [hl]; simp [h1])
      have h2 : (f.word == x) = true := by simpa using h1
      obtain ⟨l0, hl0⟩ : ∃ l0, f.link.getD 0 0 = l0 := ⟨_, rfl⟩
      rw [hl0] at d0 hl
      clear h0 h hl0 h1
      go_enter Try.func28, Try.ntmps28
      go_wp2
      go_ret
      exact ⟨by rw [e0.out]; rfl, rfl⟩
    · have e0 := Lib.hid (show f.has x = false by unfold Found.has; rw [hl]; simp [h1])
      have h2 : (f.word == x) = false := by simpa using h1
      obtain ⟨l0, hl0⟩ : ∃ l0, f.link.getD 0 0 = l0 := ⟨_, rfl⟩
      rw [hl0] at d0 hl
      clear h0 h hl0 h1
      go_enter Try.func28, Try.ntmps28
      go_wp2
      go_ret
      exact ⟨by rw [e0.out]; rfl, rfl⟩

theorem skhas_b {t n : Nat} {F F0 : Nat → Prop} {s : St} {a x : Int} {w w0 : World} (hw : Txw w t F s) (hf : Fits s) (hb : Bud s (n + 131090)) (ha : 0 ≤ a) (hm : Fr F0 w0 F w) :
    Calls Try.prog 14 #[.iface 29 (.pointer (some ⟨t, 0, none⟩)), .int .u64 a, .int .u64 x] w fun e w' => ∃ b er s', Hid (skHas s a x = (b, er, s')) ∧ e = .returned (.tuple #[.bool b, .int .i64 er]) ∧ Lft t n F0 w0 s' w' := by
  go_enter Try.func14, Try.ntmps14
  go_wp2_with fail
  refine (sksearch_b hw hf hb ha hm).mono ?_
  rintro e w1 ⟨f, er, s1, P, q, rfl, f1, b1, F1, hw1, hm1, hP⟩
  by_cases he : er = 0
  · obtain ⟨fb, rfl, hfb, hfd, hnf⟩ := hP he
    have hq : Hid (skHas s a x = (f.has x, 0, s1)) := Lib.hid (by unfold skHas; rw [q.out, he]; simp)
    subst he
    clear hP hm hw hf hb
    go_wp2_with (go_at_call 28; refine (fhas_b hfd).mono ?_; rintro e w2 ⟨rfl, rfl⟩)
    go_ret2
    exact ⟨_, 0, s1, hq, rfl, f1, b1, F1, hw1, hm1⟩
  · have hz : (er == 0) = false := by simpa using he
    have hq : Hid (skHas s a x = (false, er, s1)) := Lib.hid (by unfold skHas; rw [q.out]; simp [hz])
    clear hP hm hw hf hb
    go_wp2
    go_ret2
    exact ⟨_, er, s1, hq, rfl, f1, b1, F1, hw1, hm1⟩

theorem skafter_b {t n : Nat} {F F0 : Nat → Prop} {s : St} {a x : Int} {w w0 : World} (hw : Txw w t F s) (hf : Fits s) (hb : Bud s (n + 131090)) (ha : 0 ≤ a) (hm : Fr F0 w0 F w) :
    Calls Try.prog 26 #[.iface 29 (.pointer (some ⟨t, 0, none⟩)), .int .u64 a, .int .u64 x] w fun e w' => ∃ v b er s', Hid (skAfter s a x = (v, b, er, s')) ∧ e = .returned (.tuple #[.int .u64 v, .bool b, .int .i64 er]) ∧ Lft t n F0 w0 s' w' := by
  go_enter Try.func26, Try.ntmps26
  go_wp2_with fail
  refine (sksearch_b hw hf hb ha hm).mono ?_
  rintro e w1 ⟨f, er, s1, P, q, rfl, f1, b1, F1, hw1, hm1, hP⟩
  by_cases he : er = 0
  · obtain ⟨fb, rfl, hfb, hfd, hnf⟩ := hP he
    have d0 := hfd.atl 0 (by omega)
    have dw := hfd.atw
    subst he
    by_cases hl : f.link.getD 0 0 = 0
    · have hq : Hid (skAfter s a x = (0, false, 0, s1)) := Lib.hid (by unfold skAfter; rw [q.out]; simp only; rw [if_pos (.inr (by simpa using hl))])
      rw [hl] at d0
      clear hP hm hw hf hb hl hfd
      go_wp2
      go_ret3
      exact ⟨_, _, 0, s1, hq, rfl, f1, b1, F1, hw1, hm1⟩
    · have hl2 : (f.link.getD 0 0 == 0) = false := by simpa using hl
      have hq : Hid (skAfter s a x = (f.word, true, 0, s1)) := Lib.hid (by unfold skAfter; rw [q.out]; simp only; rw [if_neg (by rw [hl2]; simp)])
      obtain ⟨l0, hl0⟩ : ∃ l0, f.link.getD 0 0 = l0 := ⟨_, rfl⟩
      rw [hl0] at d0 hl2
      clear hP hm hw hf hb hl hfd hl0
      go_wp2
      go_ret3
      exact ⟨_, _, 0, s1, hq, rfl, f1, b1, F1, hw1, hm1⟩
  · have hz : (er != 0) = true := by simpa using he
    have hq : Hid (skAfter s a x = (0, false, er, s1)) := Lib.hid (by unfold skAfter; rw [q.out]; simp only; rw [if_pos (.inl hz)])
    clear hP hm hw hf hb
    go_wp2
    go_ret3
    exact ⟨_, _, er, s1, hq, rfl, f1, b1, F1, hw1, hm1⟩

theorem skKeysGo_len : ∀ (n : Nat) (a : Int) (l : List Int) (s : St), (skKeysGo n a l s).1.length ≤ l.length + n
  | 0, a, l, s => by
    rw [skKeysGo]
    rcases sget s a with ⟨x, e, s1⟩
    simp only
    split
    · split <;> simp
    · simp
  | n + 1, a, l, s => by
    rw [skKeysGo]
    rcases sget s a with ⟨x, e, s1⟩
    simp only
    split
    · split
      · simp
      · rcases sget s1 (IntKind.u64.wrap (x - 1)) with ⟨y, e2, s2⟩
        simp only
        split
        · have := skKeysGo_len n (uAdd x 1) (l ++ [y]) s2
          simp at this ⊢
          omega
        · simp
    · simp
theorem skKeys_len {s s' : St} {a : Int} {l : List Int} {er : Int} (h : skKeys s a = (l, er, s')) : l.length ≤ 65536 := by
  have := skKeysGo_len 65536 a [] s
  unfold skKeys at h
  rw [h] at this
  simpa using this

theorem sklen_b {t n : Nat} {F F0 : Nat → Prop} {s : St} {a : Int} {w w0 : World} (hw : Txw w t F s) (hf : Fits s) (hb : Bud s (n + 131073)) (ha : 0 ≤ a) (hm : Fr F0 w0 F w) :
    Calls Try.prog 13 #[.iface 29 (.pointer (some ⟨t, 0, none⟩)), .int .u64 a] w fun e w' => ∃ l er s', Hid (skKeys s a = (l, er, s')) ∧ e = .returned (.tuple #[.int .i64 (l.length : Int), .int .i64 er]) ∧ Lft t n F0 w0 s' w' := by
  go_enter Try.func13, Try.ntmps13
  go_wp2_with fail
  refine (skkeys_b hw hf hb ha hm).mono ?_
  rintro e w1 ⟨v, l, er, s1, q, rfl, f1, b1, hv, ho, F1, hw1, hm1, _⟩
  obtain ⟨A, cp, rfl, _⟩ := hv.shape
  have hl : (l.length : Int) ≤ 9223372036854775807 := by
    have := skKeys_len q.out
    omega
  clear hm hw hf hb hv ho
  go_wp2
  go_ret2
  exact ⟨_, er, s1, q, rfl, f1, b1, F1, hw1, hm1⟩

theorem skLevelGo_step (l : List Int) (j : Nat) (n : Int) (h : j < l.length) : skLevelGo (l.drop j) n = if l.getD j 0 % 2 = 0 then n else skLevelGo (l.drop (j + 1)) (n + 1) := by
  rw [List.drop_eq_getElem_cons h, skLevelGo, List.getD_eq_getElem?_getD, List.getElem?_eq_getElem h]
  rfl
theorem sklevel_b {v : Value} {l : List Int} {w : World} (hl : Lies w v l) (hn : (l.length : Int) ≤ 4611686018427387904) (hbd : ∀ x ∈ l, 0 ≤ x ∧ x ≤ 18446744073709551615) :
    Calls Try.prog 8 #[v] w fun e w' => e = .returned (.int .i64 (skLevel l)) ∧ w = w' := by
  obtain ⟨A, cp, rfl, hcp, _, hc⟩ := hl
  go_enter Try.func8, Try.ntmps8
  go_wp2
  go_loopg [3, 8] l.length (fun gk c3 c8 wr => ∃ (j : Nat) (m : Int), gk + j = l.length ∧ c8 = .int .i64 (j : Int) ∧ c3 = .int .i64 m ∧ 1 ≤ m ∧ m ≤ j + 1 ∧ Hid (skLevelGo l 1 = skLevelGo (l.drop j) m) ∧ w = wr)
  case atStart => exact ⟨0, 1, rfl, rfl, rfl, by omega, by omega, Lib.hid rfl, rfl⟩
  case round =>
    obtain ⟨j, m, hj, rfl, rfl, hm1, hm2, hL, rfl⟩ := hrel
    by_cases hlt : j < l.length
    · obtain ⟨g, o, rfl, d⟩ := hc j hlt
      have hb := getD_bd hbd j
      have hs := Lib.hid (skLevelGo_step l j m hlt)
      generalize l.getD j 0 = y at *
      have hji : (j : Int) < l.length := by omega
      have hjc : (l.length : Int) ≤ cp := by omega
      have hand := and_one_u64 y hb.1 hb.2
      clear hc hbd
      by_cases hy : y % 2 = 0
      · have hy2 : (y % 2 == 0) = true := by simpa using hy
        have hres : Hid (skLevelGo l 1 = m) := Lib.hid (by rw [hL.out, hs.out, if_pos hy])
        clear hy
        go_wp2
        all_goals go_ret
        all_goals refine ⟨?_, rfl⟩
        all_goals unfold skLevel
        all_goals rw [hres.out]
        all_goals refine ret_int ?_
        all_goals omega
      · have hy2 : (y % 2 == 0) = false := by simpa using hy
        have hres : Hid (skLevelGo l 1 = skLevelGo (l.drop (j + 1)) (m + 1)) := Lib.hid (by rw [hL.out, hs.out, if_neg hy])
        clear hy
        go_wp2
        obtain ⟨k, rfl⟩ : ∃ k, gk = k + 1 := ⟨gk - 1, by omega⟩
        go_roundg k
        case measure => omega
        case rel => exact ⟨j + 1, m + 1, by omega, by go_num, rfl, by omega, by omega, hres, rfl⟩
    · have hres : Hid (skLevelGo l 1 = m) := Lib.hid (by rw [hL.out, List.drop_of_length_le (by omega)]; rfl)
      have hji : (l.length : Int) ≤ j := by omega

      go_wp2
      all_goals go_ret
      all_goals refine ⟨?_, rfl⟩
      all_goals unfold skLevel
      all_goals rw [hres.out]
      all_goals refine ret_int ?_
      all_goals omega
end Go.Proofs.Ytgbgodhkehnbdaa
