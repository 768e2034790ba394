/- The queue by its contracts: its words; given back whole. -/
import Derived.Test.YtcgdpclhlepofaaQuC
namespace Go.Proofs.Ytcgdpclhlepofaa
open Go.RowKit
set_option maxHeartbeats 4000000
set_option linter.unusedVariables false
set_option linter.unusedSimpArgs false

def wApp (d : List Int) (r : List Int × Int × St) : List Int × Int × St := (d ++ r.1, r.2)
theorem wApp_wApp (d : List Int) (x : Int) (r : List Int × Int × St) : wApp d (wApp [x] r) = wApp (d ++ [x]) r := by unfold wApp; simp
theorem qWordsGo_step {l : List Int} {j : Nat} (hj : j < l.length) {e : Int} {s : St} {x e1 : Int} {s1 : St} (h : bget e s (l.getD j 0) = (x, e1, s1)) : qWordsGo (l.drop j) e s = wApp [x] (qWordsGo (l.drop (j + 1)) e1 s1) := by
  rw [List.drop_eq_getElem_cons hj, qWordsGo]
  rw [List.getD_eq_getElem?_getD, List.getElem?_eq_getElem hj] at h
  simp only [Option.getD_some] at h
  rw [h]
  rfl
theorem getD_mid (d l : List Int) (j : Nat) (hd : d.length = j) : (d ++ l.drop j).getD j 0 = l.getD j 0 := by
  rw [List.getD_eq_getElem?_getD, List.getD_eq_getElem?_getD, List.getElem?_append_right (by omega), hd, Nat.sub_self, List.getElem?_drop, Nat.add_zero]
theorem set_mid (d l : List Int) (j : Nat) (x : Int) (hd : d.length = j) (hj : j < l.length) : (d ++ l.drop j).set j x = (d ++ [x]) ++ l.drop (j + 1) := by
  rw [List.set_append_right _ _ (by omega), hd, Nat.sub_self, List.drop_eq_getElem_cons hj, List.set_cons_zero]
  simp
/-- the nodes that were found are words -/
theorem qChain_bd : ∀ (k : Nat) (many n b en : Int) (l : List Int) (s : St), (∀ x ∈ l, 0 ≤ x ∧ x ≤ 18446744073709551615) → ∀ x ∈ (qChain many k n b en l s).1, 0 ≤ x ∧ x ≤ 18446744073709551615
  | 0, _, _, _, _, _, _, h => h
  | k + 1, many, n, b, en, l, s, h => by
    rw [qChain]
    split
    · exact h
    · split
      · exact h
      · rcases sget s (uAdd (IntKind.u64.wrap (n - 1)) 1) with ⟨m, e, s1⟩
        have h' : ∀ x ∈ l ++ [IntKind.u64.wrap (n - 1)], 0 ≤ x ∧ x ≤ 18446744073709551615 := fun x hx => (List.mem_append.1 hx).elim (h x) fun hx => by
          obtain rfl : x = IntKind.u64.wrap (n - 1) := by simpa using hx
          exact uw_bd _
        simp only
        split
        · exact qChain_bd k many m n en _ s1 h'
        · exact h'
theorem qNodes_bd {s s' : St} {p er : Int} {l : List Int} (h : qNodes s p = (l, er, s')) : ∀ x ∈ l, 0 ≤ x ∧ x ≤ 18446744073709551615 := by
  unfold qNodes at h
  rcases hq1 : bget 0 s p with ⟨n, e0, s0⟩
  rw [hq1] at h
  simp only at h
  rcases hq2 : bget e0 s0 (uAdd p 2) with ⟨many, e1, s1⟩
  rw [hq2] at h
  simp only at h
  rcases hq3 : bget e1 s1 (uAdd p 1) with ⟨en, e2, s2⟩
  rw [hq3] at h
  simp only at h
  split at h
  · simp at h; obtain ⟨rfl, _⟩ := h; simp
  · have hb := qChain_bd 65538 many n 0 en [] s2 (by simp)
    rcases hq : qChain many 65538 n 0 en [] s2 with ⟨l1, b1, en1, e3, s3⟩
    rw [hq] at h hb
    by_cases h6 : 65536 < many
    · rw [if_pos h6] at h
      try simp only at h
      split at h
      · simp at h; obtain ⟨rfl, _⟩ := h; simp
      · split at h <;> (simp at h; obtain ⟨rfl, _⟩ := h; simp)
    · rw [if_neg h6] at h
      try simp only at h
      split at h
      · simp at h; obtain ⟨rfl, _⟩ := h; simp
      · split at h
        · simp at h; obtain ⟨rfl, _⟩ := h; simp
        · simp at h; obtain ⟨rfl, _⟩ := h; exact hb
theorem qChain_len : ∀ (k : Nat) (many n b en : Int) (l : List Int) (s : St), (qChain many k n b en l s).1.length ≤ l.length + k
  | 0, _, _, _, _, _, _ => Nat.le_refl _
  | k + 1, many, n, b, en, l, s => by
    rw [qChain]
    split
    · simp
    · split
      · simp
      · rcases sget s (uAdd (IntKind.u64.wrap (n - 1)) 1) with ⟨m, e, s1⟩
        simp only
        split
        · have := qChain_len k many m n en (l ++ [IntKind.u64.wrap (n - 1)]) s1
          simp at this ⊢
          omega
        · simp
theorem qNodes_len {s s' : St} {p er : Int} {l : List Int} (h : qNodes s p = (l, er, s')) : (l.length : Int) ≤ 65536 := by
  unfold qNodes at h
  rcases hq1 : bget 0 s p with ⟨n, e0, s0⟩
  rw [hq1] at h
  simp only at h
  rcases hq2 : bget e0 s0 (uAdd p 2) with ⟨many, e1, s1⟩
  rw [hq2] at h
  simp only at h
  rcases hq3 : bget e1 s1 (uAdd p 1) with ⟨en, e2, s2⟩
  rw [hq3] at h
  simp only at h
  split at h
  · simp at h; obtain ⟨rfl, _⟩ := h; simp
  · by_cases h6 : 65536 < many
    · rw [if_pos h6] at h
      try simp only at h
      split at h
      · simp at h; obtain ⟨rfl, _⟩ := h; simp
      · split at h <;> (simp at h; obtain ⟨rfl, _⟩ := h; simp)
    · rw [if_neg h6] at h
      rcases hq : qChain many 65538 n 0 en [] s2 with ⟨l1, b1, en1, e3, s3⟩
      rw [hq] at h
      try simp only at h
      split at h
      · simp at h; obtain ⟨rfl, _⟩ := h; simp
      · split at h
        · simp at h; obtain ⟨rfl, _⟩ := h; simp
        · rename_i h7
          simp at h; obtain ⟨rfl, _⟩ := h
          simp at h7
          omega

set_option maxRecDepth 100000 in
theorem quwords_b {t n : Nat} {F F0 : Nat → Prop} {s : St} {p : Int} {w w0 : World} (hw : Txw w t F s) (hf : Fits s) (hb : Bud s (n + 131080)) (hp : 0 ≤ p) (hp' : p ≤ 18446744073709551615) (hm : Fr F0 w0 F w) :
    Calls Try.prog 21 #[.iface 26 (.pointer (some ⟨t, 0, none⟩)), .int .u64 p] w fun e w' => ∃ v l er s', Hid (qWords s p = (l, er, s')) ∧ e = .returned (.tuple #[v, .int .i64 er]) ∧ LftV t n w.heap.size F0 w0 s' v l w' := by
  have hms := hm.size
  go_enter Try.func21, Try.ntmps21
  go_wp2_with fail
  refine (qunodes_b (n := n + 65539) hw hf (hb.mono (by omega)) hp hp' hm).mono ?_
  rintro e w1 ⟨v, l, e1, s1, q1, rfl, f1, b1, hv1, ho1, F1, hw1, hm1, hn1⟩
  obtain ⟨A, cp, rfl, hcp⟩ := hv1.shape
  have hlb := Lib.hid (qNodes_bd q1.out)
  have hll := qNodes_len q1.out
  have hL : Hid (qWords s p = match qWordsGo l e1 s1 with | (r, e2, s2) => if (e2 != 0) = true then ([], e2, s2) else (r, 0, s2)) := Lib.hid (by unfold qWords; rw [q1.out])
  have hQ := Qb.new hw1 e1
  have hmQ := hm1.alloc (.cells #[.iface 26 (.pointer (some ⟨t, 0, none⟩)), .int .i64 e1] 74)
  have hE : w0.heap.size ≤ w1.heap.size := hm1.size
  have hvQ := hv1.alloc (.cells #[.iface 26 (.pointer (some ⟨t, 0, none⟩)), .int .i64 e1] 74)
  have hoQ : ∀ k, own (.slice A l.length cp) k → w.heap.size ≤ k ∧ ¬ F1 k ∧ k < w1.heap.size := fun k hk => ⟨ho1 k hk, hn1 k hk, hv1.lt k hk⟩
  have Ho := Lib.hid hoQ
  have b1 : Bud s1 (n + l.length + 1) := b1.mono (by omega)
  have hcpi : (l.length : Int) ≤ cp := by omega
  clear hw hm hf hb q1 hw1 hm1 ho1 hn1 hv1 hoQ hcp
  go_wp2_with fail
  generalize w1.alloc (.cells #[.iface 26 (.pointer (some ⟨t, 0, none⟩)), .int .i64 e1] 74) = w2 at *
  generalize hbe : w1.heap.size = bb at *
  clear hbe
  go_loopg [23] l.length (fun gk c23 wr => ∃ (j : Nat) (d L : List Int) (e2 : Int) (s2 : St) (F2 : Nat → Prop), gk + j = l.length ∧ c23 = .int .i64 (j : Int) ∧ d.length = j ∧ Hid (L = d ++ l.drop j) ∧ L.length = l.length ∧ Hid (qWordsGo l e1 s1 = wApp d (qWordsGo (l.drop j) e2 s2)) ∧ Fits s2 ∧ Bud s2 (n + gk) ∧ Qb wr t bb F2 s2 e2 ∧ Fr F0 w0 F2 wr ∧ Wl wr (.slice A L.length cp) L ∧ ∀ k, own (.slice A l.length cp) k → w.heap.size ≤ k ∧ ¬ F2 k ∧ k < bb)
  case atStart => exact ⟨0, [], l, e1, s1, F1, rfl, rfl, rfl, Lib.hid rfl, rfl, Lib.hid rfl, f1, b1.mono (by omega), hQ, hmQ, hvQ, Ho.out⟩
  case round =>
    obtain ⟨j, d, L, e2, s2, F2, hgk, rfl, hd, hLe, hLl, hR, hf2, hb2, hQ2, hm2, hv2, ho2⟩ := hrel
    have Ho2 := Lib.hid ho2
    have hgk' := Lib.hid hgk
    have Hd := Lib.hid hd
    have dE := hQ2.cell
    clear hQ hmQ hvQ Ho b1 f1 ho2 hgk hd
    by_cases hlt : j < l.length
    · obtain ⟨m, rfl⟩ : ∃ m, gk = m + 1 := ⟨gk - 1, by have := hgk'.out; omega⟩
      have hb2 : Bud s2 ((n + m) + 1) := hb2
      have hji : (j : Int) < l.length := by omega
      obtain ⟨g, o, rfl, hg, c1, z1, hset⟩ := hv2.upd (j := j) (by rw [hLl]; exact hlt)
      have e0 : L.getD j 0 = l.getD j 0 := by rw [hLe.out]; exact getD_mid d l j Hd.out
      rw [e0] at c1
      have hyb := hlb.out (l.getD j 0) (by rw [List.getD_eq_getElem?_getD, List.getElem?_eq_getElem hlt]; exact List.getElem_mem hlt)
      obtain ⟨y, hy⟩ : ∃ y, l.getD j 0 = y := ⟨_, rfl⟩
      have Hy := Lib.hid hy
      rw [hy] at hyb c1
      obtain ⟨hy1, hy2⟩ := hyb
      have hlt' := Lib.hid hlt
      have hLl' := Lib.hid hLl
      have hv2' := Lib.hid hv2
      have hogk := Ho2.out g rfl
      obtain ⟨ho1, ho2, ho3⟩ := hogk
      clear hlt e0 hy hset hLl hv2
      go_wp2_with fail
      refine (qget_b (F0 := fun k => F2 k ∨ k = bb) hQ2 hf2 hb2 hy1 ((Fr.refl F2 wr).wide fun _ h => .inl h) (.inl (.inr rfl))).mono ?_
      rintro _ w5 ⟨x5, e5, s5, q5, dx5, dx5', rfl, f5, b5, F5, hQ5, hm5⟩
      have hG : ∀ k, own (.slice (some ⟨g, o, none⟩) L.length cp) k → ¬ (F2 k ∨ k = bb) := fun k hk h => by
        obtain ⟨a1, a2, a3⟩ := Ho2.out k (own_len hk)
        exact h.elim a2 fun h => by omega
      have hv5 := hv2'.out.fr hm5 hG
      have ho5 : Hid (∀ k, own (.slice (some ⟨g, o, none⟩) l.length cp) k → w.heap.size ≤ k ∧ ¬ F5 k ∧ k < bb) := Lib.hid fun k hk => by
        obtain ⟨a1, a2, a3⟩ := Ho2.out k hk
        exact ⟨a1, fun h => (hm5.new k h).elim (hG k (own_len hk)) fun h2 => by have := hv2'.out.lt k (own_len hk); omega, a3⟩
      have hM5 : Fr F0 w0 F5 w5 := (hm2.into (G := fun k => F2 k ∨ k = bb) fun k hk => hk.elim .inl fun h => .inr (.inr (by rw [h]; exact hE))).trans hm5
      obtain ⟨g', o', e', hg5, c5, z5, hset5⟩ := hv5.upd (j := j) (by have := hLl'.out; have := hlt'.out; omega)
      obtain ⟨rfl, rfl⟩ : g = g' ∧ o = o' := by simpa using e'
      have hv6 := Lib.hid (hset5 x5)
      have hng : ¬ F5 g := (ho5.out g rfl).2.1
      have hQ6 : Hid (Qb (w5.setCell ⟨g, o + j, none⟩ (.int .u64 x5)) t bb F5 s5 e5) := Lib.hid ⟨hQ5.tx.set (p := ⟨g, o + j, none⟩) hng _, hQ5.blk.far (by show bb ≠ g; omega) _, hQ5.nin⟩
      have hM6 : Hid (Fr F0 w0 F5 (w5.setCell ⟨g, o + j, none⟩ (.int .u64 x5))) := Lib.hid (hM5.set (p := ⟨g, o + j, none⟩) (.inr (.inr (by show w0.heap.size ≤ g; omega))) _)
      have hR5 : Hid (qWordsGo l e1 s1 = wApp (d ++ [x5]) (qWordsGo (l.drop (j + 1)) e5 s5)) := Lib.hid (by
        have hstep : bget e2 s2 (l.getD j 0) = (x5, e5, s5) := by rw [Hy.out]; exact q5.out
        rw [hR.out, qWordsGo_step hlt'.out hstep, wApp_wApp])
      have hL6 : Hid (L.set j x5 = (d ++ [x5]) ++ l.drop (j + 1)) := Lib.hid (by rw [hLe.out]; exact set_mid d l j x5 Hd.out hlt'.out)
      obtain ⟨y5, hy5⟩ : ∃ y5, L.getD j 0 = y5 := ⟨_, rfl⟩
      rw [hy5] at c5
      clear hy5 hQ2 hm2 dE hv5 hQ5 hM5 hm5 hG hset5 q5 hR c1 z1 e'
      go_wp2
      go_roundg m
      case measure => omega
      case rel => exact ⟨j + 1, d ++ [x5], L.set j x5, e5, s5, F5, by have := hgk'.out; omega, by go_num, by simp [Hd.out], hL6, by simpa using hLl'.out, hR5, f5, b5, hQ6.out, hM6.out, hv6.out, ho5.out⟩
    · obtain rfl : j = l.length := by have := hgk'.out; omega
      obtain rfl : gk = 0 := by have := hgk'.out; omega
      have eL : L = d := by rw [hLe.out, List.drop_length]; simp
      subst eL
      have hq : Hid (qWords s p = if (e2 != 0) = true then ([], e2, s2) else (L, 0, s2)) := Lib.hid (by
        rw [hL.out, hR.out, List.drop_length]
        show (match wApp L ([], e2, s2) with | (r, e2, s2) => if (e2 != 0) = true then ([], e2, s2) else (r, 0, s2)) = _
        unfold wApp
        simp only [List.append_nil])
      have hT := Lib.hid hQ2.tx
      have hM := Lib.hid hm2
      have hV := Lib.hid hv2
      have hLl' := Lib.hid hLl
      clear hQ2 hm2 hv2 hlt hLl
      by_cases he : e2 = 0
      · subst he
        go_wp2
        go_ret2
        refine ⟨_, L, 0, s2, hq, rfl, hf2, hb2, by rw [← Hd.out]; exact hV.out, fun k hk => (Ho2.out k hk).1, F2, hT.out, hM.out, fun k hk => (Ho2.out k hk).2.1⟩
      · have hz : (e2 != 0) = true := by simpa using he
        have hq' : Hid (qWords s p = ([], e2, s2)) := Lib.hid (by rw [hq.out, if_pos hz])
        clear he
        go_wp2
        go_quiet (fail)
        go_wp2
        go_ret2
        exact ⟨_, [], e2, s2, hq', rfl, LftV.nil ⟨hf2, hb2, F2, hT.out.drewN _, hM.out.drewN _⟩⟩
end Go.Proofs.Ytcgdpclhlepofaa
