/- The queue by its contracts: its words; given back whole. -/
import Derived.Test.YtcgdpclhlepofaaPPl1
import Derived.Test.YtcgdpclhlepofaaPPl3
import Derived.Test.YtcgdpclhlepofaaPPl5
namespace Go.Proofs.Ytcgdpclhlepofaa
open Go.RowKit
set_option maxHeartbeats 4000000
set_option linter.unusedVariables false
set_option linter.unusedSimpArgs false

def wApp (d : List Int) (r : List Int × Int × St) : List Int × Int × St := (d ++ r.1, r.2)
theorem wApp_wApp (d : List Int) (x : Int) (r : List Int × Int × St) : wApp d (wApp [x] r) = wApp (d ++ [x]) r := by unfold wApp; simp
theorem qWordsGo_step {l : List Int} {j : Nat} (hj : j < l.length) {e : Int} {s : St} {x e1 : Int} {s1 : St} (h : bget e s (l.getD j 0) = (x, e1, s1)) : qWordsGo (l.drop j) e s = wApp [x] (qWordsGo (l.drop (j + 1)) e1 s1) := by
  rw [List.drop_eq_getElem_cons hj, qWordsGo]
  rw [List.getD_eq_getElem?_getD, List.getElem?_eq_getElem hj] at h
  simp only [Option.getD_some] at h
  rw [h]
  rfl
theorem getD_mid (d l : List Int) (j : Nat) (hd : d.length = j) : (d ++ l.drop j).getD j 0 = l.getD j 0 := by
  rw [List.getD_eq_getElem?_getD, List.getD_eq_getElem?_getD, List.getElem?_append_right (by omega), hd, Nat.sub_self, List.getElem?_drop, Nat.add_zero]
theorem set_mid (d l : List Int) (j : Nat) (x : Int) (hd : d.length = j) (hj : j < l.length) : (d ++ l.drop j).set j x = (d ++ [x]) ++ l.drop (j + 1) := by
  rw [List.set_append_right _ _ (by omega), hd, Nat.sub_self, List.drop_eq_getElem_cons hj, List.set_cons_zero]
  simp
/-- the nodes that were found are words -/
theorem qChain_bd : ∀ (k : Nat) (many n b en : Int) (l : List Int) (s : St), (∀ x ∈ l, 0 ≤ x ∧ x ≤ 18446744073709551615) → ∀ x ∈ (qChain many k n b en l s).1, 0 ≤ x ∧ x ≤ 18446744073709551615
  | 0, _, _, _, _, _, _, h => h
  | k + 1, many, n, b, en, l, s, h => by
    rw [qChain]
    split
    · exact h
    · split
      · exact h
      · rcases sget s (uAdd (IntKind.u64.wrap (n - 1)) 1) with ⟨m, e, s1⟩
        have h' : ∀ x ∈ l ++ [IntKind.u64.wrap (n - 1)], 0 ≤ x ∧ x ≤ 18446744073709551615 := fun x hx => (List.mem_append.1 hx).elim (h x) fun hx => by
          obtain rfl : x = IntKind.u64.wrap (n - 1) := by simpa using hx
          exact uw_bd _
        simp only
        split
        · exact qChain_bd k many m n en _ s1 h'
        · exact h'
theorem qNodes_bd {s s' : St} {p er : Int} {l : List Int} (h : qNodes s p = (l, er, s')) : ∀ x ∈ l, 0 ≤ x ∧ x ≤ 18446744073709551615 := by
  unfold qNodes at h
  rcases hq1 : bget 0 s p with ⟨n, e0, s0⟩
  rw [hq1] at h
  simp only at h
  rcases hq2 : bget e0 s0 (uAdd p 2) with ⟨many, e1, s1⟩
  rw [hq2] at h
  simp only at h
  rcases hq3 : bget e1 s1 (uAdd p 1) with ⟨en, e2, s2⟩
  rw [hq3] at h
  simp only at h
  split at h
  · simp at h; obtain ⟨rfl, _⟩ := h; simp
  · have hb := qChain_bd 65538 many n 0 en [] s2 (by simp)
    rcases hq : qChain many 65538 n 0 en [] s2 with ⟨l1, b1, en1, e3, s3⟩
    rw [hq] at h hb
    by_cases h6 : 65536 < many
    · rw [if_pos h6] at h
      try simp only at h
      split at h
      · simp at h; obtain ⟨rfl, _⟩ := h; simp
      · split at h <;> (simp at h; obtain ⟨rfl, _⟩ := h; simp)
    · rw [if_neg h6] at h
      try simp only at h
      split at h
      · simp at h; obtain ⟨rfl, _⟩ := h; simp
      · split at h
        · simp at h; obtain ⟨rfl, _⟩ := h; simp
        · simp at h; obtain ⟨rfl, _⟩ := h; exact hb
theorem qChain_len : ∀ (k : Nat) (many n b en : Int) (l : List Int) (s : St), (qChain many k n b en l s).1.length ≤ l.length + k
  | 0, _, _, _, _, _, _ => Nat.le_refl _
  | k + 1, many, n, b, en, l, s => by
    rw [qChain]
    split
    · simp
    · split
      · simp
      · rcases sget s (uAdd (IntKind.u64.wrap (n - 1)) 1) with ⟨m, e, s1⟩
        simp only
        split
        · have := qChain_len k many m n en (l ++ [IntKind.u64.wrap (n - 1)]) s1
          simp at this ⊢
          omega
        · simp
theorem qNodes_len {s s' : St} {p er : Int} {l : List Int} (h : qNodes s p = (l, er, s')) : (l.length : Int) ≤ 65536 := by
  unfold qNodes at h
  rcases hq1 : bget 0 s p with ⟨n, e0, s0⟩
  rw [hq1] at h
  simp only at h
  rcases hq2 : bget e0 s0 (uAdd p 2) with ⟨many, e1, s1⟩
  rw [hq2] at h
  simp only at h
  rcases hq3 : bget e1 s1 (uAdd p 1) with ⟨en, e2, s2⟩
  rw [hq3] at h
  simp only at h
  split at h
  · simp at h; obtain ⟨rfl, _⟩ := h; simp
  · by_cases h6 : 65536 < many
    · rw [if_pos h6] at h
      try simp only at h
      split at h
      · simp at h; obtain ⟨rfl, _⟩ := h; simp
      · split at h <;> (simp at h; obtain ⟨rfl, _⟩ := h; simp)
    · rw [if_neg h6] at h
      rcases hq : qChain many 65538 n 0 en [] s2 with ⟨l1, b1, en1, e3, s3⟩
      rw [hq] at h
      try simp only at h
      split at h
      · simp at h; obtain ⟨rfl, _⟩ := h; simp
      · split at h
        · simp at h; obtain ⟨rfl, _⟩ := h; simp
        · rename_i h7
          simp at h; obtain ⟨rfl, _⟩ := h
          simp at h7
          omega

set_option maxRecDepth 100000 in
theorem quwords_b {t n : Nat} {F F0 : Nat → Prop} {s : St} {p : Int} {w w0 : World} (hw : Txw w t F s) (hf : Fits s) (hb : Bud s (n + 131080)) (hp : 0 ≤ p) (hp' : p ≤ 18446744073709551615) (hm : Fr F0 w0 F w) :
    Calls Try.prog 21 #[.iface 26 (.pointer (some ⟨t, 0, none⟩)), .int .u64 p] w fun e w' => ∃ v l er s', Hid (qWords s p = (l, er, s')) ∧ e = .returned (.tuple #[v, .int .i64 er]) ∧ LftV t n w.heap.size F0 w0 s' v l w' := by
  have hms := hm.size
  go_enter Try.func21, Try.ntmps21
  go_wp2_with fail
  refine (qunodes_b (n := n + 65539) hw hf (hb.mono (by omega)) hp hp' hm).mono ?_
  rintro e w1 ⟨v, l, e1, s1, q1, rfl, f1, b1, hv1, ho1, F1, hw1, hm1, hn1⟩
  obtain ⟨A, cp, rfl, hcp⟩ := hv1.shape
  have hlb := Lib.hid (qNodes_bd q1.out)
  have hll := qNodes_len q1.out
  have hL : Hid (qWords s p = match qWordsGo l e1 s1 with | (r, e2, s2) => if (e2 != 0) = true then ([], e2, s2) else (r, 0, s2)) := Lib.hid (by unfold qWords; rw [q1.out])
  have hQ := Qb.new hw1 e1
  have hmQ := hm1.alloc (.cells #[.iface 26 (.pointer (some ⟨t, 0, none⟩)), .int .i64 e1] 74)
  have hE : w0.heap.size ≤ w1.heap.size := hm1.size
  have hvQ := hv1.alloc (.cells #[.iface 26 (.pointer (some ⟨t, 0, none⟩)), .int .i64 e1] 74)
  have hoQ : ∀ k, own (.slice A l.length cp) k → w.heap.size ≤ k ∧ ¬ F1 k ∧ k < w1.heap.size := fun k hk => ⟨ho1 k hk, hn1 k hk, hv1.lt k hk⟩
  have Ho := Lib.hid hoQ
  have b1 : Bud s1 (n + l.length + 1) := b1.mono (by omega)
  have hcpi : (l.length : Int) ≤ cp := by omega
  clear hw hm hf hb q1 hw1 hm1 ho1 hn1 hv1 hoQ hcp
  go_wp2_with fail
  generalize w1.alloc (.cells #[.iface 26 (.pointer (some ⟨t, 0, none⟩)), .int .i64 e1] 74) = w2 at *
  generalize hbe : w1.heap.size = bb at *
  clear hbe
  go_loopg [23] l.length (fun gk c23 wr => ∃ (j : Nat) (d L : List Int) (e2 : Int) (s2 : St) (F2 : Nat → Prop), gk + j = l.length ∧ c23 = .int .i64 (j : Int) ∧ d.length = j ∧ Hid (L = d ++ l.drop j) ∧ L.length = l.length ∧ Hid (qWordsGo l e1 s1 = wApp d (qWordsGo (l.drop j) e2 s2)) ∧ Fits s2 ∧ Bud s2 (n + gk) ∧ Qb wr t bb F2 s2 e2 ∧ Fr F0 w0 F2 wr ∧ Wl wr (.slice A L.length cp) L ∧ ∀ k, own (.slice A l.length cp) k → w.heap.size ≤ k ∧ ¬ F2 k ∧ k < bb)
  case atStart => exact ⟨0, [], l, e1, s1, F1, rfl, rfl, rfl, Lib.hid rfl, rfl, Lib.hid rfl, f1, b1.mono (by omega), hQ, hmQ, hvQ, Ho.out⟩
  case round =>
    obtain ⟨j, d, L, e2, s2, F2, hgk, rfl, hd, hLe, hLl, hR, hf2, hb2, hQ2, hm2, hv2, ho2⟩ := hrel
    have Ho2 := Lib.hid ho2
    have hgk' := Lib.hid hgk
    have Hd := Lib.hid hd
    have dE := hQ2.cell
    clear hQ hmQ hvQ Ho b1 f1 ho2 hgk hd
    by_cases hlt : j < l.length
    · obtain ⟨m, rfl⟩ : ∃ m, gk = m + 1 := ⟨gk - 1, by have := hgk'.out; omega⟩
      have hb2 : Bud s2 ((n + m) + 1) := hb2
      have hji : (j : Int) < l.length := by omega
      obtain ⟨g, o, rfl, hg, c1, z1, hset⟩ := hv2.upd (j := j) (by rw [hLl]; exact hlt)
      have e0 : L.getD j 0 = l.getD j 0 := by rw [hLe.out]; exact getD_mid d l j Hd.out
      rw [e0] at c1
      have hyb := hlb.out (l.getD j 0) (by rw [List.getD_eq_getElem?_getD, List.getElem?_eq_getElem hlt]; exact List.getElem_mem hlt)
      obtain ⟨y, hy⟩ : ∃ y, l.getD j 0 = y := ⟨_, rfl⟩
      have Hy := Lib.hid hy
      rw [hy] at hyb c1
      obtain ⟨hy1, hy2⟩ := hyb
      have hlt' := Lib.hid hlt
      have hLl' := Lib.hid hLl
      have hv2' := Lib.hid hv2
      have hogk := Ho2.out g rfl
      obtain ⟨ho1, ho2, ho3⟩ := hogk
      clear hlt e0 hy hset hLl hv2
      go_wp2_with fail
      refine (qget_b (F0 := fun k => F2 k ∨ k = bb) hQ2 hf2 hb2 hy1 ((Fr.refl F2 wr).wide fun _ h => .inl h) (.inl (.inr rfl))).mono ?_
      rintro _ w5 ⟨x5, e5, s5, q5, dx5, dx5', rfl, f5, b5, F5, hQ5, hm5⟩
      have hG : ∀ k, own (.slice (some ⟨g, o, none⟩) L.length cp) k → ¬ (F2 k ∨ k = bb) := fun k hk h => by
        obtain ⟨a1, a2, a3⟩ := Ho2.out k (own_len hk)
        exact h.elim a2 fun h => by omega
      have hv5 := hv2'.out.fr hm5 hG
      have ho5 : Hid (∀ k, own (.slice (some ⟨g, o, none⟩) l.length cp) k → w.heap.size ≤ k ∧ ¬ F5 k ∧ k < bb) := Lib.hid fun k hk => by
        obtain ⟨a1, a2, a3⟩ := Ho2.out k hk
        exact ⟨a1, fun h => (hm5.new k h).elim (hG k (own_len hk)) fun h2 => by have := hv2'.out.lt k (own_len hk); omega, a3⟩
      have hM5 : Fr F0 w0 F5 w5 := (hm2.into (G := fun k => F2 k ∨ k = bb) fun k hk => hk.elim .inl fun h => .inr (.inr (by rw [h]; exact hE))).trans hm5
      obtain ⟨g', o', e', hg5, c5, z5, hset5⟩ := hv5.upd (j := j) (by have := hLl'.out; have := hlt'.out; omega)
      obtain ⟨rfl, rfl⟩ : g = g' ∧ o = o' := by simpa using e'
      have hv6 := Lib.hid (hset5 x5)
      have hng : ¬ F5 g := (ho5.out g rfl).2.1
      have hQ6 : Hid (Qb (w5.setCell ⟨g, o + j, none⟩ (.int .u64 x5)) t bb F5 s5 e5) := Lib.hid ⟨hQ5.tx.set (p := ⟨g, o + j, none⟩) hng _, hQ5.blk.far (by show bb ≠ g; omega) _, hQ5.nin⟩
      have hM6 : Hid (Fr F0 w0 F5 (w5.setCell ⟨g, o + j, none⟩ (.int .u64 x5))) := Lib.hid (hM5.set (p := ⟨g, o + j, none⟩) (.inr (.inr (by show w0.heap.size ≤ g; omega))) _)
      have hR5 : Hid (qWordsGo l e1 s1 = wApp (d ++ [x5]) (qWordsGo (l.drop (j + 1)) e5 s5)) := Lib.hid (by
        have hstep : bget e2 s2 (l.getD j 0) = (x5, e5, s5) := by rw [Hy.out]; exact q5.out
        rw [hR.out, qWordsGo_step hlt'.out hstep, wApp_wApp])
      have hL6 : Hid (L.set j x5 = (d ++ [x5]) ++ l.drop (j + 1)) := Lib.hid (by rw [hLe.out]; exact set_mid d l j x5 Hd.out hlt'.out)
      obtain ⟨y5, hy5⟩ : ∃ y5, L.getD j 0 = y5 := ⟨_, rfl⟩
      rw [hy5] at c5
      clear hy5 hQ2 hm2 dE hv5 hQ5 hM5 hm5 hG hset5 q5 hR c1 z1 e'
      go_wp2
      go_roundg m
      case measure => omega
      case rel => exact ⟨j + 1, d ++ [x5], L.set j x5, e5, s5, F5, by have := hgk'.out; omega, by go_num, by simp [Hd.out], hL6, by simpa using hLl'.out, hR5, f5, b5, hQ6.out, hM6.out, hv6.out, ho5.out⟩
    · obtain rfl : j = l.length := by have := hgk'.out; omega
      obtain rfl : gk = 0 := by have := hgk'.out; omega
      have eL : L = d := by rw [hLe.out, List.drop_length]; simp
      subst eL
      have hq : Hid (qWords s p = if (e2 != 0) = true then ([], e2, s2) else (L, 0, s2)) := Lib.hid (by
        rw [hL.out, hR.out, List.drop_length]
        show (match wApp L ([], e2, s2) with | (r, e2, s2) => if (e2 != 0) = true then ([], e2, s2) else (r, 0, s2)) = _
        unfold wApp
        simp only [List.append_nil])
      have hT := Lib.hid hQ2.tx
      have hM := Lib.hid hm2
      have hV := Lib.hid hv2
      have hLl' := Lib.hid hLl
      clear hQ2 hm2 hv2 hlt hLl
      by_cases he : e2 = 0
      · subst he
        go_wp2
        go_ret2
        refine ⟨_, L, 0, s2, hq, rfl, hf2, hb2, by rw [← Hd.out]; exact hV.out, fun k hk => (Ho2.out k hk).1, F2, hT.out, hM.out, fun k hk => (Ho2.out k hk).2.1⟩
      · have hz : (e2 != 0) = true := by simpa using he
        have hq' : Hid (qWords s p = ([], e2, s2)) := Lib.hid (by rw [hq.out, if_pos hz])
        clear he
        go_wp2
        go_quiet (fail)
        go_wp2
        go_ret2
        exact ⟨_, [], e2, s2, hq', rfl, LftV.nil ⟨hf2, hb2, F2, hT.out.drewN _, hM.out.drewN _⟩⟩
end Go.Proofs.Ytcgdpclhlepofaa
/- Things in memory, each with blocks of its own. -/
namespace Go.Proofs.Ytcgdpclhlepofaa
open Go.RowKit
set_option linter.unusedVariables false

/-- No block has two owners; all lie from B on. -/
structure Fam (B : Nat) (w : World) (X : Nat → Nat → Prop) : Prop where
  lt : ∀ i k, X i k → k < w.heap.size
  ge : ∀ i k, X i k → B ≤ k
  ap : ∀ i j k, X i k → X j k → i = j
  base : B ≤ w.heap.size
def upd (X : Nat → Nat → Prop) (i : Nat) (G : Nat → Prop) : Nat → Nat → Prop := fun j => if j = i then G else X j
theorem upd_eq (X : Nat → Nat → Prop) (i : Nat) (G : Nat → Prop) : upd X i G i = G := by unfold upd; rw [if_pos rfl]
theorem upd_ne (X : Nat → Nat → Prop) {i j : Nat} (G : Nat → Prop) (h : j ≠ i) : upd X i G j = X j := by unfold upd; rw [if_neg h]
section
variable {B : Nat} {w w' : World} {X : Nat → Nat → Prop} {i j : Nat} {G : Nat → Prop}
theorem Fam.not (h : Fam B w X) (hne : i ≠ j) : ∀ k, X i k → ¬ X j k := fun k hi hj => hne (h.ap i j k hi hj)
theorem Fam.keep (h : Fam B w X) (hf : Fr (X i) w G w') (hne : j ≠ i) : ∀ k, X j k → w'.heap[k]? = w.heap[k]? := fun k hk => hf.block k (h.lt j k hk) (h.not hne k hk)
theorem Fam.step (h : Fam B w X) (hf : Fr (X i) w G w') (hG : ∀ k, G k → k < w'.heap.size) : Fam B w' (upd X i G) := by
  have key : ∀ j k, upd X i G j k → (j = i ∧ G k) ∨ (j ≠ i ∧ X j k) := fun j k hk => by
    by_cases e : j = i
    · subst e; rw [upd_eq] at hk; exact .inl ⟨rfl, hk⟩
    · rw [upd_ne X G e] at hk; exact .inr ⟨e, hk⟩
  refine ⟨fun j k hk => ?_, fun j k hk => ?_, fun j j' k hk hk' => ?_, Nat.le_trans h.base hf.size⟩
  · rcases key j k hk with ⟨_, h1⟩ | ⟨_, h1⟩
    · exact hG k h1
    · exact Nat.lt_of_lt_of_le (h.lt j k h1) hf.size
  · rcases key j k hk with ⟨_, h1⟩ | ⟨_, h1⟩
    · exact (hf.new k h1).elim (h.ge i k) fun h2 => Nat.le_trans h.base h2
    · exact h.ge j k h1
  · have no : ∀ j, j ≠ i → X j k → ¬ G k := fun j hj hx hg => (hf.new k hg).elim (fun h1 => hj (h.ap j i k hx h1)) fun h1 => by have := h.lt j k hx; omega
    rcases key j k hk with ⟨e, h1⟩ | ⟨e, h1⟩
    · rcases key j' k hk' with ⟨e', h2⟩ | ⟨e', h2⟩
      · rw [e, e']
      · exact (no j' e' h2 h1).elim
    · rcases key j' k hk' with ⟨e', h2⟩ | ⟨e', h2⟩
      · exact (no j e h1 h2).elim
      · exact h.ap j j' k h1 h2
/-- More memory, nothing old turned but what is not owned, or is owned elsewhere. -/
theorem Fam.size (h : Fam B w X) (hs : w.heap.size ≤ w'.heap.size) : Fam B w' X := ⟨fun i k hk => Nat.lt_of_lt_of_le (h.lt i k hk) hs, h.ge, h.ap, Nat.le_trans h.base hs⟩
theorem Fam.alloc (h : Fam B w X) (o : Obj) : Fam B (w.alloc o) X := h.size (by simp)
theorem Fam.drewN (h : Fam B w X) (n : Nat) : Fam B (w.drewN n) X := h.size (Nat.le_refl _)
theorem Fam.set (h : Fam B w X) (p : Addr) (u : Value) : Fam B (w.setCell p u) X := h.size (by simp [World.setCell])
theorem Fam.less (h : Fam B w X) (hG : ∀ k, G k → X i k) : Fam B w (upd X i G) := by
  have key : ∀ j k, upd X i G j k → X j k := fun j k hk => by
    by_cases e : j = i
    · subst e; rw [upd_eq] at hk; exact hG k hk
    · rwa [upd_ne X G e] at hk
  exact ⟨fun j k hk => h.lt j k (key j k hk), fun j k hk => h.ge j k (key j k hk), fun j j' k h1 h2 => h.ap j j' k (key j k h1) (key j' k h2), h.base⟩
theorem Fam.sub (h : Fam B w X) {f : Nat → Nat} (hf : ∀ i j, f i = f j → i = j) : Fam B w (fun i => X (f i)) :=
  ⟨fun i k hk => h.lt _ k hk, fun i k hk => h.ge _ k hk, fun i j k h1 h2 => hf i j (h.ap _ _ k h1 h2), h.base⟩
theorem Fam.below (h : Fam B w X) (hf : Fr (X i) w G w') : Below B w w' := hf.below (h.ge i) h.base
/-- Two of them turn in one go. -/
theorem Fam.step2 {H : Nat → Prop} (h : Fam B w X) (hne : i ≠ j) (hf : Fr (fun k => X i k ∨ X j k) w (fun k => G k ∨ H k) w') (hG : ∀ k, G k ∨ H k → k < w'.heap.size) (hd : ∀ k, G k → ¬ H k) : Fam B w' (upd (upd X i G) j H) := by
  have key : ∀ l k, upd (upd X i G) j H l k → (l = j ∧ H k) ∨ (l = i ∧ G k) ∨ (l ≠ i ∧ l ≠ j ∧ X l k) := fun l k hk => by
    by_cases e : l = j
    · subst e; rw [upd_eq] at hk; exact .inl ⟨rfl, hk⟩
    · rw [upd_ne _ H e] at hk
      by_cases e' : l = i
      · subst e'; rw [upd_eq] at hk; exact .inr (.inl ⟨rfl, hk⟩)
      · rw [upd_ne X G e'] at hk; exact .inr (.inr ⟨e', e, hk⟩)
  have nw : ∀ l k, l ≠ i → l ≠ j → X l k → ¬ (G k ∨ H k) := fun l k h1 h2 hx hg => (hf.new k hg).elim (fun h3 => h3.elim (fun h4 => h1 (h.ap l i k hx h4)) fun h4 => h2 (h.ap l j k hx h4)) fun h3 => by have := h.lt l k hx; omega
  refine ⟨fun l k hk => ?_, fun l k hk => ?_, fun l l' k hk hk' => ?_, Nat.le_trans h.base hf.size⟩
  · rcases key l k hk with ⟨_, h1⟩ | ⟨_, h1⟩ | ⟨_, _, h1⟩
    · exact hG k (.inr h1)
    · exact hG k (.inl h1)
    · exact Nat.lt_of_lt_of_le (h.lt l k h1) hf.size
  · have : ∀ k, G k ∨ H k → B ≤ k := fun k hg => (hf.new k hg).elim (fun h1 => h1.elim (h.ge i k) (h.ge j k)) fun h1 => Nat.le_trans h.base h1
    rcases key l k hk with ⟨_, h1⟩ | ⟨_, h1⟩ | ⟨_, _, h1⟩
    · exact this k (.inr h1)
    · exact this k (.inl h1)
    · exact h.ge l k h1
  · rcases key l k hk with ⟨e, h1⟩ | ⟨e, h1⟩ | ⟨e, e2, h1⟩
    · rcases key l' k hk' with ⟨e', h2⟩ | ⟨e', h2⟩ | ⟨e', e2', h2⟩
      · rw [e, e']
      · exact (hd k h2 h1).elim
      · exact (nw l' k e' e2' h2 (.inr h1)).elim
    · rcases key l' k hk' with ⟨e', h2⟩ | ⟨e', h2⟩ | ⟨e', e2', h2⟩
      · exact (hd k h1 h2).elim
      · rw [e, e']
      · exact (nw l' k e' e2' h2 (.inl h1)).elim
    · rcases key l' k hk' with ⟨e', h2⟩ | ⟨e', h2⟩ | ⟨e', e2', h2⟩
      · exact (nw l k e e2 h1 (.inr h2)).elim
      · exact (nw l k e e2 h1 (.inl h2)).elim
      · exact h.ap l l' k h1 h2
theorem Fam.keep2 {H : Nat → Prop} {l : Nat} (h : Fam B w X) (hf : Fr (fun k => X i k ∨ X j k) w H w') (h1 : l ≠ i) (h2 : l ≠ j) : ∀ k, X l k → w'.heap[k]? = w.heap[k]? :=
  fun k hk => hf.block k (h.lt l k hk) fun hx => hx.elim (h.not h1 k hk) (h.not h2 k hk)
theorem Fam.below2 {H : Nat → Prop} (h : Fam B w X) (hf : Fr (fun k => X i k ∨ X j k) w H w') : Below B w w' := hf.below (fun k hk => hk.elim (h.ge i k) (h.ge j k)) h.base
end
theorem Fr.side {F F' : Nat → Prop} {w w' : World} (h : Fr F w F' w') (G : Nat → Prop) : Fr (fun k => F k ∨ G k) w (fun k => F' k ∨ G k) w' :=
  (h.wide (G := fun k => F k ∨ G k) fun _ hk => .inl hk).into fun k hk => hk.elim .inl fun hg => .inr (.inl (.inr hg))
end Go.Proofs.Ytcgdpclhlepofaa
/- A part's nodes gone over, by contract. -/
namespace Go.Proofs.Ytcgdpclhlepofaa
open Go.RowKit
set_option maxHeartbeats 4000000
set_option linter.unusedVariables false
set_option linter.unusedSimpArgs false

/-- What stands beside the tx while a part is gone over: J, of its blocks and of the words that were gathered. -/
structure JLaw (t : Nat) (step : Int → Int → List Int → St → Int × List Int × St) (J : World → (Nat → Prop) → (Nat → Prop) → List Int → Prop) (gf : Nat) (av : Int → Int → Array Value) : Prop where
  ent : ∀ (args : Array Value) (w : World), (callFunc gf args).run Try.prog w = .ok (.enter gf args) w
  keep : ∀ {w w' : World} {F F' G : Nat → Prop} {l : List Int}, (∀ k, F k → k < w.heap.size) → Fr F w F' w' → J w F G l → J w' F' G l
  call : ∀ {w : World} {F G : Nat → Prop} {s : St} {l : List Int} {n : Nat} {nd wd : Int}, Txw w t F s → Fits s → Bud s (n + 1) → l.length ≤ 65537 → 0 ≤ nd → nd ≤ 18446744073709551615 → 0 ≤ wd → wd ≤ 18446744073709551615 → J w F G l →
    Calls Try.prog gf (av nd wd) w fun e w' => ∃ er l' s', Hid (step nd wd l s = (er, l', s')) ∧ e = .returned (.int .i64 er) ∧ l'.length ≤ l.length + 1 ∧ Fits s' ∧ Bud s' n ∧ ∃ F' G', Txw w' t F' s' ∧ J w' F' G' l' ∧ Fr (fun k => F k ∨ G k) w (fun k => F' k ∨ G' k) w'

theorem pEach_end {step : Int → Int → List Int → St → Int × List Int × St} {count next n : Int} {k : Nat} {l : List Int} {s : St} (h : next = 0) : pEach step count k next n l s = (0, l, s) := by
  cases k
  · rfl
  · rw [pEach, if_pos (by simpa using h)]
section
variable {step : Int → Int → List Int → St → Int × List Int × St} {count next n w e e2 nx e3 : Int} {k : Nat} {l l2 : List Int} {s s1 s2 s3 : St}
theorem pEach_e1 (h : next ≠ 0) (h1 : sget s (IntKind.u64.wrap (next - 1)) = (w, e, s1)) (he : e ≠ 0) : pEach step count (k + 1) next n l s = (e, l, s1) := by
  rw [pEach, if_neg (by simpa using h)]; simp only [h1]; rw [if_pos (by simpa using he)]
theorem pEach_e2 (h : next ≠ 0) (h1 : sget s (IntKind.u64.wrap (next - 1)) = (w, 0, s1)) (h2 : step (IntKind.u64.wrap (next - 1)) w l s1 = (e2, l2, s2)) (he : e2 ≠ 0) : pEach step count (k + 1) next n l s = (e2, l2, s2) := by
  rw [pEach, if_neg (by simpa using h)]; simp only [h1]; rw [if_neg (by decide)]; simp only [h2]; rw [if_pos (by simpa using he)]
theorem pEach_e3 (h : next ≠ 0) (h1 : sget s (IntKind.u64.wrap (next - 1)) = (w, 0, s1)) (h2 : step (IntKind.u64.wrap (next - 1)) w l s1 = (0, l2, s2)) (h3 : sget s2 (uAdd (IntKind.u64.wrap (next - 1)) 1) = (nx, e3, s3)) (he : e3 ≠ 0) : pEach step count (k + 1) next n l s = (e3, l2, s3) := by
  rw [pEach, if_neg (by simpa using h)]; simp only [h1]; rw [if_neg (by decide)]; simp only [h2]; rw [if_neg (by decide)]; simp only [h3]; rw [if_pos (by simpa using he)]
theorem pEach_4 (h : next ≠ 0) (h1 : sget s (IntKind.u64.wrap (next - 1)) = (w, 0, s1)) (h2 : step (IntKind.u64.wrap (next - 1)) w l s1 = (0, l2, s2)) (h3 : sget s2 (uAdd (IntKind.u64.wrap (next - 1)) 1) = (nx, 0, s3)) : pEach step count (k + 1) next n l s = if ((nx == 0) == (n + 1 == count)) = true then pEach step count k nx (n + 1) l2 s3 else (360, l2, s3) := by
  rw [pEach, if_neg (by simpa using h)]; simp only [h1]; rw [if_neg (by decide)]; simp only [h2]; rw [if_neg (by decide)]; simp only [h3]; rw [if_neg (by decide)]
end

/-- What is left behind, with what was gathered. -/
def LftJ (t n : Nat) (F0 : Nat → Prop) (w0 : World) (J : World → (Nat → Prop) → (Nat → Prop) → List Int → Prop) (s' : St) (l : List Int) (w' : World) : Prop := l.length ≤ 65537 ∧ Fits s' ∧ Bud s' n ∧ ∃ F' G', Txw w' t F' s' ∧ J w' F' G' l ∧ Fr F0 w0 (fun k => F' k ∨ G' k) w'

end Go.Proofs.Ytcgdpclhlepofaa
/- A chain taken out of a queue, read, turned, laid back, given back: on plain words. No program in sight. -/
namespace Go.Proofs.Ytcgdpclhlepofaa
open Go.RowKit
set_option linter.unusedVariables false
set_option maxHeartbeats 1000000
theorem sput_wrt {s : St} {n : Nat} (h : Ok s n) {a : Int} (ha : a < s.W.length) (x : Int) : sput s a x = (0, wrt s a x) := sput_live h ha x
theorem sget_rdt {s : St} {n : Nat} (h : Ok s n) {a : Int} (ha : a < s.W.length) : sget s a = (s.W.getD a.toNat 0, 0, rdt s a) := sget_live h ha
/-- A chain: its nodes lead to each other, none of their cells is another's. -/
structure Chn (W : List Int) (ns xs : List Int) : Prop where
  lnk : Lnk W ns xs 0
  inn : ∀ n ∈ ns, 0 ≤ n ∧ n + 1 < (W.length : Int)
  nn : ns.Pairwise fun x y => Disj (x, 2) (y, 2)
  lw : (W.length : Int) ≤ 4611686018427387904
def ndp (ns : List Int) : List (Int × Int) := ns.map fun n => (n, 2)
theorem Chn.keep {W W' : List Int} {ns xs : List Int} (h : Chn W ns xs) (hl : W'.length = W.length) (hk : ∀ u ∈ ndp ns, ∀ j : Int, u.1 ≤ j → j < u.1 + u.2 → W'.getD j.toNat 0 = W.getD j.toNat 0) : Chn W' ns xs where
  lnk := h.lnk.keep fun n hn => by
    have := hk (n, 2) (List.mem_map.2 ⟨n, hn, rfl⟩)
    simp only at this
    exact ⟨this n (by omega) (by omega), this (n + 1) (by omega) (by omega)⟩
  inn := fun n hn => by rw [hl]; exact h.inn n hn
  nn := h.nn
  lw := by rw [hl]; exact h.lw
theorem Qx.chn {W : List Int} {c : Int} {q : Qr} {X : List (Int × Int)} {back : Nat → List Int} (h : Qx W c q X back) : Chn W q.nodes q.words :=
  ⟨h.st.lnk, fun n hn => by have := h.inn (pcs_nd hn); simp only at this; omega, h.apt.nn, h.lw⟩
theorem Qx.whole {W : List Int} {c : Int} {q : Qr} {X : List (Int × Int)} {back : Nat → List Int} (h : Qx W c q X back) (hn : (q.nodes.length : Int) ≤ 65536) : Go.Proofs.Ytcgdpclhlepofaa.whole W q.hd = (q.nodes, true) := by
  obtain ⟨g1, g2, g3⟩ := h.inn (pcs_hd q)
  simp only at g1 g2 g3
  have hst := h.st
  unfold Go.Proofs.Ytcgdpclhlepofaa.whole
  rw [if_neg (by omega), hst.count, if_neg (by omega), hst.first, chainGo_lnk (acc := []) hst.lnk (fun n hn => by
    have := h.inn (pcs_nd hn)
    simp only at this
    omega) (by simp) (by omega)]
  simp only [List.nil_append]
  rw [if_pos ⟨rfl, hst.count.symm, hst.last⟩]
/-- The chain is taken out. -/
theorem pQueue_x {s : St} {n : Nat} {c : Int} {q : Qr} {back : Nat → List Int} (hs : Ok s (n + 5)) (h : Qx s.W c q [] back) :
    ∃ s', pQueue q.hd s = (hdOr q.nodes 0, (q.nodes.length : Int), 0, s') ∧ Ok s' n ∧ s'.calls = s.calls + 5 ∧ s'.W.length = s.W.length ∧ Qx s'.W c ⟨q.hd, [], []⟩ (ndp q.nodes) back ∧ Chn s'.W q.nodes q.words ∧ s'.W.getD 0 0 = s.W.getD 0 0 := by
  obtain ⟨g1, g2, g3⟩ := h.inn (pcs_hd q)
  simp only at g1 g2 g3
  have hlw := h.lw
  have hA := h.apt
  have b0 : Ok s ((n + 4) + 1) := hs
  have b1 := rdt_ok b0 q.hd
  have b2 := rdt_ok b1 (q.hd + 2)
  have b3 := wrt_ok b2 q.hd 0
  have b4 := wrt_ok b3 (q.hd + 1) 0
  have b5 := wrt_ok b4 (q.hd + 2) 0
  have u1 : uAdd q.hd 1 = q.hd + 1 := uAdd_id (by omega) (by omega)
  have u2 : uAdd q.hd 2 = q.hd + 2 := uAdd_id (by omega) (by omega)
  have hmh : ((q.hd, (3 : Int)) : Int × Int) ∈ pcs q ++ [] := List.mem_append_left _ (pcs_hd q)
  have r1 := h.rm.put (j := q.hd) hmh (by simp only; omega) (by simp only; omega) 0
  have r2 := r1.put (j := q.hd + 1) hmh (by simp only; omega) (by simp only; omega) 0
  have r3 := r2.put (j := q.hd + 2) hmh (by simp only; omega) (by simp only; omega) 0
  have hg : ∀ j : Int, 0 ≤ j → (((s.W.set q.hd.toNat 0).set (q.hd + 1).toNat 0).set (q.hd + 2).toNat 0).getD j.toNat 0 = if q.hd + 2 = j then 0 else if q.hd + 1 = j then 0 else if q.hd = j then 0 else s.W.getD j.toNat 0 := fun j hj => by
    rw [gs _ (by omega) (by simp; omega) hj, gs _ (by omega) (by simp; omega) hj, gs _ (by omega) (by omega) hj]
  have hW : (wrt (wrt (wrt (rdt (rdt s q.hd) (q.hd + 2)) q.hd 0) (q.hd + 1) 0) (q.hd + 2) 0).W = ((s.W.set q.hd.toNat 0).set (q.hd + 1).toNat 0).set (q.hd + 2).toNat 0 := rfl
  refine ⟨wrt (wrt (wrt (rdt (rdt s q.hd) (q.hd + 2)) q.hd 0) (q.hd + 1) 0) (q.hd + 2) 0, ?_, b5, ?_, ?_, ?_, ?_, ?_⟩
  · have f1 : sget s q.hd = (hdOr q.nodes 0, 0, rdt s q.hd) := by rw [sget_rdt b0 (by omega), h.st.first]
    have f2 : sget (rdt s q.hd) (q.hd + 2) = ((q.nodes.length : Int), 0, rdt (rdt s q.hd) (q.hd + 2)) := by rw [sget_rdt b1 (by rw [rdt_W]; omega), rdt_W, h.st.count]
    have f3 : sput (rdt (rdt s q.hd) (q.hd + 2)) q.hd 0 = (0, wrt (rdt (rdt s q.hd) (q.hd + 2)) q.hd 0) := sput_wrt b2 (by rw [rdt_W, rdt_W]; omega) 0
    have f4 : sput (wrt (rdt (rdt s q.hd) (q.hd + 2)) q.hd 0) (q.hd + 1) 0 = (0, wrt (wrt (rdt (rdt s q.hd) (q.hd + 2)) q.hd 0) (q.hd + 1) 0) := sput_wrt b3 (by rw [wrt_W, rdt_W, rdt_W]; simp; omega) 0
    have f5 : sput (wrt (wrt (rdt (rdt s q.hd) (q.hd + 2)) q.hd 0) (q.hd + 1) 0) (q.hd + 2) 0 = (0, wrt (wrt (wrt (rdt (rdt s q.hd) (q.hd + 2)) q.hd 0) (q.hd + 1) 0) (q.hd + 2) 0) := sput_wrt b4 (by rw [wrt_W, wrt_W, rdt_W, rdt_W]; simp; omega) 0
    unfold pQueue pCut
    rw [u1, u2]
    simp only [f1, f2, pZero, f3, f4, f5]
    rfl
  · show ((((s.calls + 1) + 1) + 1) + 1) + 1 = _; omega
  · rw [hW]; simp
  · rw [hW]
    refine ⟨?_, ?_, by simp; exact hlw⟩
    · have e : pcs ⟨q.hd, [], []⟩ ++ ndp q.nodes = pcs q ++ [] := by simp [pcs, ndp]
      rw [e]
      exact r3
    · refine ⟨?_, ?_, ?_, trivial⟩
      · simp only
        rw [hg q.hd (by omega), if_neg (by omega), if_neg (by omega), if_pos rfl]; rfl
      · simp only
        rw [hg (q.hd + 1) (by omega), if_neg (by omega), if_pos rfl]; rfl
      · simp only
        rw [hg (q.hd + 2) (by omega), if_pos rfl]; rfl
  · rw [hW]
    refine h.chn.keep (by simp) fun u hu j hj1 hj2 => ?_
    obtain ⟨m, hm, rfl⟩ := List.mem_map.1 hu
    have d := hA.hn m hm
    have i := h.inn (pcs_nd hm)
    unfold Disj at d
    simp only at d i hj1 hj2
    rw [hg j (by omega), if_neg (by omega), if_neg (by omega), if_neg (by omega)]
  · rw [hW]
    rw [show (0 : Nat) = ((0 : Int)).toNat from rfl, hg 0 (by omega), if_neg (by omega), if_neg (by omega), if_neg (by omega)]
theorem hd_zero {ns : List Int} (h : ∀ n ∈ ns, 0 ≤ n) : (hdOr ns 0 = 0 ↔ ns = []) := by
  cases ns with
  | nil => simp [hdOr]
  | cons n t => have := h n (by simp); simp [hdOr]; omega
/-- Words told, node by node. -/
theorem pEach_read {count : Int} : ∀ {ns xs : List Int} {k : Nat} {n : Int} {l : List Int} {s : St} {m : Nat}, Chn s.W ns xs → Ok s (m + 2 * ns.length) → n + ns.length = count → ns.length < k →
    ∃ s', pEach stRead count k (hdOr ns 0) n l s = (0, l ++ xs, s') ∧ Ok s' m ∧ s'.W = s.W
  | [], [], k, n, l, s, m, _, hs, _, _ => ⟨s, by rw [List.append_nil]; exact pEach_end rfl, hs.mono (by simp), rfl⟩
  | [], _ :: _, _, _, _, _, _, h, _, _, _ => h.lnk.elim
  | _ :: _, [], _, _, _, _, _, h, _, _, _ => h.lnk.elim
  | nd :: ns, x :: xs, 0, n, l, s, m, h, hs, hc, hk => absurd hk (Nat.not_lt_zero _)
  | nd :: ns, x :: xs, k + 1, n, l, s, m, h, hs, hc, hk => by
    obtain ⟨w1, w2, w3⟩ := h.lnk
    obtain ⟨i1, i2⟩ := h.inn nd (by simp)
    have hlw := h.lw
    have b0 : Ok s ((m + 2 * ns.length + 1) + 1) := hs.mono (by simp only [List.length_cons]; omega)
    have b1 := rdt_ok b0 nd
    have b2 := rdt_ok b1 (nd + 1)
    have u0 : IntKind.u64.wrap (nd + 1 - 1) = nd := by rw [show nd + 1 - 1 = nd by omega, uw_id (by omega) (by omega)]
    have u1 : uAdd nd 1 = nd + 1 := uAdd_id (by omega) (by omega)
    have f1 : sget s nd = (x, 0, rdt s nd) := by rw [sget_rdt b0 (by omega), w1]
    have f2 : sget (rdt s nd) (nd + 1) = (hdOr ns 0, 0, rdt (rdt s nd) (nd + 1)) := by rw [sget_rdt b1 (by rw [rdt_W]; omega), rdt_W, w2]
    have hC : Chn (rdt (rdt s nd) (nd + 1)).W ns xs := ⟨w3, fun y hy => h.inn y (by simp [hy]), (List.pairwise_cons.1 h.nn).2, hlw⟩
    simp only [List.length_cons] at hc hk
    obtain ⟨s', e1, e2, e3⟩ := pEach_read (k := k) (n := n + 1) (l := l ++ [x]) (count := count) hC b2 (by omega) (by omega)
    refine ⟨s', ?_, e2, e3⟩
    show pEach stRead count (k + 1) (nd + 1) n l s = _
    rw [pEach_4 (w := x) (s1 := rdt s nd) (l2 := l ++ [x]) (s2 := rdt s nd) (nx := hdOr ns 0) (s3 := rdt (rdt s nd) (nd + 1)) (by omega) (by rw [u0]; exact f1) (by rfl) (by rw [u0, u1]; exact f2)]
    have hz := hd_zero (ns := ns) fun y hy => (h.inn y (by simp [hy])).1
    rw [if_pos, e1]
    · simp
    · by_cases hns : ns = []
      · subst hns
        have : n + 1 = count := by simp at hc; omega
        simp [hdOr, this]
      · have h1 : hdOr ns 0 ≠ 0 := fun e => hns (hz.1 e)
        have h2 : n + 1 ≠ count := fun e => hns (List.eq_nil_of_length_eq_zero (by omega))
        have h3 : (hdOr ns 0 == 0) = false := by simpa using h1
        have h4 : (n + 1 == count) = false := by simpa using h2
        rw [h3, h4]; rfl
/-- Nodes told. -/
theorem pEach_node {count : Int} : ∀ {ns xs : List Int} {k : Nat} {n : Int} {l : List Int} {s : St} {m : Nat}, Chn s.W ns xs → Ok s (m + 2 * ns.length) → n + ns.length = count → ns.length < k →
    ∃ s', pEach stNode count k (hdOr ns 0) n l s = (0, l ++ ns, s') ∧ Ok s' m ∧ s'.W = s.W
  | [], [], k, n, l, s, m, _, hs, _, _ => ⟨s, by rw [List.append_nil]; exact pEach_end rfl, hs.mono (by simp), rfl⟩
  | [], _ :: _, _, _, _, _, _, h, _, _, _ => h.lnk.elim
  | _ :: _, [], _, _, _, _, _, h, _, _, _ => h.lnk.elim
  | nd :: ns, x :: xs, 0, n, l, s, m, h, hs, hc, hk => absurd hk (Nat.not_lt_zero _)
  | nd :: ns, x :: xs, k + 1, n, l, s, m, h, hs, hc, hk => by
    obtain ⟨w1, w2, w3⟩ := h.lnk
    obtain ⟨i1, i2⟩ := h.inn nd (by simp)
    have hlw := h.lw
    have b0 : Ok s ((m + 2 * ns.length + 1) + 1) := hs.mono (by simp only [List.length_cons]; omega)
    have b1 := rdt_ok b0 nd
    have b2 := rdt_ok b1 (nd + 1)
    have u0 : IntKind.u64.wrap (nd + 1 - 1) = nd := by rw [show nd + 1 - 1 = nd by omega, uw_id (by omega) (by omega)]
    have u1 : uAdd nd 1 = nd + 1 := uAdd_id (by omega) (by omega)
    have f1 : sget s nd = (x, 0, rdt s nd) := by rw [sget_rdt b0 (by omega), w1]
    have f2 : sget (rdt s nd) (nd + 1) = (hdOr ns 0, 0, rdt (rdt s nd) (nd + 1)) := by rw [sget_rdt b1 (by rw [rdt_W]; omega), rdt_W, w2]
    have hC : Chn (rdt (rdt s nd) (nd + 1)).W ns xs := ⟨w3, fun y hy => h.inn y (by simp [hy]), (List.pairwise_cons.1 h.nn).2, hlw⟩
    simp only [List.length_cons] at hc hk
    obtain ⟨s', e1, e2, e3⟩ := pEach_node (k := k) (n := n + 1) (l := l ++ [nd]) (count := count) hC b2 (by omega) (by omega)
    refine ⟨s', ?_, e2, e3⟩
    show pEach stNode count (k + 1) (nd + 1) n l s = _
    rw [pEach_4 (w := x) (s1 := rdt s nd) (l2 := l ++ [nd]) (s2 := rdt s nd) (nx := hdOr ns 0) (s3 := rdt (rdt s nd) (nd + 1)) (by omega) (by rw [u0]; exact f1) (by rw [u0]; rfl) (by rw [u0, u1]; exact f2)]
    have hz := hd_zero (ns := ns) fun y hy => (h.inn y (by simp [hy])).1
    rw [if_pos, e1]
    · simp
    · by_cases hns : ns = []
      · subst hns
        have : n + 1 = count := by simp at hc; omega
        simp [hdOr, this]
      · have h1 : hdOr ns 0 ≠ 0 := fun e => hns (hz.1 e)
        have h2 : n + 1 ≠ count := fun e => hns (List.eq_nil_of_length_eq_zero (by omega))
        have h3 : (hdOr ns 0 == 0) = false := by simpa using h1
        have h4 : (n + 1 == count) = false := by simpa using h2
        rw [h3, h4]; rfl
/-- Words turned, node by node. -/
theorem pEach_turn {f : Int → Int} {count : Int} : ∀ {ns xs : List Int} {k : Nat} {n : Int} {l : List Int} {s : St} {m : Nat}, Chn s.W ns xs → Ok s (m + 3 * ns.length) → n + ns.length = count → ns.length < k →
    ∃ s', pEach (stTurn f) count k (hdOr ns 0) n l s = (0, l, s') ∧ Ok s' m ∧ s'.W.length = s.W.length ∧ Chn s'.W ns (xs.map f) ∧ ∀ j : Int, 0 ≤ j → (∀ y ∈ ns, j ≠ y) → s'.W.getD j.toNat 0 = s.W.getD j.toNat 0
  | [], [], k, n, l, s, m, h, hs, _, _ => ⟨s, pEach_end rfl, hs.mono (by simp), rfl, h, fun _ _ _ => rfl⟩
  | [], _ :: _, _, _, _, _, _, h, _, _, _ => h.lnk.elim
  | _ :: _, [], _, _, _, _, _, h, _, _, _ => h.lnk.elim
  | nd :: ns, x :: xs, 0, n, l, s, m, h, hs, hc, hk => absurd hk (Nat.not_lt_zero _)
  | nd :: ns, x :: xs, k + 1, n, l, s, m, h, hs, hc, hk => by
    obtain ⟨w1, w2, w3⟩ := h.lnk
    obtain ⟨i1, i2⟩ := h.inn nd (by simp)
    have hlw := h.lw
    have hnn := List.pairwise_cons.1 h.nn
    have b0 : Ok s ((m + 3 * ns.length + 2) + 1) := hs.mono (by simp only [List.length_cons]; omega)
    have b1 := rdt_ok b0 nd
    have b2 := wrt_ok b1 nd (f x)
    have b3 := rdt_ok b2 (nd + 1)
    have u0 : IntKind.u64.wrap (nd + 1 - 1) = nd := by rw [show nd + 1 - 1 = nd by omega, uw_id (by omega) (by omega)]
    have u1 : uAdd nd 1 = nd + 1 := uAdd_id (by omega) (by omega)
    have hg : ∀ j : Int, 0 ≤ j → (s.W.set nd.toNat (f x)).getD j.toNat 0 = if nd = j then f x else s.W.getD j.toNat 0 := fun j hj => gs _ (by omega) (by omega) hj
    have f1 : sget s nd = (x, 0, rdt s nd) := by rw [sget_rdt b0 (by omega), w1]
    have f2 : stTurn f nd x l (rdt s nd) = (0, l, wrt (rdt s nd) nd (f x)) := by
      unfold stTurn
      rw [sput_wrt b1 (by rw [rdt_W]; omega)]
    have f3 : sget (wrt (rdt s nd) nd (f x)) (nd + 1) = (hdOr ns 0, 0, rdt (wrt (rdt s nd) nd (f x)) (nd + 1)) := by
      rw [sget_rdt b2 (by rw [wrt_W, rdt_W]; simp; omega), wrt_W, rdt_W, hg _ (by omega), if_neg (by omega), w2]
    have hC : Chn (rdt (wrt (rdt s nd) nd (f x)) (nd + 1)).W ns xs := by
      rw [rdt_W, wrt_W, rdt_W]
      refine Chn.keep (W := s.W) ⟨w3, fun y hy => h.inn y (by simp [hy]), hnn.2, hlw⟩ (by simp) fun u hu j hj1 hj2 => ?_
      obtain ⟨y, hy, rfl⟩ := List.mem_map.1 hu
      have d := hnn.1 y hy
      have i := h.inn y (by simp [hy])
      unfold Disj at d
      simp only at d hj1 hj2
      rw [hg j (by omega), if_neg (by omega)]
    simp only [List.length_cons] at hc hk
    obtain ⟨s', e1, e2, e3, e4, e5⟩ := pEach_turn (f := f) (k := k) (n := n + 1) (l := l) (count := count) hC b3 (by omega) (by omega)
    have hl' : s'.W.length = s.W.length := by rw [e3, rdt_W, wrt_W, rdt_W]; simp
    have ho : ∀ j : Int, 0 ≤ j → (∀ y ∈ ns, j ≠ y) → s'.W.getD j.toNat 0 = if nd = j then f x else s.W.getD j.toNat 0 := fun j hj hy => by
      rw [e5 j hj hy, rdt_W, wrt_W, rdt_W, hg j hj]
    have hnd : ∀ y ∈ ns, nd ≠ y ∧ nd + 1 ≠ y := fun y hy => by
      have d := hnn.1 y hy
      unfold Disj at d
      simp only at d
      omega
    refine ⟨s', ?_, e2, hl', ⟨⟨?_, ?_, e4.lnk⟩, fun y hy => by rw [hl']; exact h.inn y hy, h.nn, by rw [hl']; exact hlw⟩, fun j hj hy => ?_⟩
    · show pEach (stTurn f) count (k + 1) (nd + 1) n l s = _
      rw [pEach_4 (w := x) (s1 := rdt s nd) (l2 := l) (s2 := wrt (rdt s nd) nd (f x)) (nx := hdOr ns 0) (s3 := rdt (wrt (rdt s nd) nd (f x)) (nd + 1)) (by omega) (by rw [u0]; exact f1) (by rw [u0]; exact f2) (by rw [u0, u1]; exact f3)]
      have hz := hd_zero (ns := ns) fun y hy => (h.inn y (by simp [hy])).1
      rw [if_pos, e1]
      by_cases hns : ns = []
      · subst hns
        have : n + 1 = count := by simp at hc; omega
        simp [hdOr, this]
      · have h1 : hdOr ns 0 ≠ 0 := fun e => hns (hz.1 e)
        have h2 : n + 1 ≠ count := fun e => hns (List.eq_nil_of_length_eq_zero (by omega))
        have h3 : (hdOr ns 0 == 0) = false := by simpa using h1
        have h4 : (n + 1 == count) = false := by simpa using h2
        rw [h3, h4]; rfl
    · rw [ho nd i1 (fun y hy => (hnd y hy).1), if_pos rfl]
    · rw [ho (nd + 1) (by omega) (fun y hy => (hnd y hy).2), if_neg (by omega), w2]
    · rw [ho j hj (fun y h2 => hy y (by simp [h2])), if_neg (fun e => hy nd (by simp) e.symm)]
theorem pAll_chn {step : Int → Int → List Int → St → Int × List Int × St} {W : List Int} {ns xs : List Int} (h : Chn W ns xs) (hn : ns.length ≤ 65536) (s : St) : pAll step 1 (hdOr ns 0) ns.length s = pEach step ns.length 65537 (hdOr ns 0) 0 [] s := by
  have hz := hd_zero (ns := ns) fun y hy => (h.inn y hy).1
  unfold pAll
  rw [if_neg (by omega), if_neg]
  rintro (h1 | h1)
  · omega
  · by_cases hns : ns = []
    · subst hns; simp [hdOr] at h1
    · have h2 : (hdOr ns 0 == 0) = false := by simpa using fun e => hns (hz.1 e)
      have h3 : ((ns.length : Int) == 0) = false := by
        rw [beq_eq_false_iff_ne]
        intro e
        exact hns (List.eq_nil_of_length_eq_zero (by omega))
      rw [h2, h3] at h1
      simp at h1
theorem pRead_x {s : St} {m : Nat} {ns xs : List Int} (h : Chn s.W ns xs) (hs : Ok s (m + 2 * ns.length)) (hn : ns.length ≤ 65536) : ∃ s', pRead 1 (hdOr ns 0) ns.length s = (xs, 0, s') ∧ Ok s' m ∧ s'.W = s.W := by
  obtain ⟨s', e1, e2, e3⟩ := pEach_read (count := ns.length) (k := 65537) (n := 0) (l := []) h hs (by omega) (by omega)
  refine ⟨s', ?_, e2, e3⟩
  unfold pRead
  rw [pAll_chn h hn, e1]
  rfl
theorem pNodes_x {s : St} {m : Nat} {ns xs : List Int} (h : Chn s.W ns xs) (hs : Ok s (m + 2 * ns.length)) (hn : ns.length ≤ 65536) : ∃ s', pNodes 1 (hdOr ns 0) ns.length s = (ns, 0, s') ∧ Ok s' m ∧ s'.W = s.W := by
  obtain ⟨s', e1, e2, e3⟩ := pEach_node (count := ns.length) (k := 65537) (n := 0) (l := []) h hs (by omega) (by omega)
  refine ⟨s', ?_, e2, e3⟩
  unfold pNodes
  rw [pAll_chn h hn, e1]
  rfl
theorem pTurn_x {f : Int → Int} {s : St} {m : Nat} {ns xs : List Int} (h : Chn s.W ns xs) (hs : Ok s (m + 3 * ns.length)) (hn : ns.length ≤ 65536) : ∃ s', pTurn f 1 (hdOr ns 0) ns.length s = (0, s') ∧ Ok s' m ∧ s'.W.length = s.W.length ∧ Chn s'.W ns (xs.map f) ∧ ∀ j : Int, 0 ≤ j → (∀ y ∈ ns, j ≠ y) → s'.W.getD j.toNat 0 = s.W.getD j.toNat 0 := by
  obtain ⟨s', e1, e2, e3, e4, e5⟩ := pEach_turn (f := f) (count := ns.length) (k := 65537) (n := 0) (l := []) h hs (by omega) (by omega)
  refine ⟨s', ?_, e2, e3, e4, e5⟩
  unfold pTurn
  rw [pAll_chn h hn, e1]
/-- Cells of pieces that are out beside the queue turn: the queue stands. -/
theorem Qx.turn {W W' : List Int} {c : Int} {q : Qr} {ns : List Int} {back : Nat → List Int} (h : Qx W c q (ndp ns) back) (hl : W'.length = W.length) (hk : ∀ j : Int, 0 ≤ j → (∀ y ∈ ns, j ≠ y) → W'.getD j.toNat 0 = W.getD j.toNat 0) (hrm : Rm W' 18 c (pcs q ++ ndp ns) back) : Qx W' c q (ndp ns) back where
  rm := hrm
  st := h.st.keep fun u hu j hj1 hj2 => hk j (by have := h.inn hu; omega) fun y hy e => by
    have d := h.xo u hu (y, 2) (List.mem_map.2 ⟨y, hy, rfl⟩)
    unfold Disj at d
    simp only at d
    omega
  lw := by rw [hl]; exact h.lw
/-- Laid back: refused by a queue that has something. -/
theorem pBack_no {s : St} {n : Nat} {c : Int} {q : Qr} {X : List (Int × Int)} {back : Nat → List Int} (hs : Ok s (n + 1)) (h : Qx s.W c q X back) (hq : q.nodes ≠ []) (first count : Int) : ∃ s', pBack q.hd 1 first count s = (2, s') ∧ Ok s' n ∧ s'.W = s.W := by
  obtain ⟨g1, g2, g3⟩ := h.inn (pcs_hd q)
  simp only at g1 g2 g3
  have f1 : sget s q.hd = (hdOr q.nodes 0, 0, rdt s q.hd) := by rw [sget_rdt hs (by omega), h.st.first]
  have hz := hd_zero (ns := q.nodes) fun y hy => by have := h.inn (pcs_nd hy); simp only at this; omega
  refine ⟨rdt s q.hd, ?_, rdt_ok hs _, rfl⟩
  unfold pBack
  rw [if_neg (by omega)]
  simp only [f1]
  rw [if_neg (by decide), if_pos (by simpa using fun e => hq (hz.1 e))]
theorem lastOf_top {ns : List Int} (h : ∀ n ∈ ns, 0 ≤ n ∧ n + 1 < 18446744073709551615) : lastOf ns = topOf ns := by
  unfold lastOf topOf
  cases hl : ns.getLast? with
  | none => rfl
  | some x => have := h x (List.mem_of_getLast? hl); exact uAdd_id (by omega) (by omega)
theorem pBack_yes {s : St} {n : Nat} {c : Int} {d : Int} {ns xs : List Int} {back : Nat → List Int} (hs : Ok s (n + 4 + 2 * ns.length)) (h : Qx s.W c ⟨d, [], []⟩ (ndp ns) back) (hC : Chn s.W ns xs) (hn : ns.length ≤ 65536) :
    ∃ s', pBack d 1 (hdOr ns 0) ns.length s = (0, s') ∧ Ok s' n ∧ s'.W.length = s.W.length ∧ Qx s'.W c ⟨d, ns, xs⟩ [] back ∧ s'.W.getD 0 0 = s.W.getD 0 0 := by
  obtain ⟨g1, g2, g3⟩ := h.inn (pcs_hd _)
  simp only at g1 g2 g3
  have hlw := h.lw
  have b0 : Ok s ((n + 3 + 2 * ns.length) + 1) := hs.mono (by omega)
  have b1 := rdt_ok b0 d
  have f1 : sget s d = (0, 0, rdt s d) := by rw [sget_rdt b0 (by omega), h.st.first]; rfl
  obtain ⟨s2, e1, b2, e3⟩ := pNodes_x (s := rdt s d) (m := n + 3) hC b1 hn
  have hW2 : s2.W = s.W := e3
  have b2' : Ok s2 ((n + 2) + 1) := b2
  have b3 := wrt_ok b2' d (hdOr ns 0)
  have b4 := wrt_ok b3 (d + 1) (lastOf ns)
  have b5 := wrt_ok b4 (d + 2) (ns.length : Int)
  have u0 : uAdd d 0 = d := by rw [uAdd_id (by omega) (by omega)]; omega
  have u1 : uAdd d (0 + 1) = d + 1 := by rw [uAdd_id (by omega) (by omega)]; omega
  have u2 : uAdd d (0 + 1 + 1) = d + 2 := by rw [uAdd_id (by omega) (by omega)]; omega
  have hmh : ((d, (3 : Int)) : Int × Int) ∈ pcs ⟨d, [], []⟩ ++ ndp ns := List.mem_append_left _ (pcs_hd _)
  have r1 := h.rm.put (j := d) hmh (by simp only; omega) (by simp only; omega) (hdOr ns 0)
  have r2 := r1.put (j := d + 1) hmh (by simp only; omega) (by simp only; omega) (lastOf ns)
  have r3 := r2.put (j := d + 2) hmh (by simp only; omega) (by simp only; omega) (ns.length : Int)
  have hg : ∀ j : Int, 0 ≤ j → (((s.W.set d.toNat (hdOr ns 0)).set (d + 1).toNat (lastOf ns)).set (d + 2).toNat (ns.length : Int)).getD j.toNat 0 = if d + 2 = j then (ns.length : Int) else if d + 1 = j then lastOf ns else if d = j then hdOr ns 0 else s.W.getD j.toNat 0 := fun j hj => by
    rw [gs _ (by omega) (by simp; omega) hj, gs _ (by omega) (by simp; omega) hj, gs _ (by omega) (by omega) hj]
  have hW : (wrt (wrt (wrt s2 d (hdOr ns 0)) (d + 1) (lastOf ns)) (d + 2) (ns.length : Int)).W = ((s.W.set d.toNat (hdOr ns 0)).set (d + 1).toNat (lastOf ns)).set (d + 2).toNat (ns.length : Int) := by
    rw [wrt_W, wrt_W, wrt_W, hW2]
  refine ⟨wrt (wrt (wrt s2 d (hdOr ns 0)) (d + 1) (lastOf ns)) (d + 2) (ns.length : Int), ?_, b5, ?_, ?_, ?_⟩
  · have p1 : sput s2 (uAdd d 0) (hdOr ns 0) = (0, wrt s2 d (hdOr ns 0)) := by rw [u0]; exact sput_wrt b2' (by rw [hW2]; omega) _
    have p2 : sput (wrt s2 d (hdOr ns 0)) (uAdd d (0 + 1)) (lastOf ns) = (0, wrt (wrt s2 d (hdOr ns 0)) (d + 1) (lastOf ns)) := by rw [u1]; exact sput_wrt b3 (by rw [wrt_W, hW2]; simp; omega) _
    have p3 : sput (wrt (wrt s2 d (hdOr ns 0)) (d + 1) (lastOf ns)) (uAdd d (0 + 1 + 1)) (ns.length : Int) = (0, wrt (wrt (wrt s2 d (hdOr ns 0)) (d + 1) (lastOf ns)) (d + 2) (ns.length : Int)) := by rw [u2]; exact sput_wrt b4 (by rw [wrt_W, wrt_W, hW2]; simp; omega) _
    unfold pBack
    rw [if_neg (by omega)]
    simp only [f1, e1, pPuts, p1, p2, p3]
    rfl
  · rw [hW]; simp
  · rw [hW]
    refine ⟨?_, ?_, by simp; exact hlw⟩
    · have e : pcs ⟨d, ns, xs⟩ ++ [] = pcs ⟨d, [], []⟩ ++ ndp ns := by simp [pcs, ndp]
      rw [e]
      exact r3
    · refine ⟨?_, ?_, ?_, ?_⟩
      · simp only
        rw [hg d (by omega), if_neg (by omega), if_neg (by omega), if_pos rfl]
      · simp only
        rw [hg (d + 1) (by omega), if_neg (by omega), if_pos rfl]
        exact lastOf_top fun y hy => by have := hC.inn y hy; omega
      · simp only
        rw [hg (d + 2) (by omega), if_pos rfl]
      · simp only
        refine (hC.keep (by simp) fun u hu j hj1 hj2 => ?_).lnk
        have dd := h.xo _ (pcs_hd _) u hu
        obtain ⟨m1, m2, m3⟩ := h.xin hu
        unfold Disj at dd
        simp only at dd
        rw [hg j (by omega), if_neg (by omega), if_neg (by omega), if_neg (by omega)]
  · rw [hW, show (0 : Nat) = ((0 : Int)).toNat from rfl, hg 0 (by omega), if_neg (by omega), if_neg (by omega), if_neg (by omega)]
end Go.Proofs.Ytcgdpclhlepofaa
/- The list's calls, as plain functions of words: what each answers, what stands behind it. No program in sight. -/
namespace Go.Proofs.Ytcgdpclhlepofaa
open Go.RowKit
set_option linter.unusedVariables false

/-- a hand: e is the first error -/
def hget (s : St) (e a : Int) : Int × Int × St :=
  if e ≠ 0 then (0, e, s) else
  match sget s a with
  | (x, er, s1) => if er ≠ 0 then (0, er, s1) else (x, 0, s1)
def hput (s : St) (e a x : Int) : Int × St := if e = 0 then sput s a x else (e, s)
def htake (s : St) (e a z : Int) : Int × Int × St := if e ≠ 0 then (0, e, s) else rTake s a z
def hgive (s : St) (e a p z : Int) : Int × St := if e = 0 then rGive s a p z else (e, s)
def hbad (e : Int) : Int := if e = 0 then 310 else e
theorem hget_no {s : St} {e : Int} (h : e ≠ 0) (a : Int) : hget s e a = (0, e, s) := if_pos h
theorem hget_er {s s1 : St} {a x er : Int} (h : sget s a = (x, er, s1)) (he : er ≠ 0) : hget s 0 a = (0, er, s1) := by unfold hget; rw [if_neg (by simp), h]; simp only; rw [if_pos he]
theorem hget_ok {s s1 : St} {a x : Int} (h : sget s a = (x, 0, s1)) : hget s 0 a = (x, 0, s1) := by unfold hget; rw [if_neg (by simp), h]; simp
theorem hput_no {s : St} {e : Int} (h : e ≠ 0) (a x : Int) : hput s e a x = (e, s) := if_neg h
theorem hput_ok (s : St) (a x : Int) : hput s 0 a x = sput s a x := if_pos rfl
theorem htake_no {s : St} {e : Int} (h : e ≠ 0) (a z : Int) : htake s e a z = (0, e, s) := if_pos h
theorem htake_ok (s : St) (a z : Int) : htake s 0 a z = rTake s a z := if_neg (by simp)
theorem hgive_no {s : St} {e : Int} (h : e ≠ 0) (a p z : Int) : hgive s e a p z = (e, s) := if_neg h
theorem hgive_ok (s : St) (a p z : Int) : hgive s 0 a p z = rGive s a p z := if_pos rfl

/-- where a search has ended: the cell that leads on, the node (plus 1), its key, how many nodes are ahead -/
structure Pl where
  from_ : Int
  next : Int
  key : Int
  ahead : Int
/-- k: how many rounds more there may be; ks: the keys that were asked about -/
def fGo (q : Int → Bool) (count : Int) : Nat → Int → Pl → List Int → Int → St → Option (Pl × List Int × Int × St)
  | 0, _, _, _, _, _ => none
  | k + 1, last, p, ks, e, s =>
    match hget s e p.from_ with
    | (nx, e1, s1) =>
      if e1 ≠ 0 then some ({ p with next := nx }, ks, e1, s1)
      else if nx = 0 then some ({ p with next := nx }, ks, if p.ahead = count then 0 else 310, s1)
      else match hget s1 0 (IntKind.u64.wrap (nx - 1)) with
      | (key, e2, s2) =>
        if e2 ≠ 0 then some ({ p with next := nx, key := key }, ks, e2, s2)
        else if count ≤ p.ahead ∨ 0 < p.ahead ∧ key ≤ last then some ({ p with next := nx, key := key }, ks, 310, s2)
        else if q key = false then some ({ p with next := nx, key := key }, ks ++ [key], 0, s2)
        else fGo q count k key { from_ := nx, next := nx, key := key, ahead := uAdd p.ahead 1 } (ks ++ [key]) 0 s2
def hfind (q : Int → Bool) (k : Nat) (s : St) (e l : Int) : Option (Pl × List Int × Int × St) :=
  match hget s e l with
  | (count, e1, s1) => fGo q count k 0 { from_ := uAdd l 1, next := 0, key := 0, ahead := 0 } [] e1 s1
section
variable {q : Int → Bool} {count last nx e e1 e2 key : Int} {k : Nat} {p : Pl} {ks : List Int} {s s1 s2 : St}
theorem fGo_e1 (h : hget s e p.from_ = (nx, e1, s1)) (he : e1 ≠ 0) : fGo q count (k + 1) last p ks e s = some ({ p with next := nx }, ks, e1, s1) := by
  rw [fGo, h]; simp only; rw [if_pos he]
theorem fGo_end (h : hget s e p.from_ = (0, 0, s1)) : fGo q count (k + 1) last p ks e s = some ({ p with next := 0 }, ks, if p.ahead = count then 0 else 310, s1) := by
  rw [fGo, h]; simp
theorem fGo_e2 (h : hget s e p.from_ = (nx, 0, s1)) (hn : nx ≠ 0) (h2 : hget s1 0 (IntKind.u64.wrap (nx - 1)) = (key, e2, s2)) (he : e2 ≠ 0) : fGo q count (k + 1) last p ks e s = some ({ p with next := nx, key := key }, ks, e2, s2) := by
  rw [fGo, h]; simp only; rw [if_neg (by simp), if_neg hn, h2]; simp only; rw [if_pos he]
theorem fGo_bad (h : hget s e p.from_ = (nx, 0, s1)) (hn : nx ≠ 0) (h2 : hget s1 0 (IntKind.u64.wrap (nx - 1)) = (key, 0, s2)) (hb : count ≤ p.ahead ∨ 0 < p.ahead ∧ key ≤ last) : fGo q count (k + 1) last p ks e s = some ({ p with next := nx, key := key }, ks, 310, s2) := by
  rw [fGo, h]; simp only; rw [if_neg (by simp), if_neg hn, h2]; simp only; rw [if_neg (by simp), if_pos hb]
theorem fGo_stop (h : hget s e p.from_ = (nx, 0, s1)) (hn : nx ≠ 0) (h2 : hget s1 0 (IntKind.u64.wrap (nx - 1)) = (key, 0, s2)) (hb : ¬ (count ≤ p.ahead ∨ 0 < p.ahead ∧ key ≤ last)) (hq : q key = false) : fGo q count (k + 1) last p ks e s = some ({ p with next := nx, key := key }, ks ++ [key], 0, s2) := by
  rw [fGo, h]; simp only; rw [if_neg (by simp), if_neg hn, h2]; simp only; rw [if_neg (by simp), if_neg hb, if_pos hq]
theorem fGo_on (h : hget s e p.from_ = (nx, 0, s1)) (hn : nx ≠ 0) (h2 : hget s1 0 (IntKind.u64.wrap (nx - 1)) = (key, 0, s2)) (hb : ¬ (count ≤ p.ahead ∨ 0 < p.ahead ∧ key ≤ last)) (hq : q key = true) : fGo q count (k + 1) last p ks e s = fGo q count k key { from_ := nx, next := nx, key := key, ahead := uAdd p.ahead 1 } (ks ++ [key]) 0 s2 := by
  rw [fGo, h]; simp only; rw [if_neg (by simp), if_neg hn, h2]; simp only; rw [if_neg (by simp), if_neg hb, if_neg (by simp [hq])]
end
/-! The calls. -/
def lNew (s : St) (a : Int) : Int × Int × St :=
  match htake s 0 a 2 with
  | (l, e1, s1) => match hput s1 e1 l 0 with
    | (e2, s2) => match hput s2 e2 (uAdd l 1) 0 with
      | (e3, s3) => if e3 ≠ 0 then (0, e3, s3) else (l, 0, s3)
/-- behind the search: p, e -/
def lIns (p : Pl) (e : Int) (s : St) (a l key : Int) : Bool × Int × St :=
  match htake s e a 2 with
  | (n, e2, s2) => match hget s2 e2 l with
    | (count, e3, s3) => match hput s3 e3 n key with
      | (e4, s4) => match hput s4 e4 (uAdd n 1) p.next with
        | (e5, s5) => match hput s5 e5 p.from_ (uAdd n 1) with
          | (e6, s6) => match hput s6 e6 l (uAdd count 1) with
            | (e7, s7) => (e7 == 0, e7, s7)
def there (p : Pl) (key e : Int) : Bool := e == 0 && p.next != 0 && p.key == key
def lInsR (p : Pl) (e : Int) (s : St) (a l key : Int) : Bool × Int × St := if e ≠ 0 ∨ there p key e = true then (false, e, s) else lIns p e s a l key
def lRem (p : Pl) (e : Int) (s : St) (a l : Int) : Bool × Int × St :=
  match hget s e p.next with
  | (x, e2, s2) => match hput s2 e2 p.from_ x with
    | (e3, s3) => match hget s3 e3 l with
      | (c, e4, s4) => match hput s4 e4 l (IntKind.u64.wrap (c - 1)) with
        | (e5, s5) => match hgive s5 e5 a (IntKind.u64.wrap (p.next - 1)) 2 with
          | (e6, s6) => (e6 == 0, e6, s6)
def lRemR (p : Pl) (e : Int) (s : St) (a l key : Int) : Bool × Int × St := if e ≠ 0 ∨ there p key e = false then (false, e, s) else lRem p e s a l
/-- where so many nodes more lie -/
def nodesGo : Nat → Int → List Int → Int → St → List Int × Int × St
  | 0, _, out, e, s => (out, e, s)
  | k + 1, a, out, e, s => if e ≠ 0 then ([], e, s) else
    match hget s e a with
    | (x, e1, s1) => nodesGo k x (out ++ [IntKind.u64.wrap (a - 1)]) e1 s1
def nodesR (k : Nat) (e : Int) (s : St) (l : Int) : List Int × Int × St :=
  match hget s e (uAdd l 1) with
  | (a, e1, s1) => nodesGo k a [] e1 s1
theorem nodesGo_no {k : Nat} {a e : Int} {out : List Int} {s : St} (h : e ≠ 0) : nodesGo (k + 1) a out e s = ([], e, s) := if_pos h
theorem nodesGo_on {k : Nat} {a x e1 : Int} {out : List Int} {s s1 : St} (h : hget s 0 a = (x, e1, s1)) : nodesGo (k + 1) a out 0 s = nodesGo k x (out ++ [IntKind.u64.wrap (a - 1)]) e1 s1 := by
  rw [nodesGo, if_neg (by simp), h]
theorem nodesGo_bd : ∀ (k : Nat) (a e : Int) (out : List Int) (s : St), (∀ x ∈ out, 0 ≤ x ∧ x ≤ 18446744073709551615) → ∀ x ∈ (nodesGo k a out e s).1, 0 ≤ x ∧ x ≤ 18446744073709551615
  | 0, _, _, _, _, h => h
  | k + 1, a, e, out, s, h => by
    rw [nodesGo]
    split
    · intro x hx; simp at hx
    · split
      refine nodesGo_bd k _ _ _ _ fun x hx => ?_
      rcases List.mem_append.1 hx with hx | hx
      · exact h x hx
      · obtain rfl : x = IntKind.u64.wrap (a - 1) := by simpa using hx
        rw [IntKind.wrap_u64]; omega
theorem nodesR_bd (k : Nat) (e l : Int) (s : St) : ∀ x ∈ (nodesR k e s l).1, 0 ≤ x ∧ x ≤ 18446744073709551615 := by
  unfold nodesR
  split
  exact nodesGo_bd _ _ _ _ _ (by simp)
/-- nodes given back, one behind the other -/
def giveAll (a : Int) : List Int → Int → St → Int × St
  | [], e, s => (e, s)
  | p :: ps, e, s => match hgive s e a p 2 with
    | (e1, s1) => giveAll a ps e1 s1
/-- behind the search -/
def lClr (k : Nat) (e : Int) (s : St) (a l : Int) : Int × Int × St :=
  match nodesR k e s l with
  | (ns, e2, s2) => match hput s2 e2 l 0 with
    | (e3, s3) => match hput s3 e3 (uAdd l 1) 0 with
      | (e4, s4) => match giveAll a ns e4 s4 with
        | (e5, s5) => if e5 ≠ 0 then (0, e5, s5) else ((ns.length : Int), 0, s5)
end Go.Proofs.Ytcgdpclhlepofaa
