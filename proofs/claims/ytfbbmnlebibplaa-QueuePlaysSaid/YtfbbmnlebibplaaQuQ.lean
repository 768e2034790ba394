/- QueuePlays: what lies in memory between two calls. -/
import Derived.Test.YtfbbmnlebibplaaQuN
import Derived.Test.YtfbbmnlebibplaaQuK
import Derived.Test.YtfbbmnlebibplaaQuF
import Derived.Test.YtfbbmnlebibplaaQuG
import Derived.Test.YtfbbmnlebibplaaMix
namespace Go.Proofs.Ytfbbmnlebibplaa
open Go.RowKit
set_option maxHeartbeats 4000000
set_option linter.unusedVariables false
set_option linter.unusedSimpArgs false

def ptrs (ps : Nat → Nat) (n : Nat) : List Value := (List.range n).map fun i => .pointer (some ⟨ps i, 0, none⟩)
theorem ptrs_len (ps : Nat → Nat) (n : Nat) : (ptrs ps n).length = n := by simp [ptrs]
theorem ptrs_get (ps : Nat → Nat) {n i : Nat} (h : i < n) : (ptrs ps n)[i]? = some (.pointer (some ⟨ps i, 0, none⟩)) := by simp [ptrs, h]
theorem ptrs_one (ps : Nat → Nat) (n : Nat) : ∀ u ∈ ptrs ps n, u.oneCell' = true := by
  intro u hu
  obtain ⟨y, _, rfl⟩ := List.mem_map.1 hu
  rfl
theorem ptrs_congr {ps ps' : Nat → Nat} {n : Nat} (h : ∀ i, i < n → ps i = ps' i) : ptrs ps n = ptrs ps' n := List.map_congr_left fun i hi => by rw [h i (List.mem_range.1 hi)]
theorem ptrs_succ (ps : Nat → Nat) (n : Nat) : ptrs ps (n + 1) = ptrs ps n ++ [.pointer (some ⟨ps n, 0, none⟩)] := by simp [ptrs, List.range_succ]

/-- the program's and the document's words, the queues of the document, which block is whose -/
structure Qw (B : Nat) (W0 w : World) (xb t b : Nat) (v : Value) (ps : Nat → Nat) (X : Nat → Nat → Prop) (s r : St) (qs : List Qr) : Prop where
  fam : Fam B w X
  blk : Blk w xb 31 #[.pointer (some ⟨t, 0, none⟩), .pointer (some ⟨b, 0, none⟩), v]
  tx : Txw w t (X 0) s
  wl : Wld w b (X 1) r
  row : Rowv w 0 43 1 v qs.length (ptrs ps qs.length)
  hold : ∀ k, X 2 k ↔ (k = xb ∨ own v k)
  q : ∀ i q, qs[i]? = some q → Qm w (ps i) (X (3 + i)) q
  no : ∀ i, qs.length ≤ i → ∀ k, ¬ X (3 + i) k
  bel : Below B W0 w
section
variable {B : Nat} {W0 w w' : World} {xb t b : Nat} {v : Value} {ps : Nat → Nat} {X : Nat → Nat → Prop} {s s' r r' : St} {qs : List Qr}
theorem Qw.old (h : Qw B W0 w xb t b v ps X s r qs) (hb : Below w.heap.size w w') : Qw B W0 w' xb t b v ps X s r qs :=
  have hk : ∀ i k, X i k → w'.heap[k]? = w.heap[k]? := fun i k hk => hb.block k (h.fam.lt i k hk)
  ⟨h.fam.size hb.size, (hk 2 xb ((h.hold xb).2 (.inl rfl))).trans h.blk, h.tx.keep (hk 0), h.wl.keep (hk 1), h.row.keep fun k hv => hk 2 k ((h.hold k).2 (.inr hv)), h.hold, fun i q hq => (h.q i q hq).keep (hk (3 + i)), h.no, h.bel.trans (hb.mono h.fam.base)⟩
theorem Qw.drewN (h : Qw B W0 w xb t b v ps X s r qs) (n : Nat) : Qw B W0 (w.drewN n) xb t b v ps X s r qs := h.old (below_drewNs (Below.refl _ _) n)
theorem Qw.alloc (h : Qw B W0 w xb t b v ps X s r qs) (o : Obj) : Qw B W0 (w.alloc o) xb t b v ps X s r qs := h.old ((Below.refl _ _).alloc (Nat.le_refl _) o)
theorem Qw.step0 {F : Nat → Prop} (h : Qw B W0 w xb t b v ps X s r qs) (hw : Txw w' t F s') (hf : Fr (X 0) w F w') : Qw B W0 w' xb t b v ps (upd X 0 F) s' r qs :=
  have hk : ∀ i, i ≠ 0 → ∀ k, X i k → w'.heap[k]? = w.heap[k]? := fun i hi => h.fam.keep hf hi
  ⟨h.fam.step hf hw.lt, (hk 2 (by omega) xb ((h.hold xb).2 (.inl rfl))).trans h.blk, by rw [upd_eq]; exact hw, by rw [upd_ne X F (by omega)]; exact h.wl.keep (hk 1 (by omega)), h.row.keep fun k hv => hk 2 (by omega) k ((h.hold k).2 (.inr hv)), fun k => by rw [upd_ne X F (by omega)]; exact h.hold k,
    fun i q hq => by rw [upd_ne X F (by omega)]; exact (h.q i q hq).keep (hk (3 + i) (by omega)), fun i hi k => by rw [upd_ne X F (by omega)]; exact h.no i hi k, h.bel.trans (h.fam.below hf)⟩
theorem Qw.step1 {F : Nat → Prop} (h : Qw B W0 w xb t b v ps X s r qs) (hw : Wld w' b F r') (hf : Fr (X 1) w F w') : Qw B W0 w' xb t b v ps (upd X 1 F) s r' qs :=
  have hk : ∀ i, i ≠ 1 → ∀ k, X i k → w'.heap[k]? = w.heap[k]? := fun i hi => h.fam.keep hf hi
  ⟨h.fam.step hf hw.lt, (hk 2 (by omega) xb ((h.hold xb).2 (.inl rfl))).trans h.blk, by rw [upd_ne X F (by omega)]; exact h.tx.keep (hk 0 (by omega)), by rw [upd_eq]; exact hw, h.row.keep fun k hv => hk 2 (by omega) k ((h.hold k).2 (.inr hv)), fun k => by rw [upd_ne X F (by omega)]; exact h.hold k,
    fun i q hq => by rw [upd_ne X F (by omega)]; exact (h.q i q hq).keep (hk (3 + i) (by omega)), fun i hi k => by rw [upd_ne X F (by omega)]; exact h.no i hi k, h.bel.trans (h.fam.below hf)⟩
/-- the document's words and one queue turn -/
theorem Qw.step2 {F G : Nat → Prop} {n : Nat} {q' : Qr} (h : Qw B W0 w xb t b v ps X s r qs) (hn : n < qs.length) (hw : Wld w' b F r') (hq : Qm w' (ps n) G q') (hd : ∀ k, F k → ¬ G k) (hf : Fr (fun k => X 1 k ∨ X (3 + n) k) w (fun k => F k ∨ G k) w') : Qw B W0 w' xb t b v ps (upd (upd X 1 F) (3 + n) G) s r' (qs.set n q') :=
  have hk : ∀ i, i ≠ 1 → i ≠ 3 + n → ∀ k, X i k → w'.heap[k]? = w.heap[k]? := fun i hi hi' => h.fam.keep2 hf hi hi'
  have e : ∀ i, i ≠ 1 → i ≠ 3 + n → upd (upd X 1 F) (3 + n) G i = X i := fun i hi hi' => by rw [upd_ne _ G hi', upd_ne X F hi]
  ⟨h.fam.step2 (by omega) hf (fun k hk => hk.elim (hw.lt k) (hq.lt k)) hd, (hk 2 (by omega) (by omega) xb ((h.hold xb).2 (.inl rfl))).trans h.blk, by rw [e 0 (by omega) (by omega)]; exact h.tx.keep (hk 0 (by omega) (by omega)), by rw [upd_ne _ G (by omega), upd_eq]; exact hw, by rw [List.length_set]; exact h.row.keep fun k hv => hk 2 (by omega) (by omega) k ((h.hold k).2 (.inr hv)), fun k => by rw [e 2 (by omega) (by omega)]; exact h.hold k,
    fun i q hi => by
      by_cases hin : i = n
      · subst hin
        rw [List.getElem?_set_self hn] at hi
        injection hi with hi
        subst hi
        rw [upd_eq]
        exact hq
      · rw [List.getElem?_set_ne (Ne.symm hin)] at hi
        rw [e (3 + i) (by omega) (by omega)]
        exact (h.q i q hi).keep (hk (3 + i) (by omega) (by omega)), fun i hi k => by rw [List.length_set] at hi; rw [e (3 + i) (by omega) (by omega)]; exact h.no i hi k, h.bel.trans (h.fam.below2 hf)⟩
/-- what is read of it -/
theorem Qw.cells (h : Qw B W0 w xb t b v ps X s r qs) : ∃ A c b1 v1, v = .slice A qs.length c ∧ qs.length ≤ c ∧ w.cell? ⟨xb, 0, none⟩ = some (.pointer (some ⟨t, 0, none⟩)) ∧ w.cell? ⟨xb, 1, none⟩ = some (.pointer (some ⟨b, 0, none⟩)) ∧ w.cell? ⟨xb, 2, none⟩ = some (.slice A qs.length c) ∧ w.frozen? ⟨xb, 2, none⟩ = false ∧
    w.cell? ⟨t, 0, none⟩ = some (.pointer (some ⟨b1, 0, none⟩)) ∧ w.cell? ⟨b1, 0, none⟩ = some v1 ∧ Lies w v1 s.W := by
  obtain ⟨A, c, hv, hc, _⟩ := h.row.shape
  obtain ⟨b1, v1, k1, k2, k3⟩ := h.tx.lies
  exact ⟨A, c, b1, v1, hv, hc, by rw [h.blk.cell]; rfl, by rw [h.blk.cell]; rfl, by rw [h.blk.cell, hv]; rfl, h.blk.frozen 2, k1, k2, k3⟩
theorem Qw.at_ (h : Qw B W0 w xb t b v ps X s r qs) {n : Nat} (hn : n < qs.length) : ∃ g o c, v = .slice (some ⟨g, o, none⟩) qs.length c ∧ w.cell? ⟨g, o + n, none⟩ = some (.pointer (some ⟨ps n, 0, none⟩)) := by
  obtain ⟨g, o, c, hv, _, _, _, hc⟩ := h.row.at_ (by omega)
  exact ⟨g, o, c, hv, by rw [(hc n (by omega)).1]; exact ptrs_get ps hn⟩
end
theorem Fr.app {w w' : World} {v v' : Value} (hgr : w.grownBy w' v.ownBlock) (hown : v'.ownBlock = v.ownBlock ∨ ∃ k, v'.ownBlock = some k ∧ w.heap.size ≤ k) : Fr (own v) w (own v') w' := by
  refine ((Fr.refl (own v) w).grown hgr (fun k hk => .inl hk)).into fun k hk => ?_
  rcases hown with e | ⟨k', e, hk'⟩
  · exact .inl (by unfold own at *; rw [← e]; exact hk)
  · unfold own at hk
    rw [hk] at e
    injection e with e
    subst e
    exact .inr (.inr hk')
theorem pq_info : (Try.prog.info? 43).map (fun i => (i.zero, i.size, i.bytes)) = some (some (.pointer none), 1, 8) := by kernel_rfl
/-- one queue more -/
theorem Qw.add {B : Nat} {W0 w w' : World} {xb t b g : Nat} {v v' : Value} {ps : Nat → Nat} {X : Nat → Nat → Prop} {s r : St} {qs : List Qr} {q : Qr} (h : Qw B W0 w xb t b v ps X s r qs) (hq : Qm w g (fun k => k = g) q) (hg : B ≤ g) (hX : ∀ i, ¬ X i g)
    (hr : Rowv w' 0 43 1 v' (qs.length + 1) (ptrs ps qs.length ++ [.pointer (some ⟨g, 0, none⟩)])) (hf : Fr (own v) w (own v') w') : ∃ X', Qw B W0 (w'.setCell ⟨xb, 2, none⟩ v') xb t b v' (fun i => if i = qs.length then g else ps i) X' s r (qs ++ [q]) := by
  have hxb : X 2 xb := (h.hold xb).2 (.inl rfl)
  have hB' : Blk w' xb 31 _ := hf.blk h.blk fun ho => h.row.ne_ h.blk (by decide) ho
  have hvx : ¬ own v' xb := hr.ne_ hB' (by decide)
  have hf2 : Fr (X 2) w (fun k => k = xb ∨ own v' k) (w'.setCell ⟨xb, 2, none⟩ v') := ((hf.wide (G := X 2) fun k hk => (h.hold k).2 (.inr hk)).into (G := fun k => k = xb ∨ own v' k) fun k hk => hk.elim (fun e => .inr (.inl (e ▸ hxb))) .inl).set (.inl (.inl rfl)) v'
  have hsz : (w'.setCell ⟨xb, 2, none⟩ v').heap.size = w'.heap.size := by simp [World.setCell]
  have hlt : ∀ k, (k = xb ∨ own v' k) → k < (w'.setCell ⟨xb, 2, none⟩ v').heap.size := fun k hk => by
    rw [hsz]
    rcases hk with rfl | hk
    · exact hB'.lt
    · exact (hr.lt hk).2
  have hfm := h.fam.step hf2 hlt
  have hk : ∀ i, i ≠ 2 → ∀ k, X i k → (w'.setCell ⟨xb, 2, none⟩ v').heap[k]? = w.heap[k]? := fun i hi => h.fam.keep hf2 hi
  have hgw := hq.lt g rfl
  have hgk : (w'.setCell ⟨xb, 2, none⟩ v').heap[g]? = w.heap[g]? := hf2.block g hgw (hX 2)
  have hno : ∀ i, ¬ upd X 2 (fun k => k = xb ∨ own v' k) i g := fun i hi => by
    by_cases e : i = 2
    · subst e
      rw [upd_eq] at hi
      exact (hf2.new g hi).elim (hX 2) fun h1 => by omega
    · rw [upd_ne _ _ e] at hi
      exact hX i hi
  have hfm2 : Fam B (w'.setCell ⟨xb, 2, none⟩ v') (upd (upd X 2 (fun k => k = xb ∨ own v' k)) (3 + qs.length) (fun k => k = g)) := by
    have hkey : ∀ i k, upd (upd X 2 (fun k => k = xb ∨ own v' k)) (3 + qs.length) (fun k => k = g) i k → (i = 3 + qs.length ∧ k = g) ∨ (i ≠ 3 + qs.length ∧ upd X 2 (fun k => k = xb ∨ own v' k) i k) := fun i k hi => by
      by_cases e : i = 3 + qs.length
      · subst e; rw [upd_eq] at hi; exact .inl ⟨rfl, hi⟩
      · rw [upd_ne _ _ e] at hi; exact .inr ⟨e, hi⟩
    refine ⟨fun i k hi => ?_, fun i k hi => ?_, fun i j k hi hj => ?_, hfm.base⟩
    · rcases hkey i k hi with ⟨_, rfl⟩ | ⟨_, h1⟩
      · rw [hsz]; exact Nat.lt_of_lt_of_le hgw hf.size
      · exact hfm.lt i k h1
    · rcases hkey i k hi with ⟨_, rfl⟩ | ⟨_, h1⟩
      · exact hg
      · exact hfm.ge i k h1
    · rcases hkey i k hi with ⟨e1, rfl⟩ | ⟨e1, h1⟩
      · rcases hkey j _ hj with ⟨e2, _⟩ | ⟨_, h2⟩
        · rw [e1, e2]
        · exact (hno j h2).elim
      · rcases hkey j k hj with ⟨e2, rfl⟩ | ⟨_, h2⟩
        · exact (hno i h1).elim
        · exact hfm.ap i j k h1 h2
  have e : ∀ i, i ≠ 2 → i ≠ 3 + qs.length → upd (upd X 2 (fun k => k = xb ∨ own v' k)) (3 + qs.length) (fun k => k = g) i = X i := fun i hi hi' => by rw [upd_ne _ _ hi', upd_ne _ _ hi]
  have e2 : upd (upd X 2 (fun k => k = xb ∨ own v' k)) (3 + qs.length) (fun k => k = g) 2 = fun k => k = xb ∨ own v' k := by rw [upd_ne _ _ (by omega), upd_eq]
  refine ⟨_, hfm2, by simpa using hB'.set_ 2 v', by rw [e 0 (by omega) (by omega)]; exact h.tx.keep (hk 0 (by omega)), by rw [e 1 (by omega) (by omega)]; exact h.wl.keep (hk 1 (by omega)), ?_, fun k => by rw [e2], fun i q' hi => ?_, fun i hi k => ?_, h.bel.trans (h.fam.below hf2)⟩
  · rw [List.length_append, List.length_singleton, ptrs_succ, if_pos rfl, ptrs_congr (ps' := ps) fun i hi => if_neg (by omega)]
    exact hr.far (p := ⟨xb, 2, none⟩) hvx _
  · by_cases hin : i = qs.length
    · subst hin
      rw [List.getElem?_append_right (Nat.le_refl _)] at hi
      simp only [Nat.sub_self, List.getElem?_cons_zero, Option.some.injEq] at hi
      subst hi
      rw [upd_eq]
      show Qm _ (if qs.length = qs.length then g else ps qs.length) _ _
      rw [if_pos rfl]
      exact hq.keep fun k hk => by rw [hk]; exact hgk
    · have hil : i < qs.length := by
        have := (List.getElem?_eq_some_iff.1 hi).1
        simp at this
        omega
      rw [List.getElem?_append_left hil] at hi
      rw [e (3 + i) (by omega) (by omega)]
      show Qm _ (if i = qs.length then g else ps i) _ _
      rw [if_neg hin]
      exact (h.q i q' hi).keep (hk (3 + i) (by omega))
  · rw [List.length_append, List.length_singleton] at hi
    rw [e (3 + i) (by omega) (by omega)]
    exact h.no i (by omega) k
theorem ptrs_drop (ps : Nat → Nat) {n m : Nat} (h : n < m) : (ptrs ps m).take n ++ (ptrs ps m).drop (n + 1) = ptrs (fun i => if i < n then ps i else ps (i + 1)) (m - 1) := by
  apply List.ext_getElem?
  intro i
  by_cases h1 : i < n
  · rw [List.getElem?_append_left (by simp [ptrs]; omega), List.getElem?_take, if_pos h1, ptrs_get _ (by omega), ptrs_get _ (by omega), if_pos h1]
  · rw [List.getElem?_append_right (by simp [ptrs]; omega), List.getElem?_drop, List.length_take, ptrs_len, Nat.min_eq_left (by omega)]
    by_cases h2 : i < m - 1
    · rw [show n + 1 + (i - n) = i + 1 by omega, ptrs_get _ (by omega), ptrs_get _ h2, if_neg h1]
    · rw [List.getElem?_eq_none (by simp [ptrs]; omega), List.getElem?_eq_none (by simp [ptrs]; omega)]
/-- one queue less -/
theorem Qw.drop {B : Nat} {W0 w w' : World} {xb t b n : Nat} {v v' : Value} {ps : Nat → Nat} {X : Nat → Nat → Prop} {s r : St} {qs : List Qr} (h : Qw B W0 w xb t b v ps X s r qs) (hn : n < qs.length)
    (hr : Rowv w' 0 43 1 v' (qs.length - 1) ((ptrs ps qs.length).take n ++ (ptrs ps qs.length).drop (n + 1))) (hf : Fr (own v) w (own v') w') : ∃ ps' X', Qw B W0 (w'.setCell ⟨xb, 2, none⟩ v') xb t b v' ps' X' s r (qs.eraseIdx n) := by
  have hxb : X 2 xb := (h.hold xb).2 (.inl rfl)
  have hB' : Blk w' xb 31 _ := hf.blk h.blk fun ho => h.row.ne_ h.blk (by decide) ho
  have hvx : ¬ own v' xb := hr.ne_ hB' (by decide)
  have hf2 : Fr (X 2) w (fun k => k = xb ∨ own v' k) (w'.setCell ⟨xb, 2, none⟩ v') := ((hf.wide (G := X 2) fun k hk => (h.hold k).2 (.inr hk)).into (G := fun k => k = xb ∨ own v' k) fun k hk => hk.elim (fun e => .inr (.inl (e ▸ hxb))) .inl).set (.inl (.inl rfl)) v'
  have hsz : (w'.setCell ⟨xb, 2, none⟩ v').heap.size = w'.heap.size := by simp [World.setCell]
  have hlt : ∀ k, (k = xb ∨ own v' k) → k < (w'.setCell ⟨xb, 2, none⟩ v').heap.size := fun k hk => by
    rw [hsz]
    rcases hk with rfl | hk
    · exact hB'.lt
    · exact (hr.lt hk).2
  have hfm := h.fam.step hf2 hlt
  have hk : ∀ i, i ≠ 2 → ∀ k, X i k → (w'.setCell ⟨xb, 2, none⟩ v').heap[k]? = w.heap[k]? := fun i hi => h.fam.keep hf2 hi
  have hin : ∀ i j : Nat, (if i < 3 + n then i else i + 1) = (if j < 3 + n then j else j + 1) → i = j := fun i j e => by
    by_cases h1 : i < 3 + n
    · rw [if_pos h1] at e
      by_cases h2 : j < 3 + n
      · rw [if_pos h2] at e; exact e
      · rw [if_neg h2] at e; omega
    · rw [if_neg h1] at e
      by_cases h2 : j < 3 + n
      · rw [if_pos h2] at e; omega
      · rw [if_neg h2] at e; omega
  have hfm2 := hfm.sub (f := fun i => if i < 3 + n then i else i + 1) hin
  have e0 : ∀ i, i < 3 + n → i ≠ 2 → upd X 2 (fun k => k = xb ∨ own v' k) (if i < 3 + n then i else i + 1) = X i := fun i hi hi' => by rw [if_pos hi, upd_ne _ _ hi']
  have e1 : ∀ i, 3 + n ≤ i → upd X 2 (fun k => k = xb ∨ own v' k) (if i < 3 + n then i else i + 1) = X (i + 1) := fun i hi => by rw [if_neg (by omega), upd_ne _ _ (by omega)]
  have e2 : upd X 2 (fun k => k = xb ∨ own v' k) (if 2 < 3 + n then 2 else 2 + 1) = fun k => k = xb ∨ own v' k := by rw [if_pos (by omega), upd_eq]
  obtain ⟨Z, hZ⟩ : ∃ Z : Nat → Nat → Prop, Z = fun i => upd X 2 (fun k => k = xb ∨ own v' k) (if i < 3 + n then i else i + 1) := ⟨_, rfl⟩
  rw [← hZ] at hfm2
  have hZi : ∀ i, Z i = upd X 2 (fun k => k = xb ∨ own v' k) (if i < 3 + n then i else i + 1) := fun i => by rw [hZ]
  have e0 : ∀ i, i < 3 + n → i ≠ 2 → Z i = X i := fun i hi hi' => (hZi i).trans (e0 i hi hi')
  have e1 : ∀ i, 3 + n ≤ i → Z i = X (i + 1) := fun i hi => (hZi i).trans (e1 i hi)
  have e2 : Z 2 = fun k => k = xb ∨ own v' k := (hZi 2).trans e2
  refine ⟨fun i => if i < n then ps i else ps (i + 1), Z, hfm2, by simpa using hB'.set_ 2 v', by rw [e0 0 (by omega) (by omega)]; exact h.tx.keep (hk 0 (by omega)), by rw [e0 1 (by omega) (by omega)]; exact h.wl.keep (hk 1 (by omega)), ?_, fun k => by rw [e2], fun i q' hi => ?_, fun i hi k => ?_, h.bel.trans (h.fam.below hf2)⟩
  · rw [List.length_eraseIdx, if_pos hn, ← ptrs_drop ps hn]
    exact hr.far (p := ⟨xb, 2, none⟩) hvx _
  · rw [List.getElem?_eraseIdx] at hi
    by_cases h1 : i < n
    · rw [if_pos h1] at hi
      rw [e0 (3 + i) (by omega) (by omega)]
      show Qm _ (if i < n then ps i else ps (i + 1)) _ _
      rw [if_pos h1]
      exact (h.q i q' hi).keep (hk (3 + i) (by omega))
    · rw [if_neg h1] at hi
      rw [e1 (3 + i) (by omega)]
      show Qm _ (if i < n then ps i else ps (i + 1)) _ _
      rw [if_neg h1]
      exact (h.q (i + 1) q' hi).keep (hk (3 + (i + 1)) (by omega))
  · rw [List.length_eraseIdx, if_pos hn] at hi
    rw [e1 (3 + i) (by omega)]
    exact h.no (i + 1) (by omega) k
end Go.Proofs.Ytfbbmnlebibplaa
