/- Lists of words that are written over and grown, each with a mark of its own: none shows another one's (parleykit.Apart). -/
import Derived.Test.YtfbbmnlebibplaaRow2
import Derived.Test.YtfbbmnlebibplaaFam
import Derived.Test.YtfbbmnlebibplaaWl
import Derived.Deep.LoopGhost
import Derived.Deep.DeepMust
import Derived.Deep.DeepCutAuto
import Derived.IntWalk
namespace Go.Proofs.Ytfbbmnlebibplaa
open Go.RowKit
set_option maxHeartbeats 4000000
set_option linter.unusedVariables false
set_option linter.unusedSimpArgs false

theorem sl_info : (Try.prog.info? 36).map (fun i => (i.zero, i.size, i.bytes)) = some (some (.slice none 0 0), 1, 24) := by kernel_rfl
/-- The lists that are told: where they are told of, which they are. -/
structure Ls (w : World) (A : Option Addr) (n : Nat) (V : Nat → Value) : Prop where
  at_ : ∀ i, i < n → ∃ g o, A = some ⟨g, o, none⟩ ∧ w.cell? ⟨g, o + i, none⟩ = some (V i) ∧ ∃ cs, Blk w g 36 cs
theorem Ls.keep {w w' : World} {A : Option Addr} {n : Nat} {V : Nat → Value} (h : Ls w A n V) (hk : ∀ g cs, Blk w g 36 cs → w'.heap[g]? = w.heap[g]?) : Ls w' A n V := ⟨fun i hi => by
  obtain ⟨g, o, h1, h2, cs, h3⟩ := h.at_ i hi
  have e := hk g cs h3
  exact ⟨g, o, h1, by unfold World.cell? at *; simp only [e]; exact h2, cs, e.trans h3⟩⟩
/-- the mark of the i-th list -/
def mk (i : Nat) : Int := 1099511627776 + i
def marks (n i : Nat) : List Int := List.replicate n (mk i)
theorem marks_len (n i : Nat) : (marks n i).length = n := by simp [marks]
theorem marks_get {n i j : Nat} (h : j < n) : (marks n i).getD j 0 = mk i := by simp [marks, List.getD_eq_getElem?_getD, h]
theorem marks_succ (n i : Nat) : marks n i ++ [mk i] = marks (n + 1) i := by simp [marks, List.replicate_succ']
/-- a list whose first k words are marked -/
def half (l : List Int) (k i : Nat) : List Int := marks k i ++ l.drop k
theorem half_len {l : List Int} {k i : Nat} (h : k ≤ l.length) : (half l k i).length = l.length := by simp [half, marks]; omega
theorem half_zero (l : List Int) (i : Nat) : half l 0 i = l := by simp [half, marks]
theorem half_all (l : List Int) (i : Nat) : half l l.length i = marks l.length i := by simp [half]
theorem half_set {l : List Int} {k i : Nat} (h : k < l.length) : (half l k i).set k (mk i) = half l (k + 1) i := by
  unfold half
  rw [List.set_append_right _ _ (by rw [marks_len]; exact Nat.le_refl _), marks_len, Nat.sub_self, List.drop_eq_getElem_cons h, List.set_cons_zero, ← marks_succ]
  simp
/-- what the first loop has done: the lists ahead of the i-th are marked, of that one the first k words -/
def turned (L : Nat → List Int) (i k j : Nat) : List Int := if j < i then marks (L j).length j else if j = i then half (L j) k j else L j
theorem turned_len (L : Nat → List Int) {i k j : Nat} (h : j = i → k ≤ (L j).length) : (turned L i k j).length = (L j).length := by
  unfold turned
  split
  · exact marks_len _ _
  · split
    · exact half_len (h (by assumption))
    · rfl
theorem turned_next (L : Nat → List Int) (i j : Nat) : turned L i (L i).length j = turned L (i + 1) 0 j := by
  unfold turned
  by_cases h1 : j < i
  · rw [if_pos h1, if_pos (by omega)]
  · rw [if_neg h1]
    by_cases h2 : j = i
    · subst h2; rw [if_pos rfl, if_pos (by omega), half_all]
    · rw [if_neg h2, if_neg (by omega)]
      by_cases h3 : j = i + 1
      · rw [if_pos h3, half_zero]
      · rw [if_neg h3]
/-- What stands between two rounds of the second loop: the first i lists have been grown, the longer ones are told of in v. -/
structure Lg (B : Nat) (w0 w : World) (A : Option Addr) (n i : Nat) (V N : Nat → Value) (L : Nat → List Int) (v : Value) : Prop where
  ls : Ls w A n V
  old : ∀ j, j < n → Lies w (V j) (marks (L j).length j)
  wl : ∀ j, i ≤ j → j < n → Wl w (V j) (marks (L j).length j)
  new : ∀ j, j < i → Lies w (N j) (marks ((L j).length + 20) j)
  row : Rowv w B 36 1 v i ((List.range i).map N)
  ow : ∀ j, j < i → ∀ k, own (N j) k → k < w.heap.size ∧ (own (V j) k ∨ B ≤ k) ∧ ¬ own v k
  lt : ∀ j, j < n → ∀ k, Go.Proofs.Ytfbbmnlebibplaa.own (V j) k → k < B
  at_ : ∀ g o, A = some ⟨g, o, none⟩ → 0 < n → g < B
  typ : ∀ j, j < n → ∀ g o, A = some ⟨g, o, none⟩ → ¬ Go.Proofs.Ytfbbmnlebibplaa.own (V j) g
  ap : ∀ i j k, i < n → j < n → Go.Proofs.Ytfbbmnlebibplaa.own (V i) k → Go.Proofs.Ytfbbmnlebibplaa.own (V j) k → i = j
  fr : Fr (fun k => ∃ i, i < n ∧ Go.Proofs.Ytfbbmnlebibplaa.own (V i) k) w0 (fun k => ∃ i, i < n ∧ Go.Proofs.Ytfbbmnlebibplaa.own (V i) k) w
  base : B ≤ w.heap.size
  b0 : w0.heap.size ≤ B
theorem Ls.keep' {w w' : World} {A : Option Addr} {n : Nat} {V : Nat → Value} (h : Ls w A n V) (hk : ∀ g o, A = some ⟨g, o, none⟩ → 0 < n → w'.heap[g]? = w.heap[g]?) : Ls w' A n V := ⟨fun i hi => by
  obtain ⟨g, o, h1, h2, cs, h3⟩ := h.at_ i hi
  have e := hk g o h1 (by omega)
  exact ⟨g, o, h1, by unfold World.cell? at *; simp only [e]; exact h2, cs, e.trans h3⟩⟩
theorem Lies.fr {w w' : World} {v : Value} {l : List Int} {G G' : Nat → Prop} (h : Lies w v l) (hf : Fr G w G' w') (hG : ∀ k, own v k → ¬ G k) : Lies w' v l := by
  obtain ⟨A, cp, rfl, hc, h0, h⟩ := h
  refine ⟨A, cp, rfl, hc, h0, fun j hj => ?_⟩
  obtain ⟨g, of, rfl, hcell⟩ := h j hj
  have hlt : g < w.heap.size := Nat.lt_of_not_le fun hh => by
    unfold World.cell? at hcell
    rw [Array.getElem?_eq_none hh] at hcell
    cases hcell
  have e := hf.block g hlt (hG g rfl)
  exact ⟨g, of, rfl, by unfold World.cell? at *; simp only [e]; exact hcell⟩
theorem Lies.cap {w : World} {A : Option Addr} {n c c0 : Nat} {l : List Int} (h : Lies w (.slice A n c) l) (h1 : n ≤ c0) (h2 : A = none → c0 = 0) : Lies w (.slice A n c0) l := by
  obtain ⟨A', cp, e, hc, h0, h⟩ := h
  injection e with e1 e2 e3
  subst e1
  subst e2
  exact ⟨A, c0, rfl, h1, h2, h⟩
/-- One word more, told in full. -/
theorem wpList_word2 {ops : Array Oper} {rest : List Oper} {o : Oper} {a : Act} {Q : Exit → Act → World → Prop} (wr : World) (hgd : o.guard = none) (s x : Operand)
    (ho : o.op = .call { callee := .builtin .append, args := #[s, x], argTypes := #[36, 36] })
    (v : Value) (l : List Int) (y : Int) (hs : a.eval s = v) (hl : Wl wr v l)
    (hx : a.eval x = .slice (some ⟨wr.heap.size, 0, none⟩) 1 1) (hlen : (l.length + 1) * 8 ≤ 140737488355328)
    (h : ∀ A cap w', l.length + 1 ≤ cap → Wl w' (.slice A (l.length + 1) cap) (l ++ [y]) → Wl w' v l → Fr (own v) wr (own (.slice A (l.length + 1) cap)) w' → ((∃ c, v = .slice A l.length c) ∨ ∀ k, own (.slice A (l.length + 1) cap) k → wr.heap.size ≤ k) → wpList Try.prog ops Q rest (a.put o.dst (.slice A (l.length + 1) cap)) w') :
    wpList Try.prog ops Q (o :: rest) a (wr.alloc (.cells #[.int .u64 y] 33)) := by
  obtain ⟨i0, hi, hz0, hz1, hz2⟩ := info_parts u64_info
  refine wpList_app2 _ hgd s x 36 ho 33 i0 (.int .u64 0) 1 8 Try.underlying36 hi hz0 hz1 hz2 rfl (by decide) 0 v l.length (u64s l) hs (Rowv.alloc hl _) _ 1 [.int .u64 y] hx
    (Src.lit wr (vs := [.int .u64 y]) rfl (by simp [Value.oneCell']) 1) (by unfold maxLen; omega) (by omega) (Nat.zero_le _) ?_
  intro v' w' hrow hold hgr hown
  obtain ⟨A, cap, rfl, hc, _⟩ := hrow.shape
  refine h A cap w' hc ?_ hold ?_ ?_
  · unfold Wl
    rw [show (l ++ [y]).length = l.length + 1 by simp, show u64s (l ++ [y]) = u64s l ++ [.int .u64 y] by simp [u64s]]
    exact hrow
  · refine ((((Fr.refl (own v) wr).alloc _).grown hgr (fun k hk => .inl hk))).into fun k hk => ?_
    rcases hown with ⟨A', c', e1, e2⟩ | ⟨k', e, hk'⟩
    · rw [e1]
      injection e2 with e2 _ _
      subst e2
      exact .inl (own_len hk)
    · unfold own at hk
      rw [hk] at e
      injection e with e
      subst e
      exact .inr (.inr (by simp at hk'; omega))
  · rcases hown with ⟨A', c', e1, e2⟩ | ⟨k', e, hk'⟩
    · injection e2 with e2 _ _
      subst e2
      exact .inl ⟨c', e1⟩
    · refine .inr fun k hk => ?_
      unfold own at hk
      rw [hk] at e
      injection e with e
      subst e
      simp at hk'
      omega
/-- One list more has been grown, and is told of. -/
theorem lg_step {B : Nat} {w0 w w2 w3 : World} {A : Option Addr} {n i : Nat} {V N : Nat → Value} {L : Nat → List Int} {v v' u : Value} (h : Lg B w0 w A n i V N L v) (hi : i < n) (hf : Fr (own (V i)) w (own u) w2) (hu : Wl w2 u (marks ((L i).length + 20) i)) (ho : Lies w2 (V i) (marks (L i).length i))
    (hr : Rowv w3 B 36 1 v' (i + 1) ((List.range i).map N ++ [u])) (hg : Fr (own v) w2 (own v') w3) : Lg B w0 w3 A n (i + 1) V (fun j => if j = i then u else N j) L v' := by
  have hvB : ∀ k, own v k → B ≤ k := fun k hk => (h.row.lt hk).1
  have hBs : B ≤ w.heap.size := h.base
  have hub : ∀ k, own u k → own (V i) k ∨ B ≤ k := fun k hk => (hf.new k hk).imp id fun h1 => by omega
  have huv : ∀ k, own u k → ¬ own v k := fun k hk hv => by
    have hvl := (h.row.lt hv).2
    rcases hf.new k hk with h1 | h1
    · have := h.lt i hi k h1; have := hvB k hv; omega
    · omega
  have hsz := hf.size
  have hsz3 := hg.size
  refine ⟨?_, fun j hj => ?_, fun j hj hjn => ?_, fun j hj => ?_, ?_, fun j hj k hk => ?_, h.lt, h.at_, h.typ, h.ap, ?_, by omega, h.b0⟩
  · refine (h.ls.keep' fun g o hA hn => hf.block g (by have := h.at_ g o hA hn; omega) (h.typ i hi g o hA)).keep' fun g o hA hn => hg.block g (by have := h.at_ g o hA hn; omega) fun hv => by have := hvB g hv; have := h.at_ g o hA hn; omega
  · by_cases e : j = i
    · subst e
      exact ho.fr hg fun k hk hv => by have := h.lt j hj k hk; have := hvB k hv; omega
    · exact ((h.old j hj).fr hf fun k hk hi' => e (h.ap j i k hj hi hk hi')).fr hg fun k hk hv => by have := h.lt j hj k hk; have := hvB k hv; omega
  · exact ((h.wl j (by omega) hjn).fr hf fun k hk hi' => by have := h.ap j i k hjn hi hk hi'; omega).fr hg fun k hk hv => by have := h.lt j hjn k hk; have := hvB k hv; omega
  · by_cases e : j = i
    · subst e
      rw [if_pos rfl]
      exact hu.lies.fr hg huv
    · rw [if_neg e]
      have hj' : j < i := by omega
      refine ((h.new j hj').fr hf fun k hk hi' => ?_).fr hg fun k hk => (h.ow j hj' k hk).2.2
      rcases (h.ow j hj' k hk).2.1 with h1 | h1
      · exact e (h.ap j i k (by omega) hi h1 hi')
      · have := h.lt i hi k hi'; omega
  · have e : (List.range (i + 1)).map (fun j => if j = i then u else N j) = (List.range i).map N ++ [u] := by
      rw [List.range_succ, List.map_append]
      congr 1
      · exact List.map_congr_left fun j hj => if_neg (by have := List.mem_range.1 hj; omega)
      · simp
    rw [e]
    exact hr
  · by_cases e : j = i
    · subst e
      rw [if_pos rfl] at hk
      refine ⟨Nat.lt_of_lt_of_le (hu.lt k hk) hsz3, hub k hk, fun hv => (hg.new k hv).elim (huv k hk) fun h1 => by have := hu.lt k hk; omega⟩
    · rw [if_neg e] at hk
      have hj' : j < i := by omega
      obtain ⟨h1, h2, h3⟩ := h.ow j hj' k hk
      exact ⟨by omega, h2, fun hv => (hg.new k hv).elim h3 fun h4 => by omega⟩
  · refine (h.fr.trans (((hf.wide (G := fun k => ∃ i, i < n ∧ own (V i) k) fun k hk => ⟨i, hi, hk⟩).into (G := fun k => ∃ i, i < n ∧ own (V i) k) fun k hk => .inr (.inl hk)))).beside hg fun k hk => ?_
    have := hvB k hk
    have := h.b0
    omega
end Go.Proofs.Ytfbbmnlebibplaa
