/- A set in a room, as the law sees it: what each call answers, by the plain set of words. -/
import Derived.Test.YtgbgodhkehnbdaaSkP0
namespace Go.Proofs.Ytgbgodhkehnbdaa
open Go.RowKit
set_option linter.unusedVariables false

/-- the words at 20 are a set of these words; so much of the room may be out -/
structure SetOk (s : St) (l : List Int) (c : Nat) : Prop where
  nodes : ∃ nodes back, SL s.W nodes back ∧ keysOf nodes = l ∧ nodes.length ≤ c
  top : s.W.getD 0 0 ≤ 40 + 10 * c
  err : s.err = 0
  srt : l.Pairwise (· < ·)
theorem SetOk.mono {s : St} {l : List Int} {c c' : Nat} (h : SetOk s l c) (hc : c ≤ c') : SetOk s l c' := by
  obtain ⟨⟨n, b, h1, h2, h3⟩, h4, h5, h6⟩ := h
  exact ⟨⟨n, b, h1, h2, by omega⟩, by omega, h5, h6⟩
theorem SetOk.make {s : St} {nodes : List Nd} {back : Nat → List Int} {c : Nat} (h : SL s.W nodes back) (h1 : nodes.length ≤ c) (h2 : s.W.getD 0 0 ≤ 40 + 10 * c) (h3 : s.err = 0) : SetOk s (keysOf nodes) c :=
  ⟨⟨nodes, back, h, rfl, h1⟩, h2, h3, by unfold keysOf; rw [List.pairwise_map]; exact h.srt⟩
theorem SetOk.len {s : St} {l : List Int} {c : Nat} (h : SetOk s l c) : s.W.length = 2000 := by
  obtain ⟨⟨n, b, h1, _⟩, _⟩ := h
  exact h1.len
theorem SetOk.count {s : St} {l : List Int} {c : Nat} (h : SetOk s l c) : l.length ≤ c := by
  obtain ⟨⟨n, b, _, h2, h3⟩, _⟩ := h
  rw [← h2]
  unfold keysOf
  simpa using h3
theorem SetOk.lk {s s' : St} {l : List Int} {c : Nat} (h : SetOk s l c) (hl : Lk s s') {N : Nat} (ho : Ok s' N) : SetOk s' l c := by
  obtain ⟨⟨n, b, h1, h2, h3⟩, h4, h5, h6⟩ := h
  exact ⟨⟨n, b, by rw [hl.1]; exact h1, h2, h3⟩, by rw [hl.1]; exact h4, ho.1, h6⟩
theorem keysOf_app (a b : List Nd) : keysOf (a ++ b) = keysOf a ++ keysOf b := by unfold keysOf; simp
theorem keysOf_lt {a : List Nd} {x : Int} (h : ∀ m ∈ a, m.key < x) : ∀ y ∈ keysOf a, y < x := fun y hy => by
  obtain ⟨m, hm, rfl⟩ := List.mem_map.1 hy
  exact h m hm
theorem keysOf_gt {a : List Nd} {x : Int} (h : ∀ m ∈ a, x < m.key) : ∀ y ∈ keysOf a, x < y := fun y hy => by
  obtain ⟨m, hm, rfl⟩ := List.mem_map.1 hy
  exact h m hm

theorem set_insert {s : St} {l : List Int} {c : Nat} (h : SetOk s l c) (hb : Bud s 4000) (hc : c ≤ 190) (x level : Int) :
    ∃ s', skInsert s 0 20 x level = (!lthere l x, 0, s') ∧ SetOk s' (lwith l x) (c + 1) := by
  obtain ⟨⟨nodes, back, h1, rfl, h3⟩, h4, h5, h6⟩ := h
  have hO : Ok s (0 + 4000) := ⟨h5, hb⟩
  rcases nodes_at x nodes h1.srt with ⟨pre, nd, post, e, rfl, e2, e3⟩ | ⟨pre, post, e, e2, e3⟩
  · obtain ⟨s', g1, g2, g3⟩ := h1.insert_at e level (N := 0) rfl (hO.mono (by omega))
    have hk : keysOf nodes = keysOf pre ++ nd.key :: keysOf post := by rw [e, keysOf_app]; rfl
    rw [hk, (lthere_at (keysOf_lt e2) (keysOf_gt e3)).1, lwith_at (keysOf_lt e2) (keysOf_gt e3), ← hk]
    exact ⟨s', g1, SetOk.make (by rw [g2.1]; exact h1) (by omega) (by rw [g2.1]; omega) g3.1⟩
  · obtain ⟨s', nd, back', g1, g2, g3, g4, g5⟩ := h1.insert_off e e2 e3 level (by omega) (by omega) (N := 0) rfl (hO.mono (by omega))
    have hk : keysOf nodes = keysOf pre ++ keysOf post := by rw [e, keysOf_app]
    rw [hk, (lthere_off (keysOf_lt e2) (keysOf_gt e3)).1, lwith_off (keysOf_lt e2) (keysOf_gt e3)]
    have hk2 : keysOf pre ++ x :: keysOf post = keysOf (pre ++ nd :: post) := by rw [keysOf_app, ← g3]; rfl
    rw [hk2]
    exact ⟨s', g1, SetOk.make g4 (by rw [e] at h3; simp at h3 ⊢; omega) (by omega) g2.1⟩

theorem set_remove {s : St} {l : List Int} {c : Nat} (h : SetOk s l c) (hb : Bud s 4000) (x : Int) :
    ∃ s', skRemove s 0 20 x = (lthere l x, 0, s') ∧ SetOk s' (lwithout l x) c := by
  obtain ⟨⟨nodes, back, h1, rfl, h3⟩, h4, h5, h6⟩ := h
  have hO : Ok s (0 + 4000) := ⟨h5, hb⟩
  rcases nodes_at x nodes h1.srt with ⟨pre, nd, post, e, rfl, e2, e3⟩ | ⟨pre, post, e, e2, e3⟩
  · obtain ⟨s', back', g1, g2, g3, g4⟩ := h1.remove_at e (N := 0) rfl (hO.mono (by omega))
    have hk : keysOf nodes = keysOf pre ++ nd.key :: keysOf post := by rw [e, keysOf_app]; rfl
    rw [hk, (lthere_at (keysOf_lt e2) (keysOf_gt e3)).1, lwithout_at (keysOf_lt e2) (keysOf_gt e3), ← keysOf_app]
    exact ⟨s', g1, SetOk.make g3 (by rw [e] at h3; simp at h3 ⊢; omega) (by omega) g2.1⟩
  · obtain ⟨s', g1, g2, g3⟩ := h1.remove_off e e2 e3 (N := 0) rfl (hO.mono (by omega))
    have hk : keysOf nodes = keysOf pre ++ keysOf post := by rw [e, keysOf_app]
    rw [hk, (lthere_off (keysOf_lt e2) (keysOf_gt e3)).1, lwithout_off (keysOf_lt e2) (keysOf_gt e3), ← hk]
    exact ⟨s', g1, SetOk.make (by rw [g2.1]; exact h1) h3 (by rw [g2.1]; exact h4) g3.1⟩

theorem set_has {s : St} {l : List Int} {c : Nat} (h : SetOk s l c) (hb : Bud s 4000) (x : Int) :
    ∃ s', skHas s 20 x = (lthere l x, 0, s') ∧ Lk s s' ∧ SetOk s' l c := by
  have h0 := h
  obtain ⟨⟨nodes, back, h1, rfl, h3⟩, h4, h5, h6⟩ := h
  have hO : Ok s (0 + 4000) := ⟨h5, hb⟩
  rcases nodes_at x nodes h1.srt with ⟨pre, nd, post, e, rfl, e2, e3⟩ | ⟨pre, post, e, e2, e3⟩
  · obtain ⟨s', g1, g2, g3⟩ := h1.has_at e (N := 0) rfl (hO.mono (by omega))
    have hk : keysOf nodes = keysOf pre ++ nd.key :: keysOf post := by rw [e, keysOf_app]; rfl
    refine ⟨s', ?_, g2, h0.lk g2 g3⟩
    rw [hk, (lthere_at (keysOf_lt e2) (keysOf_gt e3)).1]
    exact g1
  · obtain ⟨s', g1, g2, g3⟩ := h1.has_off e e2 e3 (N := 0) rfl (hO.mono (by omega))
    have hk : keysOf nodes = keysOf pre ++ keysOf post := by rw [e, keysOf_app]
    refine ⟨s', ?_, g2, h0.lk g2 g3⟩
    rw [hk, (lthere_off (keysOf_lt e2) (keysOf_gt e3)).1]
    exact g1

theorem set_first {s : St} {l : List Int} {c : Nat} (h : SetOk s l c) (hb : Bud s 4000) :
    ∃ s', skFirst s 20 = (l.getD 0 0, decide (0 < l.length), 0, s') ∧ Lk s s' ∧ SetOk s' l c := by
  have h0 := h
  obtain ⟨⟨nodes, back, h1, rfl, h3⟩, h4, h5, h6⟩ := h
  have hO : Ok s (0 + 4000) := ⟨h5, hb⟩
  cases nodes with
  | nil =>
    obtain ⟨s', g1, g2, g3⟩ := h1.first_nil rfl (N := 0) rfl (hO.mono (by omega))
    exact ⟨s', g1, g2, h0.lk g2 g3⟩
  | cons nd r =>
    obtain ⟨s', g1, g2, g3⟩ := h1.first_cons rfl (N := 0) rfl (hO.mono (by omega))
    exact ⟨s', g1, g2, h0.lk g2 g3⟩

/-- where the next word above stands -/
def lafter (l : List Int) (x : Int) : Nat := if lthere l x = true then lplace l x + 1 else lplace l x
theorem set_after {s : St} {l : List Int} {c : Nat} (h : SetOk s l c) (hb : Bud s 4000) (x : Int) :
    ∃ s', skAfter s 20 x = (l.getD (lafter l x) 0, decide (lafter l x < l.length), 0, s') ∧ Lk s s' ∧ SetOk s' l c := by
  have h0 := h
  obtain ⟨⟨nodes, back, h1, rfl, h3⟩, h4, h5, h6⟩ := h
  have hO : Ok s (0 + 4000) := ⟨h5, hb⟩
  have key : ∀ (pre post : List Nd), nodes = pre ++ post → (∀ m ∈ pre, m.key ≤ x) → (∀ m ∈ post, x < m.key) → lafter (keysOf nodes) x = pre.length → ∃ s', skAfter s 20 x = ((keysOf nodes).getD (lafter (keysOf nodes) x) 0, decide (lafter (keysOf nodes) x < (keysOf nodes).length), 0, s') ∧ Lk s s' ∧ SetOk s' (keysOf nodes) c := fun pre post e a1 a2 ha => by
    obtain ⟨s', g2, g3, g1⟩ := h1.after_ e a1 a2 (N := 0) rfl (hO.mono (by omega))
    refine ⟨s', ?_, g2, h0.lk g2 g3⟩
    rw [ha]
    have hpl : pre.length = (keysOf pre).length := by unfold keysOf; simp
    rcases g1 with ⟨rfl, g1⟩ | ⟨nd, r, rfl, g1⟩
    · rw [g1, e, keysOf_app, hpl]
      simp [keysOf]
    · rw [g1, e, keysOf_app, hpl]
      simp [keysOf, List.getD_eq_getElem?_getD]
  rcases nodes_at x nodes h1.srt with ⟨pre, nd, post, e, rfl, e2, e3⟩ | ⟨pre, post, e, e2, e3⟩
  · refine key (pre ++ [nd]) post (by rw [e]; simp) (fun m hm => ?_) e3 ?_
    · rcases List.mem_append.1 hm with hm | hm
      · have := e2 m hm; omega
      · obtain rfl : m = nd := by simpa using hm
        exact Int.le_refl _
    · have hk : keysOf nodes = keysOf pre ++ nd.key :: keysOf post := by rw [e, keysOf_app]; rfl
      obtain ⟨a, b⟩ := lthere_at (keysOf_lt e2) (keysOf_gt e3)
      unfold lafter
      rw [hk, if_pos a, b]
      unfold keysOf
      simp
  · refine key pre post e (fun m hm => by have := e2 m hm; omega) e3 ?_
    have hk : keysOf nodes = keysOf pre ++ keysOf post := by rw [e, keysOf_app]
    obtain ⟨a, b⟩ := lthere_off (keysOf_lt e2) (keysOf_gt e3)
    unfold lafter
    rw [hk, if_neg (by rw [a]; simp), b]
    unfold keysOf
    simp

theorem set_keys {s : St} {l : List Int} {c : Nat} (h : SetOk s l c) (hb : Bud s 4000) : ∃ s', skKeys s 20 = (l, 0, s') ∧ SetOk s' l c := by
  have h0 := h
  obtain ⟨⟨nodes, back, h1, rfl, h3⟩, h4, h5, h6⟩ := h
  obtain ⟨s', g1, g2, g3⟩ := h1.keys (s := s) (N := 0) rfl ⟨h5, hb.mono (by omega)⟩
  exact ⟨s', g1, h0.lk g2 g3⟩

/-- a word that is put in and taken out at once: the header stays -/
theorem set_back {s : St} {l : List Int} {c : Nat} (h : SetOk s l c) (hb : Bud s 4000) (hc : c ≤ 190) (x level : Int) (hx : lthere l x = false) :
    ∃ s1, skInsert s 0 20 x level = (true, 0, s1) ∧ ∀ (_ : Bud s1 4000), ∃ s2, skRemove s1 0 20 x = (true, 0, s2) ∧ SetOk s2 l (c + 1) ∧ ∀ k, k < 8 → s2.W.getD (20 + k) 0 = s.W.getD (20 + k) 0 := by
  obtain ⟨⟨nodes, back, h1, rfl, h3⟩, h4, h5, h6⟩ := h
  have hO : Ok s (0 + 4000) := ⟨h5, hb⟩
  rcases nodes_at x nodes h1.srt with ⟨pre, nd, post, e, rfl, e2, e3⟩ | ⟨pre, post, e, e2, e3⟩
  · have hk : keysOf nodes = keysOf pre ++ nd.key :: keysOf post := by rw [e, keysOf_app]; rfl
    rw [hk, (lthere_at (keysOf_lt e2) (keysOf_gt e3)).1] at hx
    cases hx
  · obtain ⟨s1, nd, back', g1, g2, rfl, g4, g5⟩ := h1.insert_off e e2 e3 level (by omega) (by omega) (N := 0) rfl (hO.mono (by omega))
    refine ⟨s1, g1, fun hb1 => ?_⟩
    obtain ⟨s2, back2, k1, k2, k3, k4⟩ := g4.remove_at rfl (N := 0) rfl (⟨g2.1, hb1.mono (by omega)⟩ : Ok s1 (0 + 3100))
    refine ⟨s2, k1, ?_, fun k hk => ?_⟩
    · rw [e]
      exact SetOk.make k3 (by rw [e] at h3; omega) (by omega) k2.1
    · rw [k3.hd k hk, h1.hd k hk, e]

/-- an empty set -/
theorem set_new {s : St} {back : Nat → List Int} (h : Rm s.W 40 2000 [] back) (hl : s.W.length = 2000) (h0 : ∀ k, k < 8 → s.W.getD (20 + k) 0 = 0) (h1 : s.W.getD 0 0 = 40) (he : s.err = 0) : SetOk s [] 0 :=
  SetOk.make (nodes := []) (back := back) ⟨h, (fun nd h => nomatch h), (fun k hk => by rw [h0 k hk]; rfl), (fun l1 nd l2 e => by cases l1 <;> cases e), .nil, hl, by simp⟩ (by simp) (by omega) he
end Go.Proofs.Ytgbgodhkehnbdaa
