/- WordLeast: plain laws of the least; what the walk asks behind its first loop. -/
import Derived.Test.YtconppelbjjkjaaWoLg
namespace Go.Proofs.Ytconppelbjjkjaa
open Go.RowKit
set_option maxHeartbeats 4000000
set_option linter.unusedVariables false
set_option linter.unusedSimpArgs false

theorem least_map {α β : Type} {lt : α → α → Bool} {lt' : β → β → Bool} (f : α → β) (h : ∀ a b, lt' (f a) (f b) = lt a b) (z : α) : ∀ l : List α, f (least lt z l) = least lt' (f z) (l.map f)
  | [] => rfl
  | x :: r => by
    have key : ∀ (r : List α) (x : α), f (r.foldl (stepL lt) x) = (r.map f).foldl (stepL lt') (f x) := by
      intro r
      induction r with
      | nil => intro x; rfl
      | cons y r ih =>
        intro x
        rw [List.foldl_cons, List.map_cons, List.foldl_cons, ih]
        congr 1
        unfold stepL
        rw [h]
        split <;> rfl
    exact key r x
theorem least_zip {S L2 : List Nat} (h : S.length = L2.length) : (least ltP (0, 0) (S.zip L2)).2 = least aheadW 0 L2 := by
  have := least_map (lt := ltP) (lt' := aheadW) Prod.snd (fun _ _ => rfl) (0, 0) (S.zip L2)
  rw [this, List.map_snd_zip (by omega)]
theorem least_low (l : List Int) : ∀ x ∈ l, ltI x (least ltI 0 l) = false := by
  have key : ∀ (r : List Int) (b : Int), r.foldl (stepL ltI) b ≤ b ∧ ∀ x ∈ r, r.foldl (stepL ltI) b ≤ x := by
    intro r
    induction r with
    | nil => intro b; exact ⟨Int.le_refl _, by simp⟩
    | cons y r ih =>
      intro b
      rw [List.foldl_cons]
      obtain ⟨h1, h2⟩ := ih (stepL ltI b y)
      have hs : stepL ltI b y ≤ b ∧ stepL ltI b y ≤ y := by
        unfold stepL ltI
        by_cases h : y < b
        · rw [decide_eq_true h, if_pos rfl]; omega
        · rw [decide_eq_false h, if_neg Bool.false_ne_true]; omega
      refine ⟨by omega, fun x hx => ?_⟩
      rcases List.mem_cons.1 hx with rfl | hx
      · omega
      · exact h2 x hx
  intro x hx
  refine decide_eq_false ?_
  cases l with
  | nil => cases hx
  | cons y r =>
    obtain ⟨h1, h2⟩ := key r y
    rcases List.mem_cons.1 hx with rfl | hx
    · have : least ltI 0 (x :: r) ≤ x := h1
      omega
    · have : least ltI 0 (y :: r) ≤ x := h2 x hx
      omega
theorem Nums.zip {w : World} {A : Option Addr} {S L2 : List Nat} (h : Nums (fun b => .float .f32 b) w A S) : Nums (fun b : Nat × Nat => .float .f32 b.1) w A (S.zip L2) := fun i hi => by
  have hi' : i < S.length := by rw [List.length_zip] at hi; omega
  obtain ⟨ad, e, hc⟩ := h i hi'
  refine ⟨ad, e, ?_⟩
  rw [List.getElem_zip]
  exact hc
theorem least_wd {S L2 : List Nat} (h : S.length = L2.length) (hw : ∀ x ∈ S.zip L2, Wd x.1 x.2) : Wd (least ltP (0, 0) (S.zip L2)).1 (least aheadW 0 L2) := by
  rw [← least_zip h]
  by_cases e : S.zip L2 = []
  · rw [e]; exact wd0
  · exact hw _ (least_mem _ _ _ e)
theorem wpList_f64s {ops : Array Oper} {rest : List Oper} {o : Oper} {a : Act} {Q : Exit → Act → World → Prop} (wr : World) (hgd : o.guard = none) (s x : Operand)
    (ho : o.op = .call { callee := .builtin .append, args := #[s, x], argTypes := #[44, 44] })
    (u : Value) (m : List Nat) (hs : a.eval s = .slice none 0 0) (hx : a.eval x = u) (hm : Sl 23 1 eF wr u m) (hb1 : m.length ≤ 9223372036854775807) (hlen : m.length * 8 ≤ 140737488355328)
    (h : ∀ A cap w', Sl 23 1 eF w' (.slice A m.length cap) m → Fr (fun _ => False) wr (own (.slice A m.length cap)) w' → wpList Try.prog ops Q rest (a.put o.dst (.slice A m.length cap)) w') :
    wpList Try.prog ops Q (o :: rest) a wr := by
  refine wpList_all (enc := eF) wr hgd s x 44 ho Try.underlying44 info_f64 rfl (by decide) (.slice none 0 0) u [] m hs (Sl.nil _) hx (Sl.src hm fun _ u hu => by obtain rfl := List.mem_singleton.1 hu; rfl) (by simpa using hb1) (by simpa using hlen) fun A cap w' hc hS hF => ?_
  rw [List.nil_append, List.length_nil, Nat.zero_add] at hS
  rw [List.length_nil, Nat.zero_add] at hF ⊢
  exact h A cap w' hS ⟨hF.os, hF.tape, hF.output, hF.size, fun k h1 _ => hF.block k h1 (own_nil' _ _ k), fun k hk => (hF.new k hk).elim (fun h => (own_nil' _ _ _ h).elim) .inr⟩
/-- the seven slices, all of one length -/
structure WA (w wr : World) (N : Nat) (A0 A1 A2 A3 A4 A5 A6 : Option Addr) (R S L2 : List Nat) (I1 I2 I4 I8 : List Int) : Prop where
  m0 : Nums (fun b => .float .f64 b) wr A0 R
  m1 : Nums (fun b => .float .f32 b) wr A1 S
  m2 : Nums (fun b => .float .f64 b) wr A2 L2
  m3 : Nums (fun b => .int .i8 b) wr A3 I1
  m4 : Nums (fun b => .int .i16 b) wr A4 I2
  m5 : Nums (fun b => .int .i32 b) wr A5 I4
  m6 : Nums (fun b => .int .i64 b) wr A6 I8
  ln : R.length = N ∧ S.length = N ∧ L2.length = N ∧ I1.length = N ∧ I2.length = N ∧ I4.length = N ∧ I8.length = N
  fr : Fr (fun _ => False) w (fun _ => False) wr
theorem Nums.frs {α : Type} {f : α → Value} {w w' : World} {A : Option Addr} {l : List α} {F : Nat → Prop} (h : Nums f w A l) (hf : Fr (fun _ => False) w F w') : Nums f w' A l := fun i hi => by
  obtain ⟨ad, e, hc⟩ := h i hi
  exact ⟨ad, e, hf.keepc hc⟩
theorem WA.new_ {w wr w' : World} {N : Nat} {A0 A1 A2 A3 A4 A5 A6 : Option Addr} {R S L2 : List Nat} {I1 I2 I4 I8 : List Int} {F : Nat → Prop} (h : WA w wr N A0 A1 A2 A3 A4 A5 A6 R S L2 I1 I2 I4 I8) (hf : Fr (fun _ => False) wr F w') : WA w w' N A0 A1 A2 A3 A4 A5 A6 R S L2 I1 I2 I4 I8 :=
  ⟨h.m0.frs hf, h.m1.frs hf, h.m2.frs hf, h.m3.frs hf, h.m4.frs hf, h.m5.frs hf, h.m6.frs hf, h.ln, h.fr.beside hf fun _ h => h.elim⟩
theorem WL.wa {w wr : World} {N : Nat} {A0 A1 A2 A3 A4 A5 A6 : Option Addr} {n0 n1 n2 n3 n4 n5 n6 k0 k1 k2 k3 k4 k5 k6 : Nat} {R S L2 : List Nat} {I1 I2 I4 I8 : List Int}
    (h : WL w wr (.slice A0 n0 k0) (.slice A1 n1 k1) (.slice A2 n2 k2) (.slice A3 n3 k3) (.slice A4 n4 k4) (.slice A5 n5 k5) (.slice A6 n6 k6) R S L2 I1 I2 I4 I8) (ln : R.length = N ∧ S.length = N ∧ L2.length = N ∧ I1.length = N ∧ I2.length = N ∧ I4.length = N ∧ I8.length = N) :
    (n0 = N ∧ n1 = N ∧ n2 = N ∧ n3 = N ∧ n4 = N ∧ n5 = N ∧ n6 = N) ∧ WA w wr N A0 A1 A2 A3 A4 A5 A6 R S L2 I1 I2 I4 I8 := by
  have sh : ∀ {α : Type} {e : TypeId} {enc : α → List Value} {A : Option Addr} {n k : Nat} {l : List α}, Sl e 1 enc wr (.slice A n k) l → n = l.length := fun hh => by
    obtain ⟨A', c', e, _⟩ := Sl.shape hh
    injection e
  obtain ⟨l0, l1, l2, l3, l4, l5, l6⟩ := ln
  exact ⟨⟨(sh h.s0).trans l0, (sh h.s1).trans l1, (sh h.s2).trans l2, (sh h.s3).trans l3, (sh h.s4).trans l4, (sh h.s5).trans l5, (sh h.s6).trans l6⟩, Sl.nums (fun _ => rfl) h.s0, Sl.nums (fun _ => rfl) h.s1, Sl.nums (fun _ => rfl) h.s2, Sl.nums (fun _ => rfl) h.s3, Sl.nums (fun _ => rfl) h.s4, Sl.nums (fun _ => rfl) h.s5, Sl.nums (fun _ => rfl) h.s6, ⟨l0, l1, l2, l3, l4, l5, l6⟩, h.fr⟩
end Go.Proofs.Ytconppelbjjkjaa
