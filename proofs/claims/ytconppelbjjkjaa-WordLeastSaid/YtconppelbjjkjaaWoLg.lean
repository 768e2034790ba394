/- WordLeast: seven slices that the law makes. -/
import Derived.Test.YtconppelbjjkjaaWoLf
import Derived.Test.YtconppelbjjkjaaLgA
import Derived.Test.YtconppelbjjkjaaIn
import Derived.RangeFuncOwn
namespace Go.Proofs.Ytconppelbjjkjaa
open Go.RowKit
set_option maxHeartbeats 4000000
set_option linter.unusedVariables false
set_option linter.unusedSimpArgs false

def eF (b : Nat) : List Value := [.float .f64 b]
def eS (x : Nat) : List Value := [.float .f32 x]
def eI (k : IntKind) (z : Int) : List Value := [.int k z]
theorem own_nil' (n c : Nat) (k : Nat) : ¬ own (.slice none n c) k := fun h => by simp [own, Value.ownBlock] at h
theorem Fr.keepc {w w' : World} {F' : Nat → Prop} (h : Fr (fun _ => False) w F' w') {p : Addr} {u : Value} (hc : w.cell? p = some u) : w'.cell? p = some u := by
  obtain ⟨o, ho, _⟩ := cells_of_cell hc
  have e := h.block p.block (Array.getElem?_eq_some_iff.1 ho).1 fun h => h
  unfold World.cell? at *
  simp only [e]
  exact hc
theorem Sl.off {α β : Type} {e e' : TypeId} {sz sz' : Nat} {enc : α → List Value} {enc' : β → List Value} {w : World} {v v' : Value} {l : List α} {l' : List β} (h : Sl e sz enc w v l) (h' : Sl e' sz' enc' w v' l') (hne : e ≠ e') : ∀ k, own v k → ¬ own v' k := fun k hk hk' => by
  obtain ⟨cs, hb⟩ := Sl.ofBlk h hk
  exact Sl.ne_ h' hb hne hk'
theorem Sl.nums {α : Type} {e : TypeId} {enc : α → List Value} {f : α → Value} (he : ∀ x, enc x = [f x]) {w : World} {A : Option Addr} {n c : Nat} {l : List α} (h : Sl e 1 enc w (.slice A n c) l) : Nums f w A l := fun i hi => by
  obtain ⟨g, o, rfl, _, hcell⟩ := Sl.cell (fun x => by rw [he]; rfl) (by decide) h hi
  obtain ⟨k1, _⟩ := hcell i hi 0 (by decide)
  refine ⟨⟨g, o, none⟩, rfl, ?_⟩
  rw [he] at k1
  by_cases h0 : i = 0
  · subst h0; simpa [Addr.add] using k1
  · unfold Addr.add
    rw [if_neg h0]
    simpa using k1
theorem info_f64 : (Try.prog.info? 23).map (fun i => (i.zero, i.size, i.bytes)) = some (some (.float .f64 0), 1, 8) := by kernel_rfl
theorem wpList_f64 {ops : Array Oper} {rest : List Oper} {o : Oper} {a : Act} {Q : Exit → Act → World → Prop} (wr : World) (hgd : o.guard = none) (s x : Operand)
    (ho : o.op = .call { callee := .builtin .append, args := #[s, x], argTypes := #[44, 44] })
    (v : Value) (l : List Nat) (y : Nat) (hs : a.eval s = v) (hl : Sl 23 1 eF wr v l) (hx : a.eval x = .slice (some ⟨wr.heap.size, 0, none⟩) 1 1) (hb1 : l.length + 1 ≤ 9223372036854775807) (hlen : (l.length + 1) * 8 ≤ 140737488355328)
    (h : ∀ A cap w', l.length + 1 ≤ cap → Sl 23 1 eF w' (.slice A (l.length + 1) cap) (l ++ [y]) → Fr (own v) wr (own (.slice A (l.length + 1) cap)) w' → wpList Try.prog ops Q rest (a.put o.dst (.slice A (l.length + 1) cap)) w') :
    wpList Try.prog ops Q (o :: rest) a (wr.alloc (.cells #[.float .f64 y] 23)) :=
  wpList_one (enc := eF) (fun _ => rfl) (fun _ u hu => by obtain rfl := List.mem_singleton.1 hu; rfl) wr hgd s x 44 ho Try.underlying44 info_f64 rfl (by decide) v l y hs hl hx hb1 hlen h
theorem info_f32 : (Try.prog.info? 50).map (fun i => (i.zero, i.size, i.bytes)) = some (some (.float .f32 0), 1, 4) := by kernel_rfl
theorem wpList_f32 {ops : Array Oper} {rest : List Oper} {o : Oper} {a : Act} {Q : Exit → Act → World → Prop} (wr : World) (hgd : o.guard = none) (s x : Operand)
    (ho : o.op = .call { callee := .builtin .append, args := #[s, x], argTypes := #[45, 45] })
    (v : Value) (l : List Nat) (y : Nat) (hs : a.eval s = v) (hl : Sl 50 1 eS wr v l) (hx : a.eval x = .slice (some ⟨wr.heap.size, 0, none⟩) 1 1) (hb1 : l.length + 1 ≤ 9223372036854775807) (hlen : (l.length + 1) * 4 ≤ 140737488355328)
    (h : ∀ A cap w', l.length + 1 ≤ cap → Sl 50 1 eS w' (.slice A (l.length + 1) cap) (l ++ [y]) → Fr (own v) wr (own (.slice A (l.length + 1) cap)) w' → wpList Try.prog ops Q rest (a.put o.dst (.slice A (l.length + 1) cap)) w') :
    wpList Try.prog ops Q (o :: rest) a (wr.alloc (.cells #[.float .f32 y] 50)) :=
  wpList_one (enc := eS) (fun _ => rfl) (fun _ u hu => by obtain rfl := List.mem_singleton.1 hu; rfl) wr hgd s x 45 ho Try.underlying45 info_f32 rfl (by decide) v l y hs hl hx hb1 hlen h
theorem info_i8 : (Try.prog.info? 51).map (fun i => (i.zero, i.size, i.bytes)) = some (some (.int .i8 0), 1, 1) := by kernel_rfl
theorem wpList_i8 {ops : Array Oper} {rest : List Oper} {o : Oper} {a : Act} {Q : Exit → Act → World → Prop} (wr : World) (hgd : o.guard = none) (s x : Operand)
    (ho : o.op = .call { callee := .builtin .append, args := #[s, x], argTypes := #[46, 46] })
    (v : Value) (l : List Int) (y : Int) (hs : a.eval s = v) (hl : Sl 51 1 (eI .i8) wr v l) (hx : a.eval x = .slice (some ⟨wr.heap.size, 0, none⟩) 1 1) (hb1 : l.length + 1 ≤ 9223372036854775807) (hlen : (l.length + 1) * 1 ≤ 140737488355328)
    (h : ∀ A cap w', l.length + 1 ≤ cap → Sl 51 1 (eI .i8) w' (.slice A (l.length + 1) cap) (l ++ [y]) → Fr (own v) wr (own (.slice A (l.length + 1) cap)) w' → wpList Try.prog ops Q rest (a.put o.dst (.slice A (l.length + 1) cap)) w') :
    wpList Try.prog ops Q (o :: rest) a (wr.alloc (.cells #[.int .i8 y] 51)) :=
  wpList_one (enc := (eI .i8)) (fun _ => rfl) (fun _ u hu => by obtain rfl := List.mem_singleton.1 hu; rfl) wr hgd s x 46 ho Try.underlying46 info_i8 rfl (by decide) v l y hs hl hx hb1 hlen h
theorem info_i16 : (Try.prog.info? 52).map (fun i => (i.zero, i.size, i.bytes)) = some (some (.int .i16 0), 1, 2) := by kernel_rfl
theorem wpList_i16 {ops : Array Oper} {rest : List Oper} {o : Oper} {a : Act} {Q : Exit → Act → World → Prop} (wr : World) (hgd : o.guard = none) (s x : Operand)
    (ho : o.op = .call { callee := .builtin .append, args := #[s, x], argTypes := #[47, 47] })
    (v : Value) (l : List Int) (y : Int) (hs : a.eval s = v) (hl : Sl 52 1 (eI .i16) wr v l) (hx : a.eval x = .slice (some ⟨wr.heap.size, 0, none⟩) 1 1) (hb1 : l.length + 1 ≤ 9223372036854775807) (hlen : (l.length + 1) * 2 ≤ 140737488355328)
    (h : ∀ A cap w', l.length + 1 ≤ cap → Sl 52 1 (eI .i16) w' (.slice A (l.length + 1) cap) (l ++ [y]) → Fr (own v) wr (own (.slice A (l.length + 1) cap)) w' → wpList Try.prog ops Q rest (a.put o.dst (.slice A (l.length + 1) cap)) w') :
    wpList Try.prog ops Q (o :: rest) a (wr.alloc (.cells #[.int .i16 y] 52)) :=
  wpList_one (enc := (eI .i16)) (fun _ => rfl) (fun _ u hu => by obtain rfl := List.mem_singleton.1 hu; rfl) wr hgd s x 47 ho Try.underlying47 info_i16 rfl (by decide) v l y hs hl hx hb1 hlen h
theorem info_i32 : (Try.prog.info? 21).map (fun i => (i.zero, i.size, i.bytes)) = some (some (.int .i32 0), 1, 4) := by kernel_rfl
theorem wpList_i32 {ops : Array Oper} {rest : List Oper} {o : Oper} {a : Act} {Q : Exit → Act → World → Prop} (wr : World) (hgd : o.guard = none) (s x : Operand)
    (ho : o.op = .call { callee := .builtin .append, args := #[s, x], argTypes := #[48, 48] })
    (v : Value) (l : List Int) (y : Int) (hs : a.eval s = v) (hl : Sl 21 1 (eI .i32) wr v l) (hx : a.eval x = .slice (some ⟨wr.heap.size, 0, none⟩) 1 1) (hb1 : l.length + 1 ≤ 9223372036854775807) (hlen : (l.length + 1) * 4 ≤ 140737488355328)
    (h : ∀ A cap w', l.length + 1 ≤ cap → Sl 21 1 (eI .i32) w' (.slice A (l.length + 1) cap) (l ++ [y]) → Fr (own v) wr (own (.slice A (l.length + 1) cap)) w' → wpList Try.prog ops Q rest (a.put o.dst (.slice A (l.length + 1) cap)) w') :
    wpList Try.prog ops Q (o :: rest) a (wr.alloc (.cells #[.int .i32 y] 21)) :=
  wpList_one (enc := (eI .i32)) (fun _ => rfl) (fun _ u hu => by obtain rfl := List.mem_singleton.1 hu; rfl) wr hgd s x 48 ho Try.underlying48 info_i32 rfl (by decide) v l y hs hl hx hb1 hlen h
theorem info_i64 : (Try.prog.info? 2).map (fun i => (i.zero, i.size, i.bytes)) = some (some (.int .i64 0), 1, 8) := by kernel_rfl
theorem wpList_i64 {ops : Array Oper} {rest : List Oper} {o : Oper} {a : Act} {Q : Exit → Act → World → Prop} (wr : World) (hgd : o.guard = none) (s x : Operand)
    (ho : o.op = .call { callee := .builtin .append, args := #[s, x], argTypes := #[49, 49] })
    (v : Value) (l : List Int) (y : Int) (hs : a.eval s = v) (hl : Sl 2 1 (eI .i64) wr v l) (hx : a.eval x = .slice (some ⟨wr.heap.size, 0, none⟩) 1 1) (hb1 : l.length + 1 ≤ 9223372036854775807) (hlen : (l.length + 1) * 8 ≤ 140737488355328)
    (h : ∀ A cap w', l.length + 1 ≤ cap → Sl 2 1 (eI .i64) w' (.slice A (l.length + 1) cap) (l ++ [y]) → Fr (own v) wr (own (.slice A (l.length + 1) cap)) w' → wpList Try.prog ops Q rest (a.put o.dst (.slice A (l.length + 1) cap)) w') :
    wpList Try.prog ops Q (o :: rest) a (wr.alloc (.cells #[.int .i64 y] 2)) :=
  wpList_one (enc := (eI .i64)) (fun _ => rfl) (fun _ u hu => by obtain rfl := List.mem_singleton.1 hu; rfl) wr hgd s x 49 ho Try.underlying49 info_i64 rfl (by decide) v l y hs hl hx hb1 hlen h
structure WL (w wr : World) (v0 v1 v2 v3 v4 v5 v6 : Value) (R : List Nat) (S : List Nat) (W : List Nat) (I1 : List Int) (I2 : List Int) (I4 : List Int) (I8 : List Int) : Prop where
  s0 : Sl 23 1 eF wr v0 R
  s1 : Sl 50 1 eS wr v1 S
  s2 : Sl 23 1 eF wr v2 W
  s3 : Sl 51 1 (eI .i8) wr v3 I1
  s4 : Sl 52 1 (eI .i16) wr v4 I2
  s5 : Sl 21 1 (eI .i32) wr v5 I4
  s6 : Sl 2 1 (eI .i64) wr v6 I8
  ap : ∀ k, own v0 k → ¬ own v2 k
  ge : ∀ k, own v0 k ∨ own v1 k ∨ own v2 k ∨ own v3 k ∨ own v4 k ∨ own v5 k ∨ own v6 k → w.heap.size ≤ k
  fr : Fr (fun _ => False) w (fun _ => False) wr
section
variable {w wr w' : World} {v0 v1 v2 v3 v4 v5 v6 v' : Value} {R : List Nat} {S : List Nat} {W : List Nat} {I1 : List Int} {I2 : List Int} {I4 : List Int} {I8 : List Int}
theorem WL.new_ {F : Nat → Prop} (h : WL w wr v0 v1 v2 v3 v4 v5 v6 R S W I1 I2 I4 I8) (hf : Fr (fun _ => False) wr F w') : WL w w' v0 v1 v2 v3 v4 v5 v6 R S W I1 I2 I4 I8 :=
  ⟨Sl.fr h.s0 hf fun _ _ h => h, Sl.fr h.s1 hf fun _ _ h => h, Sl.fr h.s2 hf fun _ _ h => h, Sl.fr h.s3 hf fun _ _ h => h, Sl.fr h.s4 hf fun _ _ h => h, Sl.fr h.s5 hf fun _ _ h => h, Sl.fr h.s6 hf fun _ _ h => h, h.ap, h.ge, h.fr.beside hf fun _ h => h.elim⟩
theorem WL.start (w : World) : WL w w (.slice none 0 0) (.slice none 0 0) (.slice none 0 0) (.slice none 0 0) (.slice none 0 0) (.slice none 0 0) (.slice none 0 0) [] [] [] [] [] [] [] := ⟨Sl.nil _, Sl.nil _, Sl.nil _, Sl.nil _, Sl.nil _, Sl.nil _, Sl.nil _, fun k h => (own_nil' _ _ _ h).elim, fun k h => by rcases h with h | h | h | h | h | h | h <;> exact (own_nil' _ _ _ h).elim, Fr.refl _ w⟩
theorem WL.p0 {R' : List Nat} (h : WL w wr v0 v1 v2 v3 v4 v5 v6 R S W I1 I2 I4 I8) (hs : Sl 23 1 eF w' v' R') (hf : Fr (own v0) wr (own v') w') : WL w w' v' v1 v2 v3 v4 v5 v6 R' S W I1 I2 I4 I8 :=
  ⟨hs, Sl.fr h.s1 hf (Sl.off h.s1 h.s0 (by decide)), Sl.fr h.s2 hf fun k hk ho => h.ap k ho hk, Sl.fr h.s3 hf (Sl.off h.s3 h.s0 (by decide)), Sl.fr h.s4 hf (Sl.off h.s4 h.s0 (by decide)), Sl.fr h.s5 hf (Sl.off h.s5 h.s0 (by decide)), Sl.fr h.s6 hf (Sl.off h.s6 h.s0 (by decide)), fun k hk h2 => (hf.new k hk).elim (fun h1 => h.ap k h1 h2) fun h1 => by have := Sl.lt h.s2 k h2; omega, fun k hk => by
    have hz := h.fr.size
    rcases hk with hk | hk | hk | hk | hk | hk | hk
    · exact (hf.new k hk).elim (fun hk => h.ge k (.inl hk)) fun h1 => Nat.le_trans hz h1
    · exact h.ge k (.inr (.inl hk))
    · exact h.ge k (.inr (.inr (.inl hk)))
    · exact h.ge k (.inr (.inr (.inr (.inl hk))))
    · exact h.ge k (.inr (.inr (.inr (.inr (.inl hk)))))
    · exact h.ge k (.inr (.inr (.inr (.inr (.inr (.inl hk))))))
    · exact h.ge k (.inr (.inr (.inr (.inr (.inr (.inr (hk))))))), h.fr.beside hf fun k hk => h.ge k (.inl hk)⟩
theorem WL.p1 {S' : List Nat} (h : WL w wr v0 v1 v2 v3 v4 v5 v6 R S W I1 I2 I4 I8) (hs : Sl 50 1 eS w' v' S') (hf : Fr (own v1) wr (own v') w') : WL w w' v0 v' v2 v3 v4 v5 v6 R S' W I1 I2 I4 I8 :=
  ⟨Sl.fr h.s0 hf (Sl.off h.s0 h.s1 (by decide)), hs, Sl.fr h.s2 hf (Sl.off h.s2 h.s1 (by decide)), Sl.fr h.s3 hf (Sl.off h.s3 h.s1 (by decide)), Sl.fr h.s4 hf (Sl.off h.s4 h.s1 (by decide)), Sl.fr h.s5 hf (Sl.off h.s5 h.s1 (by decide)), Sl.fr h.s6 hf (Sl.off h.s6 h.s1 (by decide)), h.ap, fun k hk => by
    have hz := h.fr.size
    rcases hk with hk | hk | hk | hk | hk | hk | hk
    · exact h.ge k (.inl hk)
    · exact (hf.new k hk).elim (fun hk => h.ge k (.inr (.inl hk))) fun h1 => Nat.le_trans hz h1
    · exact h.ge k (.inr (.inr (.inl hk)))
    · exact h.ge k (.inr (.inr (.inr (.inl hk))))
    · exact h.ge k (.inr (.inr (.inr (.inr (.inl hk)))))
    · exact h.ge k (.inr (.inr (.inr (.inr (.inr (.inl hk))))))
    · exact h.ge k (.inr (.inr (.inr (.inr (.inr (.inr (hk))))))), h.fr.beside hf fun k hk => h.ge k (.inr (.inl hk))⟩
theorem WL.p2 {W' : List Nat} (h : WL w wr v0 v1 v2 v3 v4 v5 v6 R S W I1 I2 I4 I8) (hs : Sl 23 1 eF w' v' W') (hf : Fr (own v2) wr (own v') w') : WL w w' v0 v1 v' v3 v4 v5 v6 R S W' I1 I2 I4 I8 :=
  ⟨Sl.fr h.s0 hf fun k hk ho => h.ap k hk ho, Sl.fr h.s1 hf (Sl.off h.s1 h.s2 (by decide)), hs, Sl.fr h.s3 hf (Sl.off h.s3 h.s2 (by decide)), Sl.fr h.s4 hf (Sl.off h.s4 h.s2 (by decide)), Sl.fr h.s5 hf (Sl.off h.s5 h.s2 (by decide)), Sl.fr h.s6 hf (Sl.off h.s6 h.s2 (by decide)), fun k hk h2 => (hf.new k h2).elim (fun h1 => h.ap k hk h1) fun h1 => by have := Sl.lt h.s0 k hk; omega, fun k hk => by
    have hz := h.fr.size
    rcases hk with hk | hk | hk | hk | hk | hk | hk
    · exact h.ge k (.inl hk)
    · exact h.ge k (.inr (.inl hk))
    · exact (hf.new k hk).elim (fun hk => h.ge k (.inr (.inr (.inl hk)))) fun h1 => Nat.le_trans hz h1
    · exact h.ge k (.inr (.inr (.inr (.inl hk))))
    · exact h.ge k (.inr (.inr (.inr (.inr (.inl hk)))))
    · exact h.ge k (.inr (.inr (.inr (.inr (.inr (.inl hk))))))
    · exact h.ge k (.inr (.inr (.inr (.inr (.inr (.inr (hk))))))), h.fr.beside hf fun k hk => h.ge k (.inr (.inr (.inl hk)))⟩
theorem WL.p3 {I1' : List Int} (h : WL w wr v0 v1 v2 v3 v4 v5 v6 R S W I1 I2 I4 I8) (hs : Sl 51 1 (eI .i8) w' v' I1') (hf : Fr (own v3) wr (own v') w') : WL w w' v0 v1 v2 v' v4 v5 v6 R S W I1' I2 I4 I8 :=
  ⟨Sl.fr h.s0 hf (Sl.off h.s0 h.s3 (by decide)), Sl.fr h.s1 hf (Sl.off h.s1 h.s3 (by decide)), Sl.fr h.s2 hf (Sl.off h.s2 h.s3 (by decide)), hs, Sl.fr h.s4 hf (Sl.off h.s4 h.s3 (by decide)), Sl.fr h.s5 hf (Sl.off h.s5 h.s3 (by decide)), Sl.fr h.s6 hf (Sl.off h.s6 h.s3 (by decide)), h.ap, fun k hk => by
    have hz := h.fr.size
    rcases hk with hk | hk | hk | hk | hk | hk | hk
    · exact h.ge k (.inl hk)
    · exact h.ge k (.inr (.inl hk))
    · exact h.ge k (.inr (.inr (.inl hk)))
    · exact (hf.new k hk).elim (fun hk => h.ge k (.inr (.inr (.inr (.inl hk))))) fun h1 => Nat.le_trans hz h1
    · exact h.ge k (.inr (.inr (.inr (.inr (.inl hk)))))
    · exact h.ge k (.inr (.inr (.inr (.inr (.inr (.inl hk))))))
    · exact h.ge k (.inr (.inr (.inr (.inr (.inr (.inr (hk))))))), h.fr.beside hf fun k hk => h.ge k (.inr (.inr (.inr (.inl hk))))⟩
theorem WL.p4 {I2' : List Int} (h : WL w wr v0 v1 v2 v3 v4 v5 v6 R S W I1 I2 I4 I8) (hs : Sl 52 1 (eI .i16) w' v' I2') (hf : Fr (own v4) wr (own v') w') : WL w w' v0 v1 v2 v3 v' v5 v6 R S W I1 I2' I4 I8 :=
  ⟨Sl.fr h.s0 hf (Sl.off h.s0 h.s4 (by decide)), Sl.fr h.s1 hf (Sl.off h.s1 h.s4 (by decide)), Sl.fr h.s2 hf (Sl.off h.s2 h.s4 (by decide)), Sl.fr h.s3 hf (Sl.off h.s3 h.s4 (by decide)), hs, Sl.fr h.s5 hf (Sl.off h.s5 h.s4 (by decide)), Sl.fr h.s6 hf (Sl.off h.s6 h.s4 (by decide)), h.ap, fun k hk => by
    have hz := h.fr.size
    rcases hk with hk | hk | hk | hk | hk | hk | hk
    · exact h.ge k (.inl hk)
    · exact h.ge k (.inr (.inl hk))
    · exact h.ge k (.inr (.inr (.inl hk)))
    · exact h.ge k (.inr (.inr (.inr (.inl hk))))
    · exact (hf.new k hk).elim (fun hk => h.ge k (.inr (.inr (.inr (.inr (.inl hk)))))) fun h1 => Nat.le_trans hz h1
    · exact h.ge k (.inr (.inr (.inr (.inr (.inr (.inl hk))))))
    · exact h.ge k (.inr (.inr (.inr (.inr (.inr (.inr (hk))))))), h.fr.beside hf fun k hk => h.ge k (.inr (.inr (.inr (.inr (.inl hk)))))⟩
theorem WL.p5 {I4' : List Int} (h : WL w wr v0 v1 v2 v3 v4 v5 v6 R S W I1 I2 I4 I8) (hs : Sl 21 1 (eI .i32) w' v' I4') (hf : Fr (own v5) wr (own v') w') : WL w w' v0 v1 v2 v3 v4 v' v6 R S W I1 I2 I4' I8 :=
  ⟨Sl.fr h.s0 hf (Sl.off h.s0 h.s5 (by decide)), Sl.fr h.s1 hf (Sl.off h.s1 h.s5 (by decide)), Sl.fr h.s2 hf (Sl.off h.s2 h.s5 (by decide)), Sl.fr h.s3 hf (Sl.off h.s3 h.s5 (by decide)), Sl.fr h.s4 hf (Sl.off h.s4 h.s5 (by decide)), hs, Sl.fr h.s6 hf (Sl.off h.s6 h.s5 (by decide)), h.ap, fun k hk => by
    have hz := h.fr.size
    rcases hk with hk | hk | hk | hk | hk | hk | hk
    · exact h.ge k (.inl hk)
    · exact h.ge k (.inr (.inl hk))
    · exact h.ge k (.inr (.inr (.inl hk)))
    · exact h.ge k (.inr (.inr (.inr (.inl hk))))
    · exact h.ge k (.inr (.inr (.inr (.inr (.inl hk)))))
    · exact (hf.new k hk).elim (fun hk => h.ge k (.inr (.inr (.inr (.inr (.inr (.inl hk))))))) fun h1 => Nat.le_trans hz h1
    · exact h.ge k (.inr (.inr (.inr (.inr (.inr (.inr (hk))))))), h.fr.beside hf fun k hk => h.ge k (.inr (.inr (.inr (.inr (.inr (.inl hk))))))⟩
theorem WL.p6 {I8' : List Int} (h : WL w wr v0 v1 v2 v3 v4 v5 v6 R S W I1 I2 I4 I8) (hs : Sl 2 1 (eI .i64) w' v' I8') (hf : Fr (own v6) wr (own v') w') : WL w w' v0 v1 v2 v3 v4 v5 v' R S W I1 I2 I4 I8' :=
  ⟨Sl.fr h.s0 hf (Sl.off h.s0 h.s6 (by decide)), Sl.fr h.s1 hf (Sl.off h.s1 h.s6 (by decide)), Sl.fr h.s2 hf (Sl.off h.s2 h.s6 (by decide)), Sl.fr h.s3 hf (Sl.off h.s3 h.s6 (by decide)), Sl.fr h.s4 hf (Sl.off h.s4 h.s6 (by decide)), Sl.fr h.s5 hf (Sl.off h.s5 h.s6 (by decide)), hs, h.ap, fun k hk => by
    have hz := h.fr.size
    rcases hk with hk | hk | hk | hk | hk | hk | hk
    · exact h.ge k (.inl hk)
    · exact h.ge k (.inr (.inl hk))
    · exact h.ge k (.inr (.inr (.inl hk)))
    · exact h.ge k (.inr (.inr (.inr (.inl hk))))
    · exact h.ge k (.inr (.inr (.inr (.inr (.inl hk)))))
    · exact h.ge k (.inr (.inr (.inr (.inr (.inr (.inl hk))))))
    · exact (hf.new k hk).elim (fun hk => h.ge k (.inr (.inr (.inr (.inr (.inr (.inr (hk)))))))) fun h1 => Nat.le_trans hz h1, h.fr.beside hf fun k hk => h.ge k (.inr (.inr (.inr (.inr (.inr (.inr (hk)))))))⟩
end
end Go.Proofs.Ytconppelbjjkjaa
