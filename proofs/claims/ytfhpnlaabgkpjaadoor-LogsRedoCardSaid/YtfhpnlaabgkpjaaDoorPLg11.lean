/- A redo log, in memory; NewRedo, none, Len, Mark, Get, by contract. -/
import Derived.Test.YtfhpnlaabgkpjaaDoorPLg7
import Derived.Test.YtfhpnlaabgkpjaaDoorPLg8
import Derived.Test.YtfhpnlaabgkpjaaDoorPLg10
namespace Go.Proofs.YtfhpnlaabgkpjaaDoor
open Go.RowKit Go.Shelf
set_option maxHeartbeats 4000000
set_option linter.unusedVariables false
set_option linter.unusedSimpArgs false

theorem was_info : (Tryd.prog.info? 87).map (fun i => (i.zero, i.size, i.bytes)) = some (some (.agg #[.int .i64 0, .int .u64 0, .bool false]), 3, 24) := by kernel_rfl
def encWas (x : Int × Int × Bool) : List Value := [.int .i64 x.1, .int .u64 x.2.1, .bool x.2.2]
theorem encWas_len (x : Int × Int × Bool) : (encWas x).length = 3 := rfl
theorem encWas_one (x : Int × Int × Bool) : ∀ u ∈ encWas x, u.oneCell' = true := by
  intro u hu
  simp only [encWas, List.mem_cons, List.not_mem_nil, or_false] at hu
  rcases hu with rfl | rfl | rfl <;> rfl
def Ws (w : World) (v : Value) (l : List (Int × Int × Bool)) : Prop := Sl 87 3 encWas w v l
/-- One more of what was written over. -/
theorem wpList_was {ops : Array Oper} {rest : List Oper} {o : Oper} {a : Act} {Q : Exit → Act → World → Prop} (wr : World) (hgd : o.guard = none) (s x : Operand)
    (ho : o.op = .call { callee := .builtin .append, args := #[s, x], argTypes := #[68, 68] })
    (v : Value) (l : List (Int × Int × Bool)) (y z : Int) (f : Bool) (hs : a.eval s = v) (hl : Ws wr v l) (hx : a.eval x = .slice (some ⟨wr.heap.size, 0, none⟩) 1 1) (hb1 : l.length + 1 ≤ 9223372036854775807) (hlen : (l.length + 1) * 24 ≤ 140737488355328)
    (h : ∀ A cap w', l.length + 1 ≤ cap → Ws w' (.slice A (l.length + 1) cap) (l ++ [(y, z, f)]) → Fr (own v) wr (own (.slice A (l.length + 1) cap)) w' → wpList Tryd.prog ops Q rest (a.put o.dst (.slice A (l.length + 1) cap)) w') :
    wpList Tryd.prog ops Q (o :: rest) a (wr.alloc (.cells #[.int .i64 y, .int .u64 z, .bool f] 87)) :=
  wpList_one (enc := encWas) encWas_len encWas_one wr hgd s x 68 ho Tryd.underlying68 was_info rfl (by decide) v l (y, z, f) hs hl hx hb1 hlen h
theorem wpList_wases {ops : Array Oper} {rest : List Oper} {o : Oper} {a : Act} {Q : Exit → Act → World → Prop} (wr : World) (hgd : o.guard = none) (s x : Operand)
    (ho : o.op = .call { callee := .builtin .append, args := #[s, x], argTypes := #[68, 68] })
    (v u : Value) (l m : List (Int × Int × Bool)) (hs : a.eval s = v) (hl : Ws wr v l) (hx : a.eval x = u) (hm : Ws wr u m) (hb1 : l.length + m.length ≤ 9223372036854775807) (hlen : (l.length + m.length) * 24 ≤ 140737488355328)
    (h : ∀ A cap w', l.length + m.length ≤ cap → Ws w' (.slice A (l.length + m.length) cap) (l ++ m) → Fr (own v) wr (own (.slice A (l.length + m.length) cap)) w' → wpList Tryd.prog ops Q rest (a.put o.dst (.slice A (l.length + m.length) cap)) w') :
    wpList Tryd.prog ops Q (o :: rest) a wr :=
  wpList_all (enc := encWas) wr hgd s x 68 ho Tryd.underlying68 was_info rfl (by decide) v u l m hs hl hx (Sl.src hm encWas_one) hb1 hlen h
theorem TbI.notBlk {w : World} {t b : Nat} {G : Nat → Prop} {T : Tbl Int} (h : TbI w t G T) {e : TypeId} {cs : Array Value} (hb : Blk w b e cs) (h1 : e ≠ 94) (h2 : e ≠ 98) (h3 : e ≠ 38) : ¬ G b := by
  obtain ⟨g, cz, A, cp, rfl, hbt, ⟨cs2, hs, _⟩, hv, _⟩ := h
  rintro (rfl | rfl | hk)
  · exact hb.ne_ hbt h1 rfl
  · exact hb.ne_ hs h2 rfl
  · exact Rowv.ne_ hv hb h3 hk
theorem TbI.notSl {α : Type} {w : World} {t : Nat} {G : Nat → Prop} {T : Tbl Int} (h : TbI w t G T) {e : TypeId} {sz : Nat} {enc : α → List Value} {v : Value} {l : List α} (hl : Sl e sz enc w v l) (h1 : e ≠ 94) (h2 : e ≠ 98) (h3 : e ≠ 38) : ∀ k, own v k → ¬ G k := fun k hk => by
  obtain ⟨cs, hb⟩ := hl.ofBlk hk
  exact h.notBlk hb h1 h2 h3
theorem Sl.notSl {α β : Type} {w : World} {e e' : TypeId} {sz sz' : Nat} {enc : α → List Value} {enc' : β → List Value} {v v' : Value} {l : List α} {l' : List β} (h : Sl e sz enc w v l) (h' : Sl e' sz' enc' w v' l') (hne : e ≠ e') : ∀ k, own v k → ¬ own v' k := fun k hk => by
  obtain ⟨cs, hb⟩ := h.ofBlk hk
  exact h'.ne_ hb hne
/-- the redo log at r, its blocks F: entries o, what was written over p -/
structure RoA (w : World) (r : Nat) (most : Nat) (o : List (Int × Int)) (p : List (Int × Int × Bool)) (vl vp : Value) (t : Nat) (G : Nat → Prop) (T : Tbl Int) : Prop where
  blk : Blk w r 70 #[.bool true, .int .i64 (most : Int), vl, .pointer (some ⟨t, 0, none⟩), vp]
  ol : Cl w vl o
  pw : Ws w vp p
  tb : TbI w t G T
def RoF (r : Nat) (vl vp : Value) (G : Nat → Prop) : Nat → Prop := fun b => b = r ∨ own vl b ∨ own vp b ∨ G b
def RoW (w : World) (r : Nat) (F : Nat → Prop) (most : Nat) (o : List (Int × Int)) (p : List (Int × Int × Bool)) : Prop := ∃ vl vp t G T, F = RoF r vl vp G ∧ RoA w r most o p vl vp t G T ∧ Ixd T o ∧ T.k ≤ 22
section
variable {w w' : World} {r most : Nat} {F G G' : Nat → Prop} {o : List (Int × Int)} {p : List (Int × Int × Bool)} {vl vp : Value} {t : Nat} {T : Tbl Int}
theorem RoA.fr (h : RoA w r most o p vl vp t G T) {H H' : Nat → Prop} (hf : Fr H w H' w') (hH : ∀ b, RoF r vl vp G b → ¬ H b) : RoA w' r most o p vl vp t G T :=
  ⟨hf.blk h.blk (hH _ (.inl rfl)), Sl.fr h.ol hf fun k hk => hH k (.inr (.inl hk)), Sl.fr h.pw hf fun k hk => hH k (.inr (.inr (.inl hk))), h.tb.fr hf fun k hk => hH k (.inr (.inr (.inr hk)))⟩
theorem RoA.lt (h : RoA w r most o p vl vp t G T) : ∀ b, RoF r vl vp G b → b < w.heap.size := by
  rintro b (rfl | hb | hb | hb)
  · exact h.blk.lt
  · exact Sl.lt h.ol b hb
  · exact Sl.lt h.pw b hb
  · exact h.tb.lt b hb
theorem RoW.fr (h : RoW w r F most o p) {H H' : Nat → Prop} (hf : Fr H w H' w') (hH : ∀ b, F b → ¬ H b) : RoW w' r F most o p := by
  obtain ⟨vl, vp, t, G, T, rfl, h, hx⟩ := h
  exact ⟨vl, vp, t, G, T, rfl, h.fr hf hH, hx⟩
theorem RoW.lt (h : RoW w r F most o p) : ∀ b, F b → b < w.heap.size := by
  obtain ⟨vl, vp, t, G, T, rfl, h, _⟩ := h
  exact h.lt
theorem RoW.drewN (h : RoW w r F most o p) (n : Nat) : RoW (w.drewN n) r F most o p := h.fr ((Fr.refl (fun _ => False) w).drewN n) fun _ _ h => h
/-- the past turned, and stored -/
theorem RoA.past (h : RoA w r most o p vl vp t G T) {w3 : World} {v3 : Value} {p' : List (Int × Int × Bool)} (hv : Ws w3 v3 p') (hm : Fr (own vp) w (own v3) w3) :
    RoA (w3.setCell ⟨r, 4, none⟩ v3) r most o p' vl v3 t G T ∧ Fr (RoF r vl vp G) w (RoF r vl v3 G) (w3.setCell ⟨r, 4, none⟩ v3) := by
  have n1 := Sl.ne_ h.pw h.blk (by decide)
  have n2 : ∀ k, own vl k → ¬ own vp k := Sl.notSl h.ol h.pw (by decide)
  have n3 : ∀ k, G k → ¬ own vp k := fun k hg hk => h.tb.notSl h.pw (by decide) (by decide) (by decide) k hk hg
  have hb := hm.blk h.blk n1
  have hl : Cl w3 vl o := Sl.fr h.ol hm n2
  have ht := h.tb.fr hm n3
  refine ⟨⟨hb.set_ 4 v3, Sl.set hl (p := ⟨r, 4, none⟩) (Sl.ne_ hl hb (by decide)) _, Sl.set hv (p := ⟨r, 4, none⟩) (Sl.ne_ hv hb (by decide)) _, ht.fr ((Fr.refl (fun k => k = r) w3).set (p := ⟨r, 4, none⟩) (.inl rfl) _) fun k hk e => ht.notBlk hb (by decide) (by decide) (by decide) (e ▸ hk)⟩, ?_⟩
  refine Fr.set (p := ⟨r, 4, none⟩) ?_ (.inl (.inl rfl)) _
  refine (hm.wide fun k hk => .inr (.inr (.inl hk))).into fun k hk => ?_
  rcases hk with hk | hk | hk | hk
  · exact .inr (.inl (.inl hk))
  · exact .inr (.inl (.inr (.inl hk)))
  · exact .inl hk
  · exact .inr (.inl (.inr (.inr (.inr hk))))
/-- the entries turned, and stored -/
theorem RoA.ents (h : RoA w r most o p vl vp t G T) {w3 : World} {v3 : Value} {o' : List (Int × Int)} (hv : Cl w3 v3 o') (hm : Fr (own vl) w (own v3) w3) :
    RoA (w3.setCell ⟨r, 2, none⟩ v3) r most o' p v3 vp t G T ∧ Fr (RoF r vl vp G) w (RoF r v3 vp G) (w3.setCell ⟨r, 2, none⟩ v3) := by
  have n1 := Sl.ne_ h.ol h.blk (by decide)
  have n2 : ∀ k, own vp k → ¬ own vl k := Sl.notSl h.pw h.ol (by decide)
  have n3 : ∀ k, G k → ¬ own vl k := fun k hg hk => h.tb.notSl h.ol (by decide) (by decide) (by decide) k hk hg
  have hb := hm.blk h.blk n1
  have hl : Ws w3 vp p := Sl.fr h.pw hm n2
  have ht := h.tb.fr hm n3
  refine ⟨⟨hb.set_ 2 v3, Sl.set hv (p := ⟨r, 2, none⟩) (Sl.ne_ hv hb (by decide)) _, Sl.set hl (p := ⟨r, 2, none⟩) (Sl.ne_ hl hb (by decide)) _, ht.fr ((Fr.refl (fun k => k = r) w3).set (p := ⟨r, 2, none⟩) (.inl rfl) _) fun k hk e => ht.notBlk hb (by decide) (by decide) (by decide) (e ▸ hk)⟩, ?_⟩
  refine Fr.set (p := ⟨r, 2, none⟩) ?_ (.inl (.inl rfl)) _
  refine (hm.wide fun k hk => .inr (.inl hk)).into fun k hk => ?_
  rcases hk with hk | hk | hk | hk
  · exact .inr (.inl (.inl hk))
  · exact .inl hk
  · exact .inr (.inl (.inr (.inr (.inl hk))))
  · exact .inr (.inl (.inr (.inr (.inr hk))))
/-- the table turned -/
theorem RoA.tabl (h : RoA w r most o p vl vp t G T) {w3 : World} {G3 : Nat → Prop} {T3 : Tbl Int} (hv : TbI w3 t G3 T3) (hm : Fr G w G3 w3) :
    RoA w3 r most o p vl vp t G3 T3 ∧ Fr (RoF r vl vp G) w (RoF r vl vp G3) w3 := by
  refine ⟨⟨hm.blk h.blk (h.tb.notBlk h.blk (by decide) (by decide) (by decide)), Sl.fr h.ol hm (h.tb.notSl h.ol (by decide) (by decide) (by decide)), Sl.fr h.pw hm (h.tb.notSl h.pw (by decide) (by decide) (by decide)), hv⟩, ?_⟩
  refine (hm.wide fun k hk => .inr (.inr (.inr hk))).into fun k hk => ?_
  rcases hk with hk | hk | hk | hk
  · exact .inr (.inl (.inl hk))
  · exact .inr (.inl (.inr (.inl hk)))
  · exact .inr (.inl (.inr (.inr (.inl hk))))
  · exact .inl hk
theorem RoA.new_ (h : RoA w r most o p vl vp t G T) {F' : Nat → Prop} (hf : Fr (fun _ => False) w F' w') : RoA w' r most o p vl vp t G T := h.fr hf fun _ _ h => h
theorem wnone_b (hc : w.cell? ⟨r, 0, none⟩ = some (.bool true)) :
    Calls Tryd.prog 44 #[.pointer (some ⟨r, 0, none⟩)] w fun e w' => e = .returned (.bool false) ∧ w = w' := by
  go_enter Tryd.func44, Tryd.ntmps44
  go_wp2
  go_ret
  exact ⟨rfl, rfl⟩
theorem newRedo_b (hm : most ≤ 1048576) : Calls Tryd.prog 15 #[.int .i64 (most : Int)] w fun e w' => ∃ r F, e = .returned (.tuple #[.pointer (some ⟨r, 0, none⟩), .int .i64 0]) ∧ RoW w' r F most [] [] ∧ Fr (fun _ => False) w F w' := by
  have h1 : (most : Int) ≤ 1048576 := by omega
  have h2 : decide ((most : Int) > 1048576) = false := decide_eq_false (by omega)
  go_enter Tryd.func15, Tryd.ntmps15
  go_wp2_with fail
  refine (newI_tb w).mono ?_
  rintro _ w1 ⟨t, G, rfl, ht, hf⟩
  replace ht := Lib.hid ht
  replace hf := Lib.hid hf
  go_wp2
  go_ret2
  have B := Blk.new w1 70 #[.bool true, .int .i64 (most : Int), .slice none 0 0, .pointer (some ⟨t, 0, none⟩), .slice none 0 0]
  refine ⟨_, _, rfl, ⟨_, _, t, G, _, rfl, ⟨B, Sl.nil _, Sl.nil _, ht.out.fr ((Fr.refl (fun _ => False) w1).alloc _) fun _ _ h => h⟩, Ixd.new, by show 3 ≤ 22; omega⟩, ?_⟩
  refine (hf.out.alloc _).into ?_
  rintro k (rfl | hk | hk | hk)
  · exact .inr (.inr hf.out.size)
  · exact (own_nil' _ _ _ hk).elim
  · exact (own_nil' _ _ _ hk).elim
  · exact .inl hk
theorem newRedo_no {m : Int} (hm : m < 0 ∨ 1048576 < m) (h1 : -9223372036854775808 ≤ m) (h2 : m ≤ 9223372036854775807) : Calls Tryd.prog 15 #[.int .i64 m] w fun e w' => e = .returned (.tuple #[.pointer none, .int .i64 2]) ∧ w = w' := by
  by_cases h : m < 0
  · go_enter Tryd.func15, Tryd.ntmps15
    go_wp2
    go_ret2
    exact ⟨rfl, rfl⟩
  · have h3 : decide (m < 0) = false := decide_eq_false h
    have h4 : decide (m > 1048576) = true := decide_eq_true (by omega)
    clear h hm
    go_enter Tryd.func15, Tryd.ntmps15
    go_wp2
    go_ret2
    exact ⟨rfl, rfl⟩
theorem wlen_b (h : RoW w r F most o p) : Calls Tryd.prog 21 #[.pointer (some ⟨r, 0, none⟩)] w fun e w' => e = .returned (.int .i64 (o.length : Int)) ∧ w = w' := by
  obtain ⟨vl, vp, t, G, T, rfl, h, _⟩ := h
  obtain ⟨A, cp, rfl, _⟩ := Sl.shape h.ol
  have c0 : w.cell? ⟨r, 0, none⟩ = some (.bool true) := h.blk.cell 0
  have c2 : w.cell? ⟨r, 2, none⟩ = some (.slice A o.length cp) := h.blk.cell 2
  have C := Lib.hid (wnone_b c0)
  clear h
  go_enter Tryd.func21, Tryd.ntmps21
  go_wp2_with fail
  refine C.out.mono ?_
  rintro _ w2 ⟨rfl, rfl⟩
  go_wp2
  go_ret
  exact ⟨rfl, rfl⟩
theorem wmark_b (h : RoW w r F most o p) : Calls Tryd.prog 17 #[.pointer (some ⟨r, 0, none⟩)] w fun e w' => e = .returned (.int .i64 (p.length : Int)) ∧ w = w' := by
  obtain ⟨vl, vp, t, G, T, rfl, h, _⟩ := h
  obtain ⟨A, cp, rfl, _⟩ := Sl.shape h.pw
  have c0 : w.cell? ⟨r, 0, none⟩ = some (.bool true) := h.blk.cell 0
  have c2 : w.cell? ⟨r, 4, none⟩ = some (.slice A p.length cp) := h.blk.cell 4
  have C := Lib.hid (wnone_b c0)
  clear h
  go_enter Tryd.func17, Tryd.ntmps17
  go_wp2_with fail
  refine C.out.mono ?_
  rintro _ w2 ⟨rfl, rfl⟩
  go_wp2
  go_ret
  exact ⟨rfl, rfl⟩
/-- what Get tells -/
def rget (o : List (Int × Int)) (a : Int) : Int × Bool := if idx o a < o.length then ((o.getD (idx o a) (0, 0)).2, true) else (0, false)
theorem Ixd.found {o : List (Int × Int)} {a : Int} (h : Ixd T o) (hi : idx o a < o.length) : a ∈ T.l ∧ T.get a = (idx o a : Int) := by
  refine ⟨by rw [h.l]; exact idx_lt.1 hi, ?_⟩
  have := h.at_ _ hi
  rwa [idx_get hi] at this
theorem wget_b {a : Int} (hT : Tab w) (h : RoW w r F most o p) (hl : o.length ≤ 1048576) : Calls Tryd.prog 23 #[.pointer (some ⟨r, 0, none⟩), .int .u64 a] w fun e w' => e = .returned (.tuple #[.int .u64 (rget o a).1, .bool (rget o a).2]) ∧ ∃ n, w' = w.drewN n := by
  obtain ⟨vl, vp, t, G, T, rfl, h, hix, hk⟩ := h
  have c0 : w.cell? ⟨r, 0, none⟩ = some (.bool true) := h.blk.cell 0
  have c2 : w.cell? ⟨r, 2, none⟩ = some vl := h.blk.cell 2
  have c3 : w.cell? ⟨r, 3, none⟩ = some (.pointer (some ⟨t, 0, none⟩)) := h.blk.cell 3
  have C := Lib.hid (wnone_b c0)
  have C2 := Lib.hid (getI_tb (key := a) hT h.tb (by omega))
  by_cases hi : idx o a < o.length
  · have hrg : rget o a = ((o[idx o a]'hi).2, true) := by
      unfold rget
      rw [if_pos hi, List.getD_eq_getElem?_getD, List.getElem?_eq_getElem hi]
      rfl
    rw [hrg]
    obtain ⟨hm, hg⟩ := hix.found hi
    rw [hg, decide_eq_true hm] at C2
    obtain ⟨A, cp, rfl, hcp, hA, hcl⟩ := Cl.lies h.ol
    obtain ⟨g, off, rfl, _, d0, d1⟩ := hcl _ hi
    have hii : ((idx o a : Nat) : Int) < (o.length : Int) := by omega
    have hol : (o.length : Int) ≤ 1048576 := by omega
    dsimp only
    generalize (o[idx o a]'hi).2 = y at *
    generalize idx o a = i at *
    clear h hA hcl d0 hm hg hrg
    go_enter Tryd.func23, Tryd.ntmps23
    go_wp2_with fail
    refine C.out.mono ?_
    rintro _ w2 ⟨rfl, rfl⟩
    go_wp2_with fail
    refine C2.out.mono ?_
    rintro _ w2 ⟨rfl, n2, rfl⟩
    go_wp2
    go_ret2
    exact ⟨rfl, _, rfl⟩
  · have hrg : rget o a = (0, false) := by unfold rget; rw [if_neg hi]
    rw [hrg]
    have hm : a ∉ T.l := by rw [hix.l]; exact fun hm => hi (idx_lt.2 hm)
    rw [decide_eq_false hm] at C2
    generalize T.get a = y at *
    clear h hm hi hrg
    go_enter Tryd.func23, Tryd.ntmps23
    go_wp2_with fail
    refine C.out.mono ?_
    rintro _ w2 ⟨rfl, rfl⟩
    go_wp2_with fail
    refine C2.out.mono ?_
    rintro _ w2 ⟨rfl, n2, rfl⟩
    go_wp2
    go_ret2
    exact ⟨rfl, _, rfl⟩
end
end Go.Proofs.YtfhpnlaabgkpjaaDoor
/- A redo log: Put, by contract. -/
namespace Go.Proofs.YtfhpnlaabgkpjaaDoor
open Go.RowKit Go.Shelf
set_option maxHeartbeats 8000000
set_option linter.unusedVariables false
set_option linter.unusedSimpArgs false

section
variable {w w' : World} {r most : Nat} {F G G' : Nat → Prop} {o : List (Int × Int)} {p : List (Int × Int × Bool)} {vl vp : Value} {t : Nat} {T : Tbl Int}
theorem RoA.drewN (h : RoA w r most o p vl vp t G T) (n : Nat) : RoA (w.drewN n) r most o p vl vp t G T := h.new_ ((Fr.refl (fun _ => False) w).drewN n)
set_option maxRecDepth 100000 in
theorem wput_over {a x : Int} (hT : Tab w) (h : RoW w r F most o p) (hl : o.length ≤ 1048576) (hp : (p.length + 1) * 24 ≤ 140737488355328) (hi : idx o a < o.length) :
    Calls Tryd.prog 16 #[.pointer (some ⟨r, 0, none⟩), .int .u64 a, .int .u64 x] w fun e w' => e = .returned (.int .i64 0) ∧ ∃ F', RoW w' r F' most (rput o (a, x)) (p ++ [wasOf o (a, x)]) ∧ Fr F w F' w' := by
  obtain ⟨vl, vp, t, G, T, rfl, h, hix, hk⟩ := h
  have hmx : Tryd.prog.follows .mixedOrders = true := by kernel_rfl
  have hw1 : wasOf o (a, x) = ((idx o a : Int), (o[idx o a]'hi).2, false) := by
    unfold wasOf
    rw [if_pos hi]
    show (_, (o.getD (idx o a) (0, 0)).2, false) = _
    rw [List.getD_eq_getElem?_getD, List.getElem?_eq_getElem hi]
    rfl
  have hw2 : rput o (a, x) = o.set (idx o a) (a, x) := by unfold rput; rw [if_pos hi]
  rw [hw1, hw2]
  have hix2 := Lib.hid (hix.set (n := idx o a) (c := (a, x)) fun hi => (idx_get hi).symm)
  obtain ⟨hm, hg⟩ := hix.found hi
  have c0 : w.cell? ⟨r, 0, none⟩ = some (.bool true) := h.blk.cell 0
  have c3 : w.cell? ⟨r, 3, none⟩ = some (.pointer (some ⟨t, 0, none⟩)) := h.blk.cell 3
  have c2 : w.cell? ⟨r, 2, none⟩ = some vl := h.blk.cell 2
  have c4 : w.cell? ⟨r, 4, none⟩ = some vp := h.blk.cell 4
  have C := Lib.hid (wnone_b c0)
  have C2 := Lib.hid (getI_tb (key := a) hT h.tb (by omega))
  rw [hg, decide_eq_true hm] at C2
  obtain ⟨A, cp, rfl, hcp, hA, hcl⟩ := Cl.lies h.ol
  obtain ⟨g, off, rfl, _, d0, d1⟩ := hcl _ hi
  obtain ⟨Ap, cpp, rfl, hcpp⟩ := Sl.shape h.pw
  have hii : ((idx o a : Nat) : Int) < (o.length : Int) := by omega
  have hol : (o.length : Int) ≤ 1048576 := by omega
  have hp1 := Lib.hid (show p.length + 1 ≤ 9223372036854775807 by omega)
  replace hp := Lib.hid hp
  have ho1 := Lib.hid (show 0 + o.length ≤ 9223372036854775807 by omega)
  have ho2 := Lib.hid (show (0 + o.length) * 16 ≤ 140737488355328 by omega)
  have hsnd : Hid (∃ z, (o[idx o a]'hi) = (a, z)) := Lib.hid ⟨(o[idx o a]'hi).2, Prod.ext (idx_get hi) rfl⟩
  generalize hy : (o[idx o a]'hi).2 = y at *
  replace hy := Lib.hid hy
  generalize hidx : idx o a = i at *
  have H := Lib.hid h
  replace hidx := Lib.hid hidx
  clear h hA hcl d0 hm hg hix hT hw1 hw2
  go_enter Tryd.func16, Tryd.ntmps16
  go_wp2_with fail
  refine C.out.mono ?_
  rintro _ w2 ⟨rfl, rfl⟩
  go_wp2_with fail
  refine C2.out.mono ?_
  rintro _ w2 ⟨rfl, n2, rfl⟩
  have H2 := Lib.hid (H.out.drewN n2)
  have F2 := Lib.hid ((Fr.refl (RoF r (.slice (some ⟨g, off, none⟩) o.length cp) (.slice Ap p.length cpp) G) w).drewN n2)
  have c2 : (w.drewN n2).cell? ⟨r, 2, none⟩ = some (.slice (some ⟨g, off, none⟩) o.length cp) := c2
  have c4 : (w.drewN n2).cell? ⟨r, 4, none⟩ = some (.slice Ap p.length cpp) := c4
  have d1 : (w.drewN n2).cell? ⟨g, off + i * 2 + 1, none⟩ = some (.int .u64 y) := d1
  clear C C2 H c0 c3
  generalize w.drewN n2 = w2 at *
  go_wp2_with fail
  refine wp_region_mixH (fun W => W.cell? ⟨r, 4, none⟩ = some (.slice Ap p.length cpp)) [3, 3, 3, 3, 0, 3, 3, 3, 3, 1, 3, 3, 3, 1, 2, 2, 2, 3, 3, 2] (List.range 20) (by kernel_rfl) (by kernel_rfl) (fun _ _ h => h) c4 ?_
  repeat (first | ((first | refine wpMixH_pure rfl rfl (fun K hK => ?_) | refine wpMixH_loc rfl rfl (fun K hK => ?_) | refine wpMixH_any rfl rfl (fun K hK => ?_)); go_simp; refine hK _ _ ?_; clear hK K) | (refine wpMixH_any rfl rfl (fun K hK => ?_); rw [if_pos (by go_simp)]; apply Exists.intro; refine And.intro (fun w2 hS2 => ?_) (hK _ _ ?_); (focus (obtain hs1 := hS2; go_simp; rfl)); clear hK K))
  refine wpMixH_loud rfl rfl (fun m1 K hK => ?_)
  go_wp2_with fail
  refine hK _ _ (fun _ => c4) ?_; clear hK K
  repeat (first | ((first | refine wpMixH_pure rfl rfl (fun K hK => ?_) | refine wpMixH_loc rfl rfl (fun K hK => ?_) | refine wpMixH_any rfl rfl (fun K hK => ?_)); go_simp; refine hK _ _ ?_; clear hK K) | (refine wpMixH_any rfl rfl (fun K hK => ?_); rw [if_pos (by go_simp)]; apply Exists.intro; refine And.intro (fun w2 hS2 => ?_) (hK _ _ ?_); (focus (obtain hs1 := hS2; go_simp; rfl)); clear hK K))
  refine wpMixH_loud rfl rfl (fun m2 K hK => ?_)
  go_wp2_with fail
  refine hK _ _ (fun _ => cell_alloc_ c4) ?_; clear hK K
  repeat (first | ((first | refine wpMixH_pure rfl rfl (fun K hK => ?_) | refine wpMixH_loc rfl rfl (fun K hK => ?_) | refine wpMixH_any rfl rfl (fun K hK => ?_)); go_simp; refine hK _ _ ?_; clear hK K) | (refine wpMixH_any rfl rfl (fun K hK => ?_); rw [if_pos (by go_simp)]; apply Exists.intro; refine And.intro (fun w2 hS2 => ?_) (hK _ _ ?_); (focus (obtain hs1 := hS2; go_simp; rfl)); clear hK K))
  refine wpMixH_loud rfl rfl (fun m3 K hK => ?_)
  have P3 : Ws ((w2.drewN (1 + m1 + m2)).drewN m3) (.slice Ap p.length cpp) p := Sl.drewN (Sl.drewN H2.out.pw _) _
  refine wpList_was ((w2.drewN (1 + m1 + m2)).drewN m3) rfl (.tmp 26) (.tmp 37) rfl (.slice Ap p.length cpp) p (i : Int) y false rfl P3 rfl hp1.out hp.out ?_
  intro A3 cp3 w3 hc3 hv3 hm3
  obtain ⟨H4, F4⟩ := RoA.past (RoA.drewN (RoA.drewN H2.out (1 + m1 + m2)) m3) hv3 hm3
  have B3 := hm3.blk (RoA.drewN (RoA.drewN H2.out (1 + m1 + m2)) m3).blk (Sl.ne_ P3 (RoA.drewN (RoA.drewN H2.out (1 + m1 + m2)) m3).blk (by decide))
  have c43 : w3.cell? ⟨r, 4, none⟩ = some (.slice Ap p.length cpp) := B3.cell 4
  have z43 := B3.frozen 4
  have FF := Lib.hid (((F2.out.drewN (1 + m1 + m2)).drewN m3).trans F4)
  replace H4 := Lib.hid H4
  clear hv3 hm3 B3 P3 F4 H2 F2 c2 d1 c4
  refine hK _ _ (fun h => (Bool.false_ne_true ((Eq.symm (by kernel_rfl)).trans h)).elim) ?_; clear hK K
  repeat ((first | refine wpMixH_pure rfl rfl (fun K hK => ?_) | refine wpMixH_loc rfl rfl (fun K hK => ?_) | refine wpMixH_any rfl rfl (fun K hK => ?_)); go_simp; refine hK _ _ ?_; clear hK K)
  refine wpMixH_loud rfl rfl (fun m4 K hK => ?_)
  go_wp2_with fail
  refine hK _ _ (fun h => (Bool.false_ne_true ((Eq.symm (by kernel_rfl)).trans h)).elim) ?_; clear hK K
  refine wpMixH_nil (fun m5 => ?_)
  have H5 : Hid (RoA (((w3.drewN m4).setCell ⟨r, 4, none⟩ (.slice A3 (p.length + 1) cp3)).drewN m5) r most o (p ++ [((i : Int), y, false)]) (.slice (some ⟨g, off, none⟩) o.length cp) (.slice A3 (p.length + 1) cp3) t G T) := Lib.hid (RoA.drewN (RoA.drewN H4.out m4) m5)
  have F5 : Hid (Fr (RoF r (.slice (some ⟨g, off, none⟩) o.length cp) (.slice Ap p.length cpp) G) w (RoF r (.slice (some ⟨g, off, none⟩) o.length cp) (.slice A3 (p.length + 1) cp3) G) (((w3.drewN m4).setCell ⟨r, 4, none⟩ (.slice A3 (p.length + 1) cp3)).drewN m5)) := Lib.hid ((FF.out.drewN m4).drewN m5)
  clear H4 FF c43 z43
  generalize ((w3.drewN m4).setCell ⟨r, 4, none⟩ (.slice A3 (p.length + 1) cp3)).drewN m5 = w5 at *
  have c25 : w5.cell? ⟨r, 2, none⟩ = some (.slice (some ⟨g, off, none⟩) o.length cp) := H5.out.blk.cell 2
  go_wp2_with (at_builtin; refine wpList_cells w5 rfl (.const (.slice none 0 0)) (.tmp 44) rfl (.slice none 0 0) (.slice (some ⟨g, off, none⟩) o.length cp) [] o rfl (Sl.nil _) rfl H5.out.ol ho1.out ho2.out ?_; intro A6 cp6 w6 hc6 hv6 hm6; (have e0 : ([] : List (Int × Int)).length + o.length = o.length := Nat.zero_add _); rw [e0, List.nil_append] at hv6; rw [e0] at hm6 hc6; obtain ⟨g6, off6, rfl, hg6, hcl6⟩ := Sl.cell encC_len (by decide) hv6 hi; (have q1 : w6.cell? ⟨g6, off6 + i * 2 + 1, none⟩ = some (.int .u64 y) := (by have := (hcl6 i hi 1 (by decide)).1; obtain ⟨z, hz⟩ := hsnd.out; rw [← Nat.add_assoc, hz] at this; rw [this, ← hy.out, hz]; rfl)); (have z1 : w6.frozen? ⟨g6, off6 + i * 2 + 1, none⟩ = false := (by have := (hcl6 i hi 1 (by decide)).2; rw [← Nat.add_assoc] at this; exact this)); (have m6 : Fr (fun _ => False) w5 (fun _ => False) w6 := (hm6.wide fun k hk => (own_nil' _ _ _ hk).elim).into fun _ h => h.elim); (have B6 := m6.blk H5.out.blk fun h => h); (have hgr : r ≠ g6 := fun e => Sl.ne_ hv6 B6 (by decide) (by simp [own, Value.ownBlock, e])); (have q2 : (w6.setCell ⟨g6, off6 + i * 2 + 1, none⟩ (.int .u64 x)).cell? ⟨r, 2, none⟩ = some (.slice (some ⟨g, off, none⟩) o.length cp) := (B6.far (p := ⟨g6, off6 + i * 2 + 1, none⟩) hgr _).cell 2); (have z2 : (w6.setCell ⟨g6, off6 + i * 2 + 1, none⟩ (.int .u64 x)).frozen? ⟨r, 2, none⟩ = false := (B6.far (p := ⟨g6, off6 + i * 2 + 1, none⟩) hgr _).frozen 2); have V6 := Lib.hid hv6; have M6 := Lib.hid hm6; clear hv6 hm6 hcl6 m6 B6 c25)
  go_ret
  have V7 : Cl (w6.setCell ⟨g6, off6 + i * 2 + 1, none⟩ (.int .u64 x)) (.slice (some ⟨g6, off6, none⟩) o.length cp6) (o.set i (a, x)) := by
    have := Sl.upd encC_len V6.out hi (j := 1) (by decide) (.int .u64 x) (a, x) (by obtain ⟨z, hz⟩ := hsnd.out; rw [hz]; rfl)
    rwa [← Nat.add_assoc] at this
  have M7 : Fr (own (.slice (some ⟨g, off, none⟩) o.length cp)) w5 (own (.slice (some ⟨g6, off6, none⟩) o.length cp6)) (w6.setCell ⟨g6, off6 + i * 2 + 1, none⟩ (.int .u64 x)) := (M6.out.wide fun k hk => (own_nil' _ _ _ hk).elim).set (p := ⟨g6, off6 + i * 2 + 1, none⟩) (.inl (by simp [own, Value.ownBlock])) _
  obtain ⟨H8, F8⟩ := RoA.ents H5.out V7 M7
  exact ⟨rfl, _, ⟨_, _, t, G, T, rfl, H8, hix2.out, hk⟩, F5.out.trans F8⟩
set_option maxRecDepth 100000 in
theorem wput_full {a x : Int} (hT : Tab w) (h : RoW w r F most o p) (hl : o.length ≤ 1048576) (hm1 : most ≤ 1048576) (hi : ¬ idx o a < o.length) (hf : most ≤ o.length) :
    Calls Tryd.prog 16 #[.pointer (some ⟨r, 0, none⟩), .int .u64 a, .int .u64 x] w fun e w' => e = .returned (.int .i64 5) ∧ ∃ n, w' = w.drewN n := by
  obtain ⟨vl, vp, t, G, T, rfl, h, hix, hk⟩ := h
  have hmx : Tryd.prog.follows .mixedOrders = true := by kernel_rfl
  have hm : a ∉ T.l := by rw [hix.l]; exact fun hm => hi (idx_lt.2 hm)
  have c0 : w.cell? ⟨r, 0, none⟩ = some (.bool true) := h.blk.cell 0
  have c1 : w.cell? ⟨r, 1, none⟩ = some (.int .i64 (most : Int)) := h.blk.cell 1
  have c3 : w.cell? ⟨r, 3, none⟩ = some (.pointer (some ⟨t, 0, none⟩)) := h.blk.cell 3
  obtain ⟨A, cp, rfl, hcp⟩ := Sl.shape h.ol
  have c2 : w.cell? ⟨r, 2, none⟩ = some (.slice A o.length cp) := h.blk.cell 2
  have C := Lib.hid (wnone_b c0)
  have C2 := Lib.hid (getI_tb (key := a) hT h.tb (by omega))
  rw [decide_eq_false hm] at C2
  generalize T.get a = y at *
  have hd : decide (o.length ≥ most) = true := decide_eq_true hf
  clear h hm hix hT hi hf hcp hk hl hm1
  go_enter Tryd.func16, Tryd.ntmps16
  go_wp2_with fail
  refine C.out.mono ?_
  rintro _ w2 ⟨rfl, rfl⟩
  go_wp2_with fail
  refine C2.out.mono ?_
  rintro _ w2 ⟨rfl, n2, rfl⟩
  go_wp2_with fail
  refine wp_region_mixH (fun _ => True) [3, 3, 3, 1, 3, 3, 3, 3, 1, 3] (List.range 10) (by kernel_rfl) (by kernel_rfl) (fun _ _ h => h) trivial ?_
  repeat ((first | refine wpMixH_pure rfl rfl (fun K hK => ?_) | refine wpMixH_loc rfl rfl (fun K hK => ?_) | refine wpMixH_any rfl rfl (fun K hK => ?_)); go_simp; refine hK _ _ ?_; clear hK K)
  refine wpMixH_nil (fun m1 => ?_)
  go_wp2
  go_ret
  exact ⟨rfl, _, drewN_drewN _ _ _⟩
set_option maxRecDepth 100000 in
theorem wput_new {a x : Int} (hT : Tab w) (h : RoW w r F most o p) (h1F : ¬ F 1) (hm1 : most ≤ 1048576) (hp : (p.length + 1) * 24 ≤ 140737488355328) (hi : ¬ idx o a < o.length) (hf : o.length < most) :
    Calls Tryd.prog 16 #[.pointer (some ⟨r, 0, none⟩), .int .u64 a, .int .u64 x] w fun e w' => e = .returned (.int .i64 0) ∧ ∃ F', RoW w' r F' most (rput o (a, x)) (p ++ [wasOf o (a, x)]) ∧ Fr F w F' w' := by
  obtain ⟨vl, vp, t, G, T, rfl, h, hix, hk⟩ := h
  have hmx : Tryd.prog.follows .mixedOrders = true := by kernel_rfl
  have hm : a ∉ T.l := by rw [hix.l]; exact fun hm => hi (idx_lt.2 hm)
  have hw1 : wasOf o (a, x) = ((o.length : Int), 0, true) := by unfold wasOf; rw [if_neg hi]
  have hw2 : rput o (a, x) = o ++ [(a, x)] := by unfold rput; rw [if_neg hi]
  rw [hw1, hw2]
  have hTl : T.l.length = o.length := by rw [hix.l, List.length_map]
  have hk2 : (T.put 0 a (o.length : Int)).k ≤ 22 := by
    unfold Tbl.put
    rw [if_neg hm]
    split
    · rename_i hg
      show T.k + 1 ≤ 22
      apply Nat.le_of_not_lt
      intro h22
      have : 2 ^ 22 ≤ 2 ^ T.k := Nat.pow_le_pow_right (by omega) (by omega)
      omega
    · exact hk
  have hix2 := Lib.hid (hix.put (x := x) (by omega) (fun hm => hi (idx_lt.2 hm)))
  replace hk2 := Lib.hid hk2
  have c0 : w.cell? ⟨r, 0, none⟩ = some (.bool true) := h.blk.cell 0
  have c1 : w.cell? ⟨r, 1, none⟩ = some (.int .i64 (most : Int)) := h.blk.cell 1
  have c3 : w.cell? ⟨r, 3, none⟩ = some (.pointer (some ⟨t, 0, none⟩)) := h.blk.cell 3
  obtain ⟨A, cp, rfl, hcp⟩ := Sl.shape h.ol
  obtain ⟨Ap, cpp, rfl, hcpp⟩ := Sl.shape h.pw
  have c2 : w.cell? ⟨r, 2, none⟩ = some (.slice A o.length cp) := h.blk.cell 2
  have C := Lib.hid (wnone_b c0)
  have C2 := Lib.hid (getI_tb (key := a) hT h.tb (by omega))
  rw [decide_eq_false hm] at C2
  have hpow : 2 ^ T.k ≤ 2 ^ 22 := Nat.pow_le_pow_right (by omega) hk
  have C3 := Lib.hid (fun n => putI_tb (key := a) (y := (o.length : Int)) (w := w.drewN n) (hT.keep rfl) (h.tb.drewN n) (by omega) (by omega) (by omega))
  generalize T.get a = y at *
  have hd : decide (o.length ≥ most) = false := decide_eq_false (by omega)
  have hp1 := Lib.hid (show p.length + 1 ≤ 9223372036854775807 by omega)
  replace hp := Lib.hid hp
  have ho1 := Lib.hid (show o.length + 1 ≤ 9223372036854775807 by omega)
  have ho2 := Lib.hid (show (o.length + 1) * 16 ≤ 140737488355328 by omega)
  have hol : (o.length : Int) ≤ 1048576 := by omega
  have H := Lib.hid h
  clear h hix hT hi hf hcp hk hm1 hw1 hw2 hTl hpow
  go_enter Tryd.func16, Tryd.ntmps16
  go_wp2_with fail
  refine C.out.mono ?_
  rintro _ w2 ⟨rfl, rfl⟩
  go_wp2_with fail
  refine C2.out.mono ?_
  rintro _ w2 ⟨rfl, n2, rfl⟩
  go_wp2_with fail
  refine wp_region_mixH (fun _ => True) [3, 3, 3, 1, 3, 3, 3, 3, 1, 3] (List.range 10) (by kernel_rfl) (by kernel_rfl) (fun _ _ h => h) trivial ?_
  repeat ((first | refine wpMixH_pure rfl rfl (fun K hK => ?_) | refine wpMixH_loc rfl rfl (fun K hK => ?_) | refine wpMixH_any rfl rfl (fun K hK => ?_)); go_simp; refine hK _ _ ?_; clear hK K)
  refine wpMixH_nil (fun m1 => ?_)
  go_wp2_with fail
  refine wp_region_mixH (fun _ => True) [3, 3, 3, 1, 3, 3, 3, 3, 1, 3, 2] (List.range 11) (by kernel_rfl) (by kernel_rfl) (fun _ _ h => h) trivial ?_
  repeat ((first | refine wpMixH_pure rfl rfl (fun K hK => ?_) | refine wpMixH_loc rfl rfl (fun K hK => ?_) | refine wpMixH_any rfl rfl (fun K hK => ?_)); go_simp; refine hK _ _ ?_; clear hK K)
  refine wpMixH_loud rfl rfl (fun m2 K hK => ?_)
  go_wp2_with fail
  refine (C3.out _).mono ?_
  rintro _ w3 ⟨rfl, G3, t3, f3⟩
  obtain ⟨H3, F3⟩ := RoA.tabl (RoA.drewN H.out (n2 + 1 + m1 + 1 + m2)) t3 f3
  replace H3 := Lib.hid H3
  have F3' : Hid (Fr (RoF r (.slice A o.length cp) (.slice Ap p.length cpp) G) w (RoF r (.slice A o.length cp) (.slice Ap p.length cpp) G3) w3) := Lib.hid (Fr.trans ((Fr.refl _ w).drewN (n2 + 1 + m1 + 1 + m2)) F3)
  clear t3 f3 F3 C C2 C3 H
  go_wp2_with fail
  refine hK _ _ (fun h => (Bool.false_ne_true ((Eq.symm (by kernel_rfl)).trans h)).elim) ?_; clear hK K
  repeat ((first | refine wpMixH_pure rfl rfl (fun K hK => ?_) | refine wpMixH_loc rfl rfl (fun K hK => ?_) | refine wpMixH_any rfl rfl (fun K hK => ?_)); go_simp; refine hK _ _ ?_; clear hK K)
  refine wpMixH_nil (fun m3 => ?_)
  have H4 := Lib.hid (RoA.drewN H3.out m3)
  have F4 := Lib.hid (F3'.out.drewN m3)
  clear H3 F3'
  go_wp2_with fail
  generalize w3.drewN m3 = w4 at *
  have c24 : w4.cell? ⟨r, 2, none⟩ = some (.slice A o.length cp) := H4.out.blk.cell 2
  have c44 : w4.cell? ⟨r, 4, none⟩ = some (.slice Ap p.length cpp) := H4.out.blk.cell 4
  refine wp_region_mixH (fun W => W.cell? ⟨r, 4, none⟩ = some (.slice Ap p.length cpp)) [3, 3, 3, 3, 0, 3, 3, 3, 1, 3, 2, 2, 2, 3, 3, 2] (List.range 16) (by kernel_rfl) (by kernel_rfl) (fun _ _ h => h) c44 ?_
  repeat (first | ((first | refine wpMixH_pure rfl rfl (fun K hK => ?_) | refine wpMixH_loc rfl rfl (fun K hK => ?_) | refine wpMixH_any rfl rfl (fun K hK => ?_)); go_simp; refine hK _ _ ?_; clear hK K) | (refine wpMixH_any rfl rfl (fun K hK => ?_); rw [if_pos (by go_simp)]; apply Exists.intro; refine And.intro (fun w2 hS2 => ?_) (hK _ _ ?_); (focus (obtain hs1 := hS2; go_simp; rfl)); clear hK K))
  refine wpMixH_loud rfl rfl (fun m4 K hK => ?_)
  go_wp2_with fail
  refine hK _ _ (fun _ => c44) ?_; clear hK K
  repeat (first | ((first | refine wpMixH_pure rfl rfl (fun K hK => ?_) | refine wpMixH_loc rfl rfl (fun K hK => ?_) | refine wpMixH_any rfl rfl (fun K hK => ?_)); go_simp; refine hK _ _ ?_; clear hK K) | (refine wpMixH_any rfl rfl (fun K hK => ?_); rw [if_pos (by go_simp)]; apply Exists.intro; refine And.intro (fun w2 hS2 => ?_) (hK _ _ ?_); (focus (obtain hs1 := hS2; go_simp; rfl)); clear hK K))
  refine wpMixH_loud rfl rfl (fun m5 K hK => ?_)
  go_wp2_with fail
  refine hK _ _ (fun _ => cell_alloc_ c44) ?_; clear hK K
  repeat (first | ((first | refine wpMixH_pure rfl rfl (fun K hK => ?_) | refine wpMixH_loc rfl rfl (fun K hK => ?_) | refine wpMixH_any rfl rfl (fun K hK => ?_)); go_simp; refine hK _ _ ?_; clear hK K) | (refine wpMixH_any rfl rfl (fun K hK => ?_); rw [if_pos (by go_simp)]; apply Exists.intro; refine And.intro (fun w2 hS2 => ?_) (hK _ _ ?_); (focus (obtain hs1 := hS2; go_simp; rfl)); clear hK K))
  refine wpMixH_loud rfl rfl (fun m6 K hK => ?_)
  have P3 : Ws ((w4.drewN (1 + m4 + m5)).drewN m6) (.slice Ap p.length cpp) p := Sl.drewN (Sl.drewN H4.out.pw _) _
  refine wpList_was ((w4.drewN (1 + m4 + m5)).drewN m6) rfl (.tmp 80) (.tmp 87) rfl (.slice Ap p.length cpp) p (o.length : Int) 0 true rfl P3 rfl hp1.out hp.out ?_
  intro A3 cp3 w5 hc3 hv3 hm3
  obtain ⟨H6, F6⟩ := RoA.past (RoA.drewN (RoA.drewN H4.out (1 + m4 + m5)) m6) hv3 hm3
  have B3 := hm3.blk (RoA.drewN (RoA.drewN H4.out (1 + m4 + m5)) m6).blk (Sl.ne_ P3 (RoA.drewN (RoA.drewN H4.out (1 + m4 + m5)) m6).blk (by decide))
  have c43 : w5.cell? ⟨r, 4, none⟩ = some (.slice Ap p.length cpp) := B3.cell 4
  have z43 := B3.frozen 4
  have FF := Lib.hid (((F4.out.drewN (1 + m4 + m5)).drewN m6).trans F6)
  replace H6 := Lib.hid H6
  clear hv3 hm3 B3 P3 F6 H4 F4 c24 c44
  refine hK _ _ (fun h => (Bool.false_ne_true ((Eq.symm (by kernel_rfl)).trans h)).elim) ?_; clear hK K
  repeat ((first | refine wpMixH_pure rfl rfl (fun K hK => ?_) | refine wpMixH_loc rfl rfl (fun K hK => ?_) | refine wpMixH_any rfl rfl (fun K hK => ?_)); go_simp; refine hK _ _ ?_; clear hK K)
  refine wpMixH_loud rfl rfl (fun m7 K hK => ?_)
  go_wp2_with fail
  refine hK _ _ (fun h => (Bool.false_ne_true ((Eq.symm (by kernel_rfl)).trans h)).elim) ?_; clear hK K
  refine wpMixH_nil (fun m8 => ?_)
  have H7 : Hid (RoA (((w5.drewN m7).setCell ⟨r, 4, none⟩ (.slice A3 (p.length + 1) cp3)).drewN m8) r most o (p ++ [((o.length : Int), 0, true)]) (.slice A o.length cp) (.slice A3 (p.length + 1) cp3) t G3 (T.put 0 a (o.length : Int))) := Lib.hid (RoA.drewN (RoA.drewN H6.out m7) m8)
  have F7 : Hid (Fr (RoF r (.slice A o.length cp) (.slice Ap p.length cpp) G) w (RoF r (.slice A o.length cp) (.slice A3 (p.length + 1) cp3) G3) (((w5.drewN m7).setCell ⟨r, 4, none⟩ (.slice A3 (p.length + 1) cp3)).drewN m8)) := Lib.hid ((FF.out.drewN m7).drewN m8)
  clear H6 FF c43 z43
  generalize ((w5.drewN m7).setCell ⟨r, 4, none⟩ (.slice A3 (p.length + 1) cp3)).drewN m8 = w7 at *
  have c27 : w7.cell? ⟨r, 2, none⟩ = some (.slice A o.length cp) := H7.out.blk.cell 2
  go_wp2_with (at_builtin; refine wpList_cell w7 rfl (.tmp 95) (.tmp 99) rfl (.slice A o.length cp) o a x rfl H7.out.ol rfl ho1.out ho2.out ?_; intro A8 cp8 w8 hc8 hv8 hm8; (have B8 := hm8.blk H7.out.blk (Sl.ne_ H7.out.ol H7.out.blk (by decide))); (have q2 : w8.cell? ⟨r, 2, none⟩ = some (.slice A o.length cp) := B8.cell 2); (have z2 := B8.frozen 2); have V8 := Lib.hid hv8; have M8 := Lib.hid hm8; clear hv8 hm8 B8 c27)
  go_ret
  obtain ⟨H9, F9⟩ := RoA.ents H7.out V8.out M8.out
  exact ⟨rfl, _, ⟨_, _, t, G3, _, rfl, H9, hix2.out, hk2.out⟩, F7.out.trans F9⟩
end
end Go.Proofs.YtfhpnlaabgkpjaaDoor
