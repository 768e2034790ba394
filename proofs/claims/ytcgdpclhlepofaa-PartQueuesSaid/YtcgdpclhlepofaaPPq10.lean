/- Lists of words that are written over and grown, each with a mark of its own: none shows another one's (parleykit.Apart). -/
import Derived.Deep.LoopGhost
import Derived.Deep.DeepMust
import Derived.Deep.DeepCutAuto
import Derived.IntWalk
import Derived.Test.YtcgdpclhlepofaaRows
import Derived.ProofKit
import Derived.OpenShut
import Derived.ChangeOld
import Derived.Below
import Derived.SizedLaws
import Derived.Deep.Slices
import Derived.Deep.Fields
import Derived.ChangeSame
import Derived.Carry
import Derived.Test.YtcgdpclhlepofaaPPq1
import Derived.Test.YtcgdpclhlepofaaPPq4
import Derived.Test.YtcgdpclhlepofaaPPq8
import Derived.Test.YtcgdpclhlepofaaPPq9
namespace Go.Proofs.Ytcgdpclhlepofaa
open Go.RowKit
set_option maxHeartbeats 4000000
set_option linter.unusedVariables false
set_option linter.unusedSimpArgs false

theorem sl_info : (Try.prog.info? 32).map (fun i => (i.zero, i.size, i.bytes)) = some (some (.slice none 0 0), 1, 24) := by kernel_rfl
/-- The lists that are told: where they are told of, which they are. -/
structure Ls (w : World) (A : Option Addr) (n : Nat) (V : Nat → Value) : Prop where
  at_ : ∀ i, i < n → ∃ g o, A = some ⟨g, o, none⟩ ∧ w.cell? ⟨g, o + i, none⟩ = some (V i) ∧ ∃ cs, Blk w g 32 cs
theorem Ls.keep {w w' : World} {A : Option Addr} {n : Nat} {V : Nat → Value} (h : Ls w A n V) (hk : ∀ g cs, Blk w g 32 cs → w'.heap[g]? = w.heap[g]?) : Ls w' A n V := ⟨fun i hi => by
  obtain ⟨g, o, h1, h2, cs, h3⟩ := h.at_ i hi
  have e := hk g cs h3
  exact ⟨g, o, h1, by unfold World.cell? at *; simp only [e]; exact h2, cs, e.trans h3⟩⟩
/-- the mark of the i-th list -/
def mk (i : Nat) : Int := 1099511627776 + i
def marks (n i : Nat) : List Int := List.replicate n (mk i)
theorem marks_len (n i : Nat) : (marks n i).length = n := by simp [marks]
theorem marks_get {n i j : Nat} (h : j < n) : (marks n i).getD j 0 = mk i := by simp [marks, List.getD_eq_getElem?_getD, h]
theorem marks_succ (n i : Nat) : marks n i ++ [mk i] = marks (n + 1) i := by simp [marks, List.replicate_succ']
/-- a list whose first k words are marked -/
def half (l : List Int) (k i : Nat) : List Int := marks k i ++ l.drop k
theorem half_len {l : List Int} {k i : Nat} (h : k ≤ l.length) : (half l k i).length = l.length := by simp [half, marks]; omega
theorem half_zero (l : List Int) (i : Nat) : half l 0 i = l := by simp [half, marks]
theorem half_all (l : List Int) (i : Nat) : half l l.length i = marks l.length i := by simp [half]
theorem half_set {l : List Int} {k i : Nat} (h : k < l.length) : (half l k i).set k (mk i) = half l (k + 1) i := by
  unfold half
  rw [List.set_append_right _ _ (by rw [marks_len]; exact Nat.le_refl _), marks_len, Nat.sub_self, List.drop_eq_getElem_cons h, List.set_cons_zero, ← marks_succ]
  simp
/-- what the first loop has done: the lists ahead of the i-th are marked, of that one the first k words -/
def turned (L : Nat → List Int) (i k j : Nat) : List Int := if j < i then marks (L j).length j else if j = i then half (L j) k j else L j
theorem turned_len (L : Nat → List Int) {i k j : Nat} (h : j = i → k ≤ (L j).length) : (turned L i k j).length = (L j).length := by
  unfold turned
  split
  · exact marks_len _ _
  · split
    · exact half_len (h (by assumption))
    · rfl
theorem turned_next (L : Nat → List Int) (i j : Nat) : turned L i (L i).length j = turned L (i + 1) 0 j := by
  unfold turned
  by_cases h1 : j < i
  · rw [if_pos h1, if_pos (by omega)]
  · rw [if_neg h1]
    by_cases h2 : j = i
    · subst h2; rw [if_pos rfl, if_pos (by omega), half_all]
    · rw [if_neg h2, if_neg (by omega)]
      by_cases h3 : j = i + 1
      · rw [if_pos h3, half_zero]
      · rw [if_neg h3]
/-- What stands between two rounds of the second loop: the first i lists have been grown, the longer ones are told of in v. -/
structure Lg (B : Nat) (w0 w : World) (A : Option Addr) (n i : Nat) (V N : Nat → Value) (L : Nat → List Int) (v : Value) : Prop where
  ls : Ls w A n V
  old : ∀ j, j < n → Lies w (V j) (marks (L j).length j)
  wl : ∀ j, i ≤ j → j < n → Wl w (V j) (marks (L j).length j)
  new : ∀ j, j < i → Lies w (N j) (marks ((L j).length + 20) j)
  row : Rowv w B 32 1 v i ((List.range i).map N)
  ow : ∀ j, j < i → ∀ k, own (N j) k → k < w.heap.size ∧ (own (V j) k ∨ B ≤ k) ∧ ¬ own v k
  lt : ∀ j, j < n → ∀ k, Go.Proofs.Ytcgdpclhlepofaa.own (V j) k → k < B
  at_ : ∀ g o, A = some ⟨g, o, none⟩ → 0 < n → g < B
  typ : ∀ j, j < n → ∀ g o, A = some ⟨g, o, none⟩ → ¬ Go.Proofs.Ytcgdpclhlepofaa.own (V j) g
  ap : ∀ i j k, i < n → j < n → Go.Proofs.Ytcgdpclhlepofaa.own (V i) k → Go.Proofs.Ytcgdpclhlepofaa.own (V j) k → i = j
  fr : Fr (fun k => ∃ i, i < n ∧ Go.Proofs.Ytcgdpclhlepofaa.own (V i) k) w0 (fun k => ∃ i, i < n ∧ Go.Proofs.Ytcgdpclhlepofaa.own (V i) k) w
  base : B ≤ w.heap.size
  b0 : w0.heap.size ≤ B
theorem Ls.keep' {w w' : World} {A : Option Addr} {n : Nat} {V : Nat → Value} (h : Ls w A n V) (hk : ∀ g o, A = some ⟨g, o, none⟩ → 0 < n → w'.heap[g]? = w.heap[g]?) : Ls w' A n V := ⟨fun i hi => by
  obtain ⟨g, o, h1, h2, cs, h3⟩ := h.at_ i hi
  have e := hk g o h1 (by omega)
  exact ⟨g, o, h1, by unfold World.cell? at *; simp only [e]; exact h2, cs, e.trans h3⟩⟩
theorem Lies.fr {w w' : World} {v : Value} {l : List Int} {G G' : Nat → Prop} (h : Lies w v l) (hf : Fr G w G' w') (hG : ∀ k, own v k → ¬ G k) : Lies w' v l := by
  obtain ⟨A, cp, rfl, hc, h0, h⟩ := h
  refine ⟨A, cp, rfl, hc, h0, fun j hj => ?_⟩
  obtain ⟨g, of, rfl, hcell⟩ := h j hj
  have hlt : g < w.heap.size := Nat.lt_of_not_le fun hh => by
    unfold World.cell? at hcell
    rw [Array.getElem?_eq_none hh] at hcell
    cases hcell
  have e := hf.block g hlt (hG g rfl)
  exact ⟨g, of, rfl, by unfold World.cell? at *; simp only [e]; exact hcell⟩
theorem Lies.cap {w : World} {A : Option Addr} {n c c0 : Nat} {l : List Int} (h : Lies w (.slice A n c) l) (h1 : n ≤ c0) (h2 : A = none → c0 = 0) : Lies w (.slice A n c0) l := by
  obtain ⟨A', cp, e, hc, h0, h⟩ := h
  injection e with e1 e2 e3
  subst e1
  subst e2
  exact ⟨A, c0, rfl, h1, h2, h⟩
/-- One word more, told in full. -/
theorem wpList_word2 {ops : Array Oper} {rest : List Oper} {o : Oper} {a : Act} {Q : Exit → Act → World → Prop} (wr : World) (hgd : o.guard = none) (s x : Operand)
    (ho : o.op = .call { callee := .builtin .append, args := #[s, x], argTypes := #[32, 32] })
    (v : Value) (l : List Int) (y : Int) (hs : a.eval s = v) (hl : Wl wr v l)
    (hx : a.eval x = .slice (some ⟨wr.heap.size, 0, none⟩) 1 1) (hlen : (l.length + 1) * 8 ≤ 140737488355328)
    (h : ∀ A cap w', l.length + 1 ≤ cap → Wl w' (.slice A (l.length + 1) cap) (l ++ [y]) → Wl w' v l → Fr (own v) wr (own (.slice A (l.length + 1) cap)) w' → ((∃ c, v = .slice A l.length c) ∨ ∀ k, own (.slice A (l.length + 1) cap) k → wr.heap.size ≤ k) → wpList Try.prog ops Q rest (a.put o.dst (.slice A (l.length + 1) cap)) w') :
    wpList Try.prog ops Q (o :: rest) a (wr.alloc (.cells #[.int .u64 y] 23)) := by
  obtain ⟨i0, hi, hz0, hz1, hz2⟩ := info_parts u64_info
  refine wpList_app2 _ hgd s x 32 ho 23 i0 (.int .u64 0) 1 8 Try.underlying32 hi hz0 hz1 hz2 rfl (by decide) 0 v l.length (u64s l) hs (Rowv.alloc hl _) _ 1 [.int .u64 y] hx
    (Src.lit wr (vs := [.int .u64 y]) rfl (by simp [Value.oneCell']) 1) (by unfold maxLen; omega) (by omega) (Nat.zero_le _) ?_
  intro v' w' hrow hold hgr hown
  obtain ⟨A, cap, rfl, hc, _⟩ := hrow.shape
  refine h A cap w' hc ?_ hold ?_ ?_
  · unfold Wl
    rw [show (l ++ [y]).length = l.length + 1 by simp, show u64s (l ++ [y]) = u64s l ++ [.int .u64 y] by simp [u64s]]
    exact hrow
  · refine ((((Fr.refl (own v) wr).alloc _).grown hgr (fun k hk => .inl hk))).into fun k hk => ?_
    rcases hown with ⟨A', c', e1, e2⟩ | ⟨k', e, hk'⟩
    · rw [e1]
      injection e2 with e2 _ _
      subst e2
      exact .inl (own_len hk)
    · unfold own at hk
      rw [hk] at e
      injection e with e
      subst e
      exact .inr (.inr (by simp at hk'; omega))
  · rcases hown with ⟨A', c', e1, e2⟩ | ⟨k', e, hk'⟩
    · injection e2 with e2 _ _
      subst e2
      exact .inl ⟨c', e1⟩
    · refine .inr fun k hk => ?_
      unfold own at hk
      rw [hk] at e
      injection e with e
      subst e
      simp at hk'
      omega
/-- One list more has been grown, and is told of. -/
theorem lg_step {B : Nat} {w0 w w2 w3 : World} {A : Option Addr} {n i : Nat} {V N : Nat → Value} {L : Nat → List Int} {v v' u : Value} (h : Lg B w0 w A n i V N L v) (hi : i < n) (hf : Fr (own (V i)) w (own u) w2) (hu : Wl w2 u (marks ((L i).length + 20) i)) (ho : Lies w2 (V i) (marks (L i).length i))
    (hr : Rowv w3 B 32 1 v' (i + 1) ((List.range i).map N ++ [u])) (hg : Fr (own v) w2 (own v') w3) : Lg B w0 w3 A n (i + 1) V (fun j => if j = i then u else N j) L v' := by
  have hvB : ∀ k, own v k → B ≤ k := fun k hk => (h.row.lt hk).1
  have hBs : B ≤ w.heap.size := h.base
  have hub : ∀ k, own u k → own (V i) k ∨ B ≤ k := fun k hk => (hf.new k hk).imp id fun h1 => by omega
  have huv : ∀ k, own u k → ¬ own v k := fun k hk hv => by
    have hvl := (h.row.lt hv).2
    rcases hf.new k hk with h1 | h1
    · have := h.lt i hi k h1; have := hvB k hv; omega
    · omega
  have hsz := hf.size
  have hsz3 := hg.size
  refine ⟨?_, fun j hj => ?_, fun j hj hjn => ?_, fun j hj => ?_, ?_, fun j hj k hk => ?_, h.lt, h.at_, h.typ, h.ap, ?_, by omega, h.b0⟩
  · refine (h.ls.keep' fun g o hA hn => hf.block g (by have := h.at_ g o hA hn; omega) (h.typ i hi g o hA)).keep' fun g o hA hn => hg.block g (by have := h.at_ g o hA hn; omega) fun hv => by have := hvB g hv; have := h.at_ g o hA hn; omega
  · by_cases e : j = i
    · subst e
      exact ho.fr hg fun k hk hv => by have := h.lt j hj k hk; have := hvB k hv; omega
    · exact ((h.old j hj).fr hf fun k hk hi' => e (h.ap j i k hj hi hk hi')).fr hg fun k hk hv => by have := h.lt j hj k hk; have := hvB k hv; omega
  · exact ((h.wl j (by omega) hjn).fr hf fun k hk hi' => by have := h.ap j i k hjn hi hk hi'; omega).fr hg fun k hk hv => by have := h.lt j hjn k hk; have := hvB k hv; omega
  · by_cases e : j = i
    · subst e
      rw [if_pos rfl]
      exact hu.lies.fr hg huv
    · rw [if_neg e]
      have hj' : j < i := by omega
      refine ((h.new j hj').fr hf fun k hk hi' => ?_).fr hg fun k hk => (h.ow j hj' k hk).2.2
      rcases (h.ow j hj' k hk).2.1 with h1 | h1
      · exact e (h.ap j i k (by omega) hi h1 hi')
      · have := h.lt i hi k hi'; omega
  · have e : (List.range (i + 1)).map (fun j => if j = i then u else N j) = (List.range i).map N ++ [u] := by
      rw [List.range_succ, List.map_append]
      congr 1
      · exact List.map_congr_left fun j hj => if_neg (by have := List.mem_range.1 hj; omega)
      · simp
    rw [e]
    exact hr
  · by_cases e : j = i
    · subst e
      rw [if_pos rfl] at hk
      refine ⟨Nat.lt_of_lt_of_le (hu.lt k hk) hsz3, hub k hk, fun hv => (hg.new k hv).elim (huv k hk) fun h1 => by have := hu.lt k hk; omega⟩
    · rw [if_neg e] at hk
      have hj' : j < i := by omega
      obtain ⟨h1, h2, h3⟩ := h.ow j hj' k hk
      exact ⟨by omega, h2, fun hv => (hg.new k hv).elim h3 fun h4 => by omega⟩
  · refine (h.fr.trans (((hf.wide (G := fun k => ∃ i, i < n ∧ own (V i) k) fun k hk => ⟨i, hi, hk⟩).into (G := fun k => ∃ i, i < n ∧ own (V i) k) fun k hk => .inr (.inl hk)))).beside hg fun k hk => ?_
    have := hvB k hk
    have := h.b0
    omega
end Go.Proofs.Ytcgdpclhlepofaa
/- parleykit.Apart: its walk. -/
namespace Go.Proofs.Ytcgdpclhlepofaa
open Go.RowKit
set_option maxHeartbeats 4000000
set_option linter.unusedVariables false
set_option linter.unusedSimpArgs false

/-- the lists as one family -/
structure Fl (w : World) (A : Option Addr) (n : Nat) (V : Nat → Value) (M : Nat → List Int) : Prop where
  ls : Ls w A n V
  wl : ∀ i, i < n → Wl w (V i) (M i)
  ap : ∀ i j k, i < n → j < n → own (V i) k → own (V j) k → i = j
theorem Fl.word {w : World} {A : Option Addr} {n : Nat} {V : Nat → Value} {M M' : Nat → List Int} (h : Fl w A n V M) {i k : Nat} (hi : i < n) (hk : k < (M i).length) (x : Int) (e1 : M' i = (M i).set k x) (e2 : ∀ j, j ≠ i → M' j = M j) :
    ∃ g o c, V i = .slice (some ⟨g, o, none⟩) (M i).length c ∧ (M i).length ≤ c ∧ (∃ y, w.cell? ⟨g, o + k, none⟩ = some (.int .u64 y)) ∧ w.frozen? ⟨g, o + k, none⟩ = false ∧ Fl (w.setCell ⟨g, o + k, none⟩ (.int .u64 x)) A n V M' ∧ own (V i) g := by
  have hw := h.wl i hi
  obtain ⟨A', c, hv, hc⟩ := hw.shape
  rw [hv] at hw
  obtain ⟨g, o, rfl, _, k1, k2, k3⟩ := hw.upd hk
  have hg : own (V i) g := by rw [hv]; rfl
  refine ⟨g, o, c, hv, hc, ⟨_, k1⟩, k2, ⟨h.ls.keep fun g' cs hb => ?_, fun j hj => ?_, h.ap⟩, hg⟩
  · exact Below.heap_setCell w _ _ g' fun e => by
      have := (h.wl i hi).ne_ hb (by decide)
      exact this (e ▸ hg)
  · by_cases hji : j = i
    · subst hji
      rw [e1, hv]
      have := k3 x
      simpa using this
    · rw [e2 j hji]
      exact (h.wl j hj).set (fun ho => hji (h.ap j i g hj hi ho hg)) _

set_option maxRecDepth 100000 in
theorem apart_b {A : Option Addr} {n cA : Nat} {V : Nat → Value} {L : Nat → List Int} {w : World} (h : Fl w A n V L) (hcA : n ≤ cA) (hn : n ≤ 4398046511104) (hL : ∀ i, i < n → (L i).length ≤ 17592186043904) :
    Calls Try.prog 24 #[.slice A n cA] w fun e w' => e = .returned (.bool true) ∧ Fr (fun k => ∃ i, i < n ∧ own (V i) k) w (fun k => ∃ i, i < n ∧ own (V i) k) w' := by
  have H0 := Lib.hid h
  have HL := Lib.hid hL
  have hni : (n : Int) ≤ 4398046511104 := by omega
  have hci : (n : Int) ≤ cA := by omega
  clear h hL
  go_enter Try.func24, Try.ntmps24
  go_wp2
  go_loopg [3] n (fun gk c3 wr => ∃ i : Nat, gk + i = n ∧ c3 = .int .i64 (i : Int) ∧ Hid (Fl wr A n V (turned L i 0)) ∧ Hid (Fr (fun k => ∃ i, i < n ∧ own (V i) k) w (fun k => ∃ i, i < n ∧ own (V i) k) wr))
  case atStart => exact ⟨0, rfl, rfl, Lib.hid (by
    have e : turned L 0 0 = L := by funext j; unfold turned; rw [if_neg (by omega)]; split <;> simp [half_zero]
    rw [e]; exact H0.out), Lib.hid (Fr.refl _ _)⟩
  case round =>
    obtain ⟨i, hgk, rfl, HF, HM⟩ := hrel
    have HG := Lib.hid hgk
    clear hgk
    by_cases hi : i < n
    · obtain ⟨m, rfl⟩ : ∃ m, gk = m + 1 := ⟨gk - 1, by have := HG.out; omega⟩
      have hii : (i : Int) < n := by omega
      have hlen := HL.out i hi
      clear H0
      go_wp2
      go_loopg [4] (L i).length (fun gk c4 wr2 => ∃ k : Nat, gk + k = (L i).length ∧ c4 = .int .i64 (k : Int) ∧ Hid (Fl wr2 A n V (turned L i k)) ∧ Hid (Fr (fun k => ∃ i, i < n ∧ own (V i) k) w (fun k => ∃ i, i < n ∧ own (V i) k) wr2))
      case atStart => exact ⟨0, rfl, rfl, HF, HM⟩
      case round =>
        obtain ⟨k, hgk2, rfl, HF2, HM2⟩ := hrel
        have HG2 := Lib.hid hgk2
        clear hgk2
        obtain ⟨g0, o0, hA0, cV, _⟩ := HF2.out.ls.at_ i hi
        subst hA0
        have hlt : (turned L i k i).length = (L i).length := turned_len L fun _ => by have := HG2.out; omega
        by_cases hk : k < (L i).length
        · obtain ⟨m2, rfl⟩ : ∃ m2, gk = m2 + 1 := ⟨gk - 1, by have := HG2.out; omega⟩
          obtain ⟨g, o, c, hv, hc, ⟨y, hy⟩, hz, hF3, hog⟩ := HF2.out.word (M' := turned L i (k + 1)) hi (k := k) (by rw [hlt]; exact hk) (mk i)
            (by unfold turned; rw [if_neg (by omega), if_pos rfl, if_neg (by omega), if_pos rfl, half_set hk]) (fun j hj => by unfold turned; rw [if_neg hj, if_neg hj])
          rw [hlt] at hv hc
          have HF3 := Lib.hid hF3
          have HM3 := Lib.hid (HM2.out.set (p := ⟨g, o + k, none⟩) (.inl ⟨i, hi, hog⟩) (.int .u64 (mk i)))
          rw [hv] at cV
          have hki : (k : Int) < ((L i).length : Int) := by omega
          have hcc : ((L i).length : Int) ≤ c := by omega
          have hmk : Hid (mk i = 1099511627776 + (i : Int)) := Lib.hid rfl
          have hw1 : IntKind.u64.wrap (i : Int) = i := IntWalk.u64_in _ (by omega)
          have hw2 : IntKind.u64.wrap (1099511627776 + (i : Int)) = 1099511627776 + (i : Int) := IntWalk.u64_in _ (by omega)
          rw [hmk.out] at HF3 HM3
          clear hF3 hog HF2 HM2 hlt hc hk hv
          generalize (L i).length = li at *
          go_wp2
          go_roundg m2
          case measure => omega
          case rel => exact ⟨k + 1, by have := HG2.out; omega, by go_num, HF3, HM3⟩
        · obtain rfl : k = (L i).length := by have := HG2.out; omega
          have e : turned L i (L i).length = turned L (i + 1) 0 := funext fun j => turned_next L i j
          rw [e] at HF2
          have hv := (HF2.out.wl i hi).shape
          obtain ⟨A', c', hve, _⟩ := hv
          have hle : (turned L (i + 1) 0 i).length = (L i).length := by rw [← e]; exact hlt
          rw [hle] at hve
          rw [hve] at cV
          clear hlt hve hle e hk
          generalize (L i).length = li at *
          go_wp2
          go_roundg m
          case measure => omega
          case rel => exact ⟨i + 1, by have := HG.out; omega, by go_num, HF2, HM2⟩
    · obtain rfl : i = n := by have := HG.out; omega
      have hs0 : Hid (w.heap.size ≤ wr.heap.size) := Lib.hid HM.out.size
      have hmk : ∀ j, j < i → turned L i 0 j = marks (L j).length j := fun j hj => by unfold turned; rw [if_pos hj]
      have hLg : Hid (Lg wr.heap.size w wr A i 0 V V L (.slice none 0 0)) := Lib.hid ⟨HF.out.ls, fun j hj => by rw [← hmk j hj]; exact (HF.out.wl j hj).lies, fun j _ hj => by rw [← hmk j hj]; exact HF.out.wl j hj, fun j hj => by omega, Rowv.nil _ _ _ _, fun j hj => by omega, fun j hj k hk => (HF.out.wl j hj).lt k hk,
        fun g o hA hn0 => by obtain ⟨g', o', e1, _, cs, hb⟩ := HF.out.ls.at_ 0 hn0; rw [hA] at e1; injection e1 with e1; injection e1 with e1 _ _; subst e1; exact hb.lt,
        fun j hj g o hA ho => by obtain ⟨g', o', e1, _, cs, hb⟩ := HF.out.ls.at_ 0 (by omega); rw [hA] at e1; injection e1 with e1; injection e1 with e1 _ _; subst e1; exact (HF.out.wl j hj).ne_ hb (by decide) ho, HF.out.ap, HM.out, Nat.le_refl _, hs0.out⟩
      clear H0 HF HM hmk hi hs0
      generalize hB : wr.heap.size = B at *
      clear hB
      go_wp2
      go_loopg [5, 6] i (fun gk c5 c6 wr => ∃ (j : Nat) (N : Nat → Value) (A5 : Option Addr) (n5 : Nat), gk + j = i ∧ c5 = .slice A5 j n5 ∧ j ≤ n5 ∧ c6 = .int .i64 (j : Int) ∧ Hid (Lg B w wr A i j V N L (.slice A5 j n5)))
      case atStart => exact ⟨0, V, none, 0, rfl, rfl, Nat.le_refl _, rfl, hLg⟩
      case round =>
        obtain ⟨j, N, A5, n5, hgk, rfl, hn5, rfl, HLg⟩ := hrel
        have HG := Lib.hid hgk
        clear hgk hLg
        by_cases hj : j < i
        · obtain ⟨m, rfl⟩ : ∃ m, gk = m + 1 := ⟨gk - 1, by have := HG.out; omega⟩
          have hji : (j : Int) < i := by omega
          have hlen := HL.out j hj
          obtain ⟨g0, o0, hA0, cV, _⟩ := HLg.out.ls.at_ j hj
          have HA0 := Lib.hid hA0
          subst hA0
          have hwl := HLg.out.wl j (Nat.le_refl _) hj
          obtain ⟨Aj, cj, hve, hcj⟩ := hwl.shape
          rw [marks_len] at hve hcj
          rw [hve] at cV
          have HVE := Lib.hid hve
          have hwl' := Lib.hid hwl
          clear hwl hve
          generalize hll : (L j).length = lj at *
          have HLL := Lib.hid hll
          clear hll
          go_wp2
          go_loopg [7, 8] 20 (fun gk c7 c8 wr2 => ∃ (t : Nat) (A7 : Option Addr) (n7 : Nat) (ml : List Int), gk + t = 20 ∧ Hid (ml = marks (lj + t) j) ∧ c7 = .slice A7 ml.length n7 ∧ c8 = .int .i64 (t : Int) ∧ Wl wr2 (.slice A7 ml.length n7) ml ∧ Hid (Fr (own (V j)) wr (own (.slice A7 ml.length n7)) wr2) ∧ Hid (Lies wr2 (V j) (marks lj j)) ∧ Hid ((∃ c, V j = .slice A7 lj c) ∨ ∀ k, own (V j) k → k < wr2.heap.size ∧ ¬ own (.slice A7 ml.length n7) k))
          case atStart => exact ⟨0, Aj, cj, marks lj j, rfl, Lib.hid rfl, by rw [marks_len], rfl, by have := hwl'.out; rw [HVE.out] at this; rw [marks_len]; exact this, Lib.hid (by rw [HVE.out, marks_len]; exact Fr.refl _ _), Lib.hid hwl'.out.lies, Lib.hid (.inl ⟨cj, HVE.out⟩)⟩
          case round =>
            obtain ⟨t, A7, n7, ml, hgk, hml, rfl, rfl, hw2, HF2, HO2, HS2⟩ := hrel
            rename World => wr2
            have HG2 := Lib.hid hgk
            have hmll : ml.length = lj + t := by rw [hml.out, marks_len]
            clear hgk
            by_cases ht : t < 20
            · obtain ⟨m2, rfl⟩ : ∃ m2, gk = m2 + 1 := ⟨gk - 1, by have := HG2.out; omega⟩
              have hti : (t : Int) < 20 := by omega
              have hbd := Lib.hid (show (ml.length + 1) * 8 ≤ 140737488355328 by omega)
              have HMLL := Lib.hid hmll
              have hw1 : IntKind.u64.wrap (j : Int) = j := IntWalk.u64_in _ (by omega)
              have hw3 : IntKind.u64.wrap (1099511627776 + (j : Int)) = 1099511627776 + (j : Int) := IntWalk.u64_in _ (by omega)
              clear hmll
              go_wp2_with (at_builtin; go_must (refine wpList_word2 _ rfl (.tmp 49) (.tmp 53) rfl (.slice A7 ml.length n7) ml (1099511627776 + (j : Int)) rfl hw2 rfl hbd.out ?_; intro A8 n8 w8 hn8 hw8 hk8 hf8 hs8))
              have HF8 := Lib.hid (HF2.out.trans hf8)
              have hlt0 : ∀ k, own (V j) k → k < wr2.heap.size := fun k hk => by have := HLg.out.lt j hj k hk; have := HLg.out.base; have := HF2.out.size; omega
              have HO8 : Hid (Lies w8 (V j) (marks lj j)) := by
                rcases HS2.out with ⟨c, hc⟩ | hr
                · refine Lib.hid ?_
                  have e : ml = marks lj j ++ marks t j := by rw [hml.out]; simp [marks]
                  obtain ⟨A', cp, e1, h1, h2, _⟩ := HO2.out
                  rw [hc] at e1 ⊢
                  injection e1 with e1 e2 e3
                  subst e1
                  subst e3
                  rw [marks_len] at h1
                  have hcut : Wl w8 (.slice A7 (marks lj j).length n7) (marks lj j) := by
                    refine Wl.cut (m := marks t j) ?_ ?_
                    · rw [← e, marks_len, marks_len, ← HMLL.out]; exact hk8
                    · rw [marks_len, marks_len, ← HMLL.out]
                      obtain ⟨_, _, e4, h4⟩ := hk8.shape
                      injection e4 with _ _ e5
                      omega
                  have := hcut.lies
                  rw [marks_len] at this
                  exact this.cap h1 h2
                · exact Lib.hid (HO2.out.fr hf8 fun k hk => (hr k hk).2)
              have HS8 : Hid ((∃ c, V j = .slice A8 lj c) ∨ ∀ k, own (V j) k → k < w8.heap.size ∧ ¬ own (.slice A8 (ml.length + 1) n8) k) := by
                refine Lib.hid ?_
                have hz := hf8.size
                rcases hs8 with ⟨c, hc⟩ | hr
                · injection hc with hc1 _ _
                  subst hc1
                  exact HS2.out.imp id fun h k hk => ⟨by have := (h k hk).1; omega, fun ho => (h k hk).2 (own_len ho)⟩
                · exact .inr fun k hk => ⟨by have := hlt0 k hk; omega, fun ho => by have := hlt0 k hk; have := hr k ho; omega⟩
              have HW8 := Lib.hid hw8
              clear hw2 hw8 hk8 hf8 hs8 HF2 HO2 HS2 hlt0
              go_wp2
              go_roundg m2
              case measure => omega
              case rel => exact ⟨t + 1, A8, n8, ml ++ [1099511627776 + (j : Int)], by have := HG2.out; omega, Lib.hid (by rw [hml.out, ← Nat.add_assoc, ← marks_succ]; rfl), by simp, by go_num, by simpa using HW8.out, by simpa using HF8, HO8, by simpa using HS8⟩
            · obtain rfl : t = 20 := by have := HG2.out; omega
              have HW2 : Hid (Wl wr2 (.slice A7 ml.length n7) (marks (lj + 20) j)) := Lib.hid (by rw [← hml.out]; exact hw2)
              have hrow := HLg.out.row
              have hkeep : ∀ k, own (.slice A5 j n5) k → wr2.heap[k]? = wr.heap[k]? := fun k hk => HF2.out.block k (hrow.lt hk).2 fun ho => by have := HLg.out.lt j hj k ho; have := (hrow.lt hk).1; omega
              have hrow2 : Rowv wr2 B 32 1 (.slice A5 j n5) j ((List.range j).map N) := hrow.keep hkeep
              have hrow3 := Lib.hid (hrow2.alloc (.cells #[.slice A7 ml.length n7] 32))
              have hB2 : Hid (B ≤ wr2.heap.size + 1) := Lib.hid (by have := HLg.out.base; have := HF2.out.size; omega)
              obtain ⟨i0, hi0, hz0, hz1, hz3⟩ := info_parts sl_info
              have hbd := Lib.hid (show (j + 1) * 24 ≤ 140737488355328 by omega)
              have hbd2 : Hid (j + 1 ≤ maxLen) := Lib.hid (by unfold maxLen; omega)
              clear hw2 hrow hkeep hrow2 hmll ht
              go_wp2_with (at_builtin; go_must (refine wpList_app _ rfl (.tmp 55) (.tmp 57) 76 rfl 32 i0 (.slice none 0 0) 1 24 Try.underlying76 hi0 hz0 hz1 hz3 rfl (by decide) B (.slice A5 j n5) j ((List.range j).map N) rfl hrow3.out _ 1 [.slice A7 ml.length n7] rfl (Src.lit wr2 (vs := [.slice A7 ml.length n7]) rfl (by simp [Value.oneCell']) 1) hbd2.out hbd.out (by simpa using hB2.out) ?_; intro v9 w9 hrow9 hgr9 hown9; obtain ⟨A9, n9, rfl, hn9, _⟩ := hrow9.shape))
              have hf9 : Fr (own (.slice A5 j n5)) wr2 (own (.slice A9 (j + 1) n9)) w9 := by
                refine ((Fr.refl (own (.slice A5 j n5)) wr2).alloc (.cells #[.slice A7 ml.length n7] 32)).trans (Fr.into ((Fr.refl (own (.slice A5 j n5)) _).grown hgr9 (fun k hk => .inl hk)) fun k hk => ?_)
                rcases hown9 with e | ⟨k', e, hk'⟩
                · exact .inl (by unfold own at *; rw [← e]; exact hk)
                · unfold own at hk
                  rw [hk] at e
                  injection e with e
                  subst e
                  exact .inr (.inr hk')
              have HL9 := Lib.hid (lg_step HLg.out hj HF2.out (by rw [HLL.out]; exact HW2.out) (by rw [HLL.out]; exact HO2.out) hrow9 hf9)
              clear hrow9 hgr9 hown9 hf9 hrow3
              go_wp2
              go_roundg m
              case measure => omega
              case rel => exact ⟨j + 1, _, A9, n9, by have := HG.out; omega, rfl, hn9, by go_num, HL9⟩
        · obtain rfl : j = i := by have := HG.out; omega
          clear hj
          have hrel3 : Hid (∀ i, i < j → ∃ g o c g1 o1, wr.cell? ⟨g1, o1 + i, none⟩ = some (.slice (some ⟨g, o, none⟩) ((L i).length + 20) c) ∧ A5 = some ⟨g1, o1, none⟩ ∧ (L i).length + 20 ≤ c ∧ ∀ k, k < (L i).length + 20 → wr.cell? ⟨g, o + k, none⟩ = some (.int .u64 (mk i))) := Lib.hid fun i hi => by
            obtain ⟨g1, o1, c1, e1, _, _, _, hc⟩ := HLg.out.row.at_ (by omega)
            injection e1 with e1 _ _
            obtain ⟨A', c', e2, h1, _, h2⟩ := HLg.out.new i hi
            rw [marks_len] at h1 h2 e2
            obtain ⟨g, o, e3, _⟩ := h2 0 (by omega)
            refine ⟨g, o, c', g1, o1, ?_, e1, h1, fun k hk => ?_⟩
            · rw [(hc i (by omega)).1]
              simp [List.getElem?_map, hi, e2, e3]
            · obtain ⟨g', o', e4, h4⟩ := h2 k hk
              rw [e3] at e4
              injection e4 with e4
              injection e4 with e4 e5 _
              subst e4
              subst e5
              rw [h4, marks_get hk]
          have hrelV : Hid (∀ i, i < j → ∃ V0 c g1 o1, wr.cell? ⟨g1, o1 + i, none⟩ = some (.slice V0 (L i).length c) ∧ A = some ⟨g1, o1, none⟩ ∧ (L i).length ≤ c ∧ ∀ k, k < (L i).length → ∃ g o, V0 = some ⟨g, o, none⟩ ∧ wr.cell? ⟨g, o + k, none⟩ = some (.int .u64 (mk i))) := Lib.hid fun i hi => by
            obtain ⟨g1, o1, hA, hc, _⟩ := HLg.out.ls.at_ i hi
            obtain ⟨A', c', e2, h1, _, h2⟩ := HLg.out.old i hi
            rw [marks_len] at h1 h2 e2
            refine ⟨A', c', g1, o1, by rw [hc, e2], hA, h1, fun k hk => ?_⟩
            obtain ⟨g, o, e3, h3⟩ := h2 k hk
            exact ⟨g, o, e3, by rw [h3, marks_get hk]⟩
          have hfin := Lib.hid HLg.out.fr
          have hn5i : (j : Int) ≤ n5 := by omega
          clear HLg
          go_wp2
          go_loopg [9] j (fun gk c9 wr3 => ∃ i : Nat, gk + i = j ∧ c9 = .int .i64 (i : Int) ∧ wr3 = wr)
          case atStart => exact ⟨0, rfl, rfl, rfl⟩
          case round =>
            obtain ⟨i, hgk, rfl, rfl⟩ := hrel
            have HG := Lib.hid hgk
            clear hgk
            by_cases hi : i < j
            · obtain ⟨m, rfl⟩ : ∃ m, gk = m + 1 := ⟨gk - 1, by have := HG.out; omega⟩
              have hii : (i : Int) < j := by omega
              have hlen := HL.out i hi
              obtain ⟨g, o, c, g1, o1, n1, rfl, n2, n3⟩ := hrel3.out i hi
              obtain ⟨V0, c0, g2, o2, v1, rfl, v2, v3⟩ := hrelV.out i hi
              have HN3 := Lib.hid n3
              have HV3 := Lib.hid v3
              clear n3 v3
              generalize (L i).length = li at *
              go_wp2
              go_loopg [10] (li + 20) (fun gk c10 wr4 => ∃ k : Nat, gk + k = li + 20 ∧ c10 = .int .i64 (k : Int) ∧ wr4 = wr)
              case atStart => exact ⟨0, rfl, rfl, rfl⟩
              case round =>
                obtain ⟨k, hgk, rfl, rfl⟩ := hrel
                have HG2 := Lib.hid hgk
                clear hgk
                by_cases hk : k < li + 20
                · obtain ⟨m2, rfl⟩ : ∃ m2, gk = m2 + 1 := ⟨gk - 1, by have := HG2.out; omega⟩
                  have hki : (k : Int) < (li : Int) + 20 := by omega
                  have hkc : (k : Int) < c := by omega
                  have hcell := HN3.out k hk
                  have hw1 : IntKind.u64.wrap (i : Int) = i := IntWalk.u64_in _ (by omega)
                  have hw3 : IntKind.u64.wrap (1099511627776 + (i : Int)) = 1099511627776 + (i : Int) := IntWalk.u64_in _ (by omega)
                  have hmk : mk i = 1099511627776 + (i : Int) := rfl
                  rw [hmk] at hcell
                  by_cases hk2 : k < li
                  · obtain ⟨g5, o5, rfl, hc5⟩ := HV3.out k hk2
                    rw [hmk] at hc5
                    have hk2i : (k : Int) < li := by omega
                    clear hmk
                    go_wp2
                    go_roundg m2
                    case measure => omega
                    case rel => exact ⟨k + 1, by have := HG2.out; omega, by go_num, rfl⟩
                  · have hk2i : (li : Int) ≤ k := by omega
                    clear hmk hk2
                    go_wp2
                    go_roundg m2
                    case measure => omega
                    case rel => exact ⟨k + 1, by have := HG2.out; omega, by go_num, rfl⟩
                · obtain rfl : k = li + 20 := by have := HG2.out; omega
                  clear hk
                  go_wp2
                  go_roundg m
                  case measure => omega
                  case rel => exact ⟨i + 1, by have := HG.out; omega, by go_num, rfl⟩
            · obtain rfl : i = j := by have := HG.out; omega
              clear hi
              go_wp2
              go_ret
              exact ⟨rfl, hfin.out⟩
end Go.Proofs.Ytcgdpclhlepofaa
/- Arguments opened: slices of whole numbers, slices of structs of whole numbers. -/
namespace Go.Proofs.Ytcgdpclhlepofaa
open Go.ChangeShapes Go.WideShapes Go.ChangeAt Go.RowKit Go.Deep

section
variable {H : Type} {enc : TypeId × Value → H} {P : Program} {w : World} {base : Nat} {spare : Nat → Bool} {held : Bool}
/-- A slice of structs of one-cell fields: each field's cell and reading. -/
theorem open_slice_fields {t e : TypeId} {fs : Array Field} {fuel : Nat} {cs : List Value} {x : DataW H × List MemPlace} (ht : P.underlying t = some (.slice e)) (he : P.underlying e = some (.struct fs))
    (hone : oneCellFields P fs = true) (hC : P.cellsOf e = fs.size) (h : DataW.trod enc P w base spare held fuel t cs = some x) :
    (cs = [.slice none 0 0] ∧ x = (.nil, [])) ∨
    ∃ (a : Addr) (len cap m : Nat) (D : Nat → DataW H) (Pl : Nat → List MemPlace), cs = [.slice (some a) len cap] ∧ base ≤ a.block ∧ len ≤ cap ∧ cap ≤ maxLen ∧ m = (if spare a.block then cap else len) ∧
      x = (.slice ((List.range len).map D) ((List.range (m - len)).map fun j => D (len + j)), MemPlace.row a (m * fs.size) ++ (List.range m).flatMap Pl) ∧
      ∀ i, i < m → ∃ (ys : List (DataW H × List MemPlace)) (n : Nat), D i = .agg (ys.map (·.1)) ∧ Pl i = ys.flatMap (·.2) ∧ ys.length = fs.size ∧
        ∀ (j : Nat) (f : Field), fs[j]? = some f → ∃ (v : Value) (y : DataW H × List MemPlace), w.cell? (a.add (i * fs.size + j)) = some v ∧ ys[j]? = some y ∧ DataW.trod enc P w base spare held n f.type [v] = some y := by
  rcases open_slice ht h with h0 | ⟨a, len, cap, m, n, D, Pl, hcs, hb, hl, hm, hmm, hx, hi⟩
  · exact .inl h0
  · refine .inr ⟨a, len, cap, m, D, Pl, hcs, hb, hl, hm, hmm, by rw [hC] at hx; exact hx, fun i him => ?_⟩
    obtain ⟨cs', hc, ht'⟩ := hi i him
    rw [hC] at hc
    obtain ⟨ys, n', hn', hy, hlen, hyl, hf⟩ := DataW.trod_struct he ht'
    obtain ⟨_, hcl, hat⟩ := World.cells?_some hc
    simp only [Prod.mk.injEq] at hy
    refine ⟨ys, n', hy.1, hy.2, hyl, fun j f hj => ?_⟩
    obtain ⟨ho, hk⟩ := hone_of hone j f hj
    have hjl : j < fs.size := (Array.getElem?_eq_some_iff.1 hj).1
    have hcell := hat j hjl
    have hv : cs'[j]? = some (cs'[j]'(by omega)) := List.getElem?_eq_getElem (by omega)
    have h1 := hf j f hj
    rw [ho, hk] at h1
    have hone' : (cs'.drop j).take 1 = [cs'[j]'(by omega)] := by
      rw [List.drop_eq_getElem_cons (by omega)]
      rfl
    rw [hone'] at h1
    have hys : ys[j]? = some (ys[j]'(by omega)) := List.getElem?_eq_getElem (by omega)
    refine ⟨_, _, ?_, hys, h1.trans hys⟩
    rw [← Go.Deep.add_add, hcell, hv]

theorem addr_block {a : Addr} {n : Nat} : (a.add n).block = a.block := by unfold Addr.add; split <;> rfl
theorem addr_flat {a : Addr} {i j : Nat} (hj : j ≠ 0) : a.add (i + j) = ⟨(a.add i).block, (a.add i).off + j, none⟩ := by
  unfold Addr.add
  rw [if_neg (by omega)]
  split
  · rename_i h; subst h; simp
  · simp [Nat.add_assoc]
theorem spotless {a : Addr} {n : Nat} {v : Value} (h : w.cell? (a.add n) = some v) : a.add n = ⟨a.block, a.off + n, none⟩ := by
  unfold Addr.add at *
  split
  · rename_i hn
    subst hn
    simp only [if_true] at h
    unfold World.cell? at h
    cases a with
    | mk b o s =>
      cases s with
      | none => rfl
      | some s =>
        simp only [Option.isSome_some, if_true] at h
        split at h <;> cases h
  · rfl

/-- A slice of words that came in. -/
structure WordsIn (w : World) (A : Option Addr) (l : List Int) (c : Nat) : Prop where
  nil : A = none → l = [] ∧ c = 0
  cell : ∀ ad, A = some ad → ∀ j, j < l.length → w.cell? (ad.add j) = some (.int .u64 (l.getD j 0))
  bd : ∀ x ∈ l, 0 ≤ x ∧ x ≤ 18446744073709551615
  len : l.length * 8 ≤ 140737488351232
  cap : l.length ≤ c

/-- A slice of structs of whole numbers that came in. -/
structure RowsIn (w : World) (A : Option Addr) (n c : Nat) (ks : List IntKind) : Prop where
  nil : A = none → n = 0 ∧ c = 0
  cell : ∀ ad, A = some ad → ∀ i, i < n → ∀ j k, ks[j]? = some k → ∃ z, w.cell? (ad.add (i * ks.length + j)) = some (.int k z) ∧ (Lit.int k z).wf = true
  len : n * (8 * ks.length) ≤ 140737488351232

theorem open_words {ts : List TypeId} {ds : List (DataW H)} {j : Nat} {t e : TypeId} {A : Option Addr} {len cap : Nat} {d : DataW H} {p : List MemPlace} (hsz : (DataW.weightsEach P ts ds).all (· ≤ reachBytes) = true) (hj : ts[j]? = some t) (hd : ds[j]? = some d)
    (ht : P.underlying t = some (.slice e)) (he : P.underlying e = some (.int .u64)) (hc : P.cellsOf e = 1) (hb : P.bytesOf e = 8) (h : DataW.Trod enc P w base spare held t (.slice A len cap) d p) : ∃ l, l.length = len ∧ WordsIn w A l cap := by
  obtain ⟨fuel, hf⟩ := h
  rcases open_ints ht he hc hf with ⟨hcs, hx⟩ | ⟨x, l, c, zs, hcs, _, hl, hm, hz, hx, hcell, hwz⟩
  · simp [Value.cells] at hcs
    obtain ⟨rfl, rfl, rfl⟩ := hcs
    exact ⟨[], rfl, fun _ => ⟨rfl, rfl⟩, (fun ad h => nomatch h), by simp, by simp, by simp⟩
  · simp [Value.cells] at hcs
    obtain ⟨rfl, rfl, rfl⟩ := hcs
    have hlz : len ≤ zs.length := by rw [hz]; split <;> omega
    simp only [Prod.mk.injEq] at hx
    have := sized_slice hsz hj (hd.trans (by rw [hx.1])) ht
    rw [hb] at this
    simp only [lits, List.length_map, List.length_take, List.length_drop, reachBytes] at this
    refine ⟨zs.take len, by simp; omega, (fun h => nomatch h), fun ad h i hi => ?_, fun z hz => ?_, by simp; omega, by simp; omega⟩
    · injection h with h
      subst h
      simp only [List.length_take] at hi
      rw [hcell i (by omega)]
      simp [List.getD_eq_getElem?_getD, show i < len by omega]
    · have := hwz z (List.mem_of_mem_take hz)
      simp [Lit.wf, IntKind.min, IntKind.max, IntKind.signed, IntKind.bits] at this
      omega

theorem open_rows {ts : List TypeId} {ds : List (DataW H)} {j : Nat} {t e : TypeId} {A : Option Addr} {len cap : Nat} {d : DataW H} {p : List MemPlace} (hsz : (DataW.weightsEach P ts ds).all (· ≤ reachBytes) = true) (hj : ts[j]? = some t) (hd : ds[j]? = some d)
    {fs : Array Field} {ks : List IntKind} (ht : P.underlying t = some (.slice e)) (he : P.underlying e = some (.struct fs)) (hone : oneCellFields P fs = true) (hC : P.cellsOf e = fs.size) (hb : 8 * ks.length ≤ P.bytesOf e) (hn : ks.length = fs.size) (hk : (fs.toList.map fun f => P.underlying f.type) = ks.map fun k => some (.int k))
    (h : DataW.Trod enc P w base spare held t (.slice A len cap) d p) : RowsIn w A len cap ks := by
  obtain ⟨fuel, hf⟩ := h
  rcases open_slice_fields ht he hone hC hf with ⟨hcs, hx⟩ | ⟨a, l, c, m, D, Pl, hcs, _, hl, hm, hmm, hx, hel⟩
  · simp [Value.cells] at hcs
    obtain ⟨rfl, rfl, rfl⟩ := hcs
    exact ⟨fun _ => ⟨rfl, rfl⟩, (fun ad h => nomatch h), by simp⟩
  · simp [Value.cells] at hcs
    obtain ⟨rfl, rfl, rfl⟩ := hcs
    have hlm : len ≤ m := by rw [hmm]; split <;> omega
    simp only [Prod.mk.injEq] at hx
    have := sized_slice hsz hj (hd.trans (by rw [hx.1])) ht
    simp only [List.length_map, List.length_range, reachBytes] at this
    have h8 : (len + (m - len)) * (8 * ks.length) ≤ (len + (m - len)) * P.bytesOf e := Nat.mul_le_mul_left _ hb
    have h9 : len * (8 * ks.length) ≤ (len + (m - len)) * (8 * ks.length) := Nat.mul_le_mul_right _ (by omega)
    refine ⟨(fun h => nomatch h), fun ad h i hi j' k hjk => ?_, by omega⟩
    injection h with h
    subst h
    obtain ⟨ys, n, _, _, _, hfl⟩ := hel i (by omega)
    have hjl : j' < ks.length := (List.getElem?_eq_some_iff.1 hjk).1
    have hjf : j' < fs.size := by omega
    obtain ⟨v, y, hcell, _, ht'⟩ := hfl j' fs[j'] (Array.getElem?_eq_getElem hjf)
    have e1 : ((fs.toList.map fun f => P.underlying f.type))[j']? = some (P.underlying fs[j'].type) := by simp [hjf]
    rw [hk, List.getElem?_map, hjk] at e1
    simp only [Option.map_some, Option.some.injEq] at e1
    obtain ⟨z, hz, _, hw⟩ := DataW.trod_int e1.symm ht'
    injection hz with hz
    subst hz
    exact ⟨z, by rw [hn]; exact hcell, hw⟩
end
end Go.Proofs.Ytcgdpclhlepofaa
/- Arguments that read as lists of words. -/
namespace Go.Proofs.Ytcgdpclhlepofaa
open Go.RowKit
theorem WordsIn.lies {w : World} {A : Option Addr} {l : List Int} {c : Nat} (h : WordsIn w A l c) : Lies w (.slice A l.length c) l := by
  refine ⟨A, c, rfl, h.cap, fun e => (h.nil e).2, fun j hj => ?_⟩
  cases A with
  | none => have := (h.nil rfl).1; subst this; simp at hj
  | some ad =>
    have h0 := h.cell ad rfl 0 (by omega)
    have hj' := h.cell ad rfl j hj
    have e0 := spotless h0
    have e1 : ad = ⟨ad.block, ad.off, none⟩ := by
      have : ad.add 0 = ad := by unfold Addr.add; rw [if_pos rfl]
      rw [this] at e0
      simpa using e0
    refine ⟨ad.block, ad.off, by rw [← e1], ?_⟩
    rw [e1, Addr.add_lit] at hj'
    exact hj'
end Go.Proofs.Ytcgdpclhlepofaa
/- The chapter's examples, on plain words. -/
namespace Go.Proofs.Ytcgdpclhlepofaa
open Go.RowKit
@[irreducible] def kp1 : St := (fillSt [5, 6, 7]).2.2
@[irreducible] def kp2 : St := (pQueue 18 kp1).2.2.2
@[irreducible] def kp3 : St := (pRead 1 22 3 kp2).2.2
@[irreducible] def kp4 : St := (qWords kp3 18).2.2
@[irreducible] def kp5 : St := (pTurn dbl 1 22 3 kp4).2
@[irreducible] def kp6 : St := (pBack 18 1 22 3 kp5).2
@[irreducible] def kp7 : St := (qWords kp6 18).2.2
theorem kp1_a : (fillSt [5, 6, 7]).1 = 18 := by decide +kernel
theorem kp1_b : (fillSt [5, 6, 7]).2.1 = true := by decide +kernel
theorem kp1_c : kp1 = (fillSt [5, 6, 7]).2.2 := by kernel_rfl
theorem kp1_e : fillSt [5, 6, 7] = (18, true, kp1) := trip kp1_a kp1_b kp1_c.symm
theorem kp2_e : pQueue 18 kp1 = (22, 3, 0, kp2) := quad (by decide +kernel) (by decide +kernel) (by decide +kernel) (by rw [kp2])
theorem kp3_e : pRead 1 22 3 kp2 = ([5, 6, 7], 0, kp3) := trip (by decide +kernel) (by decide +kernel) (by rw [kp3])
theorem kp4_e : qWords kp3 18 = ([], 0, kp4) := trip (by decide +kernel) (by decide +kernel) (by rw [kp4])
theorem kp5_e : pTurn dbl 1 22 3 kp4 = (0, kp5) := twin (by decide +kernel) (by rw [kp5])
theorem kp6_e : pBack 18 1 22 3 kp5 = (0, kp6) := twin (by decide +kernel) (by rw [kp6])
theorem kp7_e : qWords kp6 18 = ([10, 12, 14], 0, kp7) := trip (by decide +kernel) (by decide +kernel) (by rw [kp7])
theorem kp0_e : (fillSt []).1 = 18 ∧ (fillSt []).2.1 = true := ⟨by decide +kernel, by decide +kernel⟩
end Go.Proofs.Ytcgdpclhlepofaa
/- The chapter's examples. -/
namespace Go.Proofs.Ytcgdpclhlepofaa
open Go.RowKit
set_option maxHeartbeats 4000000
set_option linter.unusedVariables false
set_option linter.unusedSimpArgs false

def TrueP (B : Nat) (w : World) (e : Ending) (w' : World) : Prop := e = .returned (.bool true) ∧ Below B w w'
set_option maxRecDepth 100000 in
theorem works_b (w : World) : Calls Try.prog 18 #[] w (TrueP w.heap.size w) := by
  have hl := Lies.new w [5, 6, 7] (by simp)
  have HB0 := Lib.hid ((Below.refl w.heap.size w).alloc (Nat.le_refl _) (.cells #[.int .u64 5, .int .u64 6, .int .u64 7] 23))
  go_enter Try.func18, Try.ntmps18
  go_wp2_with fail
  refine (filled_b hl (by simp) (by simp)).mono ?_
  rintro _ w1 ⟨t, q, ok, s1, F1, q1, dq, dq', rfl, f1, b1, hw1, ho1, hb1⟩
  obtain ⟨rfl, rfl, rfl⟩ : 18 = q ∧ true = ok ∧ kp1 = s1 := by have := kp1_e.symm.trans q1.out; simpa using this
  have HB1 := Lib.hid (HB0.out.trans (hb1.mono (by simp)))
  have HO1 : Hid (∀ k, F1 k → w.heap.size ≤ k) := Lib.hid fun k hk => by have := ho1 k hk; simp at this; omega
  clear hl HB0 ho1 hb1 q1
  go_wp2_with fail
  refine (pqueue_b (n := 3000000000) hw1 f1 (b1.mono (by omega)) (by omega) (by omega) (Fr.refl F1 _)).mono ?_
  rintro _ w2 ⟨f, c, er, s2, q2, _, _, _, _, rfl, f2, b2, F2, hw2, hm2⟩
  obtain ⟨rfl, rfl, rfl, rfl⟩ : 22 = f ∧ 3 = c ∧ 0 = er ∧ kp2 = s2 := by have := kp2_e.symm.trans q2.out; simpa using this
  have HB2 := Lib.hid (HB1.out.trans (hm2.below HO1.out HB1.out.size))
  have HO2 : Hid (∀ k, F2 k → w.heap.size ≤ k) := Lib.hid (hm2.ge HO1.out HB1.out.size)
  have hv : partv 1 22 3 0 = .agg #[.int .i64 1, .int .u64 22, .int .u64 3] := if_pos rfl
  rw [hv]
  -- the part's own box
  have hw2' := hw2.alloc (.cells #[.int .i64 1, .int .u64 22, .int .u64 3] 25)
  have HP2 := Lib.hid (Blk.new w2 25 #[.int .i64 1, .int .u64 22, .int .u64 3])
  have HPF2 : Hid (¬ F2 w2.heap.size) := Lib.hid fun h => by have := hw2.lt _ h; omega
  have HB2' := Lib.hid (HB2.out.alloc HB2.out.size (.cells #[.int .i64 1, .int .u64 22, .int .u64 3] 25))
  clear hw1 hm2 hw2 HB1 HO1 q2 hv f1 b1
  go_wp2_with fail
  generalize w2.alloc (.cells #[.int .i64 1, .int .u64 22, .int .u64 3] 25) = w3 at *
  generalize w2.heap.size = pb at *
  refine (preadv_b (n := 2000000000) hw2' f2 (b2.mono (by omega)) (by omega) (by omega) (by omega) (by omega) (Fr.refl F2 _)).mono ?_
  rintro _ w4 ⟨va, la, er, s4, q4, rfl, f4, b4, hva, hvao, F4, hw4, hm4, hvF⟩
  obtain ⟨rfl, rfl, rfl⟩ : [5, 6, 7] = la ∧ 0 = er ∧ kp3 = s4 := by have := kp3_e.symm.trans q4.out; simpa using this
  have HB4 := Lib.hid (HB2'.out.trans (hm4.below HO2.out HB2'.out.size))
  have HO4 : Hid (∀ k, F4 k → w.heap.size ≤ k) := Lib.hid (hm4.ge HO2.out HB2'.out.size)
  have HP4 := Lib.hid (hm4.blk HP2.out HPF2.out)
  have HPF4 : Hid (¬ F4 pb) := Lib.hid (hm4.not_in HP2.out.lt HPF2.out)
  have HVA4 := Lib.hid hva
  have HVF4 := Lib.hid hvF
  obtain ⟨Aa, ca, rfl, hca⟩ := hva.shape
  clear hm4 hva hvao hvF q4 hw2' HB2 HB2' HO2 HP2 HPF2 f2 b2
  go_wp2_with fail
  refine (quwords_b (n := 1500000000) hw4 f4 (b4.mono (by omega)) (by omega) (by omega) (Fr.refl F4 _)).mono ?_
  rintro _ w5 ⟨vb, lb, er, s5, q5, rfl, f5, b5, hvb, hvbo, F5, hw5, hm5, hvbF⟩
  obtain ⟨rfl, rfl, rfl⟩ : [] = lb ∧ 0 = er ∧ kp4 = s5 := by have := kp4_e.symm.trans q5.out; simpa using this
  have HB5 := Lib.hid (HB4.out.trans (hm5.below HO4.out HB4.out.size))
  have HO5 : Hid (∀ k, F5 k → w.heap.size ≤ k) := Lib.hid (hm5.ge HO4.out HB4.out.size)
  have HP5 := Lib.hid (hm5.blk HP4.out HPF4.out)
  have HPF5 : Hid (¬ F5 pb) := Lib.hid (hm5.not_in HP4.out.lt HPF4.out)
  have HVF5 : Hid (∀ k, own (.slice Aa [5, 6, 7].length ca) k → k < w5.heap.size ∧ ¬ F5 k) := Lib.hid (hm5.apart fun k hk => ⟨HVA4.out.lt k hk, HVF4.out k hk⟩)
  have HVA5 := Lib.hid (HVA4.out.fr hm5 HVF4.out)
  obtain ⟨Ab, cb, rfl, hcb⟩ := hvb.shape
  clear hm5 hvb hvbo hvbF q5 hw4 HB4 HO4 HP4 HPF4 HVA4 HVF4 f4 b4
  obtain ⟨p0, p1, p2⟩ : w5.cell? ⟨pb, 0, none⟩ = some (.int .i64 1) ∧ w5.cell? ⟨pb, 1, none⟩ = some (.int .u64 22) ∧ w5.cell? ⟨pb, 2, none⟩ = some (.int .u64 3) := ⟨HP5.out.cell 0, HP5.out.cell 1, HP5.out.cell 2⟩
  go_wp2_with fail
  refine (pturnv_b (n := 1000000000) hw5 f5 (b5.mono (by omega)) (by omega) (by omega) (by omega) (by omega) (Fr.refl F5 _)).mono ?_
  rintro _ w6 ⟨er, s6, q6, rfl, f6, b6, F6, hw6, hm6⟩
  obtain ⟨rfl, rfl⟩ : 0 = er ∧ kp5 = s6 := by have := kp5_e.symm.trans q6.out; simpa using this
  have HB6 := Lib.hid (HB5.out.trans (hm6.below HO5.out HB5.out.size))
  have HO6 : Hid (∀ k, F6 k → w.heap.size ≤ k) := Lib.hid (hm6.ge HO5.out HB5.out.size)
  have HP6 := Lib.hid (hm6.blk HP5.out HPF5.out)
  have HPF6 : Hid (¬ F6 pb) := Lib.hid (hm6.not_in HP5.out.lt HPF5.out)
  have HVF6 : Hid (∀ k, own (.slice Aa [5, 6, 7].length ca) k → k < w6.heap.size ∧ ¬ F6 k) := Lib.hid (hm6.apart HVF5.out)
  have HVA6 := Lib.hid (HVA5.out.fr hm6 fun k hk => (HVF5.out k hk).2)
  clear hm6 q6 hw5 HB5 HO5 HP5 HPF5 HVA5 HVF5 f5 b5 p0 p1 p2
  obtain ⟨p0, p1, p2⟩ : w6.cell? ⟨pb, 0, none⟩ = some (.int .i64 1) ∧ w6.cell? ⟨pb, 1, none⟩ = some (.int .u64 22) ∧ w6.cell? ⟨pb, 2, none⟩ = some (.int .u64 3) := ⟨HP6.out.cell 0, HP6.out.cell 1, HP6.out.cell 2⟩
  go_wp2_with fail
  refine (pback_b (n := 500000000) hw6 f6 (b6.mono (by omega)) (by omega) (by omega) (by omega) (by omega) (by omega) (by omega) (Fr.refl F6 _)).mono ?_
  rintro _ w7 ⟨er, s7, q7, rfl, f7, b7, F7, hw7, hm7⟩
  obtain ⟨rfl, rfl⟩ : 0 = er ∧ kp6 = s7 := by have := kp6_e.symm.trans q7.out; simpa using this
  have HB7 := Lib.hid (HB6.out.trans (hm7.below HO6.out HB6.out.size))
  have HO7 : Hid (∀ k, F7 k → w.heap.size ≤ k) := Lib.hid (hm7.ge HO6.out HB6.out.size)
  have HP7 := Lib.hid (hm7.blk HP6.out HPF6.out)
  have HPF7 : Hid (¬ F7 pb) := Lib.hid (hm7.not_in HP6.out.lt HPF6.out)
  have HVF7 : Hid (∀ k, own (.slice Aa [5, 6, 7].length ca) k → k < w7.heap.size ∧ ¬ F7 k) := Lib.hid (hm7.apart HVF6.out)
  have HVA7 := Lib.hid (HVA6.out.fr hm7 fun k hk => (HVF6.out k hk).2)
  clear hm7 q7 hw6 HB6 HO6 HP6 HPF6 HVA6 HVF6 f6 b6 p0 p1 p2
  go_wp2_with fail
  refine (quwords_b (n := 100000000) hw7 f7 (b7.mono (by omega)) (by omega) (by omega) (Fr.refl F7 _)).mono ?_
  rintro _ w8 ⟨vc, lc, er, s8, q8, rfl, f8, b8, hvc, hvco, F8, hw8, hm8, hvcF⟩
  obtain ⟨rfl, rfl, rfl⟩ : [10, 12, 14] = lc ∧ 0 = er ∧ kp7 = s8 := by have := kp7_e.symm.trans q8.out; simpa using this
  have HB8 := Lib.hid (HB7.out.trans (hm8.below HO7.out HB7.out.size))
  have HP8 := Lib.hid (hm8.blk HP7.out HPF7.out)
  have HA8 := Lib.hid (HVA7.out.fr hm8 fun k hk => (HVF7.out k hk).2).lies
  have HC8 := Lib.hid hvc.lies
  obtain ⟨Ac, cc, rfl, hcc⟩ := hvc.shape
  clear hm8 q8 hw7 HB7 HO7 HP7 HPF7 HVA7 HVF7 f7 b7 hvc hvco hvcF hw8 f8 b8
  obtain ⟨p0, p1, p2⟩ : w8.cell? ⟨pb, 0, none⟩ = some (.int .i64 1) ∧ w8.cell? ⟨pb, 1, none⟩ = some (.int .u64 22) ∧ w8.cell? ⟨pb, 2, none⟩ = some (.int .u64 3) := ⟨HP8.out.cell 0, HP8.out.cell 1, HP8.out.cell 2⟩
  have HL1 := Lib.hid (Lies.new w8 [5, 6, 7] (by simp))
  have HA8' := Lib.hid (HA8.out.alloc (.cells #[.int .u64 5, .int .u64 6, .int .u64 7] 23))
  go_wp2_with (go_at_call 17; refine (num_b _ _).mono ?_; rintro e _ ⟨rfl, rfl⟩)
  refine (words_b (l1 := [5, 6, 7]) (l2 := [5, 6, 7]) HA8'.out HL1.out (by simp)).mono ?_
  rintro _ _ ⟨⟨n9, rfl⟩, rfl⟩
  have HC9 := Lib.hid ((HC8.out.alloc (.cells #[.int .u64 5, .int .u64 6, .int .u64 7] 23)).drewN n9)
  have HB9 := Lib.hid (below_drewNs (HB8.out.alloc HB8.out.size (.cells #[.int .u64 5, .int .u64 6, .int .u64 7] 23)) n9)
  clear HL1 HA8' HA8 HC8 HB8 HP8 p0 p1 p2
  generalize (w8.alloc (.cells #[.int .u64 5, .int .u64 6, .int .u64 7] 23)).drewN n9 = w9 at *
  have HL2 := Lib.hid (Lies.new w9 [10, 12, 14] (by simp))
  have HC9' := Lib.hid (HC9.out.alloc (.cells #[.int .u64 10, .int .u64 12, .int .u64 14] 23))
  go_wp2_with (go_at_call 17; refine (num_b _ _).mono ?_; rintro e _ ⟨rfl, rfl⟩)
  refine (words_b (l1 := [10, 12, 14]) (l2 := [10, 12, 14]) HC9'.out HL2.out (by simp)).mono ?_
  rintro _ _ ⟨⟨n10, rfl⟩, rfl⟩
  have HB10 := Lib.hid (below_drewNs (HB9.out.alloc HB9.out.size (.cells #[.int .u64 10, .int .u64 12, .int .u64 14] 23)) n10)
  go_wp2
  go_ret
  exact ⟨rfl, HB10.out⟩
end Go.Proofs.Ytcgdpclhlepofaa
/- PartQueues: what stands in memory: the tx, the lists that the calls have told, the parts in their boxes. -/
namespace Go.Proofs.Ytcgdpclhlepofaa
open Go.RowKit
set_option linter.unusedVariables false
set_option maxHeartbeats 1000000
set_option linter.unusedSimpArgs false
structure PS (W w : World) (t : Nat) (F : Nat → Prop) (s : St) (mb : Nat) (more : Int) (L : List (Value × List Int)) (P : List (Nat × Int × Int)) : Prop where
  tx : Txw w t F s
  fits : Fits s
  bel : Below W.heap.size W w
  ge : ∀ k, F k → W.heap.size ≤ k
  mbk : Blk w mb 23 #[.int .u64 more]
  mbF : ¬ F mb
  mge : W.heap.size ≤ mb
  ls : ∀ p ∈ L, Wl w p.1 p.2 ∧ ∀ k, own p.1 k → ¬ F k ∧ W.heap.size ≤ k ∧ k ≠ mb
  dis : L.Pairwise fun p q => ∀ k, own p.1 k → ¬ own q.1 k
  ps : ∀ x ∈ P, Blk w x.1 25 #[.int .i64 1, .int .u64 x.2.1, .int .u64 x.2.2] ∧ ¬ F x.1 ∧ W.heap.size ≤ x.1 ∧ ∀ p ∈ L, ¬ own p.1 x.1
section
variable {W w w' : World} {t mb n : Nat} {F : Nat → Prop} {s s' : St} {more : Int} {L : List (Value × List Int)} {P : List (Nat × Int × Int)}
theorem PS.fr (h : PS W w t F s mb more L P) {F' : Nat → Prop} (hT : Txw w' t F' s') (hf : Fits s') (hm : Fr F w F' w') : PS W w' t F' s' mb more L P where
  tx := hT
  fits := hf
  bel := h.bel.trans (hm.below h.ge h.bel.size)
  ge := hm.ge h.ge h.bel.size
  mbk := hm.blk h.mbk h.mbF
  mbF := fun hF => (hm.new _ hF).elim h.mbF fun h1 => by have := h.mbk.lt; omega
  mge := h.mge
  ls := fun p hp => ⟨(h.ls p hp).1.fr hm fun k hk => ((h.ls p hp).2 k hk).1, fun k hk => ⟨fun hF => (hm.new _ hF).elim ((h.ls p hp).2 k hk).1 fun h1 => by have := (h.ls p hp).1.lt k hk; omega, ((h.ls p hp).2 k hk).2⟩⟩
  dis := h.dis
  ps := fun x hx => ⟨hm.blk (h.ps x hx).1 (h.ps x hx).2.1, fun hF => (hm.new _ hF).elim (h.ps x hx).2.1 fun h1 => by have := (h.ps x hx).1.lt; omega, (h.ps x hx).2.2⟩
theorem PS.step (h : PS W w t F s mb more L P) (hL : Lft t n F w s' w') : ∃ F', PS W w' t F' s' mb more L P ∧ Bud s' n := by
  obtain ⟨f, b, F', hT, hm⟩ := hL
  exact ⟨F', h.fr hT f hm, b⟩
theorem PS.list (h : PS W w t F s mb more L P) {B : Nat} {v : Value} {l : List Int} (hV : LftV t n B F w s' v l w') (hn : ∀ k, own v k → F k ∨ w.heap.size ≤ k) : ∃ F', PS W w' t F' s' mb more (L ++ [(v, l)]) P ∧ Bud s' n := by
  obtain ⟨f, b, hv, -, F', hT, hm, ho⟩ := hV
  have h2 := h.fr hT f hm
  refine ⟨F', ⟨h2.tx, h2.fits, h2.bel, h2.ge, h2.mbk, h2.mbF, h2.mge, fun p hp => ?_, ?_, fun x hx => ⟨(h2.ps x hx).1, (h2.ps x hx).2.1, (h2.ps x hx).2.2.1, fun p hp => ?_⟩⟩, b⟩
  · rcases List.mem_append.1 hp with hp | hp
    · exact h2.ls p hp
    · obtain rfl : p = (v, l) := by simpa using hp
      refine ⟨hv, fun k hk => ⟨ho k hk, ?_, ?_⟩⟩
      · rcases hn k hk with h1 | h1
        · exact h.ge k h1
        · exact Nat.le_trans h.bel.size h1
      · rintro rfl
        rcases hn _ hk with h1 | h1
        · exact h.mbF h1
        · have := h.mbk.lt; omega
  · rw [List.pairwise_append]
    refine ⟨h.dis, by simp, fun p hp q hq k hk hk2 => ?_⟩
    obtain rfl : q = (v, l) := by simpa using hq
    rcases hn k hk2 with h1 | h1
    · exact ((h.ls p hp).2 k hk).1 h1
    · have := (h.ls p hp).1.lt k hk; omega
  · rcases List.mem_append.1 hp with hp | hp
    · exact (h2.ps x hx).2.2.2 p hp
    · obtain rfl : p = (v, l) := by simpa using hp
      intro hk
      rcases hn _ hk with h1 | h1
      · exact (h.ps x hx).2.1 h1
      · have := (h.ps x hx).1.lt; omega
theorem PS.alloc (h : PS W w t F s mb more L P) (o : Obj) : PS W (w.alloc o) t F s mb more L P where
  tx := h.tx.alloc o
  fits := h.fits
  bel := h.bel.alloc h.bel.size o
  ge := h.ge
  mbk := h.mbk.alloc o
  mbF := h.mbF
  mge := h.mge
  ls := fun p hp => ⟨(h.ls p hp).1.alloc o, (h.ls p hp).2⟩
  dis := h.dis
  ps := fun x hx => ⟨(h.ps x hx).1.alloc o, (h.ps x hx).2⟩
theorem PS.part (h : PS W w t F s mb more L P) (f c : Int) : PS W (w.alloc (.cells #[.int .i64 1, .int .u64 f, .int .u64 c] 25)) t F s mb more L (P ++ [(w.heap.size, f, c)]) := by
  have h2 := h.alloc (.cells #[.int .i64 1, .int .u64 f, .int .u64 c] 25)
  refine ⟨h2.tx, h2.fits, h2.bel, h2.ge, h2.mbk, h2.mbF, h2.mge, h2.ls, h2.dis, fun x hx => ?_⟩
  rcases List.mem_append.1 hx with hx | hx
  · exact h2.ps x hx
  · obtain rfl : x = (w.heap.size, f, c) := by simpa using hx
    exact ⟨Blk.new _ _ _, fun hF => by have := h.tx.lt _ hF; simp only at this; omega, h.bel.size, fun p hp hk => by have := (h.ls p hp).1.lt _ hk; simp only at this; omega⟩
theorem PS.bel' (h : PS W w t F s mb more L P) : Below W.heap.size W w := h.bel
theorem PS.cell (h : PS W w t F s mb more L P) {x : Nat × Int × Int} (hx : x ∈ P) : w.cell? ⟨x.1, 0, none⟩ = some (.int .i64 1) ∧ w.cell? ⟨x.1, 1, none⟩ = some (.int .u64 x.2.1) ∧ w.cell? ⟨x.1, 2, none⟩ = some (.int .u64 x.2.2) :=
  ⟨(h.ps x hx).1.cell 0, (h.ps x hx).1.cell 1, (h.ps x hx).1.cell 2⟩
/-- the calls are counted from 0 on -/
theorem PS.ncalls (h : PS W w t F s mb more L P) (n : Int) : ∃ b, w.cell? ⟨t, 0, none⟩ = some (.pointer (some ⟨b, 0, none⟩)) ∧ w.cell? ⟨b, 3, none⟩ = some (.int .i64 s.calls) ∧ w.frozen? ⟨b, 3, none⟩ = false ∧ PS W (w.setCell ⟨b, 3, none⟩ (.int .i64 n)) t F { s with calls := n } mb more L P := by
  obtain ⟨b, k0, k3, z3, hFb, hT5⟩ := h.tx.ncalls n
  exact ⟨b, k0, k3, z3, h.fr hT5 ⟨h.fits.words, h.fits.len, h.fits.code⟩ ((Fr.refl F w).set (p := ⟨b, 3, none⟩) (.inl hFb) _)⟩
theorem PS.drop (h : PS W w t F s mb more L P) : PS W w t F s mb more [] P :=
  ⟨h.tx, h.fits, h.bel, h.ge, h.mbk, h.mbF, h.mge, (fun p hp => nomatch hp), .nil, fun x hx => ⟨(h.ps x hx).1, (h.ps x hx).2.1, (h.ps x hx).2.2.1, (fun p hp => nomatch hp)⟩⟩
end
/-- Apart of four lists that calls have told. -/
theorem papart_b {W w : World} {t mb : Nat} {F : Nat → Prop} {s : St} {more : Int} {P : List (Nat × Int × Int)} {va vb vc vd : Value} {la lb lc ld : List Int} (h : PS W w t F s mb more [(va, la), (vb, lb), (vc, lc), (vd, ld)] P)
    (h1 : la.length ≤ 1000) (h2 : lb.length ≤ 1000) (h3 : lc.length ≤ 1000) (h4 : ld.length ≤ 1000) :
    Calls Try.prog 24 #[.slice (some ⟨w.heap.size, 0, none⟩) 4 4] (w.alloc (.cells #[va, vb, vc, vd] 32)) fun e w' => e = .returned (.bool true) ∧ PS W w' t F s mb more [] P := by
  obtain ⟨V, hV⟩ : ∃ V : Nat → Value, V = fun i => if i = 0 then va else if i = 1 then vb else if i = 2 then vc else vd := ⟨_, rfl⟩
  obtain ⟨M, hM⟩ : ∃ M : Nat → List Int, M = fun i => if i = 0 then la else if i = 1 then lb else if i = 2 then lc else ld := ⟨_, rfl⟩
  have ha := h.alloc (.cells #[va, vb, vc, vd] 32)
  have hmem : ∀ i, i < 4 → (V i, M i) ∈ [(va, la), (vb, lb), (vc, lc), (vd, ld)] := fun i hi => by
    subst hV hM
    match i, hi with
    | 0, _ => simp
    | 1, _ => simp
    | 2, _ => simp
    | 3, _ => simp
  have hd := h.dis
  simp only [List.pairwise_cons, List.mem_cons, List.not_mem_nil, or_false, forall_eq_or_imp, forall_eq, false_implies, implies_true, and_true] at hd
  obtain ⟨⟨d1, d2, d3⟩, ⟨d4, d5⟩, d6, -⟩ := hd
  have hB := Blk.new w 32 #[va, vb, vc, vd]
  have hF : Fl (w.alloc (.cells #[va, vb, vc, vd] 32)) (some ⟨w.heap.size, 0, none⟩) 4 V M := by
    refine ⟨⟨fun i hi => ⟨w.heap.size, 0, rfl, ?_, _, hB⟩⟩, fun i hi => (ha.ls _ (hmem i hi)).1, fun i j k hi hj hi2 hj2 => ?_⟩
    · rw [hB.cell]
      subst hV
      match i, hi with
      | 0, _ => rfl
      | 1, _ => rfl
      | 2, _ => rfl
      | 3, _ => rfl
    · subst hV
      match i, j, hi, hj with
      | 0, 0, _, _ => rfl
      | 0, 1, _, _ => exact absurd hj2 (d1 k hi2)
      | 0, 2, _, _ => exact absurd hj2 (d2 k hi2)
      | 0, 3, _, _ => exact absurd hj2 (d3 k hi2)
      | 1, 0, _, _ => exact absurd hi2 (d1 k hj2)
      | 1, 1, _, _ => rfl
      | 1, 2, _, _ => exact absurd hj2 (d4 k hi2)
      | 1, 3, _, _ => exact absurd hj2 (d5 k hi2)
      | 2, 0, _, _ => exact absurd hi2 (d2 k hj2)
      | 2, 1, _, _ => exact absurd hi2 (d4 k hj2)
      | 2, 2, _, _ => rfl
      | 2, 3, _, _ => exact absurd hj2 (d6 k hi2)
      | 3, 0, _, _ => exact absurd hi2 (d3 k hj2)
      | 3, 1, _, _ => exact absurd hi2 (d5 k hj2)
      | 3, 2, _, _ => exact absurd hi2 (d6 k hj2)
      | 3, 3, _, _ => rfl
  refine (apart_b hF (Nat.le_refl _) (by omega) fun i hi => ?_).mono ?_
  · subst hM
    match i, hi with
    | 0, _ => show la.length ≤ _; omega
    | 1, _ => show lb.length ≤ _; omega
    | 2, _ => show lc.length ≤ _; omega
    | 3, _ => show ld.length ≤ _; omega
  · rintro _ w' ⟨rfl, hf⟩
    have hG : ∀ k, (∃ i, i < 4 ∧ own (V i) k) → ¬ F k ∧ W.heap.size ≤ k ∧ k ≠ mb := fun k ⟨i, hi, hk⟩ => (h.ls _ (hmem i hi)).2 k hk
    have ht := ha.tx.fr hf fun k hk hg => (hG k hg).1 hk
    refine ⟨rfl, ht, ha.fits, ha.bel.trans (hf.below (fun k hk => (hG k hk).2.1) ha.bel.size), ha.ge, hf.blk ha.mbk fun hg => (hG _ hg).2.2 rfl, ha.mbF, ha.mge, (fun p hp => nomatch hp), .nil, fun x hx => ⟨hf.blk (ha.ps x hx).1 fun ⟨i, hi, hk⟩ => (ha.ps x hx).2.2.2 _ (hmem i hi) hk, (ha.ps x hx).2.1, (ha.ps x hx).2.2.1, (fun p hp => nomatch hp)⟩⟩
end Go.Proofs.Ytcgdpclhlepofaa
