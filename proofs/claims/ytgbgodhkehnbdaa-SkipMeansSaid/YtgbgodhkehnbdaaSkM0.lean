/- A skip list in a room, on plain words: its nodes, and what a search finds. -/
import Derived.Test.YtgbgodhkehnbdaaRmC
import Derived.Test.YtgbgodhkehnbdaaSkC
namespace Go.Proofs.Ytgbgodhkehnbdaa
open Go.RowKit
set_option linter.unusedVariables false

/-- a node: where it lies, how many levels it has, its word -/
structure Nd where
  p : Nat
  lv : Nat
  key : Int
/-- the link to the first node of a level -/
def nxt (k : Nat) : List Nd → Int
  | [] => 0
  | nd :: r => if k < nd.lv then (nd.p : Int) + 1 else nxt k r
/-- the last link's cell of a level -/
def pcl (k : Nat) : Nat → List Nd → Nat
  | c, [] => c
  | c, nd :: r => pcl k (if k < nd.lv then nd.p + 2 + k else c) r
def pieces (l : List Nd) : List (Int × Int) := l.map fun nd => ((nd.p : Int), ((nd.lv + 2 : Nat) : Int))

structure SL (W : List Int) (nodes : List Nd) (back : Nat → List Int) : Prop where
  room : Rm W 40 2000 (pieces nodes) back
  lvs : ∀ nd ∈ nodes, 1 ≤ nd.lv ∧ nd.lv ≤ 8
  hd : ∀ k, k < 8 → W.getD (20 + k) 0 = nxt k nodes
  cel : ∀ l1 nd l2, nodes = l1 ++ nd :: l2 → W.getD nd.p 0 = nd.key ∧ W.getD (nd.p + 1) 0 = (nd.lv : Int) ∧ ∀ k, k < nd.lv → W.getD (nd.p + 2 + k) 0 = nxt k l2
  srt : nodes.Pairwise fun a b => a.key < b.key
  len : W.length = 2000
  few : nodes.length ≤ 1000

theorem nxt_none {k : Nat} : ∀ {a b : List Nd}, (∀ nd ∈ a, ¬ k < nd.lv) → nxt k (a ++ b) = nxt k b
  | [], b, _ => rfl
  | nd :: r, b, h => by
    show (if k < nd.lv then _ else nxt k (r ++ b)) = _
    rw [if_neg (h nd (by simp)), nxt_none fun m hm => h m (by simp [hm])]
theorem nxt_some {k : Nat} : ∀ {a : List Nd} {nd : Nd} {b : List Nd}, (∀ m ∈ a, ¬ k < m.lv) → k < nd.lv → nxt k (a ++ nd :: b) = (nd.p : Int) + 1 := fun h hk => by
  rw [nxt_none h]
  show (if _ then _ else _) = _
  rw [if_pos hk]
/-- the first node of a level, or none -/
theorem first_of (k : Nat) : ∀ (l : List Nd), (∀ nd ∈ l, ¬ k < nd.lv) ∨ ∃ a nd b, l = a ++ nd :: b ∧ (∀ m ∈ a, ¬ k < m.lv) ∧ k < nd.lv
  | [] => .inl fun nd h => by cases h
  | nd :: r => by
    by_cases h : k < nd.lv
    · exact .inr ⟨[], nd, r, rfl, (fun m hm => by cases hm), h⟩
    · rcases first_of k r with h1 | ⟨a, m, b, rfl, h2, h3⟩
      · refine .inl fun m hm => ?_
        rcases List.mem_cons.1 hm with rfl | hm
        · exact h
        · exact h1 m hm
      · refine .inr ⟨nd :: a, m, b, rfl, fun q hq => ?_, h3⟩
        rcases List.mem_cons.1 hq with rfl | hq
        · exact h
        · exact h2 q hq
theorem pcl_append (k : Nat) : ∀ (c : Nat) (a b : List Nd), pcl k c (a ++ b) = pcl k (pcl k c a) b
  | c, [], b => rfl
  | c, nd :: r, b => pcl_append k _ r b
theorem pcl_none {k : Nat} : ∀ {c : Nat} {a : List Nd}, (∀ nd ∈ a, ¬ k < nd.lv) → pcl k c a = c
  | c, [], _ => rfl
  | c, nd :: r, h => by
    show pcl k (if _ then _ else _) r = c
    rw [if_neg (h nd (by simp)), pcl_none fun m hm => h m (by simp [hm])]
theorem pcl_last {k c : Nat} {a : List Nd} {nd : Nd} (h : k < nd.lv) : pcl k c (a ++ [nd]) = nd.p + 2 + k := by
  rw [pcl_append]
  show (if _ then _ else _) = _
  rw [if_pos h]
/-- the last node of a level, or none -/
theorem last_of (k c : Nat) : ∀ (l : List Nd), ((∀ nd ∈ l, ¬ k < nd.lv) ∧ pcl k c l = c) ∨ ∃ a nd b, l = a ++ nd :: b ∧ (∀ m ∈ b, ¬ k < m.lv) ∧ k < nd.lv ∧ pcl k c l = nd.p + 2 + k := fun l => by
  rcases first_of k l.reverse with h | ⟨a, nd, b, e, h1, h2⟩
  · have h' : ∀ nd ∈ l, ¬ k < nd.lv := fun nd hnd => h nd (by simpa using hnd)
    exact .inl ⟨h', pcl_none h'⟩
  · have e' : l = b.reverse ++ nd :: a.reverse := by
      have := congrArg List.reverse e
      simpa using this
    have h1' : ∀ m ∈ a.reverse, ¬ k < m.lv := fun m hm => h1 m (by simpa using hm)
    refine .inr ⟨b.reverse, nd, a.reverse, e', h1', h2, ?_⟩
    rw [e', show b.reverse ++ nd :: a.reverse = (b.reverse ++ [nd]) ++ a.reverse by simp, pcl_append, pcl_last h2, pcl_none h1']

section
variable {W : List Int} {nodes : List Nd} {back : Nat → List Int}
/-- what the last link's cell of a level holds -/
theorem SL.link (h : SL W nodes back) {a b : List Nd} (e : nodes = a ++ b) {k : Nat} (hk : k < 8) : W.getD (pcl k (20 + k) a) 0 = nxt k b := by
  rcases last_of k (20 + k) a with ⟨h1, h2⟩ | ⟨c, nd, d, rfl, h1, h2, h3⟩
  · rw [h2, h.hd k hk, e, nxt_none h1]
  · rw [h3, (h.cel c nd (d ++ b) (by rw [e]; simp)).2.2 k h2, nxt_none h1]
theorem SL.piece (h : SL W nodes back) {nd : Nd} (hm : nd ∈ nodes) : 40 ≤ nd.p ∧ nd.p + nd.lv + 2 ≤ 2000 ∧ 1 ≤ nd.lv ∧ nd.lv ≤ 8 := by
  have h1 := h.room.outIn ((nd.p : Int), ((nd.lv + 2 : Nat) : Int)) (List.mem_map.2 ⟨nd, hm, rfl⟩)
  have h2 := h.room.nx1
  have h3 := h.lvs nd hm
  simp only at h1
  omega
/-- the last link's cell of a level lies in the header, or in a node -/
theorem SL.cell (h : SL W nodes back) {a : List Nd} (ha : ∀ nd ∈ a, nd ∈ nodes) (k : Nat) : pcl k (20 + k) a = 20 + k ∨ ∃ nd ∈ a, k < nd.lv ∧ pcl k (20 + k) a = nd.p + 2 + k := by
  rcases last_of k (20 + k) a with ⟨_, h2⟩ | ⟨c, nd, d, rfl, _, h2, h3⟩
  · exact .inl h2
  · exact .inr ⟨nd, by simp, h2, h3⟩
theorem SL.cell_lt (h : SL W nodes back) {a : List Nd} (ha : ∀ nd ∈ a, nd ∈ nodes) {k : Nat} (hk : k < 8) : 20 ≤ pcl k (20 + k) a ∧ pcl k (20 + k) a < 2000 := by
  rcases h.cell ha k with e | ⟨nd, hm, hl, e⟩
  · omega
  · have := h.piece (ha nd hm); omega

/-- does a search go on behind a word? -/
def Less (x : Int) (past : Bool) (y : Int) : Prop := y < x ∨ (past = true ∧ y = x)

theorem sk_go {x : Int} {past : Bool} (h : SL W nodes back) {pre post : List Nd} (e : nodes = pre ++ post) (h1 : ∀ nd ∈ pre, Less x past nd.key) (h2 : ∀ nd ∈ post, ¬ Less x past nd.key) (N : Nat) :
    ∀ (m : Nat) (a b : List Nd) (k : Nat) (base : Int) (words fuel : Nat) (f : Found) (s : St), pre = a ++ b → m = b.length + k → k < 8 → m + 1 ≤ fuel → words + m ≤ 2000 → s.W = W → Ok s (N + 2 * m + 2) →
      (∀ j, j ≤ k → base + j = (pcl j (20 + j) a : Nat)) → f.cell.length = 8 → f.link.length = 8 → (∀ j, k < j → j < 8 → f.cell.getD j 0 = (pcl j (20 + j) pre : Nat) ∧ f.link.getD j 0 = nxt j post) →
      ∃ f' s', skGo x past fuel base k words f s = (f', 0, s') ∧ Lk s s' ∧ Ok s' N ∧ f'.cell.length = 8 ∧ f'.link.length = 8 ∧ (∀ j, j < 8 → f'.cell.getD j 0 = (pcl j (20 + j) pre : Nat) ∧ f'.link.getD j 0 = nxt j post) ∧ ∀ nd r, post = nd :: r → f'.word = nd.key := by
  intro m
  induction m using Nat.strongRecOn with
  | _ m ih =>
    intro a b k base words fuel f s hp hm hk hf hw hW hO hb hc hl hdone
    obtain ⟨fuel, rfl⟩ : ∃ n, fuel = n + 1 := ⟨fuel - 1, by omega⟩
    have hmem : ∀ nd ∈ a, nd ∈ nodes := fun nd hnd => by rw [e, hp]; simp [hnd]
    have hlt := h.cell_lt hmem hk
    have hbk := hb k (Nat.le_refl _)
    have hL := h.link (a := a) (b := b ++ post) (by rw [e, hp]; simp) hk
    obtain ⟨c, hcE⟩ : ∃ c, pcl k (20 + k) a = c := ⟨_, rfl⟩
    rw [hcE] at hlt hbk hL
    have hlen := h.len
    have hbase : uAdd base k = (c : Int) := by rw [uAdd_id (by omega) (by omega)]; exact hbk
    have hg := sget_live hO (a := (c : Int)) (by rw [hW, hlen]; omega)
    rw [Int.toNat_natCast, hW, hL] at hg
    have O1 : Ok (gone s (false, (c : Int), 0)) (N + 2 * m + 1) := Ok.gone (n := N + 2 * m + 1) hO _
    have L1 : Lk s (gone s (false, (c : Int), 0)) := Lk.get s _
    have hcp : (∀ nd ∈ b, ¬ k < nd.lv) → c = pcl k (20 + k) pre := fun hn => by rw [hp, pcl_append, pcl_none hn, hcE]
    -- levels that are done, behind this one
    have hd2 : ∀ (f2 : Found) (v : Int), f2.cell = f.cell.set k (c : Int) → f2.link = f.link.set k v → v = nxt k post → c = pcl k (20 + k) pre → ∀ j, k - 1 < j ∨ k = 0 → j < 8 → k ≤ j → f2.cell.getD j 0 = (pcl j (20 + j) pre : Nat) ∧ f2.link.getD j 0 = nxt j post := fun f2 v e1 e2 e3 e4 j _ hj8 hkj => by
      rw [e1, e2, getD_set_, getD_set_]
      by_cases hjk : k = j
      · subst hjk
        rw [if_pos ⟨rfl, by omega⟩, if_pos ⟨rfl, by omega⟩, e3, ← e4]
        exact ⟨rfl, rfl⟩
      · rw [if_neg (fun h => hjk h.1), if_neg (fun h => hjk h.1)]
        exact hdone j (by omega) hj8
    rcases first_of k b with hn | ⟨b1, nd, b2, hb12, hb1, hlv⟩
    · -- none of these nodes has the level
      have hc2 := hcp hn
      have e1 : nxt k (b ++ post) = nxt k post := nxt_none hn
      rw [e1] at hg
      rcases first_of k post with hn2 | ⟨p1, nd, p2, hp12, hp1, hlv⟩
      · have e2 : nxt k post = 0 := by
          have := nxt_none (a := post) (b := []) hn2
          simpa [nxt] using this
        by_cases hk0 : k = 0
        · refine ⟨{ f with cell := f.cell.set k (uAdd base k), link := f.link.set k (nxt k post) }, _, skGo_zero0 (by rw [hbase]; exact hg) e2 hk0, L1, O1.mono (by omega), by simpa using hc, by simpa using hl, fun j hj => hd2 _ _ (by rw [hbase]) rfl rfl hc2 j (.inr hk0) hj (by omega), fun nd r hr => ?_⟩
          have h3 := h.lvs nd (by rw [e, hr]; simp)
          exact absurd (show k < nd.lv by omega) (hn2 nd (by rw [hr]; simp))
        · obtain ⟨f', s', g1, g2, g3, g4, g5, g6, g7⟩ := ih (m - 1) (by omega) a b (k - 1) base words fuel { f with cell := f.cell.set k (uAdd base k), link := f.link.set k (nxt k post) } (gone s (false, (c : Int), 0)) hp (by omega) (by omega) (by omega) (by omega) hW (O1.mono (by omega)) (fun j hj => hb j (by omega)) (by simpa using hc) (by simpa using hl) (fun j hj hj8 => hd2 _ _ (by rw [hbase]) rfl rfl hc2 j (.inl hj) hj8 (by omega))
          exact ⟨f', s', by rw [skGo_zero (by rw [hbase]; exact hg) e2 (by omega)]; exact g1, L1.trans g2, g3, g4, g5, g6, g7⟩
      · have e2 : nxt k post = (nd.p : Int) + 1 := by rw [hp12]; exact nxt_some hp1 hlv
        have hmn : nd ∈ nodes := by rw [e, hp12]; simp
        have hpn := h.piece hmn
        have hkey := (h.cel (pre ++ p1) nd p2 (by rw [e, hp12]; simp)).1
        have hg2 := sget_live O1 (a := (nd.p : Int)) (by show _ < (s.W.length : Int); rw [hW, hlen]; omega)
        rw [Int.toNat_natCast, gone_W, hW, hkey] at hg2
        have O2 : Ok (gone (gone s (false, (c : Int), 0)) (false, (nd.p : Int), 0)) (N + 2 * m) := Ok.gone (n := N + 2 * m) O1 _
        have L2 := L1.trans (Lk.get (gone s (false, (c : Int), 0)) (nd.p : Int))
        have hw1 : IntKind.u64.wrap (nxt k post - 1) = (nd.p : Int) := by rw [e2, uw_id (by omega) (by omega)]; omega
        have hnl : ¬ (nd.key < x ∨ (past = true ∧ nd.key = x)) := h2 nd (by rw [hp12]; simp)
        by_cases hk0 : k = 0
        · refine ⟨{ f with cell := f.cell.set k (uAdd base k), link := f.link.set k (nxt k post), word := nd.key }, _, skGo_end (by rw [hbase]; exact hg) (by omega) (by omega) (by rw [hw1]; exact hg2) hnl hk0, L2, O2.mono (by omega), by simpa using hc, by simpa using hl, fun j hj => hd2 _ _ (by rw [hbase]) rfl rfl hc2 j (.inr hk0) hj (by omega), fun nd' r hr => ?_⟩
          cases p1 with
          | nil =>
            rw [hp12] at hr
            injection hr with hr _
            rw [hr]
          | cons q p1 =>
            have h3 := h.lvs q (by rw [e, hp12]; simp)
            exact absurd (show k < q.lv by omega) (hp1 q (by simp))
        · obtain ⟨f', s', g1, g2, g3, g4, g5, g6, g7⟩ := ih (m - 1) (by omega) a b (k - 1) base (words + 1) fuel { f with cell := f.cell.set k (uAdd base k), link := f.link.set k (nxt k post), word := nd.key } (gone (gone s (false, (c : Int), 0)) (false, (nd.p : Int), 0)) hp (by omega) (by omega) (by omega) (by omega) hW (O2.mono (by omega)) (fun j hj => hb j (by omega)) (by simpa using hc) (by simpa using hl) (fun j hj hj8 => hd2 _ _ (by rw [hbase]) rfl rfl hc2 j (.inl hj) hj8 (by omega))
          exact ⟨f', s', by rw [skGo_down (by rw [hbase]; exact hg) (by omega) (by omega) (by rw [hw1]; exact hg2) hnl (by omega)]; exact g1, L2.trans g2, g3, g4, g5, g6, g7⟩
    · -- the next node of the level is passed
      have e2 : nxt k (b ++ post) = (nd.p : Int) + 1 := by rw [hb12, List.append_assoc]; exact nxt_some hb1 hlv
      rw [e2] at hg
      have hpre : pre = (a ++ b1 ++ [nd]) ++ b2 := by rw [hp, hb12]; simp
      have hmn : nd ∈ nodes := by rw [e, hpre]; simp
      have hpn := h.piece hmn
      have hkey := (h.cel (a ++ b1) nd (b2 ++ post) (by rw [e, hpre]; simp)).1
      have hg2 := sget_live O1 (a := (nd.p : Int)) (by show _ < (s.W.length : Int); rw [hW, hlen]; omega)
      rw [Int.toNat_natCast, gone_W, hW, hkey] at hg2
      have O2 : Ok (gone (gone s (false, (c : Int), 0)) (false, (nd.p : Int), 0)) (N + 2 * m) := Ok.gone (n := N + 2 * m) O1 _
      have L2 := L1.trans (Lk.get (gone s (false, (c : Int), 0)) (nd.p : Int))
      have hw1 : IntKind.u64.wrap ((nd.p : Int) + 1 - 1) = (nd.p : Int) := by rw [uw_id (by omega) (by omega)]; omega
      have hu : uAdd ((nd.p : Int) + 1) 1 = (nd.p : Int) + 2 := by rw [uAdd_id (by omega) (by omega)]; omega
      have hnl : nd.key < x ∨ (past = true ∧ nd.key = x) := h1 nd (by rw [hpre]; simp)
      have hbl : b.length = b1.length + 1 + b2.length := by rw [hb12]; simp; omega
      obtain ⟨f', s', g1, g2, g3, g4, g5, g6, g7⟩ := ih (b2.length + k) (by omega) (a ++ b1 ++ [nd]) b2 k ((nd.p : Int) + 2) (words + 1) fuel { f with cell := f.cell.set k (uAdd base k), link := f.link.set k ((nd.p : Int) + 1), word := nd.key } (gone (gone s (false, (c : Int), 0)) (false, (nd.p : Int), 0)) hpre rfl hk (by omega) (by omega) hW (O2.mono (by omega))
        (fun j hj => by rw [pcl_last (show j < nd.lv by omega)]; omega) (by simpa using hc) (by simpa using hl)
        (fun j hj hj8 => by
          simp only
          rw [getD_ne _ (by omega), getD_ne _ (by omega)]
          exact hdone j hj hj8)
      exact ⟨f', s', by rw [skGo_next (by rw [hbase]; exact hg) (by omega) (by omega) (by rw [hw1]; exact hg2) hnl, hu]; exact g1, L2.trans g2, g3, g4, g5, g6, g7⟩

theorem sk_search {x : Int} {past : Bool} (h : SL W nodes back) {pre post : List Nd} (e : nodes = pre ++ post) (h1 : ∀ nd ∈ pre, Less x past nd.key) (h2 : ∀ nd ∈ post, ¬ Less x past nd.key) {s : St} {N : Nat} (hW : s.W = W) (hO : Ok s (N + 3000)) :
    ∃ f s', skSearch s 20 x past = (f, 0, s') ∧ Lk s s' ∧ Ok s' N ∧ f.cell.length = 8 ∧ f.link.length = 8 ∧ (∀ j, j < 8 → f.cell.getD j 0 = (pcl j (20 + j) pre : Nat) ∧ f.link.getD j 0 = nxt j post) ∧ ∀ nd r, post = nd :: r → f.word = nd.key := by
  have hfew := h.few
  have hpl : pre.length ≤ 1000 := by rw [e] at hfew; simp at hfew; omega
  exact sk_go h e h1 h2 N (pre.length + 7) [] pre 7 20 0 65545 noFound s rfl rfl (by omega) (by omega) (by omega) hW (hO.mono (by omega)) (fun j hj => rfl) rfl rfl (fun j hj hj8 => by omega)
end
end Go.Proofs.Ytgbgodhkehnbdaa
