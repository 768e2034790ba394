/- What opaque.see gathers: plain, and in memory. -/
import Derived.Test.YtloiadhdkgkjkaaOpA
namespace Go.Proofs.Ytloiadhdkgkjkaa
open Go.RowKit
set_option maxHeartbeats 4000000
set_option linter.unusedVariables false
set_option linter.unusedSimpArgs false

structure Sg where
  tr : Tr
  reads : List (Int × Int)
  fr : Nat
  upto : Nat
structure Nw where
  tri : Nat
  lk : Bool
  ws : List (Int × Int)
structure Vw where
  now : Nat → Nw
  cells : Nat → List (Nat × Int)
  commits : Nat
  sights : List Sg
  next : Nat
def cutL (l : List (Nat × Int)) (n : Nat) : List (Nat × Int) := if (l.getLast?.map (·.1)) = some n then l.dropLast else l
/-- A word laid into its cell behind n commits. -/
def putC (cells : Nat → List (Nat × Int)) (n : Nat) (p : Int × Int) : Nat → List (Nat × Int) := fun a => if a = p.1.toNat then cutL (cells a) n ++ [(n, p.2)] else cells a
def putAll (cells : Nat → List (Nat × Int)) (n : Nat) (l : List (Int × Int)) : Nat → List (Nat × Int) := l.foldl (fun c p => putC c n p) cells

def Sg.zero : Sg := ⟨Tr.zero, [], 0, 0⟩
/-- The words in lists of cells: of thread j, or of attempt j - 8. -/
def content (v : Vw) (j : Nat) : List (Int × Int) := if j < 8 then (v.now j).ws else (v.sights.getD (j - 8) Sg.zero).reads

def encC (x : Int × Int) : List Value := [.int .u64 x.1, .int .u64 x.2]
theorem encC_len (x : Int × Int) : (encC x).length = 2 := rfl
theorem encC_one (x : Int × Int) : ∀ u ∈ encC x, u.oneCell' = true := by
  intro u hu
  simp only [encC, List.mem_cons, List.not_mem_nil, or_false] at hu
  rcases hu with rfl | rfl <;> rfl
def encF (x : Nat × Int) : List Value := [.int .i64 x.1, .int .u64 x.2]
theorem encF_len (x : Nat × Int) : (encF x).length = 2 := rfl
theorem encF_one (x : Nat × Int) : ∀ u ∈ encF x, u.oneCell' = true := by
  intro u hu
  simp only [encF, List.mem_cons, List.not_mem_nil, or_false] at hu
  rcases hu with rfl | rfl <;> rfl
def encS (x : Sg × Value) : List Value := [.int .i64 x.1.tr.th, .int .i64 x.1.tr.first, .int .i64 x.1.tr.last, .int .u64 x.1.tr.sn, .int .i64 x.1.tr.how, .int .i64 x.1.tr.rd, .int .i64 x.1.tr.wr, x.2, .int .i64 x.1.fr, .int .i64 x.1.upto]
theorem encS_len (x : Sg × Value) : (encS x).length = 10 := rfl
/-- The attempts with their slices. -/
def withS (l : List Sg) (fv : Nat → Value) : List (Sg × Value) := l.mapIdx fun j x => (x, fv (8 + j))
theorem withS_len (l : List Sg) (fv : Nat → Value) : (withS l fv).length = l.length := by simp [withS]
theorem withS_get (l : List Sg) (fv : Nat → Value) (j : Nat) (hj : j < l.length) : (withS l fv)[j]'(by rw [withS_len]; exact hj) = (l[j], fv (8 + j)) := by simp [withS]
def gN (now : Nat → Nw) (fv : Nat → Value) (i : Nat) : Value := if i % 3 = 0 then .int .i64 (now (i / 3)).tri else if i % 3 = 1 then .bool (now (i / 3)).lk else fv (i / 3)
def upd {α : Type} (f : Nat → α) (j : Nat) (x : α) : Nat → α := fun i => if i = j then x else f i
theorem upd_at {α : Type} (f : Nat → α) (j : Nat) (x : α) : upd f j x j = x := by simp [upd]
theorem upd_ne {α : Type} (f : Nat → α) {i j : Nat} (x : α) (h : i ≠ j) : upd f j x i = f i := by simp [upd, h]
def cmap (size : Nat) (cv : Nat → Value) (a : Int) : Option Value := if 0 ≤ a ∧ a < (size : Int) then some (cv a.toNat) else none

/-- In memory stands what was gathered; nothing of it lies below B. -/
structure VwW (B : Nat) (w : World) (vb nb mb : Nat) (v : Vw) (size : Nat) (fv cv : Nat → Value) (sv : Value) : Prop where
  vblk : Blk w vb 68 #[.map (some mb), .int .i64 size, .int .i64 v.commits, sv]
  nblk : Blk w nb 103 (ofF 24 (gN v.now fv))
  map : ∃ n, Mp w mb .u64 n (cmap size cv)
  cells : ∀ a, a < size → Sl 92 2 encF w (cv a) (v.cells a)
  sights : Sl 70 10 encS w sv (withS v.sights fv)
  fam : ∀ j, j < 8 + v.sights.length → Sl 45 2 encC w (fv j) (content v j)
  famd : ∀ i j, i < 8 + v.sights.length → j < 8 + v.sights.length → i ≠ j → ∀ k, own (fv i) k → ¬ own (fv j) k
  celld : ∀ a b, a < size → b < size → a ≠ b → ∀ k, own (cv a) k → ¬ own (cv b) k
  gev : B ≤ vb
  gen : B ≤ nb
  gem : B ≤ mb
  gec : ∀ a, a < size → ∀ k, own (cv a) k → B ≤ k
  ges : ∀ k, own sv k → B ≤ k
  gef : ∀ j, j < 8 + v.sights.length → ∀ k, own (fv j) k → B ≤ k
section
variable {B : Nat} {w w' : World} {vb nb mb : Nat} {v : Vw} {size : Nat} {fv cv : Nat → Value} {sv : Value}
theorem VwW.keep (h : VwW B w vb nb mb v size fv cv sv) (hk : ∀ k, B ≤ k → k < w.heap.size → w'.heap[k]? = w.heap[k]?) : VwW B w' vb nb mb v size fv cv sv where
  vblk := (hk vb h.gev h.vblk.lt).trans h.vblk
  nblk := (hk nb h.gen h.nblk.lt).trans h.nblk
  map := let ⟨n, hm⟩ := h.map; ⟨n, hm.keep (hk mb h.gem hm.lt)⟩
  cells := fun a ha => (h.cells a ha).keep fun k hk' => hk k (h.gec a ha k hk') ((h.cells a ha).lt k hk')
  sights := h.sights.keep fun k hk' => hk k (h.ges k hk') (h.sights.lt k hk')
  fam := fun j hj => (h.fam j hj).keep fun k hk' => hk k (h.gef j hj k hk') ((h.fam j hj).lt k hk')
  famd := h.famd
  celld := h.celld
  gev := h.gev
  gen := h.gen
  gem := h.gem
  gec := h.gec
  ges := h.ges
  gef := h.gef
theorem VwW.alloc (h : VwW B w vb nb mb v size fv cv sv) (o : Obj) : VwW B (w.alloc o) vb nb mb v size fv cv sv := h.keep fun k _ hk => Below.heap_alloc w o k hk
theorem VwW.drewN (h : VwW B w vb nb mb v size fv cv sv) (n : Nat) : VwW B (w.drewN n) vb nb mb v size fv cv sv := h.keep fun _ _ _ => rfl
theorem VwW.below (h : VwW B w vb nb mb v size fv cv sv) (hb : Below w.heap.size w w') : VwW B w' vb nb mb v size fv cv sv := h.keep fun k _ hk => hb.block k hk
theorem VwW.sightsNe (h : VwW B w vb nb mb v size fv cv sv) : ¬ own sv vb ∧ ¬ own sv nb ∧ ¬ own sv mb := ⟨h.sights.ne_ h.vblk (by decide), h.sights.ne_ h.nblk (by decide), fun hk => let ⟨n, hm⟩ := h.map; hm.ne_row h.sights hk⟩
theorem VwW.famNe (h : VwW B w vb nb mb v size fv cv sv) {j : Nat} (hj : j < 8 + v.sights.length) : ¬ own (fv j) vb ∧ ¬ own (fv j) nb ∧ ¬ own (fv j) mb := ⟨(h.fam j hj).ne_ h.vblk (by decide), (h.fam j hj).ne_ h.nblk (by decide), fun hk => let ⟨n, hm⟩ := h.map; hm.ne_row (h.fam j hj) hk⟩
theorem VwW.cellNe (h : VwW B w vb nb mb v size fv cv sv) {a : Nat} (ha : a < size) : ¬ own (cv a) vb ∧ ¬ own (cv a) nb ∧ ¬ own (cv a) mb := ⟨(h.cells a ha).ne_ h.vblk (by decide), (h.cells a ha).ne_ h.nblk (by decide), fun hk => let ⟨n, hm⟩ := h.map; hm.ne_row (h.cells a ha) hk⟩
theorem VwW.vn (h : VwW B w vb nb mb v size fv cv sv) : vb ≠ nb := h.vblk.ne_ h.nblk (by decide)
theorem VwW.vm (h : VwW B w vb nb mb v size fv cv sv) : mb ≠ vb := let ⟨n, hm⟩ := h.map; hm.ne_ h.vblk
theorem VwW.nm (h : VwW B w vb nb mb v size fv cv sv) : mb ≠ nb := let ⟨n, hm⟩ := h.map; hm.ne_ h.nblk
theorem sl_apart {α β : Type} {t t' : TypeId} {z z' : Nat} {e : α → List Value} {e' : β → List Value} {a b : Value} {l : List α} {l' : List β} (h : Sl t z e w a l) (h' : Sl t' z' e' w b l') (hne : t ≠ t') {k : Nat} (hk : own a k) : ¬ own b k := fun hb => by
  obtain ⟨cs, hc⟩ := h.ofBlk hk
  exact h'.ne_ hc hne hb
/-- A store into the view's own block. -/
theorem VwW.setV (h : VwW B w vb nb mb v size fv cv sv) (i : Nat) (u : Value) {v' : Vw} {sv' : Value} (hb : (#[.map (some mb), .int .i64 size, .int .i64 v.commits, sv] : Array Value).setIfInBounds i u = #[.map (some mb), .int .i64 size, .int .i64 v'.commits, sv']) (h1 : v'.now = v.now) (h2 : v'.cells = v.cells) (h3 : v'.sights = v.sights) (h4 : sv' = sv) :
    VwW B (w.setCell ⟨vb, i, none⟩ u) vb nb mb v' size fv cv sv' where
  vblk := by have := h.vblk.set_ i u; rw [hb] at this; exact this
  nblk := by rw [h1]; exact h.nblk.far (p := ⟨vb, i, none⟩) h.vn.symm u
  map := let ⟨n, hm⟩ := h.map; ⟨n, hm.far (p := ⟨vb, i, none⟩) h.vm u⟩
  cells := fun a ha => by rw [h2]; exact (h.cells a ha).set (p := ⟨vb, i, none⟩) (h.cellNe ha).1 u
  sights := by rw [h3, h4]; exact h.sights.set (p := ⟨vb, i, none⟩) h.sightsNe.1 u
  fam := fun j hj => by
    rw [h3] at hj
    have : content v' j = content v j := by unfold content; rw [h1, h3]
    rw [this]
    exact (h.fam j hj).set (p := ⟨vb, i, none⟩) (h.famNe hj).1 u
  famd := by rw [h3]; exact h.famd
  celld := h.celld
  gev := h.gev
  gen := h.gen
  gem := h.gem
  gec := h.gec
  ges := by rw [h4]; exact h.ges
  gef := by rw [h3]; exact h.gef
theorem VwW.setCommits (h : VwW B w vb nb mb v size fv cv sv) (n : Nat) : VwW B (w.setCell ⟨vb, 2, none⟩ (.int .i64 n)) vb nb mb ⟨v.now, v.cells, n, v.sights, v.next⟩ size fv cv sv := h.setV 2 _ (by simp) rfl rfl rfl rfl
/-- A store into a thread's block of numbers that turns no list. -/
theorem VwW.setN (h : VwW B w vb nb mb v size fv cv sv) {k c : Nat} (hk : k < 8) (hc : c < 2) (u : Value) (x : Nw) (hx : x.ws = (v.now k).ws) (hu : ∀ d, d < 2 → (if d = 0 then Value.int .i64 x.tri else .bool x.lk) = if d = c then u else if d = 0 then .int .i64 (v.now k).tri else .bool (v.now k).lk) :
    VwW B (w.setCell ⟨nb, k * 3 + c, none⟩ u) vb nb mb ⟨upd v.now k x, v.cells, v.commits, v.sights, v.next⟩ size fv cv sv where
  vblk := h.vblk.far (p := ⟨nb, k * 3 + c, none⟩) h.vn u
  nblk := by
    refine (h.nblk.fset (k * 3 + c) u).fcongr fun j hj => ?_
    unfold gN
    dsimp only
    by_cases hq : j / 3 = k
    · rw [hq, upd_at]
      have hu0 := hu 0 (by decide)
      have hu1 := hu 1 (by decide)
      simp only [if_pos, if_neg (show ¬ (1 = 0) by decide)] at hu0 hu1
      by_cases h0 : j % 3 = 0
      · rw [if_pos h0, if_pos h0, hu0]
        by_cases hc0 : c = 0
        · rw [if_pos (by omega), if_pos hc0.symm]
        · rw [if_neg (by omega), if_neg (fun e => hc0 e.symm)]
      · rw [if_neg h0, if_neg h0]
        by_cases h1 : j % 3 = 1
        · rw [if_pos h1, if_pos h1, hu1]
          by_cases hc1 : c = 1
          · rw [if_pos (by omega), if_pos hc1.symm]
          · rw [if_neg (by omega), if_neg (fun e => hc1 e.symm)]
        · rw [if_neg h1, if_neg h1, if_neg (by omega)]
    · rw [if_neg (by omega), upd_ne _ _ hq]
  map := let ⟨n, hm⟩ := h.map; ⟨n, hm.far (p := ⟨nb, k * 3 + c, none⟩) h.nm u⟩
  cells := fun a ha => (h.cells a ha).set (p := ⟨nb, k * 3 + c, none⟩) (h.cellNe ha).2.1 u
  sights := h.sights.set (p := ⟨nb, k * 3 + c, none⟩) h.sightsNe.2.1 u
  fam := fun j hj => by
    have : content ⟨upd v.now k x, v.cells, v.commits, v.sights, v.next⟩ j = content v j := by
      unfold content
      dsimp only
      by_cases hjk : j = k
      · subst hjk; rw [upd_at, hx]
      · rw [upd_ne _ _ hjk]
    rw [this]
    exact (h.fam j hj).set (p := ⟨nb, k * 3 + c, none⟩) (h.famNe hj).2.1 u
  famd := h.famd
  celld := h.celld
  gev := h.gev
  gen := h.gen
  gem := h.gem
  gec := h.gec
  ges := h.ges
  gef := h.gef
end
end Go.Proofs.Ytloiadhdkgkjkaa
