/- opaque.see: the cells as they begin, in memory. -/
import Derived.Test.YtloiadhdkgkjkaaOpD
namespace Go.Proofs.Ytloiadhdkgkjkaa
open Go.RowKit
set_option maxHeartbeats 4000000
set_option linter.unusedVariables false
set_option linter.unusedSimpArgs false
/-- The first k cells are laid into the map. -/
structure CellsA (w7 wr : World) (vb mb size : Nat) (first : List Int) (k : Nat) (cv : Nat → Value) : Prop where
  bel : Below w7.heap.size w7 wr
  vblk : Blk wr vb 68 #[.map (some mb), .int .i64 size, .int .i64 0, .slice none 0 0]
  map : ∃ n, Mp wr mb .u64 n (cmap k cv)
  cells : ∀ a, a < k → Sl 92 2 encF wr (cv a) [(0, first.getD a 0)]
  celld : ∀ a b, a < k → b < k → a ≠ b → ∀ j, own (cv a) j → ¬ own (cv b) j
  gec : ∀ a, a < k → ∀ j, own (cv a) j → w7.heap.size ≤ j
  gv : w7.heap.size ≤ vb
  gm : w7.heap.size ≤ mb
theorem CellsA.start (w7 : World) (size : Nat) (first : List Int) : CellsA w7 ((w7.alloc (.map #[] 0)).alloc (.cells #[.map (some w7.heap.size), .int .i64 size, .int .i64 0, .slice none 0 0] 68)) (w7.heap.size + 1) w7.heap.size size first 0 (fun _ => .slice none 0 0) where
  bel := ((Below.refl _ _).alloc (Nat.le_refl _) _).alloc (by simp) _
  vblk := by
    have := Blk.new (w7.alloc (.map #[] 0)) 68 #[.map (some w7.heap.size), .int .i64 size, .int .i64 0, .slice none 0 0]
    rwa [World.size_alloc] at this
  map := ⟨0, ((Mp.new w7 .u64).alloc _).congr fun k => by unfold cmap; rw [if_neg (by omega)]⟩
  cells := fun a ha => by omega
  celld := fun a b ha => by omega
  gec := fun a ha => by omega
  gv := Nat.le_succ _
  gm := Nat.le_refl _
theorem CellsA.step {w7 wr w' : World} {vb mb size k n : Nat} {first : List Int} {cv : Nat → Value} {x : Int} (h : CellsA w7 wr vb mb size first k cv) (hx : first.getD k 0 = x)
    (hM : Mp w' mb .u64 n (fun j => if j = (k : Int) then some (.slice (some ⟨wr.heap.size, 0, none⟩) 1 1) else cmap k cv j)) (hg : (wr.alloc (.cells #[.int .i64 0, .int .u64 x] 92)).grownBy w' (some mb)) :
    CellsA w7 w' vb mb size first (k + 1) (upd cv k (.slice (some ⟨wr.heap.size, 0, none⟩) 1 1)) := by
  obtain ⟨n0, hm0⟩ := h.map
  have hmb := hm0.lt
  have hne : mb ≠ vb := hm0.ne_ h.vblk
  have hS : Sl 92 2 encF (wr.alloc (.cells #[.int .i64 0, .int .u64 x] 92)) (.slice (some ⟨wr.heap.size, 0, none⟩) 1 1) [((0 : Nat), x)] := Sl.new encF_len wr [((0 : Nat), x)] (by simp)
  have step : ∀ {v : Value} {l : List (Nat × Int)}, Sl 92 2 encF (wr.alloc (.cells #[.int .i64 0, .int .u64 x] 92)) v l → Sl 92 2 encF w' v l := fun hs => hs.keep fun j hj => hg.block j (hs.lt j hj) fun e => by
    injection e with e
    subst e
    exact (hm0.alloc _).ne_row hs hj
  refine ⟨?_, (h.vblk.alloc _).grown hg (fun e => by injection e with e; exact hne e.symm), ⟨n, hM.congr fun j => ?_⟩, fun a ha => ?_, fun a b ha hb hab j hj => ?_, fun a ha j hj => ?_, h.gv, h.gm⟩
  · exact below_grown (h.bel.alloc h.bel.size _) hg h.gm (by simp; omega)
  · unfold cmap
    by_cases hjk : j = (k : Int)
    · subst hjk
      rw [if_pos ⟨by omega, by omega⟩, if_pos rfl, Int.toNat_natCast, upd_at]
    · rw [if_neg hjk]
      by_cases h1 : 0 ≤ j ∧ j < (k : Int)
      · rw [if_pos ⟨h1.1, by omega⟩, if_pos h1, upd_ne _ _ (by omega)]
      · rw [if_neg (by omega), if_neg h1]
  · by_cases hak : a = k
    · subst hak
      rw [upd_at, hx]
      exact step hS
    · rw [upd_ne _ _ hak]
      exact step ((h.cells a (by omega)).alloc _)
  · by_cases hak : a = k
    · subst hak
      rw [upd_at] at hj
      rw [upd_ne _ _ (Ne.symm hab)]
      intro hb2
      have := (h.cells b (by omega)).lt j hb2
      simp [own, Value.ownBlock] at hj
      omega
    · rw [upd_ne _ _ hak] at hj
      by_cases hbk : b = k
      · subst hbk
        rw [upd_at]
        intro hb2
        have := (h.cells a (by omega)).lt j hj
        simp [own, Value.ownBlock] at hb2
        omega
      · rw [upd_ne _ _ hbk]
        exact h.celld a b (by omega) (by omega) hab j hj
  · by_cases hak : a = k
    · subst hak
      rw [upd_at] at hj
      simp [own, Value.ownBlock] at hj
      have := h.bel.size
      omega
    · rw [upd_ne _ _ hak] at hj
      exact h.gec a (by omega) j hj
/-- What is gathered ahead of the first event. -/
def vw0 (first : List Int) : Vw := ⟨fun _ => ⟨0, false, []⟩, fun a => [(0, first.getD a 0)], 0, [], 0⟩
theorem CellsA.done {w7 wr : World} {vb mb : Nat} {first : List Int} {cv : Nat → Value} (h : CellsA w7 wr vb mb first.length first first.length cv) (cs : Array Value) (hcs : cs = ofF 24 (gN (fun _ => ⟨0, false, []⟩) (fun _ => .slice none 0 0))) :
    VwW w7.heap.size (wr.alloc (.cells cs 103)) vb wr.heap.size mb (vw0 first) first.length (fun _ => .slice none 0 0) cv (.slice none 0 0) where
  vblk := h.vblk.alloc _
  nblk := by rw [← show cs = ofF 24 (gN (vw0 first).now (fun _ => .slice none 0 0)) from hcs]; exact Blk.new _ _ _
  map := let ⟨n, hm⟩ := h.map; ⟨n, hm.alloc _⟩
  cells := fun a ha => (h.cells a ha).alloc _
  sights := Sl.nil _
  fam := fun j hj => by
    have : content (vw0 first) j = [] := by
      unfold content vw0
      dsimp only
      split
      · rfl
      · simp [Sg.zero]
    rw [this]
    exact Sl.nil _
  famd := fun i j _ _ _ k hk => absurd hk own_nil0
  celld := h.celld
  gev := h.gv
  gen := h.bel.size
  gem := h.gm
  gec := h.gec
  ges := fun k hk => absurd hk own_nil0
  gef := fun j _ k hk => absurd hk own_nil0
end Go.Proofs.Ytloiadhdkgkjkaa
