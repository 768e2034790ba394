/- The document's histories: how a thread is behind an event, by contract. -/
import Derived.Test.YtloiadhdkgkjkaaEvC
import Derived.Outline
import Derived.Test.YtloiadhdkgkjkaaPCl1
namespace Go.Proofs.Ytloiadhdkgkjkaa
open Go.RowKit
set_option maxHeartbeats 40000000
set_option linter.unusedVariables false
set_option linter.unusedSimpArgs false
/-- How a thread is behind an event; -1: it may not have it. -/
def tnR (how : Nat) (e : Ev) : Int := if tb how e.kd = 0 ∨ (how = 0 ∧ e.kd = 9 ∧ e.er ≠ 4) then -1 else (tb how e.kd : Int) - 1
set_option maxRecDepth 100000 in
theorem turn_b (how : Nat) (hh : how < 4) (e : Ev) (w : World) :
    Calls Try.prog 76 #[.int .i64 how, evV e] w fun x w' => x = .returned (.int .i64 (tnR how e)) ∧ Below w.heap.size w w' := by
  obtain ⟨th, kd, ad, wd, ow, er⟩ := e
  unfold evV
  dsimp only
  have hc : how = 0 ∨ how = 1 ∨ how = 2 ∨ how = 3 := by omega
  rcases hc with rfl | rfl | rfl | rfl
  case inl =>
    by_cases h1 : kd = 1
    case pos =>
      subst h1
      go_enter Try.func76, Try.ntmps76
      go_wp2
      go_ret
      exact ⟨by simp [tnR, tb], (Below.refl _ _).alloc (Nat.le_refl _) _⟩
    have f1 : (kd == 1) = false := by simpa using h1
    by_cases h10 : kd = 10
    case pos =>
      subst h10
      go_enter Try.func76, Try.ntmps76
      go_wp2
      go_ret
      exact ⟨by simp [tnR, tb], (Below.refl _ _).alloc (Nat.le_refl _) _⟩
    have f10 : (kd == 10) = false := by simpa using h10
    by_cases h11 : kd = 11
    case pos =>
      subst h11
      go_enter Try.func76, Try.ntmps76
      go_wp2
      go_ret
      exact ⟨by simp [tnR, tb], (Below.refl _ _).alloc (Nat.le_refl _) _⟩
    have f11 : (kd == 11) = false := by simpa using h11
    by_cases h12 : kd = 12
    case pos =>
      subst h12
      go_enter Try.func76, Try.ntmps76
      go_wp2
      go_ret
      exact ⟨by simp [tnR, tb], (Below.refl _ _).alloc (Nat.le_refl _) _⟩
    have f12 : (kd == 12) = false := by simpa using h12
    by_cases h9 : kd = 9
    case pos =>
      subst h9
      by_cases hr : er = 4
      case pos =>
        subst hr
        go_enter Try.func76, Try.ntmps76
        go_wp2
        go_ret
        exact ⟨by simp [tnR, tb], (Below.refl _ _).alloc (Nat.le_refl _) _⟩
      have r4 : (er == 4) = false := by simpa using hr
      go_enter Try.func76, Try.ntmps76
      go_wp2
      go_ret
      exact ⟨by simp [tnR, tb, hr], (Below.refl _ _).alloc (Nat.le_refl _) _⟩
    have f9 : (kd == 9) = false := by simpa using h9
    go_enter Try.func76, Try.ntmps76
    go_wp2
    go_ret
    exact ⟨by simp [tnR, tb, h1, h10, h11, h12, h9], (Below.refl _ _).alloc (Nat.le_refl _) _⟩
  case inr.inl =>
    by_cases h2 : kd = 2
    case pos =>
      subst h2
      go_enter Try.func76, Try.ntmps76
      go_wp2
      go_ret
      exact ⟨by simp [tnR, tb], (Below.refl _ _).alloc (Nat.le_refl _) _⟩
    have f2 : (kd == 2) = false := by simpa using h2
    by_cases h3 : kd = 3
    case pos =>
      subst h3
      go_enter Try.func76, Try.ntmps76
      go_wp2
      go_ret
      exact ⟨by simp [tnR, tb], (Below.refl _ _).alloc (Nat.le_refl _) _⟩
    have f3 : (kd == 3) = false := by simpa using h3
    by_cases h4 : kd = 4
    case pos =>
      subst h4
      go_enter Try.func76, Try.ntmps76
      go_wp2
      go_ret
      exact ⟨by simp [tnR, tb], (Below.refl _ _).alloc (Nat.le_refl _) _⟩
    have f4 : (kd == 4) = false := by simpa using h4
    by_cases h5 : kd = 5
    case pos =>
      subst h5
      go_enter Try.func76, Try.ntmps76
      go_wp2
      go_ret
      exact ⟨by simp [tnR, tb], (Below.refl _ _).alloc (Nat.le_refl _) _⟩
    have f5 : (kd == 5) = false := by simpa using h5
    by_cases h6 : kd = 6
    case pos =>
      subst h6
      go_enter Try.func76, Try.ntmps76
      go_wp2
      go_ret
      exact ⟨by simp [tnR, tb], (Below.refl _ _).alloc (Nat.le_refl _) _⟩
    have f6 : (kd == 6) = false := by simpa using h6
    by_cases h7 : kd = 7
    case pos =>
      subst h7
      go_enter Try.func76, Try.ntmps76
      go_wp2
      go_ret
      exact ⟨by simp [tnR, tb], (Below.refl _ _).alloc (Nat.le_refl _) _⟩
    have f7 : (kd == 7) = false := by simpa using h7
    by_cases h8 : kd = 8
    case pos =>
      subst h8
      go_enter Try.func76, Try.ntmps76
      go_wp2
      go_ret
      exact ⟨by simp [tnR, tb], (Below.refl _ _).alloc (Nat.le_refl _) _⟩
    have f8 : (kd == 8) = false := by simpa using h8
    by_cases h9 : kd = 9
    case pos =>
      subst h9
      go_enter Try.func76, Try.ntmps76
      go_wp2
      go_ret
      exact ⟨by simp [tnR, tb], (Below.refl _ _).alloc (Nat.le_refl _) _⟩
    have f9 : (kd == 9) = false := by simpa using h9
    go_enter Try.func76, Try.ntmps76
    go_wp2
    go_ret
    exact ⟨by simp [tnR, tb, h2, h3, h4, h5, h6, h7, h8, h9], (Below.refl _ _).alloc (Nat.le_refl _) _⟩
  case inr.inr.inl =>
    by_cases h6 : kd = 6
    case pos =>
      subst h6
      go_enter Try.func76, Try.ntmps76
      go_wp2
      go_ret
      exact ⟨by simp [tnR, tb], (Below.refl _ _).alloc (Nat.le_refl _) _⟩
    have f6 : (kd == 6) = false := by simpa using h6
    go_enter Try.func76, Try.ntmps76
    go_wp2
    go_ret
    exact ⟨by simp [tnR, tb, h6], (Below.refl _ _).alloc (Nat.le_refl _) _⟩
  case inr.inr.inr =>
    go_enter Try.func76, Try.ntmps76
    go_wp2
    go_ret
    exact ⟨by simp [tnR, tb], (Below.refl _ _).alloc (Nat.le_refl _) _⟩
end Go.Proofs.Ytloiadhdkgkjkaa
/- The document's world behind an event: plain facts of its cells. -/
namespace Go.Proofs.Ytloiadhdkgkjkaa
open Go.RowKit
set_option maxHeartbeats 40000000
set_option linter.unusedVariables false
set_option linter.unusedSimpArgs false
theorem gR_ext {g : Nat → Value} {s s' : St} {wv wv' : Nat → Value} {t : Nat} (ht : t < 8) (h24 : g 24 = .int .u64 s'.num) (h0 : g (t * 3) = .int .i64 (s'.th t).how) (h1 : g (t * 3 + 1) = .int .u64 (s'.th t).sn) (h2 : g (t * 3 + 2) = wv' t)
    (ho : ∀ j, j < 24 → j ≠ t * 3 → j ≠ t * 3 + 1 → j ≠ t * 3 + 2 → g j = gR s wv j) (hs : ∀ i, i ≠ t → s'.th i = s.th i ∧ wv' i = wv i) : ∀ j, j < 25 → g j = gR s' wv' j := by
  intro j hj
  by_cases h : j = 24
  · subst h; rw [h24]; rfl
  obtain ⟨i, r, hr, rfl⟩ : ∃ i r, r < 3 ∧ j = i * 3 + r := ⟨j / 3, j % 3, Nat.mod_lt _ (by omega), by omega⟩
  have hi : i < 8 := by omega
  have hc : r = 0 ∨ r = 1 ∨ r = 2 := by omega
  by_cases hit : i = t
  · subst hit
    rcases hc with rfl | rfl | rfl
    · rw [Nat.add_zero, h0, gR_how hi]
    · rw [h1, gR_sn hi]
    · rw [h2, gR_ws hi]
  · rw [ho _ (by omega) (by omega) (by omega) (by omega)]
    obtain ⟨e1, e2⟩ := hs i hit
    rcases hc with rfl | rfl | rfl
    · rw [Nat.add_zero, gR_how hi, gR_how hi, e1]
    · rw [gR_sn hi, gR_sn hi, e1]
    · rw [gR_ws hi, gR_ws hi, e2]
theorem RefW.mk' {B : Nat} {w w' : World} {b : Nat} {s s' : St} {wv wv' : Nat → Value} (h : RefW B w b s wv) {t : Nat} (ht : t < 8) {g : Nat → Value} (hb : Blk w' b 131 (ofF 25 g)) (hg : ∀ j, j < 25 → g j = gR s' wv' j)
    (hs : ∀ i, i ≠ t → s'.th i = s.th i ∧ wv' i = wv i) (hk : ∀ i k, i < 8 → i ≠ t → own (wv i) k → w'.heap[k]? = w.heap[k]?) (hSt : Sl 45 2 encC w' (wv' t) (s'.th t).ws) (hap : ∀ k, own (wv' t) k → own (wv t) k ∨ w.heap.size ≤ k) : RefW B w' b s' wv' where
  blk := hb.fcongr hg
  ws := fun i hi => by
    by_cases hit : i = t
    · subst hit; exact hSt
    · rw [(hs i hit).1, (hs i hit).2]
      exact (h.ws i hi).keep fun k hk' => hk i k hi hit hk'
  apart := fun i j hi hj hij k h1 h2 => by
    by_cases hit : i = t
    · subst hit
      rw [(hs j (fun e => hij e.symm)).2] at h2
      rcases hap k h1 with h3 | h3
      · exact h.apart i j hi hj hij k h3 h2
      · have := (h.ws j hj).lt k h2; omega
    · rw [(hs i hit).2] at h1
      by_cases hjt : j = t
      · subst hjt
        rcases hap k h2 with h3 | h3
        · exact h.apart i j hi hj hij k h1 h3
        · have := (h.ws i hi).lt k h1; omega
      · rw [(hs j hjt).2] at h2
        exact h.apart i j hi hj hij k h1 h2
  geb := h.geb
  get := fun i hi k h1 => by
    by_cases hit : i = t
    · subst hit
      rcases hap k h1 with h3 | h3
      · exact h.get i hi k h3
      · have := h.geb; have := h.blk.lt; omega
    · rw [(hs i hit).2] at h1
      exact h.get i hi k h1
theorem RefW.nown {B : Nat} {w : World} {b : Nat} {s : St} {wv : Nat → Value} (h : RefW B w b s wv) {t : Nat} (ht : t < 8) : ¬ own (wv t) b := (h.ws t ht).ne_ h.blk (by decide)
theorem RefW.set {B : Nat} {w : World} {b : Nat} {s s' : St} {wv wv' : Nat → Value} (h : RefW B w b s wv) {w' : World} {t : Nat} (ht : t < 8) {g : Nat → Value} (hb : Blk w' b 131 (ofF 25 g)) (hg : ∀ j, j < 25 → g j = gR s' wv' j)
    (hs : ∀ i, i ≠ t → s'.th i = s.th i ∧ wv' i = wv i) (hk : ∀ k, k ≠ b → k < w.heap.size → w'.heap[k]? = w.heap[k]?) (hw : (wv' t = wv t ∧ (s'.th t).ws = (s.th t).ws) ∨ (wv' t = .slice none 0 0 ∧ (s'.th t).ws = [])) : RefW B w' b s' wv' := by
  have hkk : ∀ i k, i < 8 → own (wv i) k → w'.heap[k]? = w.heap[k]? := fun i k hi ho => hk k (fun e => h.nown hi (e ▸ ho)) ((h.ws i hi).lt k ho)
  refine h.mk' ht hb hg hs (fun i k hi _ ho => hkk i k hi ho) ?_ ?_
  · rcases hw with ⟨h1, h2⟩ | ⟨h1, h2⟩
    · rw [h1, h2]; exact (h.ws t ht).keep fun k ho => hkk t k ht ho
    · rw [h1, h2]; exact Sl.nil _
  · intro k ho
    rcases hw with ⟨h1, _⟩ | ⟨h1, _⟩
    · rw [h1] at ho; exact .inl ho
    · rw [h1] at ho; simp [own, Value.ownBlock] at ho
/-- The lock is another one's. -/
theorem lkR_hold {s : St} {k t : Nat} (hI : Inv s k) (ht : t < 8) (h2 : (s.th t).how ≠ 2) : lkR s (t : Int) = decide (0 ≤ s.hold) := by
  unfold lkR
  by_cases hh : 0 ≤ s.hold
  · rw [decide_eq_true hh, List.any_eq_true]
    obtain ⟨i, hi⟩ := Int.eq_ofNat_of_zero_le hh
    have hb := hI.bd.hold
    have hi8 : i < 8 := by omega
    have h3 := (hI.hold i hi8).2 hi
    refine ⟨i, List.mem_range.2 hi8, ?_⟩
    rw [Bool.and_eq_true, decide_eq_true_eq, decide_eq_true_eq]
    exact ⟨fun e => h2 (by rw [← show i = t by omega]; exact h3), h3⟩
  · rw [decide_eq_false hh, List.any_eq_false]
    intro i hi
    rw [List.mem_range] at hi
    simp only [Bool.and_eq_true, decide_eq_true_eq, not_and]
    intro _ h3
    have := (hI.hold i hi).1 h3
    omega
theorem take_same {s : St} {k t : Nat} {kd ad wd er : Int} {ow : Bool} : (take s k ⟨t, kd, ad, wd, ow, er⟩).th t = tkT (s.th t) ⟨t, kd, ad, wd, ow, er⟩ s.tries.length := by simp [take]
theorem take_other {s : St} {k t i : Nat} {kd ad wd er : Int} {ow : Bool} (h : i ≠ t) : (take s k ⟨t, kd, ad, wd, ow, er⟩).th i = s.th i := by simp [take, h]
theorem rn_ws_len (l : List Ev) : ∀ k t, ((rn l k).th t).ws.length ≤ k
  | 0, t => by simp [rn, St.zero]
  | k + 1, t => by
    have h1 := rn_ws_len l k t
    have h2 := rn_ws_len l k (evAt l k).th.toNat
    show (((take (rn l k) k (evAt l k)).th t).ws).length ≤ k + 1
    rw [show (take (rn l k) k (evAt l k)).th t = if t = (evAt l k).th.toNat then tkT ((rn l k).th (evAt l k).th.toNat) (evAt l k) (rn l k).tries.length else (rn l k).th t from rfl]
    split
    · unfold tkT
      dsimp only
      repeat' split
      all_goals first | (simp; done) | (simp; omega) | omega
    · omega
end Go.Proofs.Ytloiadhdkgkjkaa
