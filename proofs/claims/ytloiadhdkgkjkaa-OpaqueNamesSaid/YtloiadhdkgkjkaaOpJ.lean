/- opaque, plain: what else holds of what is gathered; what each attempt has seen. -/
import Derived.Test.YtloiadhdkgkjkaaOpI
namespace Go.Proofs.Ytloiadhdkgkjkaa
set_option maxHeartbeats 1000000
set_option linter.unusedVariables false
set_option linter.unusedSimpArgs false
theorem head_put {l : List (Nat × Int)} {n : Nat} (x : Int) (hne : l ≠ []) (hz : (l.getD 0 (0, 0)).1 = 0) (hn : 0 < n) : ((cutL l n ++ [(n, x)]).getD 0 (0, 0)).1 = 0 := by
  cases l with
  | nil => exact absurd rfl hne
  | cons p l' =>
    simp at hz
    unfold cutL
    cases l' with
    | nil =>
      rw [if_neg (by simp [hz]; omega)]
      simpa using hz
    | cons q l'' =>
      split
      · simpa using hz
      · simpa using hz
theorem put_ne (l : List (Nat × Int)) (n : Nat) (x : Int) : cutL l n ++ [(n, x)] ≠ [] := by simp
theorem putAll_head {n size : Nat} (hn : 0 < n) : ∀ {ws : List (Int × Int)} {c : Nat → List (Nat × Int)}, (∀ a, a < size → c a ≠ [] ∧ ((c a).getD 0 (0, 0)).1 = 0) → ∀ a, a < size → putAll c n ws a ≠ [] ∧ ((putAll c n ws a).getD 0 (0, 0)).1 = 0
  | [], c, h => h
  | p :: ws, c, h => putAll_head hn (ws := ws) (c := putC c n p) fun a ha => by
    unfold putC
    split
    · exact ⟨put_ne _ _ _, head_put _ (h a ha).1 (h a ha).2 hn⟩
    · exact h a ha
structure VJ (v : Vw) (size : Nat) : Prop where
  z : ∀ a, a < size → v.cells a ≠ [] ∧ ((v.cells a).getD 0 (0, 0)).1 = 0
  rd : ∀ x ∈ v.sights, ∀ p ∈ x.reads, 0 ≤ p.1 ∧ p.1 < (size : Int)
  up : ∀ x ∈ v.sights, x.fr ≤ v.commits ∧ x.upto ≤ v.commits
theorem VJ.start (first : List Int) (size : Nat) : VJ (vw0 first) size := ⟨fun a ha => by simp [vw0], fun x hx => by simp [vw0] at hx, fun x hx => by simp [vw0] at hx⟩
theorem sg_zero_or {l : List Sg} (q : Nat) : l.getD q Sg.zero = Sg.zero ∨ l.getD q Sg.zero ∈ l := by
  rw [List.getD_eq_getElem?_getD]
  cases h : l[q]? with
  | none => exact .inl rfl
  | some y => exact .inr (List.mem_of_getElem? h)
theorem VJ.ev {v : Vw} {size : Nat} {e : Ev} {T : List Tr} (h : VJ v size) (hf : farE size e = false) (h0 : 0 ≤ e.ad) : VJ (vEv T v e) size := by
  unfold vEv
  dsimp only
  split
  · refine ⟨h.z, fun x hx => ?_, fun x hx => ?_⟩
    · rcases List.mem_append.1 hx with hx | hx
      · exact h.rd x hx
      · rw [List.mem_singleton] at hx; subst hx; simp
    · rcases List.mem_append.1 hx with hx | hx
      · exact h.up x hx
      · rw [List.mem_singleton] at hx; subst hx; exact ⟨Nat.le_refl _, Nat.zero_le _⟩
  split
  · rename_i h2
    split
    · exact h
    · refine ⟨h.z, fun x hx => ?_, fun x hx => ?_⟩
      · rcases List.mem_or_eq_of_mem_set hx with hx | hx
        · exact h.rd x hx
        · subst hx
          intro p hp
          dsimp only at hp
          rcases List.mem_append.1 hp with hp | hp
          · rcases sg_zero_or (l := v.sights) (v.now e.th.toNat).tri with hz | hz
            · rw [hz] at hp; simp [Sg.zero] at hp
            · exact h.rd _ hz p hp
          · rw [List.mem_singleton] at hp
            subst hp
            unfold farE at hf
            rw [h2] at hf
            simp at hf
            exact ⟨h0, hf⟩
      · rcases List.mem_or_eq_of_mem_set hx with hx | hx
        · exact h.up x hx
        · subst hx
          rcases sg_zero_or (l := v.sights) (v.now e.th.toNat).tri with hz | hz
          · rw [hz]; exact ⟨Nat.zero_le _, Nat.zero_le _⟩
          · exact (show _ ∧ _ from h.up (v.sights.getD (v.now e.th.toNat).tri Sg.zero) hz)
  split
  · exact ⟨h.z, h.rd, h.up⟩
  split
  · exact ⟨h.z, h.rd, h.up⟩
  split
  · exact ⟨putAll_head (Nat.succ_pos _) h.z, h.rd, fun x hx => ⟨Nat.le_succ_of_le (h.up x hx).1, Nat.le_succ_of_le (h.up x hx).2⟩⟩
  · exact h
theorem VJ.tail {v : Vw} {size : Nat} (h : VJ v size) (i : Nat) (e : Ev) : VJ (vTl v i e) size := by
  unfold vTl
  dsimp only
  split
  · refine ⟨h.z, fun x hx => ?_, fun x hx => ?_⟩
    · rcases List.mem_or_eq_of_mem_set hx with hx | hx
      · exact h.rd x hx
      · subst hx
        rcases sg_zero_or (l := v.sights) (v.now e.th.toNat).tri with hz | hz
        · rw [hz]; simp [Sg.zero]
        · exact h.rd (v.sights.getD (v.now e.th.toNat).tri Sg.zero) hz
    · rcases List.mem_or_eq_of_mem_set hx with hx | hx
      · exact h.up x hx
      · subst hx
        rcases sg_zero_or (l := v.sights) (v.now e.th.toNat).tri with hz | hz
        · rw [hz]; exact ⟨Nat.zero_le _, Nat.le_refl _⟩
        · exact ⟨(h.up _ hz).1, Nat.le_refl _⟩
  · exact h
theorem VJ.vn {first : List Int} {T : List Tr} {l : List Ev} (hl : ∀ e ∈ l, EvWf e) (hf : idxE (farE first.length) l < 0) : ∀ {k : Nat}, k ≤ l.length → VJ (vn first T l k) first.length
  | 0, _ => VJ.start _ _
  | k + 1, hk => by
    have hk' : k < l.length := by omega
    have he : evAt l k = l[k] := by unfold evAt; rw [List.getD_eq_getElem?_getD, List.getElem?_eq_getElem hk']; rfl
    refine VJ.tail (VJ.ev (VJ.vn hl hf (by omega)) ?_ ?_) _ _
    · rw [he]; exact idxE_neg hf hk'
    · rw [he]; exact (hl _ (List.getElem_mem hk')).2.2.1.1
theorem cellsOk {v : Vw} {s : St} {k size : Nat} (h : VI v s k size) (hj : VJ v size) (hk : k ≤ 9223372036854775000) : CellsOk v.cells size :=
  ⟨fun a ha => (hj.z a ha).1, fun a ha => (hj.z a ha).2, fun a ha => by have := (h.inc a ha).len; have := h.cm; omega⟩
/-- Where, from n - 1 down to fr, words stood together; -1: nowhere. -/
def seekS (cells : Nat → List (Nat × Int)) (reads : List (Int × Int)) (fr : Nat) : Nat → Int
  | 0 => -1
  | n + 1 => if n < fr then -1 else if stoodW cells n reads = true then (n : Int) else seekS cells reads fr n
/-- What an attempt has seen: where. -/
def atOf (cells : Nat → List (Nat × Int)) (s : Sg) : Int := seekS cells s.reads s.fr (s.upto + 1)
def encG (x : Sg × Int) : List Value := [.int .i64 x.1.tr.th, .int .i64 x.1.tr.first, .int .i64 x.1.tr.last, .int .u64 x.1.tr.sn, .int .i64 x.1.tr.how, .int .i64 x.1.tr.rd, .int .i64 x.1.tr.wr, .int .i64 x.1.fr, .int .i64 x.1.upto, .int .i64 x.2]
theorem encG_len (x : Sg × Int) : (encG x).length = 10 := rfl
theorem encG_one (x : Sg × Int) : ∀ u ∈ encG x, u.oneCell' = true := by
  intro u hu
  simp only [encG, List.mem_cons, List.not_mem_nil, or_false] at hu
  rcases hu with rfl | rfl | rfl | rfl | rfl | rfl | rfl | rfl | rfl | rfl <;> rfl
def sightsOf (v : Vw) : List (Sg × Int) := v.sights.map fun s => (s, atOf v.cells s)
end Go.Proofs.Ytloiadhdkgkjkaa
