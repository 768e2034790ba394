/- A search over any words ends; what Keys answers is what stands. No program in sight. -/
import Derived.Test.YtcohopobjppmaaaLiFn
namespace Go.Proofs.Ytcohopobjppmaaa
open Go.RowKit
set_option linter.unusedVariables false

theorem rise_len : ∀ (ks W : List Int), ks.Pairwise (· < ·) → (∀ x ∈ ks, x ∈ W) → ks.length ≤ W.length
  | [], _, _, _ => Nat.zero_le _
  | k :: ks, W, hp, hm => by
    have hk := hm k (by simp)
    obtain ⟨h1, h2⟩ := List.pairwise_cons.1 hp
    have := rise_len ks (W.erase k) h2 fun x hx => by
      have hx1 := h1 x hx
      exact (List.mem_erase_of_ne (by omega)).2 (hm x (List.mem_cons_of_mem _ hx))
    rw [List.length_erase_of_mem hk] at this
    have := List.length_pos_of_mem hk
    simp; omega

theorem hget_live {s : St} (hf : s.fail < 0) (a : Int) :
    (hget s 0 a = (0, 4, gone s (false, a, 0)) ∧ (s.W.length : Int) ≤ a) ∨ (hget s 0 a = (s.W.getD a.toNat 0, 0, gone s (false, a, 0)) ∧ a < s.W.length) := by
  by_cases h : (s.W.length : Int) ≤ a
  · left
    refine ⟨hget_er (x := 0) (s1 := gone s (false, a, 0)) ?_ (by simp), h⟩
    unfold sget
    rw [if_neg (by unfold fls; omega), if_pos h]
    rfl
  · right
    refine ⟨hget_ok (s1 := gone s (false, a, 0)) ?_, by omega⟩
    unfold sget
    rw [if_neg (by unfold fls; omega), if_neg h]
    rfl
theorem getD_mem {W : List Int} {a : Int} (h0 : 0 ≤ a) (h : a < W.length) : W.getD a.toNat 0 ∈ W := by
  rw [List.getD_eq_getElem?_getD, List.getElem?_eq_getElem (by omega)]
  exact List.getElem_mem _

/-- what is known of a search under way -/
structure Way (W : List Int) (last : Int) (p : Pl) (ks : List Int) : Prop where
  rise : ks.Pairwise (· < ·)
  mem : ∀ x ∈ ks, x ∈ W
  last : ∀ x ∈ ks, x ≤ last
  ahead : p.ahead = (ks.length : Int)
theorem Way.nil (W : List Int) (l : Int) : Way W 0 { from_ := l, next := 0, key := 0, ahead := 0 } [] := ⟨.nil, by simp, by simp, rfl⟩
theorem Way.len {W : List Int} {last : Int} {p : Pl} {ks : List Int} (h : Way W last p ks) : ks.length ≤ W.length := rise_len ks W h.rise h.mem
theorem Way.on {W : List Int} {last key count nx : Int} {p : Pl} {ks : List Int} (h : Way W last p ks) (hW : W.length ≤ 60000) (hk : key ∈ W) (hb : ¬ (count ≤ p.ahead ∨ 0 < p.ahead ∧ key ≤ last)) :
    Way W key { from_ := nx, next := nx, key := key, ahead := uAdd p.ahead 1 } (ks ++ [key]) := by
  have hlt : ∀ x ∈ ks, x < key := fun x hx => by
    have h1 := h.last x hx
    have h2 : 0 < p.ahead := by rw [h.ahead]; have := List.length_pos_of_mem hx; omega
    have h3 : ¬ key ≤ last := fun hc => hb (.inr ⟨h2, hc⟩)
    omega
  refine ⟨List.pairwise_append.2 ⟨h.rise, by simp, fun x hx y hy => ?_⟩, fun x hx => ?_, fun x hx => ?_, ?_⟩
  · obtain rfl : y = key := by simpa using hy
    exact hlt x hx
  · rcases List.mem_append.1 hx with hx | hx
    · exact h.mem x hx
    · obtain rfl : x = key := by simpa using hx
      exact hk
  · rcases List.mem_append.1 hx with hx | hx
    · have := hlt x hx; omega
    · obtain rfl : x = key := by simpa using hx
      omega
  · have := h.len
    simp only [h.ahead, List.length_append, List.length_singleton]
    unfold uAdd
    rw [wrap_u64_mod]
    omega

theorem wrap_pos (x : Int) : 0 ≤ IntKind.u64.wrap x := by rw [wrap_u64_mod]; omega
theorem fGo_some (q : Int → Bool) (count : Int) : ∀ (k : Nat) (last : Int) (p : Pl) (ks : List Int) (s : St), s.fail < 0 → Way s.W last p ks → s.W.length < ks.length + k → s.W.length ≤ 60000 →
    ∃ r, fGo q count k last p ks 0 s = some r := by
  intro k
  induction k with
  | zero => intro last p ks s hf hw hk hW; have := hw.len; omega
  | succ k ih =>
    intro last p ks s hf hw hk hW
    rcases hget_live hf p.from_ with ⟨h1, _⟩ | ⟨h1, _⟩
    · exact ⟨_, fGo_e1 h1 (by simp)⟩
    · generalize hnx : s.W.getD p.from_.toNat 0 = nx at h1
      by_cases hn : nx = 0
      · subst hn; exact ⟨_, fGo_end h1⟩
      · rcases hget_live (s := gone s (false, p.from_, 0)) hf (IntKind.u64.wrap (nx - 1)) with ⟨h2, _⟩ | ⟨h2, hl2⟩
        · exact ⟨_, fGo_e2 h1 hn h2 (by simp)⟩
        · have hkm := getD_mem (wrap_pos _) hl2
          rw [gone_W] at hkm h2
          generalize s.W.getD (IntKind.u64.wrap (nx - 1)).toNat 0 = key at h2 hkm
          by_cases hb : count ≤ p.ahead ∨ 0 < p.ahead ∧ key ≤ last
          · exact ⟨_, fGo_bad h1 hn h2 hb⟩
          · by_cases hq : q key = true
            · rw [fGo_on h1 hn h2 hb hq]
              exact ih key _ _ _ hf (hw.on hW hkm hb) (by simp; show s.W.length < _; omega) hW
            · exact ⟨_, fGo_stop h1 hn h2 hb (by simpa using hq)⟩
theorem hfind_some (q : Int → Bool) (s : St) (l : Int) (hf : s.fail < 0) (hW : s.W.length ≤ 60000) : ∃ p ks e s', hfind q (s.W.length + 1) s 0 l = some (p, ks, e, s') := by
  unfold hfind
  rcases hget_live hf l with ⟨h1, _⟩ | ⟨h1, _⟩
  · rw [h1]; simp only
    rw [fGo_e1 (e1 := 4) (nx := 0) (hget_no (by simp) _) (by simp)]
    exact ⟨_, _, _, _, rfl⟩
  · rw [h1]; simp only
    obtain ⟨⟨p, ks, e, s'⟩, hr⟩ := fGo_some q (s.W.getD l.toNat 0) (s.W.length + 1) 0 { from_ := uAdd l 1, next := 0, key := 0, ahead := 0 } [] (gone s (false, l, 0)) hf (Way.nil _ _) (by simp [gone_W]) (by rw [gone_W]; exact hW)
    exact ⟨p, ks, e, s', hr⟩

/-- the keys of what stands, k: how many nodes more there may be -/
def sGo (W : List Int) (count : Int) : Nat → Int → List Int → List Int × Bool
  | 0, _, _ => ([], false)
  | k + 1, nx, out =>
    if nx = 0 then (out, decide ((out.length : Int) = count))
    else if (W.length : Int) ≤ IntKind.u64.wrap (nx - 1) ∨ (W.length : Int) ≤ nx ∨ (out ≠ [] ∧ W.getD (IntKind.u64.wrap (nx - 1)).toNat 0 ≤ out.getLastD 0) ∨ count ≤ out.length then ([], false)
    else sGo W count k (W.getD nx.toNat 0) (out ++ [W.getD (IntKind.u64.wrap (nx - 1)).toNat 0])
def stands (W : List Int) (l : Int) : List Int × Bool :=
  if (W.length : Int) ≤ l ∨ (W.length : Int) ≤ uAdd l 1 then ([], false) else sGo W (W.getD l.toNat 0) (W.length + 1) (W.getD (uAdd l 1).toNat 0) []

theorem getLastD_concat_ (l : List Int) (x : Int) : (l ++ [x]).getLastD 0 = x := by simp
/-- the last key -/
theorem fGo_stands (count : Int) : ∀ (k : Nat) (last : Int) (p p' : Pl) (ks ks' : List Int) (e' : Int) (s s' : St), s.fail < 0 → (∀ x ∈ s.W, 0 ≤ x ∧ x ≤ 18446744073709551615) → Way s.W last p ks → (ks ≠ [] → last = ks.getLastD 0) → s.W.length ≤ 60000 → 0 ≤ p.from_ → p.from_ < s.W.length →
    fGo (fun _ => true) count k last p ks 0 s = some (p', ks', e', s') →
    ((sGo s.W count k (s.W.getD p.from_.toNat 0) ks).2 = true → e' = 0 ∧ p'.next = 0 ∧ ks' = (sGo s.W count k (s.W.getD p.from_.toNat 0) ks).1) ∧
    ((sGo s.W count k (s.W.getD p.from_.toNat 0) ks).2 = false → e' = 4 ∨ e' = 310) := by
  intro k
  induction k with
  | zero => intro last p p' ks ks' e' s s' _ _ _ _ _ _ _ h; simp [fGo] at h
  | succ k ih =>
    intro last p p' ks ks' e' s s' hf hw64 hw hla hW h0 hl h
    rcases hget_live hf p.from_ with ⟨h1, hc⟩ | ⟨h1, _⟩
    · omega
    · have hnb := getD_bd hw64 p.from_.toNat
      generalize hnx : s.W.getD p.from_.toNat 0 = nx at h1 hnb ⊢
      rw [sGo]
      by_cases hn : nx = 0
      · subst hn
        rw [if_pos rfl]
        rw [fGo_end h1] at h
        simp only [Option.some.injEq, Prod.mk.injEq] at h
        obtain ⟨rfl, rfl, rfl, rfl⟩ := h
        rw [hw.ahead]
        by_cases hcc : (ks.length : Int) = count
        · simp [hcc]
        · simp [hcc]
      · rw [if_neg hn]
        rcases hget_live (s := gone s (false, p.from_, 0)) hf (IntKind.u64.wrap (nx - 1)) with ⟨h2, hl2⟩ | ⟨h2, hl2⟩
        · rw [if_pos (.inl (by rw [gone_W] at hl2; exact hl2))]
          rw [fGo_e2 h1 hn h2 (by simp)] at h
          simp only [Option.some.injEq, Prod.mk.injEq] at h
          obtain ⟨rfl, rfl, rfl, rfl⟩ := h
          simp
        · have hkm := getD_mem (wrap_pos _) hl2
          rw [gone_W] at hkm h2 hl2
          generalize hkey : s.W.getD (IntKind.u64.wrap (nx - 1)).toNat 0 = key at h2 hkm ⊢
          have hla' : (0 < p.ahead ∧ key ≤ last) ↔ (ks ≠ [] ∧ key ≤ ks.getLastD 0) := by
            rw [hw.ahead]
            by_cases hks : ks = []
            · subst hks; simp
            · have := hla hks
              have h3 := List.length_pos_iff.2 hks
              rw [this]
              constructor
              · rintro ⟨_, h⟩; exact ⟨hks, h⟩
              · rintro ⟨_, h⟩; exact ⟨by omega, h⟩
          by_cases hb : count ≤ p.ahead ∨ 0 < p.ahead ∧ key ≤ last
          · rw [if_pos (by
              rcases hb with hb | hb
              · rw [hw.ahead] at hb; exact .inr (.inr (.inr hb))
              · exact .inr (.inr (.inl (hla'.1 hb))))]
            rw [fGo_bad h1 hn h2 hb] at h
            simp only [Option.some.injEq, Prod.mk.injEq] at h
            obtain ⟨rfl, rfl, rfl, rfl⟩ := h
            simp
          · rw [fGo_on h1 hn h2 hb rfl] at h
            by_cases hd : (s.W.length : Int) ≤ nx
            · rw [if_pos (.inr (.inl hd))]
              cases k with
              | zero => simp [fGo] at h
              | succ k =>
                rcases hget_live (s := gone (gone s (false, p.from_, 0)) (false, IntKind.u64.wrap (nx - 1), 0)) hf nx with ⟨h3, _⟩ | ⟨_, h3⟩
                · rw [fGo_e1 (p := { from_ := nx, next := nx, key := key, ahead := uAdd p.ahead 1 }) h3 (by simp)] at h
                  simp only [Option.some.injEq, Prod.mk.injEq] at h
                  obtain ⟨rfl, rfl, rfl, rfl⟩ := h
                  simp
                · rw [gone_W, gone_W] at h3; omega
            · rw [if_neg (by
                rintro (h | h | h | h)
                · omega
                · omega
                · exact hb (.inr (hla'.2 h))
                · exact hb (.inl (by rw [hw.ahead]; exact h)))]
              have := ih key { from_ := nx, next := nx, key := key, ahead := uAdd p.ahead 1 } p' (ks ++ [key]) ks' e' (gone (gone s (false, p.from_, 0)) (false, IntKind.u64.wrap (nx - 1), 0)) s' hf hw64 (hw.on hW hkm hb) (fun _ => (getLastD_concat_ ks key).symm) hW (by simpa using hnb.1) (by show nx < (s.W.length : Int); omega) h
              exact this
theorem hfind_stands {s s' : St} {l e' : Int} {p' : Pl} {ks' : List Int} (hf : s.fail < 0) (h64 : ∀ x ∈ s.W, 0 ≤ x ∧ x ≤ 18446744073709551615) (hW : s.W.length ≤ 60000) (hl : 0 ≤ l) (h : hfind (fun _ => true) (s.W.length + 1) s 0 l = some (p', ks', e', s')) :
    ((stands s.W l).2 = true → e' = 0 ∧ p'.next = 0 ∧ ks' = (stands s.W l).1) ∧ ((stands s.W l).2 = false → e' = 4 ∨ e' = 310) := by
  unfold hfind at h
  unfold stands
  rcases hget_live hf l with ⟨h1, hc⟩ | ⟨h1, hc⟩
  · rw [if_pos (.inl hc)]
    rw [h1] at h
    simp only at h
    rw [fGo_e1 (e1 := 4) (nx := 0) (hget_no (by simp) _) (by simp)] at h
    simp only [Option.some.injEq, Prod.mk.injEq] at h
    obtain ⟨rfl, rfl, rfl, rfl⟩ := h
    simp
  · rw [h1] at h
    simp only at h
    by_cases hd : (s.W.length : Int) ≤ uAdd l 1
    · rw [if_pos (.inr hd)]
      rcases hget_live (s := gone s (false, l, 0)) hf (uAdd l 1) with ⟨h3, _⟩ | ⟨_, h3⟩
      · rw [fGo_e1 (p := { from_ := uAdd l 1, next := 0, key := 0, ahead := 0 }) h3 (by simp)] at h
        simp only [Option.some.injEq, Prod.mk.injEq] at h
        obtain ⟨rfl, rfl, rfl, rfl⟩ := h
        simp
      · rw [gone_W] at h3; omega
    · rw [if_neg (by rintro (h | h) <;> omega)]
      exact fGo_stands _ (s.W.length + 1) 0 { from_ := uAdd l 1, next := 0, key := 0, ahead := 0 } p' [] ks' e' (gone s (false, l, 0)) s' hf h64 (Way.nil _ _) (by simp) hW (uAdd_bd _ _).1 (by show uAdd l 1 < (s.W.length : Int); omega) h
end Go.Proofs.Ytcohopobjppmaaa
