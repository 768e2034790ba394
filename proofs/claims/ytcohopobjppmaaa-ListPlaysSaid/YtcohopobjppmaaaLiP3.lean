/- Two lists of one room against two plain sets. No program in sight. -/
import Derived.Test.YtcohopobjppmaaaLiP2
import Derived.Test.YtcohopobjppmaaaLiX
namespace Go.Proofs.Ytcohopobjppmaaa
open Go.RowKit
set_option linter.unusedVariables false
set_option linter.unusedSimpArgs false

structure Both (W : List Int) (n l0 l1 : Int) (ns0 ns1 : List (Int × Int)) (fs : List Int) : Prop where
  in_ : In W n l0 ns0 (l1 :: ns1.map (·.1)) fs
  lst : Lst W l1 ns1
theorem Both.swap {W : List Int} {n l0 l1 : Int} {ns0 ns1 : List (Int × Int)} {fs : List Int} (h : Both W n l0 l1 ns0 ns1 fs) : Both W n l1 l0 ns1 ns0 fs :=
  ⟨⟨h.in_.room.perm (show ((l0 :: ns0.map (·.1)) ++ (l1 :: ns1.map (·.1))).Perm ((l1 :: ns1.map (·.1)) ++ (l0 :: ns0.map (·.1))) from List.perm_append_comm), h.lst⟩, h.in_.lst⟩
theorem Made.both {s s' : St} {n l0 l0' l1 : Int} {ns0 ns0' ns1 : List (Int × Int)} {fs fs' : List Int} (h : Both s.W n l0 l1 ns0 ns1 fs) (M : Made s s' n l0' ns0' (l1 :: ns1.map (·.1)) fs') : Both s'.W n l0' l1 ns0' ns1 fs' := by
  refine ⟨M.in_, ?_, h.lst.rise, ?_⟩
  · refine M.stay.run (fun x hx => ?_) h.lst.run
    rcases List.mem_cons.1 hx with rfl | hx
    · simp
    · exact List.mem_cons_of_mem _ (List.mem_map.2 ⟨x, hx, rfl⟩)
  · have e : (s'.W.length : Int) = s.W.length := M.in_.room.len.trans h.in_.room.len.symm
    intro x hx
    have := h.lst.bd x hx
    omega
theorem Both.lkd {s s' : St} {n l0 l1 : Int} {ns0 ns1 : List (Int × Int)} {fs : List Int} (h : Both s.W n l0 l1 ns0 ns1 fs) (k : Lkd s s') : Both s'.W n l0 l1 ns0 ns1 fs := by rw [k.W]; exact h
def kl (ns : List (Int × Int)) : List Int := ns.map (·.2)
theorem Both.used {W : List Int} {n l0 l1 : Int} {ns0 ns1 : List (Int × Int)} {fs : List Int} (h : Both W n l0 l1 ns0 ns1 fs) : (((kl ns0).length + (kl ns1).length : Nat) : Int) < (n - 22) / 2 ↔ spc W n fs :=
  spc_used h.in_.room (by simp [kl]; omega)
theorem Both.len {W : List Int} {n l0 l1 : Int} {ns0 ns1 : List (Int × Int)} {fs : List Int} (h : Both W n l0 l1 ns0 ns1 fs) : ns0.length + ns1.length ≤ 100 ∧ W.length ≤ 200 := by
  have h1 := h.in_.room.le; have h2 := h.in_.room.n2; have h3 := h.in_.room.len
  simp at h1; omega

/-! ## keys and nodes -/
theorem pos_map (ns : List (Int × Int)) (key : Int) : pos (kl ns) key = (ns.takeWhile (fun x => decide (x.2 < key))).length := by
  unfold pos kl
  rw [List.takeWhile_map, List.length_map]
  rfl
theorem split_at (ns : List (Int × Int)) (key : Int) : ∃ pre post, ns = pre ++ post ∧ pos (kl ns) key = pre.length ∧ (∀ x ∈ pre, x.2 < key) ∧ (∀ x r, post = x :: r → ¬ x.2 < key) := by
  refine ⟨ns.takeWhile (fun x => decide (x.2 < key)), ns.dropWhile (fun x => decide (x.2 < key)), (List.takeWhile_append_dropWhile).symm, pos_map ns key, fun x hx => ?_, fun x r h => ?_⟩
  · have := List.all_takeWhile (l := ns) (p := fun x => decide (x.2 < key))
    simpa using List.all_eq_true.1 this x hx
  · have h2 := List.head?_dropWhile_not (fun x : Int × Int => decide (x.2 < key)) ns
    rw [h] at h2
    simpa using h2
def hk : List (Int × Int) → Int → Bool
  | [], _ => false
  | x :: _, key => x.2 == key
def hab : List (Int × Int) → Int × Bool
  | [] => (0, false)
  | x :: _ => (x.2, true)
theorem rHas_split {pre post : List (Int × Int)} {key : Int} (hp : pos (kl (pre ++ post)) key = pre.length) : rHas (kl (pre ++ post)) key = hk post key := by
  unfold rHas
  rw [hp]
  cases post with
  | nil => simp [kl, hk]
  | cons x r => simp [kl, hk, List.getD_eq_getElem?_getD]
theorem rIns_split {pre post : List (Int × Int)} {key : Int} (hp : pos (kl (pre ++ post)) key = pre.length) (hh : rHas (kl (pre ++ post)) key = false) (nn : Int) : rIns (kl (pre ++ post)) key = kl (pre ++ (nn, key) :: post) := by
  unfold rIns
  rw [if_neg (by rw [hh]; simp), hp]
  simp [kl]
theorem rRem_not {l : List Int} {key : Int} (h : key ∉ l) : rRem l key = l := by
  unfold rRem
  refine List.filter_eq_self.2 fun x hx => ?_
  simp only [bne_iff_ne, ne_eq]
  rintro rfl
  exact h hx
theorem rRem_split {pre post : List (Int × Int)} {nd key : Int} (hr : ((pre ++ (nd, key) :: post).map (·.2)).Pairwise (· < ·)) : rRem (kl (pre ++ (nd, key) :: post)) key = kl (pre ++ post) := by
  have hr' : (kl pre ++ key :: kl post).Pairwise (· < ·) := by simpa [kl] using hr
  obtain ⟨h1, h2, h3⟩ := List.pairwise_append.1 hr'
  obtain ⟨h4, h5⟩ := List.pairwise_cons.1 h2
  have e1 : kl (pre ++ (nd, key) :: post) = kl pre ++ key :: kl post := by simp [kl]
  have e2 : kl (pre ++ post) = kl pre ++ kl post := by simp [kl]
  rw [e1, e2]
  have a1 := rRem_not (l := kl pre) (key := key) (fun hc => by have := h3 key hc key (by simp); omega)
  have a2 := rRem_not (l := kl post) (key := key) (fun hc => by have := h4 key hc; omega)
  unfold rRem at *
  rw [List.filter_append, List.filter_cons, a1, a2]
  simp
theorem mem_split {pre post : List (Int × Int)} {key : Int} (hr : ((pre ++ post).map (·.2)).Pairwise (· < ·)) (h1 : ∀ x ∈ pre, x.2 < key) (h2 : ∀ x r, post = x :: r → ¬ x.2 < key) (hn : ∀ x r, post = x :: r → x.2 ≠ key) : key ∉ kl (pre ++ post) ∧ ∀ x ∈ post, key < x.2 := by
  have h3 : ∀ x ∈ post, key < x.2 := by
    cases post with
    | nil => simp
    | cons y r =>
      have a := h2 y r rfl
      have b := hn y r rfl
      rw [List.map_append, List.map_cons] at hr
      have c := (List.pairwise_cons.1 (List.pairwise_append.1 hr).2.1).1
      intro x hx
      rcases List.mem_cons.1 hx with rfl | hx
      · omega
      · have := c x.2 (List.mem_map.2 ⟨x, hx, rfl⟩); omega
  refine ⟨fun hc => ?_, h3⟩
  obtain ⟨x, hx, rfl⟩ := List.mem_map.1 hc
  rcases List.mem_append.1 hx with hx | hx
  · have := h1 x hx; omega
  · have := h3 x hx; omega
theorem rAbove_split {pre post : List (Int × Int)} {key : Int} (h1 : ∀ x ∈ pre, ¬ key < x.2) (h2 : ∀ x r, post = x :: r → key < x.2) : rAbove (kl (pre ++ post)) key = hab post := by
  unfold rAbove kl
  rw [List.map_append, List.find?_append]
  have : (pre.map (·.2)).find? (fun x => decide (key < x)) = none := by
    rw [List.find?_eq_none]
    intro y hy
    obtain ⟨x, hx, rfl⟩ := List.mem_map.1 hy
    simpa using h1 x hx
  rw [this]
  cases post with
  | nil => simp [hab]
  | cons x r =>
    rw [List.map_cons, List.find?_cons_of_pos (by simpa using h2 x r rfl)]
    simp [hab]
theorem split_le (ns : List (Int × Int)) (key : Int) : ∃ pre post, ns = pre ++ post ∧ (∀ x ∈ pre, x.2 ≤ key) ∧ (∀ x r, post = x :: r → ¬ x.2 ≤ key) := by
  refine ⟨ns.takeWhile (fun x => decide (x.2 ≤ key)), ns.dropWhile (fun x => decide (x.2 ≤ key)), (List.takeWhile_append_dropWhile).symm, fun x hx => ?_, fun x r h => ?_⟩
  · have := List.all_takeWhile (l := ns) (p := fun x => decide (x.2 ≤ key))
    simpa using List.all_eq_true.1 this x hx
  · have h2 := List.head?_dropWhile_not (fun x : Int × Int => decide (x.2 ≤ key)) ns
    rw [h] at h2
    simpa using h2

/-! ## what the document's cells tell -/
theorem sGo_run {W : List Int} {count : Int} (hW : W.length ≤ 200) : ∀ (ns : List (Int × Int)) (out : List Int) (k : Nat), Run W ns 0 → (∀ x ∈ ns, 0 ≤ x.1 ∧ x.1 + 1 < W.length) → (out ++ kl ns).Pairwise (· < ·) → count = ((out.length + ns.length : Nat) : Int) → ns.length < k → sGo W count k (hdt ns 0) out = (out ++ kl ns, true)
  | [], out, k, _, _, _, hc, hk => by
    obtain ⟨k, rfl⟩ : ∃ m, k = m + 1 := ⟨k - 1, by simp at hk; omega⟩
    show sGo W count (k + 1) 0 out = _
    rw [sGo, if_pos rfl]
    simp [kl, hc]
  | (x, kx) :: ns, out, k, hr, hb, hp, hc, hk => by
    obtain ⟨k, rfl⟩ : ∃ m, k = m + 1 := ⟨k - 1, by simp at hk; omega⟩
    obtain ⟨r1, r2, r3⟩ := hr
    have hx := hb (x, kx) (by simp)
    simp only at hx
    have hp' : (out ++ kx :: kl ns).Pairwise (· < ·) := by simpa [kl] using hp
    have e1 : W.getD (IntKind.u64.wrap (x + 1 - 1)).toNat 0 = kx := by rw [uS (by omega) (by omega), show x + 1 - 1 = x by omega]; exact r1
    show sGo W count (k + 1) (x + 1) out = _
    rw [sGo, if_neg (by omega), e1, if_neg]
    · rw [show W.getD (x + 1).toNat 0 = hdt ns 0 from r2]
      rw [sGo_run hW ns (out ++ [kx]) k r3 (fun y hy => hb y (List.mem_cons_of_mem _ hy)) (by simpa [kl] using hp) (by rw [hc]; simp; omega) (by simp at hk; omega)]
      simp [kl]
    · rw [uS (by omega) (by omega)]
      rintro (h | h | ⟨h, h'⟩ | h)
      · omega
      · omega
      · rcases List.eq_nil_or_concat out with rfl | ⟨o, b, rfl⟩
        · exact h rfl
        · rw [List.concat_eq_append] at *
          rw [getLastD_concat_] at h'
          have := (List.pairwise_append.1 hp').2.2 b (by simp) kx (by simp)
          omega
      · rw [hc] at h; simp at h; omega
theorem Lst.stands {W : List Int} {l : Int} {ns : List (Int × Int)} (h : Lst W l ns) (hW : W.length ≤ 200) (hn : ns.length ≤ W.length) : Go.Proofs.Ytcohopobjppmaaa.stands W l = (kl ns, true) := by
  have hl := h.bd _ List.mem_cons_self
  simp only at hl
  unfold Go.Proofs.Ytcohopobjppmaaa.stands
  rw [uA (by omega) (by omega), if_neg (by omega)]
  rw [show W.getD l.toNat 0 = (ns.length : Int) from h.run.1, show W.getD (l + 1).toNat 0 = hdt ns 0 from h.run.2.1]
  rw [sGo_run hW ns [] (W.length + 1) h.run.2.2 (fun x hx => h.bd x (List.mem_cons_of_mem _ hx)) (by simpa [kl] using h.rise) (by simp) (by omega)]
  simp
theorem left_run {s : St} {n : Int} {bs fs : List Int} (h : Room s.W n bs fs) (hf : s.fail < 0) : ∃ s', rLeft s 0 = (n - ca s.W 0, 0, s') ∧ Lkd s s' := by
  have h1 := h.len; have h2 := h.n1; have h3 := h.le; have h4 := h.nx
  unfold rLeft
  rw [sg hf (by omega)]; simp only
  rw [if_pos (by simp), show uAdd 0 1 = 1 by decide, sg (s := gt1 s) hf (by show (1 : Int) < s.W.length; omega)]; simp only
  rw [if_pos (by simp), show ca (gt1 s).W 1 = n from h.end_, if_neg (by omega)]
  exact ⟨_, rfl, (Lkd.get s).trans (Lkd.get _)⟩
theorem given_run : ∀ (fs : List Int) (k : Nat) (a : Int) (l : List Int) (s : St), s.fail < 0 → ca s.W a = hdf fs → Frun s.W fs → a < s.W.length → (∀ f ∈ fs, 0 ≤ f ∧ f < s.W.length) → s.W.length ≤ 200 → fs.length ≤ k → ∃ s', givenGo k a l s = (l ++ fs, 0, s') ∧ Lkd s s'
  | [], k, a, l, s, hf, ha, _, hl, _, _, _ => by
    refine ⟨gt1 s, ?_, Lkd.get s⟩
    have h := sg hf hl
    rw [show ca s.W a = 0 from ha] at h
    cases k <;> (rw [givenGo, h]; simp)
  | f :: fs, k, a, l, s, hf, ha, ⟨r1, r2⟩, hl, hb, hW, hk => by
    obtain ⟨k, rfl⟩ : ∃ m, k = m + 1 := ⟨k - 1, by simp at hk; omega⟩
    have hfb := hb f (by simp)
    have h := sg hf hl
    rw [show ca s.W a = f + 1 from ha] at h
    obtain ⟨s', h1, h2⟩ := given_run fs k f (l ++ [f]) (gt1 s) hf r1 r2 hfb.2 (fun x hx => hb x (List.mem_cons_of_mem _ hx)) hW (by simp at hk; omega)
    refine ⟨s', ?_, (Lkd.get s).trans h2⟩
    rw [givenGo, h]; simp only
    rw [if_pos (by simp), if_neg (by simp; omega), uS (by omega) (by omega), show f + 1 - 1 = f by omega, h1]
    simp
theorem given2_run {s : St} {n : Int} {bs fs : List Int} (h : Room s.W n bs fs) (hf : s.fail < 0) : ∃ s', rGiven s 0 2 = (fs, 0, s') ∧ Lkd s s' := by
  have h1 := h.len; have h2 := h.n1; have h3 := h.le; have h4 := h.n2
  unfold rGiven
  rw [if_neg (by omega), show uAdd (uAdd 0 1) 2 = 3 by decide]
  obtain ⟨s', e, k⟩ := given_run fs 65536 3 [] s hf h.head h.free (by omega) (fun f hm => by have := h.mem f (by simp [hm]); omega) (by omega) (by omega)
  exact ⟨s', by simpa using e, k⟩
end Go.Proofs.Ytcohopobjppmaaa
