/- What each call makes of a list that stands in a room. No program in sight. -/
import Derived.Test.YtcohopobjppmaaaLiP0
namespace Go.Proofs.Ytcohopobjppmaaa
open Go.RowKit
set_option linter.unusedVariables false
set_option linter.unusedSimpArgs false

theorem lnk_mem : ∀ (pre : List (Int × Int)) (l : Int), ∃ z ∈ l :: pre.map (·.1), lnk (l + 1) pre = z + 1
  | [], l => ⟨l, by simp, rfl⟩
  | (x, k) :: pre, l => by
    obtain ⟨z, hz, h⟩ := lnk_mem pre x
    exact ⟨z, by simp only [List.map_cons]; exact List.mem_cons_of_mem _ hz, h⟩
theorem run_relink {W W' : List Int} {t t' : Int} : ∀ (pre : List (Int × Int)) (l c c' : Int), (∀ x ∈ pre, ca W' x.1 = ca W x.1) → (∀ y ∈ l :: pre.map (·.1), y + 1 ≠ lnk (l + 1) pre → ca W' (y + 1) = ca W (y + 1)) → (l :: pre.map (·.1)).Nodup →
    ca W' l = c' → ca W' (lnk (l + 1) pre) = t' → Run W ((l, c) :: pre) t → Run W' ((l, c') :: pre) t'
  | [], l, c, c', _, _, _, h4, h5, _ => ⟨h4, h5, trivial⟩
  | (x, k) :: pre, l, c, c', hx, hk, hn, h4, h5, ⟨r1, r2, r3⟩ => by
    obtain ⟨z, hz, e⟩ := lnk_mem pre x
    simp only [List.map_cons] at hn hk
    obtain ⟨n1, n2⟩ := List.nodup_cons.1 hn
    refine ⟨h4, ?_, run_relink pre x k k (fun y hy => hx y (List.mem_cons_of_mem _ hy)) (fun y hy => hk y (List.mem_cons_of_mem _ hy)) n2 ((hx (x, k) (by simp)).trans r3.1) h5 r3⟩
    have hne : l + 1 ≠ lnk (x + 1) pre := fun hc => by
      rw [e] at hc
      obtain rfl : l = z := by omega
      exact n1 hz
    exact (hk l (by simp) hne).trans r2
theorem Lst.of {W : List Int} {n l : Int} {ns : List (Int × Int)} {os fs : List Int} (hR : Room W n (l :: (ns.map (·.1) ++ os)) fs) (hr : Run W ((l, (ns.length : Int)) :: ns) 0) (hs : (ns.map (·.2)).Pairwise (· < ·)) : Lst W l ns := by
  refine ⟨hr, hs, fun x hx => ?_⟩
  have hm : x.1 ∈ l :: (ns.map (·.1) ++ os) ++ fs := by
    rcases List.mem_cons.1 hx with rfl | hx
    · simp
    · exact List.mem_append_left _ (List.mem_cons_of_mem _ (List.mem_append_left _ (List.mem_map.2 ⟨x, hx, rfl⟩)))
  have := hR.mem _ hm
  have := hR.le
  have := hR.len
  omega
/-- the cells of blocks stay -/
def Stay (W W' : List Int) (os : List Int) : Prop := ∀ o ∈ os, ca W' o = ca W o ∧ ca W' (o + 1) = ca W (o + 1)
theorem Stay.run {W W' : List Int} {os : List Int} {A : List (Int × Int)} {t : Int} (h : Stay W W' os) (hA : ∀ x ∈ A, x.1 ∈ os) (hr : Run W A t) : Run W' A t := run_keep (fun x hx => h _ (hA x hx)) hr
/-- a list, beside what else is out -/
structure In (W : List Int) (n l : Int) (ns : List (Int × Int)) (os fs : List Int) : Prop where
  room : Room W n (l :: (ns.map (·.1) ++ os)) fs
  lst : Lst W l ns
theorem In.len {W : List Int} {n l : Int} {ns : List (Int × Int)} {os fs : List Int} (h : In W n l ns os fs) : (ns.length : Int) ≤ 100 := by
  have h1 := h.room.le; have h2 := h.room.n2
  simp at h1; omega
structure Made (s s' : St) (n l : Int) (ns : List (Int × Int)) (os fs : List Int) : Prop where
  in_ : In s'.W n l ns os fs
  stay : Stay s.W s'.W os
  fail : s'.fail = s.fail
  err : s'.err = s.err
theorem Made.of {s s1 s' : St} {n l : Int} {ns : List (Int × Int)} {os fs : List Int} (k : Lkd s s1) (h : Made s1 s' n l ns os fs) : Made s s' n l ns os fs :=
  ⟨h.in_, by have := h.stay; rw [k.W] at this; exact this, h.fail.trans k.fail, h.err.trans k.err⟩

theorem ins_ok {s : St} {n l key : Int} {pre post : List (Int × Int)} {os fs : List Int} {p' : Pl} (hI : In s.W n l (pre ++ post) os fs) (hf : s.fail < 0) (hsp : spc s.W n fs) (hlt : ∀ x ∈ pre, x.2 < key) (hgt : ∀ x ∈ post, key < x.2) (hfr : p'.from_ = lnk (l + 1) pre) (hnx : p'.next = hdt post 0) :
    ∃ nn s2 fs', lIns p' 0 s 0 l key = (true, 0, s2) ∧ Made s s2 n l (pre ++ (nn, key) :: post) os fs' := by
  obtain ⟨hR, hL⟩ := hI
  obtain ⟨nn, sa, fs', ht, T⟩ := take_ok hR hf hsp
  have hla := T.room.len
  have hn2 := hR.n2
  have hle := T.room.le
  have hbd : ∀ y ∈ nn :: l :: ((pre ++ post).map (·.1) ++ os), 18 ≤ y ∧ y + 1 < n ∧ y % 2 = 0 := fun y hy => by
    have := T.room.mem y (List.mem_append_left _ hy)
    omega
  have hbf : ∀ y ∈ fs', 18 ≤ y ∧ y % 2 = 0 := fun y hy => by
    have := T.room.mem y (List.mem_append_right _ hy)
    omega
  obtain ⟨z, hz, ez⟩ := lnk_mem pre l
  have hzm : z ∈ l :: ((pre ++ post).map (·.1) ++ os) := by
    rcases List.mem_cons.1 hz with rfl | hz
    · simp
    · rw [List.map_append]; simp only [List.mem_cons, List.mem_append]; exact .inr (.inl (.inl hz))
  have bnn := hbd nn (by simp)
  have bl := hbd l (by simp)
  have bz := hbd z (List.mem_cons_of_mem _ hzm)
  have hnz : nn ≠ z := by rintro rfl; exact T.fresh hzm
  have hnl : nn ≠ l := by rintro rfl; exact T.fresh (by simp)
  have hcl : ca sa.W l = ((pre ++ post).length : Int) := (T.keep l (by omega)).trans hL.run.1
  have hcn : ((pre ++ post).length : Int) ≤ 100 := (In.mk hR hL).len
  have hfa : sa.fail < 0 := by rw [T.fail]; exact hf
  have efr : p'.from_ = z + 1 := hfr.trans ez
  unfold lIns
  rw [htake_ok, ht]; simp only
  rw [hg (s := sa) hfa (by omega)]; simp only
  rw [hp (s := gt1 sa) key hfa (by show nn < (sa.W.length : Int); omega)]; simp only
  rw [uA (show 0 ≤ nn by omega) (by omega), hp (s := pt1 (gt1 sa) nn key) _ hfa (by show nn + 1 < ((sa.W.set _ _).length : Int); rw [List.length_set]; omega)]; simp only
  rw [hp (s := pt1 (pt1 (gt1 sa) nn key) (nn + 1) p'.next) _ hfa (by show p'.from_ < (((sa.W.set _ _).set _ _).length : Int); rw [List.length_set, List.length_set, efr]; omega)]; simp only
  rw [hcl, uA (by omega) (by omega), hp (s := pt1 (pt1 (pt1 (gt1 sa) nn key) (nn + 1) p'.next) p'.from_ (nn + 1)) _ hfa (by show l < ((((sa.W.set _ _).set _ _).set _ _).length : Int); rw [List.length_set, List.length_set, List.length_set]; omega)]
  refine ⟨nn, _, fs', rfl, ?_⟩
  have eW : (pt1 (pt1 (pt1 (pt1 (gt1 sa) nn key) (nn + 1) p'.next) p'.from_ (nn + 1)) l (((pre ++ post).length : Int) + 1)).W = (((sa.W.set nn.toNat key).set (nn + 1).toNat p'.next).set p'.from_.toNat (nn + 1)).set l.toNat (((pre ++ post).length : Int) + 1) := rfl
  generalize hW7 : pt1 (pt1 (pt1 (pt1 (gt1 sa) nn key) (nn + 1) p'.next) p'.from_ (nn + 1)) l (((pre ++ post).length : Int) + 1) = s7 at *
  have g7f : s7.fail = s.fail := by rw [← hW7]; exact T.fail
  have g7e : s7.err = s.err := by rw [← hW7]; exact T.err
  clear hW7
  rw [efr] at eW
  have oth : ∀ b, 0 ≤ b → b ≠ l → b ≠ z + 1 → b ≠ nn → b ≠ nn + 1 → ca s7.W b = ca sa.W b := fun b h0 h1 h2 h3 h4 => by
    rw [eW, ca_ne (by omega) h0 h1, ca_ne (by omega) h0 h2, ca_ne (by omega) h0 h4, ca_ne (by omega) h0 h3]
  have gl : ca s7.W l = ((pre ++ post).length : Int) + 1 := by rw [eW]; exact ca_eq (by omega) (by rw [List.length_set, List.length_set, List.length_set]; omega)
  have gz : ca s7.W (z + 1) = nn + 1 := by rw [eW, ca_ne (by omega) (by omega) (by omega)]; exact ca_eq (by omega) (by rw [List.length_set, List.length_set]; omega)
  have gn1 : ca s7.W (nn + 1) = p'.next := by rw [eW, ca_ne (by omega) (by omega) (by omega), ca_ne (by omega) (by omega) (by omega)]; exact ca_eq (by omega) (by rw [List.length_set]; omega)
  have gn : ca s7.W nn = key := by rw [eW, ca_ne (by omega) (by omega) hnl, ca_ne (by omega) (by omega) (by omega), ca_ne (by omega) (by omega) (by omega)]; exact ca_eq (by omega) (by omega)
  have nd := T.room.nodup
  rw [List.nodup_append] at nd
  have hRoom : Room s7.W n (l :: ((pre ++ (nn, key) :: post).map (·.1) ++ os)) fs' := by
    have h1 : Room s7.W n (nn :: l :: ((pre ++ post).map (·.1) ++ os)) fs' := T.room.turn (by rw [eW]; simp) fun a h0 ha => by
      rcases ha with ha | ha
      · exact oth a h0 (by omega) (by omega) (by omega) (by omega)
      · have hb := hbf a ha
        have d1 : a ≠ l := by rintro rfl; exact nd.2.2 a (by simp) a ha rfl
        have d2 : a ≠ nn := by rintro rfl; exact nd.2.2 a (by simp) a ha rfl
        exact oth a h0 d1 (by omega) d2 (by omega)
    refine h1.perm ?_
    refine (List.Perm.swap l nn _).trans (List.Perm.cons l ?_)
    simp only [List.map_append, List.map_cons, List.append_assoc, List.cons_append]
    exact List.perm_middle.symm
  have hmo : ∀ y, y ∈ (pre ++ post).map (·.1) ++ os → y ≠ l ∧ y ≠ nn ∧ y % 2 = 0 ∧ 18 ≤ y := fun y hy => by
    have hb := hbd y (List.mem_cons_of_mem _ (List.mem_cons_of_mem _ hy))
    have n1 := (List.nodup_cons.1 nd.1)
    have n2 := (List.nodup_cons.1 n1.2)
    refine ⟨by rintro rfl; exact n2.1 hy, by rintro rfl; exact n1.1 (List.mem_cons_of_mem _ hy), hb.2.2, hb.1⟩
  have hpn : (l :: pre.map (·.1)).Nodup := by
    have n1 := (List.nodup_cons.1 nd.1).2
    rw [List.map_append, List.append_assoc] at n1
    exact (List.nodup_append.1 (show ((l :: pre.map (·.1)) ++ (post.map (·.1) ++ os)).Nodup from n1)).1
  have hrun0 := (run_append ((l, ((pre ++ post).length : Int)) :: pre) post 0).1 hL.run
  have hrun : Run s7.W ((l, ((pre ++ (nn, key) :: post).length : Int)) :: (pre ++ (nn, key) :: post)) 0 := by
    refine (run_append ((l, _) :: pre) ((nn, key) :: post) 0).2 ⟨?_, gn, gn1.trans hnx, ?_⟩
    · refine run_relink (W := s.W) pre l ((pre ++ post).length : Int) _ (fun x hx => ?_) (fun y hy hne => ?_) hpn (by rw [gl]; simp; omega) (by rw [ez, gz]; rfl) hrun0.1
      · obtain ⟨a, b, c, d⟩ := hmo x.1 (by simp only [List.map_append, List.mem_append, List.mem_map]; exact .inl (.inl ⟨x, hx, rfl⟩))
        rw [oth x.1 (by omega) a (by omega) b (by omega)]
        exact T.keep _ (by omega)
      · rw [ez] at hne
        have hy' : y = l ∨ y ∈ (pre ++ post).map (·.1) ++ os := by
          rcases List.mem_cons.1 hy with h | h
          · exact .inl h
          · rw [List.map_append]; exact .inr (by simp only [List.mem_append]; exact .inl (.inl h))
        have : y ≠ nn ∧ y % 2 = 0 ∧ 18 ≤ y := by
          rcases hy' with rfl | h
          · exact ⟨fun h => hnl h.symm, bl.2.2, bl.1⟩
          · exact (hmo y h).2
        rw [oth (y + 1) (by omega) (by omega) hne (by omega) (by omega)]
        exact T.keep _ (by omega)
    · refine run_keep (fun x hx => ?_) hrun0.2
      obtain ⟨a, b, c, d⟩ := hmo x.1 (by simp only [List.map_append, List.mem_append, List.mem_map]; exact .inl (.inr ⟨x, hx, rfl⟩))
      have hxz : x.1 ≠ z := by
        rintro rfl
        rcases List.mem_cons.1 hz with h | h
        · exact a h
        · have n1 := (List.nodup_cons.1 (List.nodup_cons.1 nd.1).2).2
          rw [List.nodup_append, List.map_append, List.nodup_append] at n1
          exact n1.1.2.2 _ h _ (List.mem_map.2 ⟨x, hx, rfl⟩) rfl
      refine ⟨?_, ?_⟩
      · rw [oth x.1 (by omega) a (by omega) b (by omega)]; exact T.keep _ (by omega)
      · rw [oth (x.1 + 1) (by omega) (by omega) (by omega) (by omega) (by omega)]; exact T.keep _ (by omega)
  have hris : ((pre ++ (nn, key) :: post).map (·.2)).Pairwise (· < ·) := by
    have h := hL.rise
    rw [List.map_append, List.pairwise_append] at h
    rw [List.map_append, List.map_cons, List.pairwise_append]
    refine ⟨h.1, List.pairwise_cons.2 ⟨fun y hy => ?_, h.2.1⟩, fun a ha b hb => ?_⟩
    · obtain ⟨x, hx, rfl⟩ := List.mem_map.1 hy
      exact hgt x hx
    · rcases List.mem_cons.1 hb with rfl | hb
      · obtain ⟨x, hx, rfl⟩ := List.mem_map.1 ha
        exact hlt x hx
      · exact h.2.2 a ha b hb
  refine ⟨⟨hRoom, Lst.of hRoom hrun hris⟩, fun o ho => ?_, g7f, g7e⟩
  obtain ⟨a, b, c, d⟩ := hmo o (by simp [ho])
  have hoz : o ≠ z := by
    rintro rfl
    rcases List.mem_cons.1 hz with h | h
    · exact a h
    · have n1 := (List.nodup_cons.1 (List.nodup_cons.1 nd.1).2).2
      rw [List.nodup_append] at n1
      exact n1.2.2 o (by rw [List.map_append]; exact List.mem_append_left _ h) o ho rfl
  refine ⟨?_, ?_⟩
  · rw [oth o (by omega) a (by omega) b (by omega)]; exact T.keep _ (by omega)
  · rw [oth (o + 1) (by omega) (by omega) (by omega) (by omega) (by omega)]; exact T.keep _ (by omega)
end Go.Proofs.Ytcohopobjppmaaa
