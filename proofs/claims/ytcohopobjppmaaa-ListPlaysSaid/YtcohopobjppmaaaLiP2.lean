/- Remove, Clear, Drop, New on lists that stand in a room. No program in sight. -/
import Derived.Test.YtcohopobjppmaaaLiP1
import Derived.Test.YtcohopobjppmaaaLiM
namespace Go.Proofs.Ytcohopobjppmaaa
open Go.RowKit
set_option linter.unusedVariables false
set_option linter.unusedSimpArgs false

theorem rem_ok {s : St} {n l nd key : Int} {pre post : List (Int × Int)} {os fs : List Int} {p' : Pl} (hI : In s.W n l (pre ++ (nd, key) :: post) os fs) (hf : s.fail < 0) (hfr : p'.from_ = lnk (l + 1) pre) (hnx : p'.next = nd + 1) :
    ∃ s2 fs', lRem p' 0 s 0 l = (true, 0, s2) ∧ Made s s2 n l (pre ++ post) os fs' := by
  have hIlen := hI.len
  obtain ⟨hR, hL⟩ := hI
  have hla := hR.len
  have hn2 := hR.n2
  have hle := hR.le
  have hbd : ∀ y ∈ l :: ((pre ++ (nd, key) :: post).map (·.1) ++ os), 18 ≤ y ∧ y + 1 < n ∧ y % 2 = 0 := fun y hy => by
    have := hR.mem y (List.mem_append_left _ hy)
    omega
  have hbf : ∀ y ∈ fs, 18 ≤ y ∧ y % 2 = 0 := fun y hy => by
    have := hR.mem y (List.mem_append_right _ hy)
    omega
  have hmapeq : (pre ++ (nd, key) :: post).map (·.1) = pre.map (·.1) ++ nd :: post.map (·.1) := by simp
  rw [hmapeq] at hbd
  have hnd0 := hR.nodup
  rw [hmapeq] at hnd0
  obtain ⟨z, hz, ez⟩ := lnk_mem pre l
  have hpm : (l :: (pre.map (·.1) ++ nd :: post.map (·.1) ++ os)).Perm (nd :: l :: (pre.map (·.1) ++ post.map (·.1) ++ os)) := by
    refine (List.Perm.cons l ?_).trans (List.Perm.swap nd l _)
    rw [List.append_assoc, List.append_assoc, List.cons_append]
    exact List.perm_middle
  have nd' := ((hpm.append_right fs).nodup_iff).1 hnd0
  rw [List.nodup_append] at nd'
  have n1 := List.nodup_cons.1 nd'.1
  have n2 := List.nodup_cons.1 n1.2
  have bnd := hbd nd (hpm.mem_iff.2 (by simp))
  have bl := hbd l (by simp)
  have hzm : z ∈ l :: (pre.map (·.1) ++ post.map (·.1) ++ os) := by
    rcases List.mem_cons.1 hz with rfl | hz
    · simp
    · simp only [List.mem_cons, List.mem_append]; exact .inr (.inl (.inl hz))
  have bz := hbd z (hpm.mem_iff.2 (List.mem_cons_of_mem _ hzm))
  have hnz : nd ≠ z := by rintro rfl; exact n1.1 hzm
  have hnl : nd ≠ l := by rintro rfl; exact n1.1 (by simp)
  have efr : p'.from_ = z + 1 := hfr.trans ez
  have hrun0 := (run_append ((l, ((pre ++ (nd, key) :: post).length : Int)) :: pre) ((nd, key) :: post) 0).1 hL.run
  have hcl : ca s.W l = ((pre ++ (nd, key) :: post).length : Int) := hL.run.1
  have hlk : ca s.W (nd + 1) = hdt post 0 := hrun0.2.2.1
  have hcw : IntKind.u64.wrap (((pre ++ (nd, key) :: post).length : Int) - 1) = ((pre ++ post).length : Int) := by
    rw [uS (by simp; omega) (by omega)]; simp; omega
  unfold lRem
  rw [hnx, hg hf (show nd + 1 < (s.W.length : Int) by omega)]; simp only
  rw [hlk, hp (s := gt1 s) _ hf (by show p'.from_ < (s.W.length : Int); rw [efr]; omega)]; simp only
  rw [hg (s := pt1 (gt1 s) p'.from_ (hdt post 0)) hf (by show l < ((s.W.set _ _).length : Int); rw [List.length_set]; omega)]; simp only
  have hc1 : ca (pt1 (gt1 s) p'.from_ (hdt post 0)).W l = ((pre ++ (nd, key) :: post).length : Int) := by
    show ca (s.W.set _ _) l = _
    rw [efr, ca_ne (by omega) (by omega) (by omega)]; exact hcl
  rw [hc1, hcw, hp (s := gt1 (pt1 (gt1 s) p'.from_ (hdt post 0))) _ hf (by show l < ((s.W.set _ _).length : Int); rw [List.length_set]; omega)]; simp only
  rw [uS (by omega) (by omega), show nd + 1 - 1 = nd by omega, hgive_ok]
  have eW : (pt1 (gt1 (pt1 (gt1 s) p'.from_ (hdt post 0))) l ((pre ++ post).length : Int)).W = (s.W.set p'.from_.toNat (hdt post 0)).set l.toNat ((pre ++ post).length : Int) := rfl
  generalize hW4 : pt1 (gt1 (pt1 (gt1 s) p'.from_ (hdt post 0))) l ((pre ++ post).length : Int) = s4 at *
  have g4f : s4.fail = s.fail := by rw [← hW4]; rfl
  have g4e : s4.err = s.err := by rw [← hW4]; rfl
  clear hW4
  rw [efr] at eW
  have oth : ∀ b, 0 ≤ b → b ≠ l → b ≠ z + 1 → ca s4.W b = ca s.W b := fun b h0 h1 h2 => by
    rw [eW, ca_ne (by omega) h0 h1, ca_ne (by omega) h0 h2]
  have gl : ca s4.W l = ((pre ++ post).length : Int) := by rw [eW]; exact ca_eq (by omega) (by rw [List.length_set]; omega)
  have gz : ca s4.W (z + 1) = hdt post 0 := by rw [eW, ca_ne (by omega) (by omega) (by omega)]; exact ca_eq (by omega) (by omega)
  have hR4 : Room s4.W n (nd :: l :: ((pre ++ post).map (·.1) ++ os)) fs := by
    rw [List.map_append]
    refine Room.perm ?_ hpm
    have h1 := hR.turn (W' := s4.W) (by rw [eW]; simp) fun a h0 ha => by
      rcases ha with ha | ha
      · exact oth a h0 (by omega) (by omega)
      · have hb := hbf a ha
        have d1 : a ≠ l := by rintro rfl; exact nd'.2.2 a (by simp) a ha rfl
        exact oth a h0 d1 (by omega)
    rw [hmapeq] at h1
    exact h1
  obtain ⟨s5, h5, G⟩ := give_ok hR4 (by rw [g4f]; exact hf)
  rw [h5]
  refine ⟨s5, nd :: fs, rfl, ?_⟩
  have hmo : ∀ y, y ∈ (pre ++ post).map (·.1) ++ os → y ≠ l ∧ y ≠ nd ∧ y % 2 = 0 ∧ 18 ≤ y := fun y hy => by
    rw [List.map_append] at hy
    have hb := hbd y (hpm.mem_iff.2 (List.mem_cons_of_mem _ (List.mem_cons_of_mem _ hy)))
    refine ⟨by rintro rfl; exact n2.1 hy, by rintro rfl; exact n1.1 (List.mem_cons_of_mem _ hy), hb.2.2, hb.1⟩
  have hpn : (l :: pre.map (·.1)).Nodup := by
    have := n1.2
    rw [List.append_assoc] at this
    exact (List.nodup_append.1 (show ((l :: pre.map (·.1)) ++ (post.map (·.1) ++ os)).Nodup from this)).1
  have hk5 : ∀ b, 0 ≤ b → 4 ≤ b → b ≠ nd → b ≠ l → b ≠ z + 1 → ca s5.W b = ca s.W b := fun b h0 h4 hn h1 h2 => (G.keep b h4 hn).trans (oth b h0 h1 h2)
  have hrun : Run s5.W ((l, ((pre ++ post).length : Int)) :: (pre ++ post)) 0 := by
    refine (run_append ((l, _) :: pre) post 0).2 ⟨?_, ?_⟩
    · refine run_relink (W := s.W) pre l ((pre ++ (nd, key) :: post).length : Int) _ (fun x hx => ?_) (fun y hy hne => ?_) hpn ((G.keep l (by omega) (fun h => hnl h.symm)).trans gl) (by rw [ez]; exact (G.keep (z + 1) (by omega) (by omega)).trans gz) hrun0.1
      · obtain ⟨a, b, c, d⟩ := hmo x.1 (by simp only [List.map_append, List.mem_append, List.mem_map]; exact .inl (.inl ⟨x, hx, rfl⟩))
        exact hk5 x.1 (by omega) (by omega) b a (by omega)
      · rw [ez] at hne
        have : y ≠ nd ∧ y % 2 = 0 ∧ 18 ≤ y := by
          rcases List.mem_cons.1 hy with rfl | h
          · exact ⟨fun h => hnl h.symm, bl.2.2, bl.1⟩
          · exact (hmo y (by rw [List.map_append]; simp only [List.mem_append]; exact .inl (.inl h))).2
        exact hk5 (y + 1) (by omega) (by omega) (by omega) (by omega) hne
    · refine run_keep (fun x hx => ?_) hrun0.2.2.2
      obtain ⟨a, b, c, d⟩ := hmo x.1 (by simp only [List.map_append, List.mem_append, List.mem_map]; exact .inl (.inr ⟨x, hx, rfl⟩))
      have hxz : x.1 ≠ z := by
        rintro rfl
        rcases List.mem_cons.1 hz with h | h
        · exact a h
        · have n3 := n2.2
          rw [List.nodup_append, List.nodup_append] at n3
          exact n3.1.2.2 _ h _ (List.mem_map.2 ⟨x, hx, rfl⟩) rfl
      exact ⟨hk5 x.1 (by omega) (by omega) b a (by omega), hk5 (x.1 + 1) (by omega) (by omega) (by omega) (by omega) (by omega)⟩
  have hris : ((pre ++ post).map (·.2)).Pairwise (· < ·) := by
    have h := hL.rise
    rw [List.map_append, List.map_cons, List.pairwise_append] at h
    rw [List.map_append, List.pairwise_append]
    exact ⟨h.1, (List.pairwise_cons.1 h.2.1).2, fun a ha b hb => h.2.2 a ha b (List.mem_cons_of_mem _ hb)⟩
  refine ⟨⟨G.room, Lst.of G.room hrun hris⟩, fun o ho => ?_, G.fail.trans g4f, G.err.trans g4e⟩
  obtain ⟨a, b, c, d⟩ := hmo o (List.mem_append_right _ ho)
  have hoz : o ≠ z := by
    rintro rfl
    rcases List.mem_cons.1 hz with h | h
    · exact a h
    · have n3 := n2.2
      rw [List.nodup_append] at n3
      exact n3.2.2 o (List.mem_append_left _ h) o ho rfl
  exact ⟨hk5 o (by omega) (by omega) b a (by omega), hk5 (o + 1) (by omega) (by omega) (by omega) (by omega) (by omega)⟩

theorem nodesGo_run : ∀ (ns : List (Int × Int)) (out : List Int) (s : St), s.fail < 0 → (∀ x ∈ ns, 0 ≤ x.1 ∧ x.1 + 1 < s.W.length) → s.W.length ≤ 200 → Run s.W ns 0 → ∃ s', nodesGo ns.length (hdt ns 0) out 0 s = (out ++ ns.map (·.1), 0, s') ∧ Lkd s s'
  | [], out, s, _, _, _, _ => ⟨s, by simp [nodesGo], Lkd.refl s⟩
  | (x, k) :: ns, out, s, hf, hb, hW, ⟨h1, h2, h3⟩ => by
    have hx := hb (x, k) (by simp)
    simp only at hx
    have hgx := hg hf (show x + 1 < s.W.length by omega)
    obtain ⟨s', h4, h5⟩ := nodesGo_run ns (out ++ [x]) (gt1 s) hf (fun y hy => hb y (List.mem_cons_of_mem _ hy)) hW h3
    refine ⟨s', ?_, (Lkd.get s).trans h5⟩
    show nodesGo (ns.length + 1) (x + 1) out 0 s = _
    rw [nodesGo_on hgx, h2, uS (by omega) (by omega), show x + 1 - 1 = x by omega, h4]
    simp
theorem giveAll_ok {n : Int} {bs : List Int} : ∀ (ps : List Int) (s : St) (fs : List Int), Room s.W n (ps ++ bs) fs → s.fail < 0 → ∃ s' fs', giveAll 0 ps 0 s = (0, s') ∧ Room s'.W n bs fs' ∧ (∀ a, 4 ≤ a → a ∉ ps → ca s'.W a = ca s.W a) ∧ s'.fail = s.fail ∧ s'.err = s.err
  | [], s, fs, h, _ => ⟨s, fs, rfl, h, fun _ _ _ => rfl, rfl, rfl⟩
  | p :: ps, s, fs, h, hf => by
    obtain ⟨s1, h1, G⟩ := give_ok (p := p) (bs := ps ++ bs) h hf
    obtain ⟨s2, fs2, h2, h3, h4, h5, h6⟩ := giveAll_ok ps s1 (p :: fs) G.room (by rw [G.fail]; exact hf)
    refine ⟨s2, fs2, ?_, h3, fun a ha hn => ?_, h5.trans G.fail, h6.trans G.err⟩
    · rw [giveAll, hgive_ok, h1]; exact h2
    · have hn' : a ≠ p ∧ a ∉ ps := by simpa using hn
      exact (h4 a ha hn'.2).trans (G.keep a ha hn'.1)
theorem clr_ok {s : St} {n l : Int} {ns : List (Int × Int)} {os fs : List Int} (hI : In s.W n l ns os fs) (hf : s.fail < 0) : ∃ s2 fs', lClr ns.length 0 s 0 l = ((ns.length : Int), 0, s2) ∧ Made s s2 n l [] os fs' := by
  have hIlen := hI.len
  obtain ⟨hR, hL⟩ := hI
  have hla := hR.len
  have hn2 := hR.n2
  have hle := hR.le
  have hbd : ∀ y ∈ l :: (ns.map (·.1) ++ os), 18 ≤ y ∧ y + 1 < n ∧ y % 2 = 0 := fun y hy => by
    have := hR.mem y (List.mem_append_left _ hy)
    omega
  have hbf : ∀ y ∈ fs, 18 ≤ y ∧ y % 2 = 0 := fun y hy => by
    have := hR.mem y (List.mem_append_right _ hy)
    omega
  have bl := hbd l (by simp)
  have nd := hR.nodup
  rw [List.nodup_append] at nd
  have n1 := List.nodup_cons.1 nd.1
  obtain ⟨s1, h1, k1⟩ := nodesGo_run ns [] (gt1 s) hf (fun x hx => hL.bd x (List.mem_cons_of_mem _ hx)) (by show s.W.length ≤ 200; omega) hL.run.2.2
  have hf1 : s1.fail < 0 := by rw [k1.fail]; exact hf
  have hW1 : s1.W = s.W := k1.W
  have hnr : nodesR ns.length 0 s l = (ns.map (·.1), 0, s1) := by
    unfold nodesR
    rw [uA (by omega) (by omega), hg hf (show l + 1 < s.W.length by omega)]
    simp only
    rw [show ca s.W (l + 1) = hdt ns 0 from hL.run.2.1, h1]
    simp
  have e1 : uAdd l 1 = l + 1 := uA (by omega) (by omega)
  have hp1 := hp (s := s1) (a := l) 0 hf1 (by rw [hW1]; omega)
  have hp2 := hp (s := pt1 s1 l 0) (a := l + 1) 0 hf1 (by show l + 1 < ((s1.W.set _ _).length : Int); rw [List.length_set, hW1]; omega)
  have oth : ∀ b, 0 ≤ b → b ≠ l → b ≠ l + 1 → ca (pt1 (pt1 s1 l 0) (l + 1) 0).W b = ca s.W b := fun b h0 h2 h3 => by
    show ca ((s1.W.set _ _).set _ _) b = _
    rw [ca_ne (by omega) h0 h3, ca_ne (by omega) h0 h2, hW1]
  have gl : ca (pt1 (pt1 s1 l 0) (l + 1) 0).W l = 0 := by
    show ca ((s1.W.set _ _).set _ _) l = _
    rw [ca_ne (by omega) (by omega) (by omega)]; exact ca_eq (by omega) (by rw [hW1]; omega)
  have gl1 : ca (pt1 (pt1 s1 l 0) (l + 1) 0).W (l + 1) = 0 := by
    show ca ((s1.W.set _ _).set _ _) (l + 1) = _
    exact ca_eq (by omega) (by rw [List.length_set, hW1]; omega)
  have hR2 : Room (pt1 (pt1 s1 l 0) (l + 1) 0).W n (ns.map (·.1) ++ (l :: os)) fs := by
    refine Room.perm (bs := l :: (ns.map (·.1) ++ os)) ?_ List.perm_middle.symm
    exact hR.turn (by show ((s1.W.set _ _).set _ _).length = _; rw [List.length_set, List.length_set, hW1]) fun a h0 ha => by
      rcases ha with ha | ha
      · exact oth a h0 (by omega) (by omega)
      · have hb := hbf a ha
        exact oth a h0 (by rintro rfl; exact nd.2.2 a (by simp) a ha rfl) (by omega)
  obtain ⟨s5, fs5, h5, r5, k5, f5, e5⟩ := giveAll_ok (ns.map (·.1)) (pt1 (pt1 s1 l 0) (l + 1) 0) fs hR2 hf1
  have hnm : ∀ y ∈ ns.map (·.1), 18 ≤ y ∧ y % 2 = 0 := fun y hy => by
    have := hbd y (List.mem_cons_of_mem _ (List.mem_append_left _ hy)); omega
  have hln : l ∉ ns.map (·.1) := fun hc => n1.1 (List.mem_append_left _ hc)
  refine ⟨s5, fs5, ?_, ⟨r5, ?_⟩, fun o ho => ?_, f5.trans k1.fail, e5.trans k1.err⟩
  · unfold lClr
    rw [hnr]; simp only
    rw [hp1]; simp only
    rw [e1, hp2]; simp only
    rw [h5]
    simp
  · refine Lst.of (os := os) r5 ⟨?_, ?_, trivial⟩ .nil
    · exact (k5 l (by omega) hln).trans gl
    · exact (k5 (l + 1) (by omega) (fun hc => by have := hnm _ hc; omega)).trans gl1
  · have hb := hbd o (by simp [ho])
    have hol : o ≠ l := by rintro rfl; exact n1.1 (List.mem_append_right _ ho)
    have hon : o ∉ ns.map (·.1) := fun hc => (List.nodup_append.1 n1.2).2.2 o hc o ho rfl
    exact ⟨(k5 o (by omega) hon).trans (oth o (by omega) hol (by omega)), (k5 (o + 1) (by omega) (fun hc => by have := hnm _ hc; omega)).trans (oth (o + 1) (by omega) (by omega) (by omega))⟩
theorem new_ok {s : St} {n : Int} {bs fs : List Int} (hR : Room s.W n bs fs) (hf : s.fail < 0) (hsp : spc s.W n fs) : ∃ l s2 fs', lNew s 0 = (l, 0, s2) ∧ 0 ≤ l ∧ Room s2.W n (l :: bs) fs' ∧ Lst s2.W l [] ∧ Stay s.W s2.W bs ∧ s2.fail = s.fail ∧ s2.err = s.err := by
  obtain ⟨l, sa, fs', ht, T⟩ := take_ok hR hf hsp
  have hla := T.room.len
  have hn2 := hR.n2
  have hle := T.room.le
  have hbd : ∀ y ∈ l :: bs, 18 ≤ y ∧ y + 1 < n ∧ y % 2 = 0 := fun y hy => by
    have := T.room.mem y (List.mem_append_left _ hy)
    omega
  have hbf : ∀ y ∈ fs', 18 ≤ y ∧ y % 2 = 0 := fun y hy => by
    have := T.room.mem y (List.mem_append_right _ hy)
    omega
  have bl := hbd l (by simp)
  have hfa : sa.fail < 0 := by rw [T.fail]; exact hf
  have nd := T.room.nodup
  rw [List.nodup_append] at nd
  have hp1 := hp (s := sa) (a := l) 0 hfa (by omega)
  have hp2 := hp (s := pt1 sa l 0) (a := l + 1) 0 hfa (by show l + 1 < ((sa.W.set _ _).length : Int); rw [List.length_set]; omega)
  have oth : ∀ b, 0 ≤ b → b ≠ l → b ≠ l + 1 → ca (pt1 (pt1 sa l 0) (l + 1) 0).W b = ca sa.W b := fun b h0 h2 h3 => by
    show ca ((sa.W.set _ _).set _ _) b = _
    rw [ca_ne (by omega) h0 h3, ca_ne (by omega) h0 h2]
  have hR2 : Room (pt1 (pt1 sa l 0) (l + 1) 0).W n (l :: bs) fs' :=
    T.room.turn (by show ((sa.W.set _ _).set _ _).length = _; rw [List.length_set, List.length_set]) fun a h0 ha => by
      rcases ha with ha | ha
      · exact oth a h0 (by omega) (by omega)
      · have hb := hbf a ha
        exact oth a h0 (by rintro rfl; exact nd.2.2 a (by simp) a ha rfl) (by omega)
  refine ⟨l, _, fs', ?_, by omega, hR2, ?_, fun o ho => ?_, T.fail, T.err⟩
  · unfold lNew
    rw [htake_ok, ht]; simp only
    rw [hp1]; simp only
    rw [uA (by omega) (by omega), hp2]; simp only
    rw [if_neg (by simp)]
  · refine ⟨⟨?_, ?_, trivial⟩, .nil, fun x hx => ?_⟩
    · show ca ((sa.W.set _ _).set _ _) l = _
      rw [ca_ne (by omega) (by omega) (by omega)]; exact ca_eq (by omega) (by omega)
    · show ca ((sa.W.set _ _).set _ _) (l + 1) = _
      exact ca_eq (by omega) (by rw [List.length_set]; omega)
    · obtain rfl : x = (l, 0) := by simpa using hx
      show 0 ≤ l ∧ l + 1 < (((sa.W.set _ _).set _ _).length : Int)
      rw [List.length_set, List.length_set]; omega
  · have hb := hbd o (by simp [ho])
    have hol : o ≠ l := by rintro rfl; exact T.fresh ho
    exact ⟨(oth o (by omega) hol (by omega)).trans (T.keep o (by omega)), (oth (o + 1) (by omega) (by omega) (by omega)).trans (T.keep _ (by omega))⟩
/-- a list given back, and another one laid in its place -/
theorem redo_ok {s : St} {n l : Int} {ns : List (Int × Int)} {os fs : List Int} (hI : In s.W n l ns os fs) (hf : s.fail < 0) :
    ∃ s2 l' s3 fs', lDrp ns.length 0 s 0 l = (0, s2) ∧ lNew s2 0 = (l', 0, s3) ∧ 0 ≤ l' ∧ Made s s3 n l' [] os fs' := by
  obtain ⟨s1, fs1, h1, M⟩ := clr_ok hI hf
  have hR1 : Room s1.W n (l :: os) fs1 := by simpa using M.in_.room
  obtain ⟨s2, h2, G⟩ := give_ok hR1 (by rw [M.fail]; exact hf)
  obtain ⟨l', s3, fs3, h3, h4, h5, h6, h7, h8, h9⟩ := new_ok G.room (by rw [G.fail, M.fail]; exact hf) (.inl (by simp))
  refine ⟨s2, l', s3, fs3, ?_, h3, h4, ⟨by simpa using h5, h6⟩, fun o ho => ?_, (h8.trans G.fail).trans M.fail, (h9.trans G.err).trans M.err⟩
  · unfold lDrp
    rw [h1]
    simp only
    rw [if_neg (by simp), h2]
  · have hb := hR1.mem o (by simp [ho])
    have hbl := hR1.mem l (by simp)
    have hol : o ≠ l := by rintro rfl; exact (List.nodup_cons.1 (List.nodup_append.1 hR1.nodup).1).1 ho
    obtain ⟨a, b⟩ := h7 o ho
    obtain ⟨c, d⟩ := M.stay o ho
    exact ⟨(a.trans (G.keep o (by omega) hol)).trans c, (b.trans (G.keep (o + 1) (by omega) (by omega))).trans d⟩
end Go.Proofs.Ytcohopobjppmaaa
