/- What opaque.see gathers, in memory: rows that grow. -/
import Derived.Test.YtloiadhdkgkjkaaOpB
namespace Go.Proofs.Ytloiadhdkgkjkaa
open Go.RowKit
set_option maxHeartbeats 4000000
set_option linter.unusedVariables false
set_option linter.unusedSimpArgs false
section
variable {B : Nat} {w w' : World} {vb nb mb : Nat} {v : Vw} {size : Nat} {fv cv : Nat → Value} {sv : Value}
theorem own_nil0 {k : Nat} : ¬ own (.slice none 0 0) k := by simp [own, Value.ownBlock]
theorem withS_upd {l : List Sg} {fv : Nat → Value} {i : Nat} (hi : i < 8) (u : Value) : withS l (upd fv i u) = withS l fv := by
  unfold withS
  congr 1
  funext j x
  rw [upd_ne _ _ (by omega)]
theorem withS_set {l : List Sg} {fv : Nat → Value} {q : Nat} (hq : q < l.length) (x : Sg) (u : Value) : withS (l.set q x) (upd fv (8 + q) u) = (withS l fv).set q (x, u) := by
  apply List.ext_getElem?
  intro j
  unfold withS
  rw [List.getElem?_mapIdx, List.getElem?_set, List.getElem?_set, List.getElem?_mapIdx, List.length_mapIdx]
  by_cases hj : q = j
  · subst hj
    simp [hq, upd_at]
  · rw [if_neg hj, if_neg hj]
    cases l[j]? with
    | none => rfl
    | some y => simp [upd_ne fv u (show 8 + j ≠ 8 + q by omega)]
theorem withS_set' {l : List Sg} {fv : Nat → Value} {q : Nat} (hq : q < l.length) (x : Sg) : withS (l.set q x) fv = (withS l fv).set q (x, fv (8 + q)) := by
  have := withS_set (fv := fv) hq x (fv (8 + q))
  rwa [show upd fv (8 + q) (fv (8 + q)) = fv from by funext i; by_cases h : i = 8 + q; (subst h; rw [upd_at]); rw [upd_ne _ _ h]] at this
theorem withS_snoc (l : List Sg) (fv : Nat → Value) (x : Sg) (u : Value) : withS (l ++ [x]) (upd fv (8 + l.length) u) = withS l fv ++ [(x, u)] := by
  unfold withS
  rw [List.mapIdx_append]
  congr 1
  · apply List.ext_getElem?
    intro j
    rw [List.getElem?_mapIdx, List.getElem?_mapIdx]
    cases h : l[j]? with
    | none => rfl
    | some y =>
      have := (List.getElem?_eq_some_iff.1 h).1
      simp [upd_ne fv u (show 8 + j ≠ 8 + l.length by omega)]
  · simp [upd_at]
/-- A thread's list of writes has grown (or is a new one): its slice is stored. -/
theorem VwW.growW (h : VwW B w vb nb mb v size fv cv sv) (hBw : B ≤ w.heap.size) {i : Nat} (hi : i < 8) {u : Value} {l : List (Int × Int)} (hS : Sl 45 2 encC w' u l) (hF : Fr (own (fv i)) w (own u) w') (j : Nat) :
    VwW B ((w'.drewN j).setCell ⟨nb, i * 3 + 2, none⟩ u) vb nb mb ⟨upd v.now i ⟨(v.now i).tri, (v.now i).lk, l⟩, v.cells, v.commits, v.sights, v.next⟩ size (upd fv i u) cv sv := by
  have hi8 : i < 8 + v.sights.length := by omega
  have hN := h.famNe hi8
  have b1 := hF.blk h.vblk hN.1
  have b2 := hF.blk h.nblk hN.2.1
  have hun : ¬ own u nb := hS.ne_ b2 (by decide)
  refine ⟨(b1.drewN j).far (p := ⟨nb, i * 3 + 2, none⟩) h.vn u, ((b2.drewN j).fset _ _).fcongr fun q hq => ?_, ?_, fun a ha => ?_, ?_, fun q hq => ?_, fun p q hp hq hne k hk => ?_, h.celld, h.gev, h.gen, h.gem, h.gec, h.ges, fun q hq k hk => ?_⟩
  · unfold gN
    dsimp only
    by_cases hqi : q / 3 = i
    · rw [hqi, upd_at, upd_at]
      by_cases h0 : q % 3 = 0
      · rw [if_neg (by omega), if_pos h0, if_pos h0]
      · by_cases h1 : q % 3 = 1
        · rw [if_neg (by omega), if_neg h0, if_pos h1, if_neg h0, if_pos h1]
        · rw [if_pos (by omega), if_neg h0, if_neg h1]
    · rw [if_neg (by omega), upd_ne _ _ hqi, upd_ne _ _ hqi]
  · obtain ⟨n, hm⟩ := h.map
    exact ⟨n, ((hm.fr hF hN.2.2).drewN j).far (p := ⟨nb, i * 3 + 2, none⟩) h.nm u⟩
  · exact (((h.cells a ha).fr hF fun k hk => sl_apart (h.cells a ha) (h.fam i hi8) (by decide) hk).drewN j).set (p := ⟨nb, i * 3 + 2, none⟩) (h.cellNe ha).2.1 u
  · rw [withS_upd hi]
    exact ((h.sights.fr hF fun k hk => sl_apart h.sights (h.fam i hi8) (by decide) hk).drewN j).set (p := ⟨nb, i * 3 + 2, none⟩) h.sightsNe.2.1 u
  · unfold content
    dsimp only
    by_cases hqi : q = i
    · subst hqi
      rw [if_pos hi, upd_at, upd_at]
      exact (hS.drewN j).set (p := ⟨nb, q * 3 + 2, none⟩) hun u
    · rw [upd_ne _ _ hqi, upd_ne _ _ hqi]
      exact (((h.fam q hq).fr hF (h.famd q i hq hi8 hqi)).drewN j).set (p := ⟨nb, i * 3 + 2, none⟩) (h.famNe hq).2.1 u
  · by_cases hpi : p = i
    · subst hpi
      rw [upd_at] at hk
      rw [upd_ne _ _ (Ne.symm hne)]
      intro hkq
      rcases hF.new k hk with h1 | h1
      · exact h.famd p q hp hq hne k h1 hkq
      · have := (h.fam q hq).lt k hkq; omega
    · rw [upd_ne _ _ hpi] at hk
      by_cases hqi : q = i
      · subst hqi
        rw [upd_at]
        intro hkq
        rcases hF.new k hkq with h1 | h1
        · exact h.famd p q hp hq hne k hk h1
        · have := (h.fam p hp).lt k hk; omega
      · rw [upd_ne _ _ hqi]
        exact h.famd p q hp hq hne k hk
  · by_cases hqi : q = i
    · subst hqi
      rw [upd_at] at hk
      exact (hF.new k hk).elim (h.gef q hq k) fun h1 => Nat.le_trans hBw h1
    · rw [upd_ne _ _ hqi] at hk
      exact h.gef q hq k hk
/-- An attempt's list of reads has grown: its slice is stored. -/
theorem VwW.growR {g off len cap : Nat} (h : VwW B w vb nb mb v size fv cv (.slice (some ⟨g, off, none⟩) len cap)) (hBw : B ≤ w.heap.size) {i : Nat} (hi : i < v.sights.length) {u : Value} {l : List (Int × Int)} (hS : Sl 45 2 encC w' u l) (hF : Fr (own (fv (8 + i))) w (own u) w') (j : Nat) :
    VwW B ((w'.drewN j).setCell ⟨g, off + i * 10 + 7, none⟩ u) vb nb mb ⟨v.now, v.cells, v.commits, v.sights.set i ⟨(v.sights[i]'hi).tr, l, (v.sights[i]'hi).fr, (v.sights[i]'hi).upto⟩, v.next⟩ size (upd fv (8 + i) u) cv (.slice (some ⟨g, off, none⟩) len cap) := by
  have hi8 : 8 + i < 8 + v.sights.length := by omega
  have hN := h.famNe hi8
  have b1 := hF.blk h.vblk hN.1
  have b2 := hF.blk h.nblk hN.2.1
  have hg : own (.slice (some ⟨g, off, none⟩) len cap) g := by simp [own, Value.ownBlock]
  have hsg := h.sights.fr hF fun k hk => sl_apart h.sights (h.fam _ hi8) (by decide) hk
  have gv : vb ≠ g := fun e => h.sightsNe.1 (by rw [e]; exact hg)
  have gn : nb ≠ g := fun e => h.sightsNe.2.1 (by rw [e]; exact hg)
  have gm : mb ≠ g := fun e => h.sightsNe.2.2 (by rw [e]; exact hg)
  have hug : ¬ own u g := fun hk => sl_apart hS hsg (by decide) hk hg
  refine ⟨(b1.drewN j).far (p := ⟨g, off + i * 10 + 7, none⟩) gv u, ?_, ?_, fun a ha => ?_, ?_, fun q hq => ?_, fun p q hp hq hne k hk => ?_, h.celld, h.gev, h.gen, h.gem, h.gec, h.ges, fun q hq k hk => ?_⟩
  · refine ((b2.drewN j).far (p := ⟨g, off + i * 10 + 7, none⟩) gn u).fcongr fun q hq => ?_
    unfold gN
    rw [upd_ne _ _ (by omega)]
  · obtain ⟨n, hm⟩ := h.map
    exact ⟨n, ((hm.fr hF hN.2.2).drewN j).far (p := ⟨g, off + i * 10 + 7, none⟩) gm u⟩
  · exact (((h.cells a ha).fr hF fun k hk => sl_apart (h.cells a ha) (h.fam _ hi8) (by decide) hk).drewN j).set (p := ⟨g, off + i * 10 + 7, none⟩) (fun hk => sl_apart (h.cells a ha) h.sights (by decide) hk hg) u
  · rw [withS_set hi]
    have := (hsg.drewN j).upd (i := i) (j := 7) encS_len (by rw [withS_len]; exact hi) (by decide) u (⟨(v.sights[i]'hi).tr, l, (v.sights[i]'hi).fr, (v.sights[i]'hi).upto⟩, u) (by rw [withS_get _ _ _ hi]; rfl)
    rw [Nat.add_assoc]
    exact this
  · rw [List.length_set] at hq
    unfold content
    dsimp only
    by_cases hqi : q = 8 + i
    · subst hqi
      rw [if_neg (by omega), upd_at, show 8 + i - 8 = i by omega, List.getD_eq_getElem?_getD, List.getElem?_set_self hi]
      exact (hS.drewN j).set (p := ⟨g, off + i * 10 + 7, none⟩) hug u
    · rw [upd_ne _ _ hqi]
      have := (((h.fam q hq).fr hF (h.famd q (8 + i) hq hi8 hqi)).drewN j).set (p := ⟨g, off + i * 10 + 7, none⟩) (fun hk => sl_apart (h.fam q hq) h.sights (by decide) hk hg) u
      unfold content at this
      by_cases h8 : q < 8
      · rw [if_pos h8] at this ⊢; exact this
      · rw [if_neg h8] at this ⊢
        rw [List.getD_eq_getElem?_getD] at this ⊢
        rw [List.getElem?_set_ne (by omega)]
        exact this
  · rw [List.length_set] at hp hq
    by_cases hpi : p = 8 + i
    · subst hpi
      rw [upd_at] at hk
      rw [upd_ne _ _ (Ne.symm hne)]
      intro hkq
      rcases hF.new k hk with h1 | h1
      · exact h.famd _ q hp hq hne k h1 hkq
      · have := (h.fam q hq).lt k hkq; omega
    · rw [upd_ne _ _ hpi] at hk
      by_cases hqi : q = 8 + i
      · subst hqi
        rw [upd_at]
        intro hkq
        rcases hF.new k hkq with h1 | h1
        · exact h.famd p _ hp hq hne k hk h1
        · have := (h.fam p hp).lt k hk; omega
      · rw [upd_ne _ _ hqi]
        exact h.famd p q hp hq hne k hk
  · rw [List.length_set] at hq
    by_cases hqi : q = 8 + i
    · subst hqi
      rw [upd_at] at hk
      exact (hF.new k hk).elim (h.gef _ hq k) fun h1 => Nat.le_trans hBw h1
    · rw [upd_ne _ _ hqi] at hk
      exact h.gef q hq k hk
/-- One attempt more. -/
theorem VwW.growS (h : VwW B w vb nb mb v size fv cv sv) (hBw : B ≤ w.heap.size) {sv' : Value} {x : Sg} (hx : x.reads = []) (hS : Sl 70 10 encS w' sv' (withS v.sights fv ++ [(x, .slice none 0 0)])) (hF : Fr (own sv) w (own sv') w') (j : Nat) :
    VwW B ((w'.drewN j).setCell ⟨vb, 3, none⟩ sv') vb nb mb ⟨v.now, v.cells, v.commits, v.sights ++ [x], v.next⟩ size (upd fv (8 + v.sights.length) (.slice none 0 0)) cv sv' := by
  have hN := h.sightsNe
  have b1 := hF.blk h.vblk hN.1
  have b2 := hF.blk h.nblk hN.2.1
  have hun : ¬ own sv' vb := hS.ne_ b1 (by decide)
  have hfr : ∀ q, q < 8 + v.sights.length → Sl 45 2 encC ((w'.drewN j).setCell ⟨vb, 3, none⟩ sv') (fv q) (content v q) := fun q hq => (((h.fam q hq).fr hF fun k hk => sl_apart (h.fam q hq) h.sights (by decide) hk).drewN j).set (p := ⟨vb, 3, none⟩) (h.famNe hq).1 sv'
  refine ⟨?_, ?_, ?_, fun a ha => ?_, ?_, fun q hq => ?_, fun p q hp hq hne k hk => ?_, h.celld, h.gev, h.gen, h.gem, h.gec, fun k hk => ?_, fun q hq k hk => ?_⟩
  · have := (b1.drewN j).set_ 3 sv'
    simpa using this
  · refine ((b2.drewN j).far (p := ⟨vb, 3, none⟩) h.vn.symm sv').fcongr fun q hq => ?_
    unfold gN
    rw [upd_ne _ _ (by omega)]
  · obtain ⟨n, hm⟩ := h.map
    exact ⟨n, ((hm.fr hF hN.2.2).drewN j).far (p := ⟨vb, 3, none⟩) h.vm sv'⟩
  · exact (((h.cells a ha).fr hF fun k hk => sl_apart (h.cells a ha) h.sights (by decide) hk).drewN j).set (p := ⟨vb, 3, none⟩) (h.cellNe ha).1 sv'
  · rw [withS_snoc]
    exact (hS.drewN j).set (p := ⟨vb, 3, none⟩) hun sv'
  · rw [List.length_append] at hq
    simp only [List.length_cons, List.length_nil] at hq
    unfold content
    dsimp only
    by_cases hql : q = 8 + v.sights.length
    · subst hql
      rw [if_neg (by omega), upd_at, show 8 + v.sights.length - 8 = v.sights.length by omega, List.getD_eq_getElem?_getD, List.getElem?_append_right (Nat.le_refl _)]
      simp [hx]
      exact Sl.nil _
    · rw [upd_ne _ _ hql]
      have := hfr q (by omega)
      unfold content at this
      by_cases h8 : q < 8
      · rw [if_pos h8] at this ⊢; exact this
      · rw [if_neg h8] at this ⊢
        rw [List.getD_eq_getElem?_getD] at this ⊢
        rw [List.getElem?_append_left (by omega)]
        exact this
  · rw [List.length_append] at hp hq
    simp only [List.length_cons, List.length_nil] at hp hq
    by_cases hpi : p = 8 + v.sights.length
    · subst hpi
      rw [upd_at] at hk
      exact absurd hk own_nil0
    · rw [upd_ne _ _ hpi] at hk
      by_cases hqi : q = 8 + v.sights.length
      · subst hqi
        rw [upd_at]
        exact own_nil0
      · rw [upd_ne _ _ hqi]
        exact h.famd p q (by omega) (by omega) hne k hk
  · exact (hF.new k hk).elim (h.ges k) fun h1 => Nat.le_trans hBw h1
  · rw [List.length_append] at hq
    simp only [List.length_cons, List.length_nil] at hq
    by_cases hqi : q = 8 + v.sights.length
    · subst hqi
      rw [upd_at] at hk
      exact absurd hk own_nil0
    · rw [upd_ne _ _ hqi] at hk
      exact h.gef q (by omega) k hk
/-- How far an attempt goes. -/
theorem VwW.setUpto {g off len cap : Nat} (h : VwW B w vb nb mb v size fv cv (.slice (some ⟨g, off, none⟩) len cap)) {i : Nat} (hi : i < v.sights.length) (n : Nat) :
    VwW B (w.setCell ⟨g, off + i * 10 + 9, none⟩ (.int .i64 n)) vb nb mb ⟨v.now, v.cells, v.commits, v.sights.set i ⟨(v.sights[i]'hi).tr, (v.sights[i]'hi).reads, (v.sights[i]'hi).fr, n⟩, v.next⟩ size fv cv (.slice (some ⟨g, off, none⟩) len cap) := by
  have hg : own (.slice (some ⟨g, off, none⟩) len cap) g := by simp [own, Value.ownBlock]
  have gv : vb ≠ g := fun e => h.sightsNe.1 (by rw [e]; exact hg)
  have gn : nb ≠ g := fun e => h.sightsNe.2.1 (by rw [e]; exact hg)
  have gm : mb ≠ g := fun e => h.sightsNe.2.2 (by rw [e]; exact hg)
  refine ⟨h.vblk.far (p := ⟨g, off + i * 10 + 9, none⟩) gv _, h.nblk.far (p := ⟨g, off + i * 10 + 9, none⟩) gn _, ?_, fun a ha => ?_, ?_, fun q hq => ?_, by rw [List.length_set]; exact h.famd, h.celld, h.gev, h.gen, h.gem, h.gec, h.ges, by rw [List.length_set]; exact h.gef⟩
  · obtain ⟨n', hm⟩ := h.map
    exact ⟨n', hm.far (p := ⟨g, off + i * 10 + 9, none⟩) gm _⟩
  · exact (h.cells a ha).set (p := ⟨g, off + i * 10 + 9, none⟩) (fun hk => sl_apart (h.cells a ha) h.sights (by decide) hk hg) _
  · rw [withS_set' hi]
    have := h.sights.upd (i := i) (j := 9) encS_len (by rw [withS_len]; exact hi) (by decide) (.int .i64 n) (⟨(v.sights[i]'hi).tr, (v.sights[i]'hi).reads, (v.sights[i]'hi).fr, n⟩, fv (8 + i)) (by rw [withS_get _ _ _ hi]; rfl)
    rw [Nat.add_assoc]
    exact this
  · rw [List.length_set] at hq
    have := (h.fam q hq).set (p := ⟨g, off + i * 10 + 9, none⟩) (fun hk => sl_apart (h.fam q hq) h.sights (by decide) hk hg) (.int .i64 n)
    have e : content ⟨v.now, v.cells, v.commits, v.sights.set i ⟨(v.sights[i]'hi).tr, (v.sights[i]'hi).reads, (v.sights[i]'hi).fr, n⟩, v.next⟩ q = content v q := by
      unfold content
      dsimp only
      by_cases h8 : q < 8
      · rw [if_pos h8, if_pos h8]
      · rw [if_neg h8, if_neg h8, List.getD_eq_getElem?_getD, List.getD_eq_getElem?_getD]
        by_cases hqi : i = q - 8
        · subst hqi
          rw [List.getElem?_set_self hi, List.getElem?_eq_getElem hi]
          rfl
        · rw [List.getElem?_set_ne hqi]
    rw [e]
    exact this
/-- A cell's list has grown, and is laid into the map. -/
theorem VwW.putCell {w2 : World} (h : VwW B w vb nb mb v size fv cv sv) (hBw : B ≤ w.heap.size) {a : Nat} (ha : a < size) {u : Value} {l : List (Nat × Int)} (hS : Sl 92 2 encF w' u l) {c0 : Value} (hc0 : ∀ k, own c0 k → own (cv a) k) (hF : Fr (own c0) w (own u) w') {n j : Nat} (hM : Mp w2 mb .u64 n (fun k => if k = (a : Int) then some u else cmap size cv k)) (hg : (w'.drewN j).grownBy w2 (some mb)) :
    VwW B w2 vb nb mb ⟨v.now, upd v.cells a l, v.commits, v.sights, v.next⟩ size fv (upd cv a u) sv := by
  have hF' : Fr (own (cv a)) w (own u) w' := ⟨hF.os, hF.tape, hF.output, hF.size, fun k hk hn => hF.block k hk (fun h1 => hn (hc0 k h1)), fun k hk => (hF.new k hk).imp (hc0 k) id⟩
  have hN := h.cellNe ha
  have b1 := hF'.blk h.vblk hN.1
  have b2 := hF'.blk h.nblk hN.2.1
  obtain ⟨n0, hm0⟩ := h.map
  have hm1 := hm0.fr hF' hN.2.2
  have hum : ¬ own u mb := fun hk => hm1.ne_row hS hk
  have step : ∀ {α : Type} {t : TypeId} {z : Nat} {e : α → List Value} {x : Value} {y : List α}, Sl t z e w' x y → ¬ own x mb → Sl t z e w2 x y := fun hs hx => hs.keep fun k hk => hg.block k (hs.lt k hk) fun e => by injection e with e; subst e; exact hx hk
  refine ⟨(b1.drewN j).grown hg (fun e => by injection e with e; exact h.vm e.symm), (b2.drewN j).grown hg (fun e => by injection e with e; exact h.nm e.symm), ⟨n, hM.congr fun k => ?_⟩, fun b hb => ?_, ?_, fun q hq => ?_, h.famd, fun p q hp hq hne k hk => ?_, h.gev, h.gen, h.gem, fun b hb k hk => ?_, h.ges, h.gef⟩
  · unfold cmap
    by_cases hk : k = (a : Int)
    · subst hk
      rw [if_pos ⟨by omega, by omega⟩, if_pos rfl, Int.toNat_natCast, upd_at]
    · rw [if_neg hk]
      by_cases h1 : 0 ≤ k ∧ k < (size : Int)
      · rw [if_pos h1, if_pos h1, upd_ne _ _ (by omega)]
      · rw [if_neg h1, if_neg h1]
  · by_cases hba : b = a
    · subst hba
      simp only [upd_at]
      exact step hS hum
    · simp only [upd_ne _ _ hba]
      exact step ((h.cells b hb).fr hF' (h.celld b a hb ha hba)) (h.cellNe hb).2.2
  · exact step (h.sights.fr hF' fun k hk => sl_apart h.sights (h.cells a ha) (by decide) hk) h.sightsNe.2.2
  · exact step ((h.fam q hq).fr hF' fun k hk => sl_apart (h.fam q hq) (h.cells a ha) (by decide) hk) (h.famNe hq).2.2
  · by_cases hpi : p = a
    · subst hpi
      rw [upd_at] at hk
      rw [upd_ne _ _ (Ne.symm hne)]
      intro hkq
      rcases hF'.new k hk with h1 | h1
      · exact h.celld p q hp hq hne k h1 hkq
      · have := (h.cells q hq).lt k hkq; omega
    · rw [upd_ne _ _ hpi] at hk
      by_cases hqi : q = a
      · subst hqi
        rw [upd_at]
        intro hkq
        rcases hF'.new k hkq with h1 | h1
        · exact h.celld p q hp hq hne k hk h1
        · have := (h.cells p hp).lt k hk; omega
      · rw [upd_ne _ _ hqi]
        exact h.celld p q hp hq hne k hk
  · by_cases hba : b = a
    · subst hba
      rw [upd_at] at hk
      exact (hF'.new k hk).elim (h.gec b hb k) fun h1 => Nat.le_trans hBw h1
    · rw [upd_ne _ _ hba] at hk
      exact h.gec b hb k hk
end
end Go.Proofs.Ytloiadhdkgkjkaa
