/- opaque.see: what one event asks of the numbers and of memory. -/
import Derived.Test.YtloiadhdkgkjkaaOpF
namespace Go.Proofs.Ytloiadhdkgkjkaa
open Go.RowKit
set_option maxHeartbeats 4000000
set_option linter.unusedVariables false
set_option linter.unusedSimpArgs false
theorem idxE_neg {p : Ev → Bool} {l : List Ev} (h : idxE p l < 0) {k : Nat} (hk : k < l.length) : p (l[k]'hk) = false := by
  unfold idxE at h
  split at h
  · omega
  · rename_i hn
    simpa using List.findIdx?_eq_none_iff.1 hn _ (List.getElem_mem hk)
theorem rn_tries_le (l : List Ev) {k n : Nat} (h : k ≤ n) : (rn l k).tries.length ≤ (rn l n).tries.length := by
  induction n with
  | zero => obtain rfl : k = 0 := by omega
            exact Nat.le_refl _
  | succ n ih =>
    by_cases e : k = n + 1
    · subst e; exact Nat.le_refl _
    · have h1 := ih (by omega)
      have h2 := take_tries_len (rn l n) n (evAt l n)
      have h3 : rn l (n + 1) = take (rn l n) n (evAt l n) := rfl
      rw [h3, h2]
      split <;> omega
theorem rn_tries_lt {l : List Ev} {k : Nat} (hk : k < l.length) (h1 : (evAt l k).kd = 1) : (rn l k).tries.length < (rn l l.length).tries.length := by
  have h2 := take_tries_len (rn l k) k (evAt l k)
  rw [if_pos h1] at h2
  have h3 : rn l (k + 1) = take (rn l k) k (evAt l k) := rfl
  have h4 := rn_tries_le l (show k + 1 ≤ l.length by omega)
  rw [h3, h2] at h4
  omega
/-- The attempt of a thread that reads is there. -/
theorem VI.reads {v : Vw} {s : St} {k size : Nat} {e : Ev} (h : VI v s k size) (hw : wrong s e = 0) (hs : Inv s k) (h2 : e.kd = 2) : (v.now e.th.toNat).tri < v.sights.length := by
  obtain ⟨hfm, htb, -⟩ := wrong_zero hw
  obtain ⟨⟨h0, h8⟩, k1, k12⟩ := fmd_bd hfm
  obtain ⟨th, kd, ad, wd, ow, er⟩ := e
  dsimp only at *
  subst h2
  obtain ⟨t, rfl⟩ := Int.eq_ofNat_of_zero_le h0
  rw [Int.toNat_natCast] at htb ⊢
  have ht : t < 8 := by omega
  have hh := hs.bd.how t
  have hcs := tb_ok (k := 2) hh (by decide) htb
  have hl : liveT (s.th t) := by
    rcases hcs with ⟨h1, h3⟩ | ⟨h1, h3⟩ | ⟨h1, h3⟩
    · simp at h3
    · simp [liveT, h1]
    · simp at h3
  obtain ⟨x, hx, -⟩ := hs.op t ht hl
  have hlt := (List.getElem?_eq_some_iff.1 hx).1
  rw [h.live t ht hl, h.sl, h.nx]
  exact hlt
theorem vTl_no {v : Vw} {i : Nat} {e : Ev} (h : tailB v i e = false) : vTl v i e = v := by
  unfold vTl
  dsimp only
  rw [if_neg (by rw [h]; decide)]
theorem vTl_next (v : Vw) (i : Nat) (e : Ev) : (vTl v i e).next = v.next := by
  unfold vTl
  dsimp only
  split <;> rfl
theorem sg_get {v : Vw} {q : Nat} (hq : q < v.sights.length) : v.sights.getD q Sg.zero = v.sights[q]'hq := by
  rw [List.getD_eq_getElem?_getD, List.getElem?_eq_getElem hq]
  rfl
theorem vTl_yes {v : Vw} {i : Nat} {e : Ev} (hn : 0 < v.next) (hq : (v.now e.th.toNat).tri < v.sights.length) (h1 : (v.sights[(v.now e.th.toNat).tri]'hq).tr.th = e.th) (h2 : (v.sights[(v.now e.th.toNat).tri]'hq).tr.last = i) :
    vTl v i e = ⟨v.now, v.cells, v.commits, v.sights.set (v.now e.th.toNat).tri ⟨(v.sights[(v.now e.th.toNat).tri]'hq).tr, (v.sights[(v.now e.th.toNat).tri]'hq).reads, (v.sights[(v.now e.th.toNat).tri]'hq).fr, v.commits⟩, v.next⟩ := by
  unfold vTl
  dsimp only
  rw [if_pos (by unfold tailB; rw [sg_get hq, h1, h2]; simp [hn, hq]), sg_get hq]
theorem tail_no1 {v : Vw} {i : Nat} {e : Ev} (hn : ¬ 0 < v.next) : tailB v i e = false := by unfold tailB; simp [hn]
theorem tail_no2 {v : Vw} {i : Nat} {e : Ev} (hq : ¬ (v.now e.th.toNat).tri < v.sights.length) : tailB v i e = false := by unfold tailB; simp [hq]
theorem tail_no3 {v : Vw} {i : Nat} {e : Ev} (hq : (v.now e.th.toNat).tri < v.sights.length) (h1 : (v.sights[(v.now e.th.toNat).tri]'hq).tr.th ≠ e.th) : tailB v i e = false := by
  unfold tailB
  rw [sg_get hq]
  simp [h1]
theorem tail_no4 {v : Vw} {i : Nat} {e : Ev} (hq : (v.now e.th.toNat).tri < v.sights.length) (h1 : (v.sights[(v.now e.th.toNat).tri]'hq).tr.last ≠ i) : tailB v i e = false := by
  unfold tailB
  rw [sg_get hq]
  simp [h1]
theorem putAll_snoc (c : Nat → List (Nat × Int)) (n : Nat) {ws : List (Int × Int)} {j : Nat} (hj : j < ws.length) {a : Nat} {x : Int} (hx : ws[j]'hj = ((a : Int), x)) :
    putAll c n (ws.take (j + 1)) = upd (putAll c n (ws.take j)) a (cutL (putAll c n (ws.take j) a) n ++ [(n, x)]) := by
  rw [List.take_add_one, List.getElem?_eq_getElem hj, hx]
  unfold putAll
  rw [List.foldl_append]
  simp only [Option.toList_some, List.foldl_cons, List.foldl_nil]
  funext b
  unfold putC upd
  simp only [Int.toNat_natCast]
  by_cases e : b = a
  · subst e; simp
  · simp [e]
/-- The last of a cell's list. -/
theorem cutL_yes {l : List (Nat × Int)} {n m : Nat} (hm : l.length = m + 1) (h : (l[m]'(by omega)).1 = n) : cutL l n = l.take m := by
  unfold cutL
  have : l.getLast? = some (l[m]'(by omega)) := by
    rw [List.getLast?_eq_getElem?, show l.length - 1 = m by omega, List.getElem?_eq_getElem (by omega)]
  rw [this, if_pos (by simp [h]), List.dropLast_eq_take, hm]
  rfl
theorem cutL_no {l : List (Nat × Int)} {n m : Nat} (hm : l.length = m + 1) (h : (l[m]'(by omega)).1 ≠ n) : cutL l n = l := by
  unfold cutL
  have : l.getLast? = some (l[m]'(by omega)) := by
    rw [List.getLast?_eq_getElem?, show l.length - 1 = m by omega, List.getElem?_eq_getElem (by omega)]
  rw [this, if_neg (by simp [h])]
section
variable {B : Nat} {w w' : World} {vb nb mb : Nat} {v : Vw} {size : Nat} {fv cv : Nat → Value} {sv : Value}
theorem VwW.n0 (h : VwW B w vb nb mb v size fv cv sv) {t : Nat} (ht : t < 8) : w.cell? ⟨nb, t * 3, none⟩ = some (.int .i64 (v.now t).tri) := by
  rw [h.nblk.fcell (i := t * 3) (by omega)]
  simp [gN]
theorem VwW.n1 (h : VwW B w vb nb mb v size fv cv sv) {t : Nat} (ht : t < 8) : w.cell? ⟨nb, t * 3 + 1, none⟩ = some (.bool (v.now t).lk) := by
  rw [h.nblk.fcell (i := t * 3 + 1) (by omega)]
  unfold gN
  rw [if_neg (by omega), if_pos (by omega), show (t * 3 + 1) / 3 = t by omega]
theorem VwW.n2 (h : VwW B w vb nb mb v size fv cv sv) {t : Nat} (ht : t < 8) : w.cell? ⟨nb, t * 3 + 2, none⟩ = some (fv t) := by
  rw [h.nblk.fcell (i := t * 3 + 2) (by omega)]
  unfold gN
  rw [if_neg (by omega), if_neg (by omega), show (t * 3 + 2) / 3 = t by omega]
theorem VwW.c0 (h : VwW B w vb nb mb v size fv cv sv) : w.cell? ⟨vb, 0, none⟩ = some (.map (some mb)) := by simpa using h.vblk.cell 0
theorem VwW.c2 (h : VwW B w vb nb mb v size fv cv sv) : w.cell? ⟨vb, 2, none⟩ = some (.int .i64 v.commits) := by simpa using h.vblk.cell 2
theorem VwW.c3 (h : VwW B w vb nb mb v size fv cv sv) : w.cell? ⟨vb, 3, none⟩ = some sv := by simpa using h.vblk.cell 3
/-- An attempt's cell. -/
theorem VwW.sx {g off len cap : Nat} (h : VwW B w vb nb mb v size fv cv (.slice (some ⟨g, off, none⟩) len cap)) {i j : Nat} (hi : i < v.sights.length) (hj : j < 10) : w.cell? ⟨g, off + (i * 10 + j), none⟩ = (encS (v.sights[i]'hi, fv (8 + i)))[j]? ∧ w.frozen? ⟨g, off + (i * 10 + j), none⟩ = false := by
  have hlen : len = v.sights.length := by
    obtain ⟨A, cap', e, -⟩ := Rowv.shape h.sights
    injection e with e1 e2 e3
    rw [withS_len] at e2
    exact e2
  subst hlen
  have hs := h.sights
  obtain ⟨g', off', e, -, hc⟩ := Sl.cell encS_len (by decide) hs (i := i) (by rw [withS_len]; exact hi)
  injection e with e
  injection e with e1 e2 e3
  subst e1 e2
  have := hc i (by rw [withS_len]; exact hi) j hj
  rwa [withS_get _ _ _ hi] at this
theorem upd_upd {α : Type} (f : Nat → α) (j : Nat) (x y : α) : upd (upd f j x) j y = upd f j y := by
  funext i
  unfold upd
  split <;> rfl
theorem VwW.nx (h : VwW B w vb nb mb v size fv cv sv) (n : Nat) : VwW B w vb nb mb ⟨v.now, v.cells, v.commits, v.sights, n⟩ size fv cv sv := ⟨h.vblk, h.nblk, h.map, h.cells, h.sights, h.fam, h.famd, h.celld, h.gev, h.gen, h.gem, h.gec, h.ges, h.gef⟩
/-- A Begin: the thread's numbers. -/
theorem VwW.begin3 (h : VwW B w vb nb mb v size fv cv sv) (hBw : B ≤ w.heap.size) {t : Nat} (ht : t < 8) (n : Nat) :
    VwW B (((w.setCell ⟨nb, t * 3, none⟩ (.int .i64 n)).setCell ⟨nb, t * 3 + 1, none⟩ (.bool false)).setCell ⟨nb, t * 3 + 2, none⟩ (.slice none 0 0)) vb nb mb ⟨upd v.now t ⟨n, false, []⟩, v.cells, v.commits, v.sights, v.next⟩ size (upd fv t (.slice none 0 0)) cv sv := by
  have h1 : VwW B (w.setCell ⟨nb, t * 3, none⟩ (.int .i64 n)) vb nb mb ⟨upd v.now t ⟨n, (v.now t).lk, (v.now t).ws⟩, v.cells, v.commits, v.sights, v.next⟩ size fv cv sv := h.setN (k := t) (c := 0) ht (by decide) (.int .i64 n) ⟨n, (v.now t).lk, (v.now t).ws⟩ rfl (fun d hd => by
    have : d = 0 ∨ d = 1 := by omega
    rcases this with rfl | rfl <;> simp)
  have h2 := h1.setN (k := t) (c := 1) ht (by decide) (.bool false) ⟨n, false, (v.now t).ws⟩ (by simp [upd_at]) (fun d hd => by
    have : d = 0 ∨ d = 1 := by omega
    rcases this with rfl | rfl <;> simp [upd_at])
  dsimp only at h2
  rw [upd_upd] at h2
  have h3 := h2.growW (u := .slice none 0 0) (l := []) (by simpa using hBw) ht (Sl.nil _) (⟨rfl, rfl, rfl, Nat.le_refl _, fun _ _ _ => rfl, fun k hk => absurd hk own_nil0⟩) 0
  dsimp only at h3
  rw [upd_upd] at h3
  simp only [upd_at] at h3
  exact h3
theorem sl_sx {l : List Sg} {fv : Nat → Value} {w : World} {g off len cap : Nat} (h : Sl 70 10 encS w (.slice (some ⟨g, off, none⟩) len cap) (withS l fv)) {i j : Nat} (hi : i < l.length) (hj : j < 10) : w.cell? ⟨g, off + (i * 10 + j), none⟩ = (encS (l[i]'hi, fv (8 + i)))[j]? ∧ w.frozen? ⟨g, off + (i * 10 + j), none⟩ = false := by
  have hlen : len = (withS l fv).length := by
    obtain ⟨A, cap', e, -⟩ := Rowv.shape h
    injection e with e1 e2 e3
  subst hlen
  obtain ⟨g', off', e, -, hc⟩ := Sl.cell encS_len (by decide) h (i := i) (by rw [withS_len]; exact hi)
  injection e with e
  injection e with e1 e2 e3
  subst e1 e2
  have := hc i (by rw [withS_len]; exact hi) j hj
  rwa [withS_get _ _ _ hi] at this
theorem VwW.svs (h : VwW B w vb nb mb v size fv cv sv) : ∃ A cap, sv = .slice A v.sights.length cap ∧ v.sights.length ≤ cap ∧ (0 < v.sights.length → ∃ g off, A = some ⟨g, off, none⟩) := by
  obtain ⟨A, cap, e, hc, -⟩ := Rowv.shape h.sights
  rw [withS_len] at e hc
  refine ⟨A, cap, e, hc, fun h0 => ?_⟩
  obtain ⟨g, off, cap', e', -⟩ := Rowv.at_ h.sights (by rw [withS_len]; exact h0)
  rw [e] at e'
  injection e' with e1
  exact ⟨g, off, e1⟩
end
theorem cellO_info : (Try.prog.info? 45).map (fun i => (i.zero, i.size, i.bytes)) = some (some (.agg #[.int .u64 0, .int .u64 0]), 2, 16) := by kernel_rfl
theorem fromO_info : (Try.prog.info? 92).map (fun i => (i.zero, i.size, i.bytes)) = some (some (.agg #[.int .i64 0, .int .u64 0]), 2, 16) := by kernel_rfl
theorem sightO_info : (Try.prog.info? 70).map (fun i => (i.zero, i.size, i.bytes)) = some (some (.agg #[.int .i64 0, .int .i64 0, .int .i64 0, .int .u64 0, .int .i64 0, .int .i64 0, .int .i64 0, .slice none 0 0, .int .i64 0, .int .i64 0]), 10, 96) := by kernel_rfl
theorem wpList_cellO {ops : Array Oper} {rest : List Oper} {o : Oper} {a : Act} {Q : Exit → Act → World → Prop} (wr : World) (hgd : o.guard = none) (s x : Operand)
    (ho : o.op = .call { callee := .builtin .append, args := #[s, x], argTypes := #[43, 43] })
    (v : Value) (l : List (Int × Int)) (y : Int × Int) (hs : a.eval s = v) (hl : Sl 45 2 encC wr v l) (hx : a.eval x = .slice (some ⟨wr.heap.size, 0, none⟩) 1 1) (hb1 : l.length + 1 ≤ 9223372036854775807) (hlen : (l.length + 1) * 16 ≤ 140737488355328)
    (h : ∀ A cap w', l.length + 1 ≤ cap → Sl 45 2 encC w' (.slice A (l.length + 1) cap) (l ++ [y]) → Fr (own v) wr (own (.slice A (l.length + 1) cap)) w' → wpList Try.prog ops Q rest (a.put o.dst (.slice A (l.length + 1) cap)) w') :
    wpList Try.prog ops Q (o :: rest) a (wr.alloc (.cells #[.int .u64 y.1, .int .u64 y.2] 45)) :=
  wpList_one (enc := encC) encC_len encC_one wr hgd s x 43 ho Try.underlying43 cellO_info rfl (by decide) v l y hs hl hx hb1 hlen h
theorem wpList_fromO {ops : Array Oper} {rest : List Oper} {o : Oper} {a : Act} {Q : Exit → Act → World → Prop} (wr : World) (hgd : o.guard = none) (s x : Operand)
    (ho : o.op = .call { callee := .builtin .append, args := #[s, x], argTypes := #[90, 90] })
    (v : Value) (l : List (Nat × Int)) (y : Nat × Int) (hs : a.eval s = v) (hl : Sl 92 2 encF wr v l) (hx : a.eval x = .slice (some ⟨wr.heap.size, 0, none⟩) 1 1) (hb1 : l.length + 1 ≤ 9223372036854775807) (hlen : (l.length + 1) * 16 ≤ 140737488355328)
    (h : ∀ A cap w', l.length + 1 ≤ cap → Sl 92 2 encF w' (.slice A (l.length + 1) cap) (l ++ [y]) → Fr (own v) wr (own (.slice A (l.length + 1) cap)) w' → wpList Try.prog ops Q rest (a.put o.dst (.slice A (l.length + 1) cap)) w') :
    wpList Try.prog ops Q (o :: rest) a (wr.alloc (.cells #[.int .i64 y.1, .int .u64 y.2] 92)) :=
  wpList_one (enc := encF) encF_len encF_one wr hgd s x 90 ho Try.underlying90 fromO_info rfl (by decide) v l y hs hl hx hb1 hlen h
theorem encS_one' (x : Sg × Value) (h : x.2.oneCell' = true) : ∀ u ∈ encS x, u.oneCell' = true := by
  intro u hu
  simp only [encS, List.mem_cons, List.not_mem_nil, or_false] at hu
  rcases hu with rfl | rfl | rfl | rfl | rfl | rfl | rfl | rfl | rfl | rfl <;> first | rfl | exact h
theorem wpList_sightO {ops : Array Oper} {rest : List Oper} {o : Oper} {a : Act} {Q : Exit → Act → World → Prop} (wr : World) (hgd : o.guard = none) (s x : Operand)
    (ho : o.op = .call { callee := .builtin .append, args := #[s, x], argTypes := #[66, 66] })
    (v : Value) (l : List (Sg × Value)) (y : Sg × Value) (hy : y.2.oneCell' = true) (hs : a.eval s = v) (hl : Sl 70 10 encS wr v l) (hx : a.eval x = .slice (some ⟨wr.heap.size, 0, none⟩) 1 1) (hb1 : l.length + 1 ≤ 9223372036854775807) (hlen : (l.length + 1) * 96 ≤ 140737488355328)
    (h : ∀ A cap w', l.length + 1 ≤ cap → Sl 70 10 encS w' (.slice A (l.length + 1) cap) (l ++ [y]) → Fr (own v) wr (own (.slice A (l.length + 1) cap)) w' → wpList Try.prog ops Q rest (a.put o.dst (.slice A (l.length + 1) cap)) w') :
    wpList Try.prog ops Q (o :: rest) a (wr.alloc (.cells (encS y).toArray 70)) := by
  refine wpList_all (enc := encS) (l := l) (m := [y]) _ hgd s x 66 ho Try.underlying66 sightO_info rfl (by decide) v _ hs (hl.alloc _) hx ?_ hb1 hlen fun A cap w' hc hS hF => h A cap w' hc hS ?_
  · simp only [List.flatMap_cons, List.flatMap_nil, List.append_nil]
    exact Src.lit wr (by simp [encS_len]) (encS_one' y hy) 1
  · exact Fr.trans (((Fr.refl (own v) wr).alloc _)) hF
end Go.Proofs.Ytloiadhdkgkjkaa
