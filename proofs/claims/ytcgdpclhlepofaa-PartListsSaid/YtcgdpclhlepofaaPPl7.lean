/- One list in a room, and pieces that are out beside it, on plain words: found, put in. No program in sight. -/
import Derived.Deep.RegionWith
import Derived.Test.YtcgdpclhlepofaaPPl5
import Derived.Test.YtcgdpclhlepofaaPPl6
namespace Go.Proofs.Ytcgdpclhlepofaa
open Go.RowKit
set_option linter.unusedVariables false
set_option linter.unusedSimpArgs false
set_option maxHeartbeats 1000000
theorem hget_rdt {s : St} {n : Nat} (h : Ok s n) {a : Int} (ha : a < s.W.length) : hget s 0 a = (s.W.getD a.toNat 0, 0, rdt s a) := hget_ok (sget_rdt h ha)
theorem hput_wrt {s : St} {n : Nat} (h : Ok s n) {a : Int} (ha : a < s.W.length) (x : Int) : hput s 0 a x = (0, wrt s a x) := (hput_ok s a x).trans (sput_wrt h ha x)
theorem Lnk.split {W : List Int} : ∀ {a xa b xb : List Int} {e : Int}, a.length = xa.length → (Lnk W (a ++ b) (xa ++ xb) e ↔ Lnk W a xa (hdOr b e) ∧ Lnk W b xb e)
  | [], [], b, xb, e, _ => ⟨fun h => ⟨trivial, h⟩, fun h => h.2⟩
  | [], _ :: _, _, _, _, h => by simp at h
  | _ :: _, [], _, _, _, h => by simp at h
  | n :: a, x :: xa, b, xb, e, h => by
    have h' : a.length = xa.length := by simpa using h
    have ih := Lnk.split (W := W) (b := b) (xb := xb) (e := e) h'
    have hh : hdOr (a ++ b) e = hdOr a (hdOr b e) := by cases a <;> rfl
    show (_ ∧ _ = hdOr (a ++ b) e ∧ Lnk W (a ++ b) (xa ++ xb) e) ↔ (_ ∧ _ ∧ _) ∧ _
    rw [ih, hh]
    constructor
    · rintro ⟨p1, p2, p3, p4⟩; exact ⟨⟨p1, p2, p3⟩, p4⟩
    · rintro ⟨⟨p1, p2, p3⟩, p4⟩; exact ⟨p1, p2, p3, p4⟩
/-- the cell that leads on behind nodes -/
def lastNx (f : Int) : List Int → Int
  | [] => f
  | n :: ns => lastNx (n + 1) ns
theorem lastNx_snoc (f : Int) : ∀ (ns : List Int) (m : Int), lastNx f (ns ++ [m]) = m + 1
  | [], _ => rfl
  | n :: ns, m => lastNx_snoc (n + 1) ns m
theorem fGo_x (q : Int → Bool) (count : Int) (npost kpost : List Int) : ∀ (npre kpre : List Int) (last : Int) (p : Pl) (ks : List Int) (s : St) (k n : Nat), Ok s (n + 2 * (npre.length + 1)) → Lnk s.W (npre ++ npost) (kpre ++ kpost) 0 → npre.length = kpre.length → (∀ x ∈ npre ++ npost, 0 ≤ x ∧ x + 1 < (s.W.length : Int)) → (s.W.length : Int) ≤ 4611686018427387904 → p.from_ < s.W.length → s.W.getD p.from_.toNat 0 = hdOr (npre ++ npost) 0 →
    (kpre ++ kpost).Pairwise (· < ·) → (0 < p.ahead → ∀ x ∈ kpre ++ kpost, last < x) → 0 ≤ p.ahead → p.ahead + npre.length ≤ 1000000 → count = p.ahead + ((npre ++ npost).length : Nat) → (∀ x ∈ kpre, q x = true) → (∀ x r, kpost = x :: r → q x = false) → npre.length < k →
    ∃ p' s', fGo q count k last p ks 0 s = some (p', ks ++ (kpre ++ kpost.head?.toList), 0, s') ∧ Ok s' n ∧ s'.W = s.W ∧ p'.from_ = lastNx p.from_ npre ∧ p'.next = hdOr npost 0 ∧ (∀ x r, kpost = x :: r → p'.key = x) := by
  intro npre
  induction npre with
  | nil =>
    intro kpre last p ks s k n hs hL hlen hin hlw hfr hnx hris hla hah _ hct _ hq hk
    obtain rfl : kpre = [] := List.eq_nil_of_length_eq_zero (by simpa using hlen.symm)
    obtain ⟨k, rfl⟩ : ∃ m, k = m + 1 := ⟨k - 1, by simp at hk; omega⟩
    have hs0 : Ok s ((n + 1) + 1) := hs
    have h1 := hget_rdt hs0 hfr
    rw [hnx] at h1
    have b1 := rdt_ok hs0 p.from_
    cases npost with
    | nil =>
      cases kpost with
      | cons _ _ => exact hL.elim
      | nil =>
        rw [fGo_end h1, if_pos (by rw [hct]; simp)]
        exact ⟨{ p with next := 0 }, rdt s p.from_, by simp, b1.mono (by omega), rfl, rfl, rfl, fun x r h => by cases h⟩
    | cons x nr =>
      cases kpost with
      | nil => exact hL.elim
      | cons kx kr =>
        have hx := hin x (by simp)
        have h2 := hget_rdt b1 (a := x) (by rw [rdt_W]; omega)
        rw [rdt_W, hL.1] at h2
        have u : IntKind.u64.wrap (x + 1 - 1) = x := by rw [show x + 1 - 1 = x by omega, uw_id (by omega) (by omega)]
        rw [← u] at h2
        rw [fGo_stop (nx := x + 1) h1 (by omega) h2 (by
          rintro (h | ⟨h, h'⟩)
          · rw [hct] at h; simp at h; omega
          · have := hla h kx (by simp); omega) (hq _ _ rfl)]
        exact ⟨{ p with next := x + 1, key := kx }, rdt (rdt s p.from_) (IntKind.u64.wrap (x + 1 - 1)), by simp, rdt_ok b1 _, rfl, rfl, rfl, fun y r h => by cases h; rfl⟩
  | cons x npre ih =>
    intro kpre last p ks s k n hs hL hlen hin hlw hfr hnx hris hla hah hah2 hct hqp hq hk
    cases kpre with
    | nil => simp at hlen
    | cons kx kpre =>
      obtain ⟨k, rfl⟩ : ∃ m, k = m + 1 := ⟨k - 1, by simp at hk; omega⟩
      have hs0 : Ok s (((n + 2 * (npre.length + 1)) + 1) + 1) := hs.mono (by simp; omega)
      have h1 := hget_rdt hs0 hfr
      rw [hnx] at h1
      have b1 := rdt_ok hs0 p.from_
      have hx := hin x (by simp)
      have h2 := hget_rdt b1 (a := x) (by rw [rdt_W]; omega)
      rw [rdt_W, hL.1] at h2
      have u : IntKind.u64.wrap (x + 1 - 1) = x := by rw [show x + 1 - 1 = x by omega, uw_id (by omega) (by omega)]
      rw [← u] at h2
      have hp1 : uAdd p.ahead 1 = p.ahead + 1 := uAdd_id (by omega) (by simp at hah2; omega)
      rw [fGo_on (nx := x + 1) h1 (by omega) h2 (by
          rintro (h | ⟨h, h'⟩)
          · rw [hct] at h; simp at h; omega
          · have := hla h kx (by simp); omega) (hqp kx (by simp))]
      obtain ⟨hr1, hr2⟩ := List.pairwise_cons.1 (show (kx :: (kpre ++ kpost)).Pairwise (· < ·) from hris)
      obtain ⟨p', s', e1, e2, e3, e4, e5, e6⟩ := ih kpre kx { from_ := x + 1, next := x + 1, key := kx, ahead := uAdd p.ahead 1 } (ks ++ [kx]) (rdt (rdt s p.from_) (IntKind.u64.wrap (x + 1 - 1))) k n (rdt_ok b1 _) hL.2.2 (by simpa using hlen) (fun y hy => hin y (List.mem_cons_of_mem _ hy)) hlw (by show x + 1 < (s.W.length : Int); omega) hL.2.1 hr2
        (fun _ y hy => hr1 y hy) (by simp only [hp1]; omega) (by simp only [hp1]; simp at hah2; omega) (by simp only [hp1]; rw [hct]; simp; omega) (fun y hy => hqp y (List.mem_cons_of_mem _ hy)) hq (by simp at hk; omega)
      rw [u] at e1
      exact ⟨p', s', by rw [u, e1]; simp, e2, e3, e4, e5, e6⟩
/-- One list, and pieces that are out. -/
structure Lx (W : List Int) (c l : Int) (ns ks : List Int) (X : List (Int × Int)) (back : Nat → List Int) : Prop where
  rm : Rm W 18 c ((l, 2) :: (ndp ns ++ X)) back
  first : W.getD (l + 1).toNat 0 = hdOr ns 0
  count : W.getD l.toNat 0 = ns.length
  lnk : Lnk W ns ks 0
  rise : ks.Pairwise (· < ·)
  lw : (W.length : Int) ≤ 4611686018427387904
section
variable {W : List Int} {c l : Int} {ns ks : List Int} {X : List (Int × Int)} {back : Nat → List Int}
theorem Lx.inn (h : Lx W c l ns ks X back) {p : Int × Int} (hp : p ∈ (l, 2) :: (ndp ns ++ X)) : 18 ≤ p.1 ∧ p.1 + p.2 ≤ c ∧ p.1 + p.2 ≤ (W.length : Int) := by
  have h1 := h.rm.outIn p hp
  have h2 := h.rm.nx1
  have h3 := h.rm.to0
  omega
theorem Lx.lin (h : Lx W c l ns ks X back) : 18 ≤ l ∧ l + 2 ≤ c ∧ l + 2 ≤ (W.length : Int) := h.inn (p := (l, 2)) (by simp)
theorem Lx.nin (h : Lx W c l ns ks X back) {n : Int} (hn : n ∈ ns) : 18 ≤ n ∧ n + 2 ≤ c ∧ n + 2 ≤ (W.length : Int) := h.inn (p := (n, 2)) (by simp [ndp, hn])
theorem Lx.dis (h : Lx W c l ns ks X back) : (∀ n ∈ ns, Disj (l, 2) (n, 2)) ∧ ns.Pairwise (fun x y => Disj (x, 2) (y, 2)) ∧ (∀ u ∈ X, Disj (l, 2) u) ∧ ∀ n ∈ ns, ∀ u ∈ X, Disj (n, 2) u := by
  have ho := h.rm.oo
  rw [List.pairwise_cons, List.pairwise_append] at ho
  obtain ⟨a, b1, b2, b3⟩ := ho
  exact ⟨fun n hn => a _ (List.mem_append_left _ (List.mem_map.2 ⟨n, hn, rfl⟩)), List.pairwise_map.1 b1, fun u hu => a _ (List.mem_append_right _ hu), fun n hn u hu => b3 _ (List.mem_map.2 ⟨n, hn, rfl⟩) u hu⟩
theorem Lx.cnt (h : Lx W c l ns ks X back) : 2 * (ns.length : Int) ≤ c - 18 := by
  have h0 := h.lin
  exact cnt_le _ ns 18 c (Nat.le_refl _) h.dis.2.1 (fun x hx => by have := h.nin hx; omega) (by omega)
end
/-- A search ends where the keys part. -/
theorem hfind_x {q : Int → Bool} {s : St} {c l : Int} {npre npost kpre kpost : List Int} {X : List (Int × Int)} {back : Nat → List Int} {k n : Nat} (h : Lx s.W c l (npre ++ npost) (kpre ++ kpost) X back) (hlen : npre.length = kpre.length) (hs : Ok s (n + 2 * (npre.length + 1) + 1)) (hc : c ≤ 100000) (hk : npre.length < k) (hqp : ∀ x ∈ kpre, q x = true) (hq : ∀ x r, kpost = x :: r → q x = false) :
    ∃ p' s', hfind q k s 0 l = some (p', kpre ++ kpost.head?.toList, 0, s') ∧ Ok s' n ∧ s'.W = s.W ∧ p'.from_ = lastNx (l + 1) npre ∧ p'.next = hdOr npost 0 ∧ (∀ x r, kpost = x :: r → p'.key = x) := by
  obtain ⟨l1, l2, l3⟩ := h.lin
  have hlw := h.lw
  have hcn := h.cnt
  have b1 := rdt_ok hs l
  have u1 : uAdd l 1 = l + 1 := uAdd_id (by omega) (by omega)
  unfold hfind
  rw [hget_rdt hs (by omega)]
  simp only
  rw [u1, h.count]
  obtain ⟨p', s', e1, e2, e3, e4, e5, e6⟩ := fGo_x q ((npre ++ npost).length : Int) npost kpost npre kpre 0 { from_ := l + 1, next := 0, key := 0, ahead := 0 } [] (rdt s l) k n b1 h.lnk hlen (fun x hx => by have := h.nin hx; rw [rdt_W]; omega) hlw (by show l + 1 < (s.W.length : Int); omega) h.first h.rise (fun h => by simp at h) (by simp) (by simp at hcn ⊢; omega) (by simp) hqp hq hk
  exact ⟨p', s', by simpa using e1, e2, e3, e4, e5, e6⟩
end Go.Proofs.Ytcgdpclhlepofaa
/- What a part's nodes and words are gathered by. -/
namespace Go.Proofs.Ytcgdpclhlepofaa
open Go.RowKit
set_option maxHeartbeats 4000000
set_option linter.unusedVariables false
set_option linter.unusedSimpArgs false

/-- A captured slice of words. -/
def JSl (cb : Nat) (w : World) (F G : Nat → Prop) (l : List Int) : Prop :=
  ∃ A cp, Blk w cb 32 #[.slice A l.length cp] ∧ Wl w (.slice A l.length cp) l ∧ ¬ F cb ∧ (∀ k, G k ↔ (k = cb ∨ own (.slice A l.length cp) k)) ∧ ∀ k, own (.slice A l.length cp) k → ¬ F k ∧ k ≠ cb
theorem JSl.keep {cb : Nat} {w w' : World} {F F' G : Nat → Prop} {l : List Int} (h : JSl cb w F G l) (hl : ∀ k, F k → k < w.heap.size) (hf : Fr F w F' w') : JSl cb w' F' G l := by
  obtain ⟨A, cp, hB, hv, hF, hG, ho⟩ := h
  refine ⟨A, cp, hf.blk hB hF, hv.fr hf fun k hk => (ho k hk).1, fun h => (hf.new cb h).elim hF fun h => by have := hB.lt; omega, hG, fun k hk => ⟨fun h => (hf.new k h).elim (ho k hk).1 fun h => by have := hv.lt k hk; omega, (ho k hk).2⟩⟩

set_option maxRecDepth 100000 in
theorem readc_call {t cb n : Nat} {F G : Nat → Prop} {s : St} {l : List Int} {nd wd : Int} {w : World} (hw : Txw w t F s) (hf : Fits s) (hb : Bud s (n + 1)) (hl : l.length ≤ 65537) (h1 : 0 ≤ nd) (h2 : nd ≤ 18446744073709551615) (h3 : 0 ≤ wd) (h4 : wd ≤ 18446744073709551615) (hj : JSl cb w F G l) :
    Calls Try.prog 34 #[.int .u64 nd, .int .u64 wd, .pointer (some ⟨cb, 0, none⟩)] w fun e w' => ∃ er l' s', Hid (stRead nd wd l s = (er, l', s')) ∧ e = .returned (.int .i64 er) ∧ l'.length ≤ l.length + 1 ∧ Fits s' ∧ Bud s' n ∧ ∃ F' G', Txw w' t F' s' ∧ JSl cb w' F' G' l' ∧ Fr (fun k => F k ∨ G k) w (fun k => F' k ∨ G' k) w' := by
  obtain ⟨A, cp, hB, hv, hF, hG, ho⟩ := hj
  have dc := hB.cell 0
  simp only [List.getElem?_toArray, List.getElem?_cons_zero] at dc
  have hx := Lib.hid (show (l.length + 1) * 8 ≤ 140737488355328 by omega)
  have HO := Lib.hid ho
  have HG := Lib.hid hG
  clear ho hG
  go_enter Try.func34, Try.ntmps34
  have hnb : ¬ own (.slice A l.length cp) cb := hv.ne_ hB (by decide)
  go_wp2_with (at_builtin; refine wpList_word w rfl (.tmp 6) (.tmp 8) rfl (.slice A l.length cp) l wd rfl hv rfl hx.out ?_; intro A4 c4 w4 hc4 hv4 hm4; have hB4 := hm4.blk hB hnb; have fz4 := hB4.frozen 0; have dc4 := hB4.cell 0; simp only [List.getElem?_toArray, List.getElem?_cons_zero] at dc4)
  have hT4 : Txw w4 t F s := hw.fr hm4 fun k hk ho => (HO.out k ho).1 hk
  have hcb4 : ¬ own (.slice A4 (l.length + 1) c4) cb := hv4.ne_ hB4 (by decide)
  have hT5 := hT4.set (p := ⟨cb, 0, none⟩) hF (.slice A4 (l.length + 1) c4)
  have hB5 := hB4.set_ 0 (.slice A4 (l.length + 1) c4)
  have hv5 := hv4.set (p := ⟨cb, 0, none⟩) hcb4 (.slice A4 (l.length + 1) c4)
  have hm5 : Fr (fun k => F k ∨ G k) w (fun k => F k ∨ (k = cb ∨ own (.slice A4 (l.length + 1) c4) k)) (w4.setCell ⟨cb, 0, none⟩ (.slice A4 (l.length + 1) c4)) := by
    have e1 : Fr (fun k => F k ∨ G k) w (own (.slice A4 (l.length + 1) c4)) w4 := hm4.wide fun k hk => .inr ((HG.out k).2 (.inr hk))
    have e2 := e1.set (p := ⟨cb, 0, none⟩) (.inr (.inl (.inr ((HG.out cb).2 (.inl rfl))))) (.slice A4 (l.length + 1) c4)
    exact e2.into fun k hk => hk.elim (fun h => .inr (.inl (.inl h))) fun h => h.elim (fun h => .inr (.inl (.inr ((HG.out k).2 (.inl h))))) .inl
  have ho5 : ∀ k, own (.slice A4 (l.length + 1) c4) k → ¬ F k ∧ k ≠ cb := fun k hk => ⟨fun h2 => (hm4.new k hk).elim (fun h => (HO.out k h).1 h2) fun h => by have := hw.lt k h2; omega, fun e => hcb4 (e ▸ hk)⟩
  have hfin : Hid (∃ F' G', Txw (w4.setCell ⟨cb, 0, none⟩ (.slice A4 (l.length + 1) c4)) t F' s ∧ JSl cb (w4.setCell ⟨cb, 0, none⟩ (.slice A4 (l.length + 1) c4)) F' G' (l ++ [wd]) ∧ Fr (fun k => F k ∨ G k) w (fun k => F' k ∨ G' k) (w4.setCell ⟨cb, 0, none⟩ (.slice A4 (l.length + 1) c4))) := Lib.hid ⟨F, _, hT5, ⟨A4, c4, by simpa using hB5, by simpa using hv5, hF, fun k => by simp, by simpa using ho5⟩, hm5⟩
  clear hT4 hT5 hB5 hv5 hm5 ho5 hm4 hv4 hB hv hw
  go_wp2
  try rw [Exit.noGoto_ret]
  go_ret
  exact ⟨0, _, s, Lib.hid rfl, rfl, by simp, hf, hb.mono (by omega), hfin.out⟩
theorem readc_law (t cb : Nat) : JLaw t stRead (JSl cb) 34 (fun nd wd => #[.int .u64 nd, .int .u64 wd, .pointer (some ⟨cb, 0, none⟩)]) := ⟨fun _ _ => rfl, fun h1 h2 h3 => h3.keep h1 h2, fun h1 h2 h3 h4 h5 h6 h7 h8 h9 => readc_call h1 h2 h3 h4 h5 h6 h7 h8 h9⟩

set_option maxRecDepth 100000 in
theorem nodec_call {t cb n : Nat} {F G : Nat → Prop} {s : St} {l : List Int} {nd wd : Int} {w : World} (hw : Txw w t F s) (hf : Fits s) (hb : Bud s (n + 1)) (hl : l.length ≤ 65537) (h1 : 0 ≤ nd) (h2 : nd ≤ 18446744073709551615) (h3 : 0 ≤ wd) (h4 : wd ≤ 18446744073709551615) (hj : JSl cb w F G l) :
    Calls Try.prog 53 #[.int .u64 nd, .int .u64 wd, .pointer (some ⟨cb, 0, none⟩)] w fun e w' => ∃ er l' s', Hid (stNode nd wd l s = (er, l', s')) ∧ e = .returned (.int .i64 er) ∧ l'.length ≤ l.length + 1 ∧ Fits s' ∧ Bud s' n ∧ ∃ F' G', Txw w' t F' s' ∧ JSl cb w' F' G' l' ∧ Fr (fun k => F k ∨ G k) w (fun k => F' k ∨ G' k) w' := by
  obtain ⟨A, cp, hB, hv, hF, hG, ho⟩ := hj
  have dc := hB.cell 0
  simp only [List.getElem?_toArray, List.getElem?_cons_zero] at dc
  have hx := Lib.hid (show (l.length + 1) * 8 ≤ 140737488355328 by omega)
  have HO := Lib.hid ho
  have HG := Lib.hid hG
  clear ho hG
  go_enter Try.func53, Try.ntmps53
  have hnb : ¬ own (.slice A l.length cp) cb := hv.ne_ hB (by decide)
  go_wp2_with (at_builtin; refine wpList_word w rfl (.tmp 6) (.tmp 8) rfl (.slice A l.length cp) l nd rfl hv rfl hx.out ?_; intro A4 c4 w4 hc4 hv4 hm4; have hB4 := hm4.blk hB hnb; have fz4 := hB4.frozen 0; have dc4 := hB4.cell 0; simp only [List.getElem?_toArray, List.getElem?_cons_zero] at dc4)
  have hT4 : Txw w4 t F s := hw.fr hm4 fun k hk ho => (HO.out k ho).1 hk
  have hcb4 : ¬ own (.slice A4 (l.length + 1) c4) cb := hv4.ne_ hB4 (by decide)
  have hT5 := hT4.set (p := ⟨cb, 0, none⟩) hF (.slice A4 (l.length + 1) c4)
  have hB5 := hB4.set_ 0 (.slice A4 (l.length + 1) c4)
  have hv5 := hv4.set (p := ⟨cb, 0, none⟩) hcb4 (.slice A4 (l.length + 1) c4)
  have hm5 : Fr (fun k => F k ∨ G k) w (fun k => F k ∨ (k = cb ∨ own (.slice A4 (l.length + 1) c4) k)) (w4.setCell ⟨cb, 0, none⟩ (.slice A4 (l.length + 1) c4)) := by
    have e1 : Fr (fun k => F k ∨ G k) w (own (.slice A4 (l.length + 1) c4)) w4 := hm4.wide fun k hk => .inr ((HG.out k).2 (.inr hk))
    have e2 := e1.set (p := ⟨cb, 0, none⟩) (.inr (.inl (.inr ((HG.out cb).2 (.inl rfl))))) (.slice A4 (l.length + 1) c4)
    exact e2.into fun k hk => hk.elim (fun h => .inr (.inl (.inl h))) fun h => h.elim (fun h => .inr (.inl (.inr ((HG.out k).2 (.inl h))))) .inl
  have ho5 : ∀ k, own (.slice A4 (l.length + 1) c4) k → ¬ F k ∧ k ≠ cb := fun k hk => ⟨fun h2 => (hm4.new k hk).elim (fun h => (HO.out k h).1 h2) fun h => by have := hw.lt k h2; omega, fun e => hcb4 (e ▸ hk)⟩
  have hfin : Hid (∃ F' G', Txw (w4.setCell ⟨cb, 0, none⟩ (.slice A4 (l.length + 1) c4)) t F' s ∧ JSl cb (w4.setCell ⟨cb, 0, none⟩ (.slice A4 (l.length + 1) c4)) F' G' (l ++ [nd]) ∧ Fr (fun k => F k ∨ G k) w (fun k => F' k ∨ G' k) (w4.setCell ⟨cb, 0, none⟩ (.slice A4 (l.length + 1) c4))) := Lib.hid ⟨F, _, hT5, ⟨A4, c4, by simpa using hB5, by simpa using hv5, hF, fun k => by simp, by simpa using ho5⟩, hm5⟩
  clear hT4 hT5 hB5 hv5 hm5 ho5 hm4 hv4 hB hv hw
  go_wp2
  try rw [Exit.noGoto_ret]
  go_ret
  exact ⟨0, _, s, Lib.hid rfl, rfl, by simp, hf, hb.mono (by omega), hfin.out⟩
theorem nodec_law (t cb : Nat) : JLaw t stNode (JSl cb) 53 (fun nd wd => #[.int .u64 nd, .int .u64 wd, .pointer (some ⟨cb, 0, none⟩)]) := ⟨fun _ _ => rfl, fun h1 h2 h3 => h3.keep h1 h2, fun h1 h2 h3 h4 h5 h6 h7 h8 h9 => nodec_call h1 h2 h3 h4 h5 h6 h7 h8 h9⟩
end Go.Proofs.Ytcgdpclhlepofaa
/- A part's nodes gone over, by contract. -/
namespace Go.Proofs.Ytcgdpclhlepofaa
open Go.RowKit
set_option maxHeartbeats 4000000
set_option linter.unusedVariables false
set_option linter.unusedSimpArgs false

set_option maxRecDepth 100000 in
theorem each_b {t n gf cb : Nat} {F F0 G : Nat → Prop} {s : St} {kind first count : Int} {w w0 : World} {J : World → (Nat → Prop) → (Nat → Prop) → List Int → Prop} {step : Int → Int → List Int → St → Int × List Int × St} (HJ : JLaw t step J gf fun nd wd => #[.int .u64 nd, .int .u64 wd, .pointer (some ⟨cb, 0, none⟩)])
    (hw : Txw w t F s) (hj : J w F G []) (hG : ∀ k, G k → k < w.heap.size) (hf : Fits s) (hb : Bud s (n + 3 * 65537)) (h1 : 0 ≤ first) (h1' : first ≤ 18446744073709551615) (h2 : 0 ≤ count) (h2' : count ≤ 18446744073709551615) (hm : Fr F0 w0 (fun k => F k ∨ G k) w) :
    Calls Try.prog 33 #[.agg #[.int .i64 kind, .int .u64 first, .int .u64 count], .func (.func 13) #[.pointer (some ⟨t, 0, none⟩)] #[], .func (.func gf) #[] #[.pointer (some ⟨cb, 0, none⟩)]] w fun e w' =>
      ∃ er l s', Hid (pAll step kind first count s = (er, l, s')) ∧ e = .returned (.int .i64 er) ∧ LftJ t n F0 w0 J s' l w' := by
  have HJ := Lib.hid HJ
  have hpb := Blk.new w 25 #[.int .i64 kind, .int .u64 first, .int .u64 count]
  have hjw := HJ.out.keep (fun k hk => hw.lt k hk) ((Fr.refl F w).alloc (.cells #[.int .i64 kind, .int .u64 first, .int .u64 count] 25)) hj
  have hTw := hw.alloc (.cells #[.int .i64 kind, .int .u64 first, .int .u64 count] 25)
  have hMw := hm.alloc (.cells #[.int .i64 kind, .int .u64 first, .int .u64 count] 25)
  have hnb : ¬ F w.heap.size := fun h => by have := hw.lt _ h; omega
  have hng : ¬ G w.heap.size := fun h => by have := hG _ h; omega
  have d0 := hpb.cell 0
  have d1 := hpb.cell 1
  have d2 := hpb.cell 2
  simp only [List.getElem?_toArray, List.getElem?_cons_zero, List.getElem?_cons_succ] at d0 d1 d2
  have hL0 := Lib.hid (show LftJ t n F0 w0 J s [] (w.alloc (.cells #[.int .i64 kind, .int .u64 first, .int .u64 count] 25)) from ⟨by simp, hf, hb.mono (by omega), F, G, hTw, hjw, hMw⟩)
  have HP := Lib.hid hpb
  have HT := Lib.hid hTw
  have HM := Lib.hid hMw
  have HI := Lib.hid hjw
  clear hpb hTw hMw hjw hw hj hm hG
  by_cases hk : kind ≠ 1 ∧ kind ≠ 2
  · have hq : Hid (pAll step kind first count s = (2, [], s)) := Lib.hid (by unfold pAll; rw [if_pos hk])
    have k1 : (kind != 1) = true := by simpa using hk.1
    have k2 : (kind != 2) = true := by simpa using hk.2
    clear hk
    go_enter Try.func33, Try.ntmps33
    go_wp2
    go_step3
    go_wp2
    try rw [Exit.noGoto_ret]
    go_ret
    exact ⟨2, [], s, hq, rfl, hL0.out⟩
  have hkc : ((kind != 1) = false ∧ kind = 1) ∨ ((kind != 1) = true ∧ (kind != 2) = false) := by
    by_cases e1 : kind = 1
    · exact .inl ⟨by simpa using e1, e1⟩
    · by_cases e2 : kind = 2
      · exact .inr ⟨by simpa using e1, by simpa using e2⟩
      · exact absurd ⟨e1, e2⟩ hk
  have hA : Hid (pAll step kind first count s = if 65536 < count ∨ ((first == 0) != (count == 0)) = true then (360, [], s) else pEach step count 65537 first 0 [] s) := Lib.hid (by unfold pAll; rw [if_neg hk])
  have hkk : Hid (((kind != 1) = false) ∨ ((kind != 1) = true ∧ (kind != 2) = false)) := Lib.hid (hkc.imp (·.1) id)
  clear hk hkc
  go_enter Try.func33, Try.ntmps33
  go_wp2
  go_step3
  generalize hWe : w.alloc (.cells #[.int .i64 kind, .int .u64 first, .int .u64 count] 25) = w1 at *
  have hpbe : w.heap.size < w1.heap.size := by rw [← hWe]; simp
  generalize hpe : w.heap.size = pb at *
  clear hWe hpe
  by_cases hbad : 65536 < count ∨ ((first == 0) != (count == 0)) = true
  · have hq : Hid (pAll step kind first count s = (360, [], s)) := Lib.hid (by rw [hA.out, if_pos hbad])
    have hbb : Hid ((decide (65536 < count) = true) ∨ (decide (65536 < count) = false ∧ (!((first == 0) == (count == 0))) = true)) := Lib.hid (by
      by_cases e : 65536 < count
      · exact .inl (decide_eq_true e)
      · exact .inr ⟨decide_eq_false e, by simpa [bne] using hbad.resolve_left e⟩)
    clear hbad hA
    rcases hkk.out with k1 | ⟨k1, k2⟩
    all_goals rcases hbb.out with b1 | ⟨b1, b2⟩
    all_goals
      clear hkk hbb
      go_wp2
      try rw [Exit.noGoto_ret]
      go_ret
      exact ⟨360, [], s, hq, rfl, hL0.out⟩
  have hq : Hid (pAll step kind first count s = pEach step count 65537 first 0 [] s) := Lib.hid (by rw [hA.out, if_neg hbad])
  have hc6 : count ≤ 65536 := by omega
  have hcz : (!((first == 0) == (count == 0))) = false := by
    cases hh : (!((first == 0) == (count == 0))) with
    | false => rfl
    | true => exact absurd (.inr (by simpa [bne] using hh)) hbad
  have hfc : Hid (first = 0 ∨ ((0 : Nat) : Int) < count) := Lib.hid (by
    by_cases e : first = 0
    · exact .inl e
    · right
      have e2 : (first == 0) = false := by simpa using e
      rw [e2] at hcz
      have : ¬ count = 0 := fun h => by rw [h] at hcz; simp at hcz
      omega)
  have b1 : decide (65536 < count) = false := decide_eq_false (by omega)
  clear hbad hA hL0
  have hcnt := Lib.hid hc6
  have HD := Lib.hid d2
  rcases hkk.out with k1 | ⟨k1, k2⟩
  all_goals
    clear hkk
    go_wp2_with fail
    go_step3
    go_wp2_with fail
    go_loopg [7, 8] 65537 (fun gk c7 c8 wr => ∃ (k : Nat) (nx : Int) (l : List Int) (s1 : St) (F1 G1 : Nat → Prop), gk + k = 65537 ∧ c7 = .int .u64 nx ∧ c8 = .int .u64 (k : Int) ∧ 0 ≤ nx ∧ nx ≤ 18446744073709551615 ∧ l.length ≤ k ∧ Hid (nx = 0 ∨ (k : Int) < count) ∧ Hid (pAll step kind first count s = pEach step count gk nx (k : Int) l s1) ∧ Fits s1 ∧ Bud s1 (n + 3 * gk) ∧ Txw wr t F1 s1 ∧ Hid (J wr F1 G1 l) ∧ Hid (Fr F0 w0 (fun k => F1 k ∨ G1 k) wr) ∧ Hid (Blk wr pb 25 #[.int .i64 kind, .int .u64 first, .int .u64 count]) ∧ ¬ F1 pb ∧ ¬ G1 pb)
    case atStart => exact ⟨0, first, [], s, F, G, rfl, rfl, rfl, h1, h1', by simp, hfc, hq, hf, hb, HT.out, HI, HM, HP, hnb, hng⟩
    case round =>
      obtain ⟨k, nx, l, s1, F1, G1, hgk, rfl, rfl, dx, dx', hlk, hcs, hR, hf1, hb1, hT1, hJ1, hM1, hP1, hn1, hg1⟩ := hrel
      clear HT HI HM HP hnb hng hf hb hfc hq d0 d1 d2 HD
      have dP := hP1.out.cell 2
      simp only [List.getElem?_toArray, List.getElem?_cons_zero, List.getElem?_cons_succ] at dP
      by_cases h0 : nx = 0
      · have h0' : (nx != 0) = false := by simpa using h0
        have hq : Hid (pAll step kind first count s = (0, l, s1)) := Lib.hid (by rw [hR.out, pEach_end h0])
        have hfin : Hid (LftJ t n F0 w0 J s1 l wr) := Lib.hid ⟨by omega, hf1, hb1.mono (by omega), F1, G1, hT1, hJ1.out, hM1.out⟩
        clear h0 hT1 hcs hR
        go_wp2
        try rw [Exit.noGoto_ret]
        go_ret
        exact ⟨0, l, s1, hq, rfl, hfin.out⟩
      have h0' : (nx != 0) = true := by simpa using h0
      have hkc := hcs.out.resolve_left h0
      obtain ⟨m, rfl⟩ : ∃ m, gk = m + 1 := ⟨gk - 1, by omega⟩
      have H0 := Lib.hid h0
      obtain ⟨u1, u2⟩ := uw_bd (nx - 1)
      have hb1 : Bud s1 ((n + 3 * m + 2) + 1) := hb1
      have HG := Lib.hid hgk
      have HK := Lib.hid hlk
      have HKC := Lib.hid hkc
      have Hn := Lib.hid hn1
      have Hg := Lib.hid hg1
      clear h0 hcs hgk hlk hkc hn1 hg1
      go_wp2_with fail
      refine (tget_b hT1 hf1 hb1 u1 (Fr.refl F1 wr)).mono ?_
      rintro _ w2 ⟨x2, e2, s2, q2, dx2, dx2', rfl, f2, b2, F2, hT2, hm2⟩
      have hJ2 : Hid (J w2 F2 G1 l) := Lib.hid (HJ.out.keep (fun k hk => hT1.lt k hk) hm2 hJ1.out)
      have hM2 : Hid (Fr F0 w0 (fun k => F2 k ∨ G1 k) w2) := Lib.hid (hM1.out.trans (hm2.side G1))
      have hn2 : Hid (¬ F2 pb) := Lib.hid fun h => (hm2.new pb h).elim Hn.out fun h => by have := hP1.out.lt; omega
      have hP2 : Hid (Blk w2 pb 25 #[.int .i64 kind, .int .u64 first, .int .u64 count]) := Lib.hid (hm2.blk hP1.out Hn.out)
      have q2 : Hid (sget s1 (IntKind.u64.wrap (nx - 1)) = (x2, e2, s2)) := q2
      have b2 : Bud s2 ((n + 3 * m + 1) + 1) := b2
      clear hT1 hf1 hb1 hm2 hJ1 hM1 hP1 dP Hn
      by_cases he2 : e2 = 0
      case neg =>
        have z1 : (e2 == 0) = false := by simpa using he2
        have z2 : (e2 != 0) = true := by simpa using he2
        have hq : Hid (pAll step kind first count s = (e2, l, s2)) := Lib.hid (by rw [hR.out, pEach_e1 H0.out q2.out he2])
        have hfin : Hid (LftJ t n F0 w0 J s2 l w2) := Lib.hid ⟨by have := HG.out; have := HK.out; omega, f2, b2.mono (by omega), F2, G1, hT2, hJ2.out, hM2.out⟩
        clear he2 hT2 hR q2
        go_wp2
        try rw [Exit.noGoto_ret]
        go_ret
        exact ⟨e2, l, s2, hq, rfl, hfin.out⟩
      subst he2
      have HE := HJ.out.ent
      go_wp2_with fail
      clear HE
      refine (HJ.out.call (n := n + 3 * m + 1) hT2 f2 b2 (by have := HG.out; have := HK.out; omega) u1 u2 dx2 dx2' hJ2.out).mono ?_
      rintro _ w3 ⟨e3, l3, s3, q3, rfl, hl3, f3, b3, F3, G3, hT3, hJ3, hm3⟩
      have hM3 : Hid (Fr F0 w0 (fun k => F3 k ∨ G3 k) w3) := Lib.hid (hM2.out.trans hm3)
      have hnn : ¬ (F2 pb ∨ G1 pb) := fun h => h.elim hn2.out Hg.out
      have hlt2 := hP2.out.lt
      have hn3 : Hid (¬ F3 pb) := Lib.hid fun h => (hm3.new pb (.inl h)).elim hnn fun h => by omega
      have hg3 : Hid (¬ G3 pb) := Lib.hid fun h => (hm3.new pb (.inr h)).elim hnn fun h => by omega
      have hP3 : Hid (Blk w3 pb 25 #[.int .i64 kind, .int .u64 first, .int .u64 count]) := Lib.hid (hm3.blk hP2.out hnn)
      have hJ3 := Lib.hid hJ3
      have HL3 := Lib.hid hl3
      have b3 : Bud s3 ((n + 3 * m) + 1) := b3
      have hlen3 : Hid (l3.length ≤ 65537) := Lib.hid (by have := HG.out; have := HK.out; omega)
      clear hT2 f2 b2 hJ2 hM2 hP2 hn2 hm3 hnn hlt2 Hg hl3
      by_cases he3 : e3 = 0
      case neg =>
        have z2 : (e3 != 0) = true := by simpa using he3
        have hq : Hid (pAll step kind first count s = (e3, l3, s3)) := Lib.hid (by rw [hR.out, pEach_e2 H0.out q2.out q3.out he3])
        have hfin : Hid (LftJ t n F0 w0 J s3 l3 w3) := Lib.hid ⟨hlen3.out, f3, b3.mono (by omega), F3, G3, hT3, hJ3.out, hM3.out⟩
        clear he3 hT3 hR q2 q3
        go_wp2
        try rw [Exit.noGoto_ret]
        go_ret
        exact ⟨e3, l3, s3, hq, rfl, hfin.out⟩
      subst he3
      go_wp2_with fail
      refine (tget_b hT3 f3 b3 (uw_bd _).1 (Fr.refl F3 w3)).mono ?_
      rintro _ w4 ⟨x4, e4, s4, q4, dx4, dx4', rfl, f4, b4, F4, hT4, hm4⟩
      have q4 : Hid (sget s3 (uAdd (IntKind.u64.wrap (nx - 1)) 1) = (x4, e4, s4)) := q4
      have hJ4 : Hid (J w4 F4 G3 l3) := Lib.hid (HJ.out.keep (fun k hk => hT3.lt k hk) hm4 hJ3.out)
      have hM4 : Hid (Fr F0 w0 (fun k => F4 k ∨ G3 k) w4) := Lib.hid (hM3.out.trans (hm4.side G3))
      have hn4 : Hid (¬ F4 pb) := Lib.hid fun h => (hm4.new pb h).elim hn3.out fun h => by have := hP3.out.lt; omega
      have hP4 : Hid (Blk w4 pb 25 #[.int .i64 kind, .int .u64 first, .int .u64 count]) := Lib.hid (hm4.blk hP3.out hn3.out)
      clear hT3 f3 b3 hm4 hJ3 hM3 hP3 hn3
      have hfin : Hid (LftJ t n F0 w0 J s4 l3 w4) := Lib.hid ⟨hlen3.out, f4, b4.mono (by omega), F4, G3, hT4, hJ4.out, hM4.out⟩
      by_cases he4 : e4 = 0
      case neg =>
        have z2 : (e4 != 0) = true := by simpa using he4
        have hq : Hid (pAll step kind first count s = (e4, l3, s4)) := Lib.hid (by rw [hR.out, pEach_e3 H0.out q2.out q3.out q4.out he4])
        clear he4 hT4 hR q2 q3 q4
        go_wp2
        try rw [Exit.noGoto_ret]
        go_ret
        exact ⟨e4, l3, s4, hq, rfl, hfin.out⟩
      subst he4
      have hR4 : Hid (pAll step kind first count s = if ((x4 == 0) == ((k : Int) + 1 == count)) = true then pEach step count m x4 ((k : Int) + 1) l3 s4 else (360, l3, s4)) := Lib.hid (by rw [hR.out, pEach_4 H0.out q2.out q3.out q4.out])
      have dP4 := hP4.out.cell 2
      simp only [List.getElem?_toArray, List.getElem?_cons_zero, List.getElem?_cons_succ] at dP4
      have hwk : IntKind.u64.wrap ((k : Int) + 1) = (k : Int) + 1 := by rw [wrap_u64_mod]; have := hcnt.out; have := HKC.out; omega
      clear hR q2 q3 q4
      cases hz : ((x4 == 0) == ((k : Int) + 1 == count))
      · have hq : Hid (pAll step kind first count s = (360, l3, s4)) := Lib.hid (by rw [hR4.out, if_neg (by rw [hz]; decide)])
        clear hR4 hT4
        go_wp2
        try rw [Exit.noGoto_ret]
        go_ret
        exact ⟨360, l3, s4, hq, rfl, hfin.out⟩
      · have hq : Hid (pAll step kind first count s = pEach step count m x4 ((k : Int) + 1) l3 s4) := Lib.hid (by rw [hR4.out, if_pos hz])
        have hcs4 : Hid (x4 = 0 ∨ (((k + 1 : Nat) : Int)) < count) := Lib.hid (by
          by_cases e : x4 = 0
          · exact .inl e
          · right
            have e2 : (x4 == 0) = false := by simpa using e
            rw [e2] at hz
            have : ¬ (k : Int) + 1 = count := fun h => by rw [h] at hz; simp at hz
            have := HKC.out
            omega)
        clear hR4
        go_wp2
        go_roundg m
        case measure => omega
        case rel => exact ⟨k + 1, x4, l3, s4, F4, G3, by have := HG.out; omega, rfl, by simp, dx4, dx4', by have := HL3.out; have := HK.out; omega, hcs4, by simpa using hq, f4, b4, hT4, hJ4, hM4, hP4, hn4.out, hg3.out⟩
end Go.Proofs.Ytcgdpclhlepofaa
/- A part's nodes gone over, by contract. -/
namespace Go.Proofs.Ytcgdpclhlepofaa
open Go.RowKit
set_option maxHeartbeats 4000000
set_option linter.unusedVariables false
set_option linter.unusedSimpArgs false

set_option maxRecDepth 100000 in
theorem eachm_b {t n gf cb : Nat} {F F0 G : Nat → Prop} {s : St} {kind first count : Int} {w w0 : World} {J : World → (Nat → Prop) → (Nat → Prop) → List Int → Prop} {step : Int → Int → List Int → St → Int × List Int × St} (HJ : JLaw t step J gf fun nd wd => #[.int .u64 nd, .int .u64 wd, .pointer (some ⟨cb, 0, none⟩)])
    (hw : Txw w t F s) (hj : J w F G []) (hG : ∀ k, G k → k < w.heap.size) (hf : Fits s) (hb : Bud s (n + 3 * 65537)) (h1 : 0 ≤ first) (h1' : first ≤ 18446744073709551615) (h2 : 0 ≤ count) (h2' : count ≤ 18446744073709551615) (hm : Fr F0 w0 (fun k => F k ∨ G k) w) :
    Calls Try.prog 33 #[.agg #[.int .i64 kind, .int .u64 first, .int .u64 count], .func (.method "Get") #[.iface 26 (.pointer (some ⟨t, 0, none⟩))] #[], .func (.func gf) #[] #[.pointer (some ⟨cb, 0, none⟩)]] w fun e w' =>
      ∃ er l s', Hid (pAll step kind first count s = (er, l, s')) ∧ e = .returned (.int .i64 er) ∧ LftJ t n F0 w0 J s' l w' := by
  have HJ := Lib.hid HJ
  have hpb := Blk.new w 25 #[.int .i64 kind, .int .u64 first, .int .u64 count]
  have hjw := HJ.out.keep (fun k hk => hw.lt k hk) ((Fr.refl F w).alloc (.cells #[.int .i64 kind, .int .u64 first, .int .u64 count] 25)) hj
  have hTw := hw.alloc (.cells #[.int .i64 kind, .int .u64 first, .int .u64 count] 25)
  have hMw := hm.alloc (.cells #[.int .i64 kind, .int .u64 first, .int .u64 count] 25)
  have hnb : ¬ F w.heap.size := fun h => by have := hw.lt _ h; omega
  have hng : ¬ G w.heap.size := fun h => by have := hG _ h; omega
  have d0 := hpb.cell 0
  have d1 := hpb.cell 1
  have d2 := hpb.cell 2
  simp only [List.getElem?_toArray, List.getElem?_cons_zero, List.getElem?_cons_succ] at d0 d1 d2
  have hL0 := Lib.hid (show LftJ t n F0 w0 J s [] (w.alloc (.cells #[.int .i64 kind, .int .u64 first, .int .u64 count] 25)) from ⟨by simp, hf, hb.mono (by omega), F, G, hTw, hjw, hMw⟩)
  have HP := Lib.hid hpb
  have HT := Lib.hid hTw
  have HM := Lib.hid hMw
  have HI := Lib.hid hjw
  clear hpb hTw hMw hjw hw hj hm hG
  by_cases hk : kind ≠ 1 ∧ kind ≠ 2
  · have hq : Hid (pAll step kind first count s = (2, [], s)) := Lib.hid (by unfold pAll; rw [if_pos hk])
    have k1 : (kind != 1) = true := by simpa using hk.1
    have k2 : (kind != 2) = true := by simpa using hk.2
    clear hk
    go_enter Try.func33, Try.ntmps33
    go_wp2
    go_step3
    go_wp2
    try rw [Exit.noGoto_ret]
    go_ret
    exact ⟨2, [], s, hq, rfl, hL0.out⟩
  have hkc : ((kind != 1) = false ∧ kind = 1) ∨ ((kind != 1) = true ∧ (kind != 2) = false) := by
    by_cases e1 : kind = 1
    · exact .inl ⟨by simpa using e1, e1⟩
    · by_cases e2 : kind = 2
      · exact .inr ⟨by simpa using e1, by simpa using e2⟩
      · exact absurd ⟨e1, e2⟩ hk
  have hA : Hid (pAll step kind first count s = if 65536 < count ∨ ((first == 0) != (count == 0)) = true then (360, [], s) else pEach step count 65537 first 0 [] s) := Lib.hid (by unfold pAll; rw [if_neg hk])
  have hkk : Hid (((kind != 1) = false) ∨ ((kind != 1) = true ∧ (kind != 2) = false)) := Lib.hid (hkc.imp (·.1) id)
  clear hk hkc
  go_enter Try.func33, Try.ntmps33
  go_wp2
  go_step3
  generalize hWe : w.alloc (.cells #[.int .i64 kind, .int .u64 first, .int .u64 count] 25) = w1 at *
  have hpbe : w.heap.size < w1.heap.size := by rw [← hWe]; simp
  generalize hpe : w.heap.size = pb at *
  clear hWe hpe
  by_cases hbad : 65536 < count ∨ ((first == 0) != (count == 0)) = true
  · have hq : Hid (pAll step kind first count s = (360, [], s)) := Lib.hid (by rw [hA.out, if_pos hbad])
    have hbb : Hid ((decide (65536 < count) = true) ∨ (decide (65536 < count) = false ∧ (!((first == 0) == (count == 0))) = true)) := Lib.hid (by
      by_cases e : 65536 < count
      · exact .inl (decide_eq_true e)
      · exact .inr ⟨decide_eq_false e, by simpa [bne] using hbad.resolve_left e⟩)
    clear hbad hA
    rcases hkk.out with k1 | ⟨k1, k2⟩
    all_goals rcases hbb.out with b1 | ⟨b1, b2⟩
    all_goals
      clear hkk hbb
      go_wp2
      try rw [Exit.noGoto_ret]
      go_ret
      exact ⟨360, [], s, hq, rfl, hL0.out⟩
  have hq : Hid (pAll step kind first count s = pEach step count 65537 first 0 [] s) := Lib.hid (by rw [hA.out, if_neg hbad])
  have hc6 : count ≤ 65536 := by omega
  have hcz : (!((first == 0) == (count == 0))) = false := by
    cases hh : (!((first == 0) == (count == 0))) with
    | false => rfl
    | true => exact absurd (.inr (by simpa [bne] using hh)) hbad
  have hfc : Hid (first = 0 ∨ ((0 : Nat) : Int) < count) := Lib.hid (by
    by_cases e : first = 0
    · exact .inl e
    · right
      have e2 : (first == 0) = false := by simpa using e
      rw [e2] at hcz
      have : ¬ count = 0 := fun h => by rw [h] at hcz; simp at hcz
      omega)
  have b1 : decide (65536 < count) = false := decide_eq_false (by omega)
  clear hbad hA hL0
  have hcnt := Lib.hid hc6
  have HD := Lib.hid d2
  rcases hkk.out with k1 | ⟨k1, k2⟩
  all_goals
    clear hkk
    go_wp2_with fail
    go_step3
    go_wp2_with fail
    go_loopg [7, 8] 65537 (fun gk c7 c8 wr => ∃ (k : Nat) (nx : Int) (l : List Int) (s1 : St) (F1 G1 : Nat → Prop), gk + k = 65537 ∧ c7 = .int .u64 nx ∧ c8 = .int .u64 (k : Int) ∧ 0 ≤ nx ∧ nx ≤ 18446744073709551615 ∧ l.length ≤ k ∧ Hid (nx = 0 ∨ (k : Int) < count) ∧ Hid (pAll step kind first count s = pEach step count gk nx (k : Int) l s1) ∧ Fits s1 ∧ Bud s1 (n + 3 * gk) ∧ Txw wr t F1 s1 ∧ Hid (J wr F1 G1 l) ∧ Hid (Fr F0 w0 (fun k => F1 k ∨ G1 k) wr) ∧ Hid (Blk wr pb 25 #[.int .i64 kind, .int .u64 first, .int .u64 count]) ∧ ¬ F1 pb ∧ ¬ G1 pb)
    case atStart => exact ⟨0, first, [], s, F, G, rfl, rfl, rfl, h1, h1', by simp, hfc, hq, hf, hb, HT.out, HI, HM, HP, hnb, hng⟩
    case round =>
      obtain ⟨k, nx, l, s1, F1, G1, hgk, rfl, rfl, dx, dx', hlk, hcs, hR, hf1, hb1, hT1, hJ1, hM1, hP1, hn1, hg1⟩ := hrel
      clear HT HI HM HP hnb hng hf hb hfc hq d0 d1 d2 HD
      have dP := hP1.out.cell 2
      simp only [List.getElem?_toArray, List.getElem?_cons_zero, List.getElem?_cons_succ] at dP
      by_cases h0 : nx = 0
      · have h0' : (nx != 0) = false := by simpa using h0
        have hq : Hid (pAll step kind first count s = (0, l, s1)) := Lib.hid (by rw [hR.out, pEach_end h0])
        have hfin : Hid (LftJ t n F0 w0 J s1 l wr) := Lib.hid ⟨by omega, hf1, hb1.mono (by omega), F1, G1, hT1, hJ1.out, hM1.out⟩
        clear h0 hT1 hcs hR
        go_wp2
        try rw [Exit.noGoto_ret]
        go_ret
        exact ⟨0, l, s1, hq, rfl, hfin.out⟩
      have h0' : (nx != 0) = true := by simpa using h0
      have hkc := hcs.out.resolve_left h0
      obtain ⟨m, rfl⟩ : ∃ m, gk = m + 1 := ⟨gk - 1, by omega⟩
      have H0 := Lib.hid h0
      obtain ⟨u1, u2⟩ := uw_bd (nx - 1)
      have hb1 : Bud s1 ((n + 3 * m + 2) + 1) := hb1
      have HG := Lib.hid hgk
      have HK := Lib.hid hlk
      have HKC := Lib.hid hkc
      have Hn := Lib.hid hn1
      have Hg := Lib.hid hg1
      clear h0 hcs hgk hlk hkc hn1 hg1
      go_wp2_with fail
      refine (tget_b hT1 hf1 hb1 u1 (Fr.refl F1 wr)).mono ?_
      rintro _ w2 ⟨x2, e2, s2, q2, dx2, dx2', rfl, f2, b2, F2, hT2, hm2⟩
      have hJ2 : Hid (J w2 F2 G1 l) := Lib.hid (HJ.out.keep (fun k hk => hT1.lt k hk) hm2 hJ1.out)
      have hM2 : Hid (Fr F0 w0 (fun k => F2 k ∨ G1 k) w2) := Lib.hid (hM1.out.trans (hm2.side G1))
      have hn2 : Hid (¬ F2 pb) := Lib.hid fun h => (hm2.new pb h).elim Hn.out fun h => by have := hP1.out.lt; omega
      have hP2 : Hid (Blk w2 pb 25 #[.int .i64 kind, .int .u64 first, .int .u64 count]) := Lib.hid (hm2.blk hP1.out Hn.out)
      have q2 : Hid (sget s1 (IntKind.u64.wrap (nx - 1)) = (x2, e2, s2)) := q2
      have b2 : Bud s2 ((n + 3 * m + 1) + 1) := b2
      clear hT1 hf1 hb1 hm2 hJ1 hM1 hP1 dP Hn
      by_cases he2 : e2 = 0
      case neg =>
        have z1 : (e2 == 0) = false := by simpa using he2
        have z2 : (e2 != 0) = true := by simpa using he2
        have hq : Hid (pAll step kind first count s = (e2, l, s2)) := Lib.hid (by rw [hR.out, pEach_e1 H0.out q2.out he2])
        have hfin : Hid (LftJ t n F0 w0 J s2 l w2) := Lib.hid ⟨by have := HG.out; have := HK.out; omega, f2, b2.mono (by omega), F2, G1, hT2, hJ2.out, hM2.out⟩
        clear he2 hT2 hR q2
        go_wp2
        try rw [Exit.noGoto_ret]
        go_ret
        exact ⟨e2, l, s2, hq, rfl, hfin.out⟩
      subst he2
      have HE := HJ.out.ent
      go_wp2_with fail
      clear HE
      refine (HJ.out.call (n := n + 3 * m + 1) hT2 f2 b2 (by have := HG.out; have := HK.out; omega) u1 u2 dx2 dx2' hJ2.out).mono ?_
      rintro _ w3 ⟨e3, l3, s3, q3, rfl, hl3, f3, b3, F3, G3, hT3, hJ3, hm3⟩
      have hM3 : Hid (Fr F0 w0 (fun k => F3 k ∨ G3 k) w3) := Lib.hid (hM2.out.trans hm3)
      have hnn : ¬ (F2 pb ∨ G1 pb) := fun h => h.elim hn2.out Hg.out
      have hlt2 := hP2.out.lt
      have hn3 : Hid (¬ F3 pb) := Lib.hid fun h => (hm3.new pb (.inl h)).elim hnn fun h => by omega
      have hg3 : Hid (¬ G3 pb) := Lib.hid fun h => (hm3.new pb (.inr h)).elim hnn fun h => by omega
      have hP3 : Hid (Blk w3 pb 25 #[.int .i64 kind, .int .u64 first, .int .u64 count]) := Lib.hid (hm3.blk hP2.out hnn)
      have hJ3 := Lib.hid hJ3
      have HL3 := Lib.hid hl3
      have b3 : Bud s3 ((n + 3 * m) + 1) := b3
      have hlen3 : Hid (l3.length ≤ 65537) := Lib.hid (by have := HG.out; have := HK.out; omega)
      clear hT2 f2 b2 hJ2 hM2 hP2 hn2 hm3 hnn hlt2 Hg hl3
      by_cases he3 : e3 = 0
      case neg =>
        have z2 : (e3 != 0) = true := by simpa using he3
        have hq : Hid (pAll step kind first count s = (e3, l3, s3)) := Lib.hid (by rw [hR.out, pEach_e2 H0.out q2.out q3.out he3])
        have hfin : Hid (LftJ t n F0 w0 J s3 l3 w3) := Lib.hid ⟨hlen3.out, f3, b3.mono (by omega), F3, G3, hT3, hJ3.out, hM3.out⟩
        clear he3 hT3 hR q2 q3
        go_wp2
        try rw [Exit.noGoto_ret]
        go_ret
        exact ⟨e3, l3, s3, hq, rfl, hfin.out⟩
      subst he3
      go_wp2_with fail
      refine (tget_b hT3 f3 b3 (uw_bd _).1 (Fr.refl F3 w3)).mono ?_
      rintro _ w4 ⟨x4, e4, s4, q4, dx4, dx4', rfl, f4, b4, F4, hT4, hm4⟩
      have q4 : Hid (sget s3 (uAdd (IntKind.u64.wrap (nx - 1)) 1) = (x4, e4, s4)) := q4
      have hJ4 : Hid (J w4 F4 G3 l3) := Lib.hid (HJ.out.keep (fun k hk => hT3.lt k hk) hm4 hJ3.out)
      have hM4 : Hid (Fr F0 w0 (fun k => F4 k ∨ G3 k) w4) := Lib.hid (hM3.out.trans (hm4.side G3))
      have hn4 : Hid (¬ F4 pb) := Lib.hid fun h => (hm4.new pb h).elim hn3.out fun h => by have := hP3.out.lt; omega
      have hP4 : Hid (Blk w4 pb 25 #[.int .i64 kind, .int .u64 first, .int .u64 count]) := Lib.hid (hm4.blk hP3.out hn3.out)
      clear hT3 f3 b3 hm4 hJ3 hM3 hP3 hn3
      have hfin : Hid (LftJ t n F0 w0 J s4 l3 w4) := Lib.hid ⟨hlen3.out, f4, b4.mono (by omega), F4, G3, hT4, hJ4.out, hM4.out⟩
      by_cases he4 : e4 = 0
      case neg =>
        have z2 : (e4 != 0) = true := by simpa using he4
        have hq : Hid (pAll step kind first count s = (e4, l3, s4)) := Lib.hid (by rw [hR.out, pEach_e3 H0.out q2.out q3.out q4.out he4])
        clear he4 hT4 hR q2 q3 q4
        go_wp2
        try rw [Exit.noGoto_ret]
        go_ret
        exact ⟨e4, l3, s4, hq, rfl, hfin.out⟩
      subst he4
      have hR4 : Hid (pAll step kind first count s = if ((x4 == 0) == ((k : Int) + 1 == count)) = true then pEach step count m x4 ((k : Int) + 1) l3 s4 else (360, l3, s4)) := Lib.hid (by rw [hR.out, pEach_4 H0.out q2.out q3.out q4.out])
      have dP4 := hP4.out.cell 2
      simp only [List.getElem?_toArray, List.getElem?_cons_zero, List.getElem?_cons_succ] at dP4
      have hwk : IntKind.u64.wrap ((k : Int) + 1) = (k : Int) + 1 := by rw [wrap_u64_mod]; have := hcnt.out; have := HKC.out; omega
      clear hR q2 q3 q4
      cases hz : ((x4 == 0) == ((k : Int) + 1 == count))
      · have hq : Hid (pAll step kind first count s = (360, l3, s4)) := Lib.hid (by rw [hR4.out, if_neg (by rw [hz]; decide)])
        clear hR4 hT4
        go_wp2
        try rw [Exit.noGoto_ret]
        go_ret
        exact ⟨360, l3, s4, hq, rfl, hfin.out⟩
      · have hq : Hid (pAll step kind first count s = pEach step count m x4 ((k : Int) + 1) l3 s4) := Lib.hid (by rw [hR4.out, if_pos hz])
        have hcs4 : Hid (x4 = 0 ∨ (((k + 1 : Nat) : Int)) < count) := Lib.hid (by
          by_cases e : x4 = 0
          · exact .inl e
          · right
            have e2 : (x4 == 0) = false := by simpa using e
            rw [e2] at hz
            have : ¬ (k : Int) + 1 = count := fun h => by rw [h] at hz; simp at hz
            have := HKC.out
            omega)
        clear hR4
        go_wp2
        go_roundg m
        case measure => omega
        case rel => exact ⟨k + 1, x4, l3, s4, F4, G3, by have := HG.out; omega, rfl, by simp, dx4, dx4', by have := HL3.out; have := HK.out; omega, hcs4, by simpa using hq, f4, b4, hT4, hJ4, hM4, hP4, hn4.out, hg3.out⟩
end Go.Proofs.Ytcgdpclhlepofaa
/- Functions held against nil. -/
namespace Go.Proofs.Ytcgdpclhlepofaa
open Go.RowKit
@[go_sem] theorem eqfnG (w : World) (f : Fn) (a b : Array Value) : (binOp BinOp.eql 38 (.func f a b) .nilFunc).run Try.prog w = .ok (.bool false) w := by rfl
@[go_sem] theorem eqfnG0 (w : World) : (binOp BinOp.eql 38 .nilFunc .nilFunc).run Try.prog w = .ok (.bool true) w := by rfl
@[go_sem] theorem eqfnP (w : World) (f : Fn) (a b : Array Value) : (binOp BinOp.eql 36 (.func f a b) .nilFunc).run Try.prog w = .ok (.bool false) w := by rfl
@[go_sem] theorem eqfnP0 (w : World) : (binOp BinOp.eql 36 .nilFunc .nilFunc).run Try.prog w = .ok (.bool true) w := by rfl
@[go_sem] theorem eqfnT (w : World) (f : Fn) (a b : Array Value) : (binOp BinOp.eql 37 (.func f a b) .nilFunc).run Try.prog w = .ok (.bool false) w := by rfl
@[go_sem] theorem eqfnT0 (w : World) : (binOp BinOp.eql 37 .nilFunc .nilFunc).run Try.prog w = .ok (.bool true) w := by rfl
end Go.Proofs.Ytcgdpclhlepofaa
/- A part's words and nodes, by contract. -/
namespace Go.Proofs.Ytcgdpclhlepofaa
open Go.RowKit
set_option maxHeartbeats 4000000
set_option linter.unusedVariables false
set_option linter.unusedSimpArgs false

theorem JSl.new {w w1 : World} {F : Nat → Prop} (hl : ∀ k, F k → k < w1.heap.size) :
    JSl w1.heap.size (w1.alloc (.cells #[.slice none 0 0] 32)) F (fun k => k = w1.heap.size) [] :=
  ⟨none, 0, Blk.new _ _ _, Wl.nil _, fun h => by have := hl _ h; omega, fun k => ⟨.inl, fun h => h.elim id fun h => nomatch h⟩, fun k hk => nomatch hk⟩

set_option maxRecDepth 100000 in
theorem preadv_b {t n : Nat} {F F0 : Nat → Prop} {s : St} {kind first count : Int} {w w0 : World}
    (hw : Txw w t F s) (hf : Fits s) (hb : Bud s (n + 3 * 65537)) (h1 : 0 ≤ first) (h1' : first ≤ 18446744073709551615) (h2 : 0 ≤ count) (h2' : count ≤ 18446744073709551615) (hm : Fr F0 w0 F w) :
    Calls Try.prog 9 #[.agg #[.int .i64 kind, .int .u64 first, .int .u64 count], .func (.func 13) #[.pointer (some ⟨t, 0, none⟩)] #[]] w fun e w' =>
      ∃ v l er s', Hid (pRead kind first count s = (l, er, s')) ∧ e = .returned (.tuple #[v, .int .i64 er]) ∧ LftV t n 0 F0 w0 s' v l w' := by
  have hTw := (hw.alloc (.cells #[.int .i64 kind, .int .u64 first, .int .u64 count] 25))
  have hE : (w.alloc (.cells #[.int .i64 kind, .int .u64 first, .int .u64 count] 25)).heap.size = w.heap.size + 1 := by simp
  have hJ := JSl.new (w := w) (w1 := w.alloc (.cells #[.int .i64 kind, .int .u64 first, .int .u64 count] 25)) fun k hk => hTw.lt k hk
  rw [hE] at hJ
  have hT := hTw.alloc (.cells #[.slice none 0 0] 32)
  have hM := (((hm.alloc (.cells #[.int .i64 kind, .int .u64 first, .int .u64 count] 25)).alloc (.cells #[.slice none 0 0] 32)).into (G := fun k => F k ∨ k = w.heap.size + 1) fun k hk => hk.elim .inl fun h => .inr (.inr (by rw [h]; have := hm.size; omega)))
  have dp := (Blk.new w 25 #[.int .i64 kind, .int .u64 first, .int .u64 count])
  have dp0 := (dp.alloc (.cells #[.slice none 0 0] 32)).cell 0
  have dp1 := (dp.alloc (.cells #[.slice none 0 0] 32)).cell 1
  have dp2 := (dp.alloc (.cells #[.slice none 0 0] 32)).cell 2
  simp only [List.getElem?_toArray, List.getElem?_cons_zero, List.getElem?_cons_succ] at dp0 dp1 dp2
  go_enter Try.func9, Try.ntmps9
  go_wp2_with fail
  refine (each_b (cb := w.heap.size + 1) (readc_law t (w.heap.size + 1)) hT hJ (fun k hk => by rw [hk]; simp) hf hb h1 h1' h2 h2' hM).mono ?_
  rintro _ w3 ⟨er, l, s3, hq, rfl, hL⟩
  obtain ⟨hlen, f3, b3, F3, G3, hT3, ⟨A, cp, hB3, hv3, hF3, hG3, ho3⟩, hM3⟩ := hL
  have dc3 := hB3.cell 0
  simp only [List.getElem?_toArray, List.getElem?_cons_zero] at dc3
  have hM4 : Fr F0 w0 F3 w3 := hM3.into fun k hk => .inl (.inl hk)
  have hV : Hid (LftV t n 0 F0 w0 s3 (.slice A l.length cp) l w3) := Lib.hid ⟨f3, b3, hv3, fun _ _ => Nat.zero_le _, F3, hT3, hM4, fun k hk => (ho3 k hk).1⟩
  have hN : Hid (LftV t n 0 F0 w0 s3 (.slice none 0 0) [] w3) := Lib.hid ⟨f3, b3, Wl.nil _, fun _ _ => Nat.zero_le _, F3, hT3, hM4, fun k hk => nomatch hk⟩
  clear hT hJ hM dp dp0 dp1 dp2 hT3 hB3 hv3 hF3 hG3 ho3 hM3 hM4 hw hm
  by_cases he : er = 0
  · subst he
    have hq2 : Hid (pRead kind first count s = (l, 0, s3)) := Lib.hid (by unfold pRead; rw [hq.out]; rfl)
    clear hq
    go_wp2
    go_ret2
    exact ⟨_, l, 0, s3, hq2, rfl, hV.out⟩
  · have z : (er != 0) = true := by simpa using he
    have hq2 : Hid (pRead kind first count s = ([], er, s3)) := Lib.hid (by unfold pRead; rw [hq.out]; simp only; rw [if_pos z])
    clear hq he
    go_wp2
    go_ret2
    exact ⟨_, [], er, s3, hq2, rfl, hN.out⟩

set_option maxRecDepth 100000 in
theorem pnodes_b {t n : Nat} {F F0 : Nat → Prop} {s : St} {kind first count : Int} {w w0 : World}
    (hw : Txw w t F s) (hf : Fits s) (hb : Bud s (n + 3 * 65537)) (h1 : 0 ≤ first) (h1' : first ≤ 18446744073709551615) (h2 : 0 ≤ count) (h2' : count ≤ 18446744073709551615) (hm : Fr F0 w0 F w) :
    Calls Try.prog 38 #[.iface 26 (.pointer (some ⟨t, 0, none⟩)), .agg #[.int .i64 kind, .int .u64 first, .int .u64 count]] w fun e w' =>
      ∃ v l er s', Hid (pNodes kind first count s = (l, er, s')) ∧ e = .returned (.tuple #[v, .int .i64 er]) ∧ LftV t n 0 F0 w0 s' v l w' := by
  have hTw := (hw.alloc (.cells #[.int .i64 kind, .int .u64 first, .int .u64 count] 25))
  have hE : (w.alloc (.cells #[.int .i64 kind, .int .u64 first, .int .u64 count] 25)).heap.size = w.heap.size + 1 := by simp
  have hJ := JSl.new (w := w) (w1 := w.alloc (.cells #[.int .i64 kind, .int .u64 first, .int .u64 count] 25)) fun k hk => hTw.lt k hk
  rw [hE] at hJ
  have hT := hTw.alloc (.cells #[.slice none 0 0] 32)
  have hM := (((hm.alloc (.cells #[.int .i64 kind, .int .u64 first, .int .u64 count] 25)).alloc (.cells #[.slice none 0 0] 32)).into (G := fun k => F k ∨ k = w.heap.size + 1) fun k hk => hk.elim .inl fun h => .inr (.inr (by rw [h]; have := hm.size; omega)))
  have dp := (Blk.new w 25 #[.int .i64 kind, .int .u64 first, .int .u64 count])
  have dp0 := (dp.alloc (.cells #[.slice none 0 0] 32)).cell 0
  have dp1 := (dp.alloc (.cells #[.slice none 0 0] 32)).cell 1
  have dp2 := (dp.alloc (.cells #[.slice none 0 0] 32)).cell 2
  simp only [List.getElem?_toArray, List.getElem?_cons_zero, List.getElem?_cons_succ] at dp0 dp1 dp2
  go_enter Try.func38, Try.ntmps38
  go_wp2_with fail
  have hTd := hT.drew
  have hJd : JSl (w.heap.size + 1) ((w.alloc (.cells #[.int .i64 kind, .int .u64 first, .int .u64 count] 25)).alloc (.cells #[.slice none 0 0] 32)).drew F (fun k => k = w.heap.size + 1) [] := hJ
  have hMd := hM.drew
  go_region_with (go_at_call 33; refine (eachm_b (cb := w.heap.size + 1) (nodec_law t (w.heap.size + 1)) hTd hJd (fun k hk => by rw [hk]; simp) hf hb h1 h1' h2 h2' hMd).mono ?_; rintro _ w3 ⟨er, l, s3, hq, rfl, hlen, f3, b3, F3, G3, hT3, ⟨A, cp, hB3, hv3, hF3, hG3, ho3⟩, hM3⟩)
  all_goals
    have dc3 := hB3.cell 0
    simp only [List.getElem?_toArray, List.getElem?_cons_zero] at dc3
    have hM4 : Fr F0 w0 F3 w3 := hM3.into fun k hk => .inl (.inl hk)
    have hV : Hid (LftV t n 0 F0 w0 s3 (.slice A l.length cp) l w3) := Lib.hid ⟨f3, b3, hv3, fun _ _ => Nat.zero_le _, F3, hT3, hM4, fun k hk => (ho3 k hk).1⟩
    have hq2 : Hid (pNodes kind first count s = (l, er, s3)) := Lib.hid (by unfold pNodes; rw [hq.out])
    clear hT hJ hM dp dp0 dp1 dp2 hT3 hB3 hv3 hF3 hG3 ho3 hM3 hM4 hw hm hq
    go_wp2
    go_ret2
    exact ⟨_, l, er, s3, hq2, rfl, hV.out⟩
end Go.Proofs.Ytcgdpclhlepofaa
