/- The skip list's search, by its contract. -/
import Derived.Test.YtgbgodhkehnbdaaSkA
import Derived.Test.YtgbgodhkehnbdaaScope
import Derived.Deep.RegionWith
import Derived.Test.YtgbgodhkehnbdaaLits
namespace Go.Proofs.Ytgbgodhkehnbdaa
open Go.RowKit
set_option maxHeartbeats 2000000
set_option linter.unusedVariables false
set_option linter.unusedSimpArgs false

def fndCells (f : Found) : List Value := u64s f.cell ++ u64s f.link ++ [.int .u64 f.word]
/-- What a search has found lies in block b. -/
structure Fnd (w : World) (b : Nat) (f : Found) : Prop where
  c : f.cell.length = 8
  l : f.link.length = 8
  blk : Blk w b 67 (fndCells f).toArray
section
variable {w w' : World} {b : Nat} {f : Found}
theorem u64s_get (l : List Int) (k : Nat) (h : k < l.length) : (u64s l)[k]? = some (.int .u64 (l.getD k 0)) := by
  unfold u64s
  rw [List.getElem?_map, List.getElem?_eq_getElem h, List.getD_eq_getElem?_getD, List.getElem?_eq_getElem h]
  rfl
theorem u64s_set (l : List Int) (k : Nat) (x : Int) : u64s (l.set k x) = (u64s l).set k (.int .u64 x) := by unfold u64s; rw [List.map_set]
theorem u64s_length (l : List Int) : (u64s l).length = l.length := by unfold u64s; simp
theorem Fnd.atc (h : Fnd w b f) (k : Nat) (hk : k < 8) : w.cell? ⟨b, k, none⟩ = some (.int .u64 (f.cell.getD k 0)) := by
  have e1 := h.c
  have e2 := h.l
  rw [h.blk.cell, List.getElem?_toArray]
  unfold fndCells
  rw [List.append_assoc, List.getElem?_append_left (by rw [u64s_length]; omega), u64s_get _ _ (by omega)]
theorem Fnd.atl (h : Fnd w b f) (k : Nat) (hk : k < 8) : w.cell? ⟨b, 8 + k, none⟩ = some (.int .u64 (f.link.getD k 0)) := by
  have e1 := h.c
  have e2 := h.l
  rw [h.blk.cell, List.getElem?_toArray]
  unfold fndCells
  rw [List.append_assoc, List.getElem?_append_right (by rw [u64s_length]; omega), u64s_length, h.c, show 8 + k - 8 = k by omega, List.getElem?_append_left (by rw [u64s_length]; omega), u64s_get _ _ (by omega)]
theorem Fnd.atw (h : Fnd w b f) : w.cell? ⟨b, 16, none⟩ = some (.int .u64 f.word) := by
  have e1 := h.c
  have e2 := h.l
  rw [h.blk.cell, List.getElem?_toArray]
  unfold fndCells
  rw [List.getElem?_append_right (by simp [u64s_length]; omega)]
  simp [u64s_length, h.c, h.l]
theorem Fnd.free (h : Fnd w b f) (i : Nat) : w.frozen? ⟨b, i, none⟩ = false := h.blk.frozen i
theorem Fnd.setc (h : Fnd w b f) (k : Nat) (hk : k < 8) (x : Int) : Fnd (w.setCell ⟨b, k, none⟩ (.int .u64 x)) b { f with cell := f.cell.set k x } := by
  have e1 := h.c
  have e2 := h.l
  refine ⟨by simpa using h.c, h.l, ?_⟩
  have := h.blk.set_ k (.int .u64 x)
  rw [List.setIfInBounds_toArray] at this
  unfold fndCells at *
  rw [u64s_set]
  rw [List.append_assoc, List.set_append_left _ _ (by rw [u64s_length]; omega)] at this
  simpa using this
theorem Fnd.setl (h : Fnd w b f) (k : Nat) (hk : k < 8) (x : Int) : Fnd (w.setCell ⟨b, 8 + k, none⟩ (.int .u64 x)) b { f with link := f.link.set k x } := by
  have e1 := h.c
  have e2 := h.l
  refine ⟨h.c, by simpa using h.l, ?_⟩
  have := h.blk.set_ (8 + k) (.int .u64 x)
  rw [List.setIfInBounds_toArray] at this
  unfold fndCells at *
  rw [u64s_set]
  rw [List.append_assoc, List.set_append_right _ _ (by rw [u64s_length]; omega), u64s_length, h.c, show 8 + k - 8 = k by omega, List.set_append_left _ _ (by rw [u64s_length]; omega)] at this
  simpa using this
theorem Fnd.setw (h : Fnd w b f) (x : Int) : Fnd (w.setCell ⟨b, 16, none⟩ (.int .u64 x)) b { f with word := x } := by
  have e1 := h.c
  have e2 := h.l
  refine ⟨h.c, h.l, ?_⟩
  have := h.blk.set_ 16 (.int .u64 x)
  rw [List.setIfInBounds_toArray] at this
  unfold fndCells at *
  rw [List.set_append_right _ _ (by simp [u64s_length]; omega)] at this
  simpa [u64s_length, h.c, h.l] using this
theorem Fnd.drewN (h : Fnd w b f) (n : Nat) : Fnd (w.drewN n) b f := ⟨h.c, h.l, h.blk⟩
theorem Fnd.alloc (h : Fnd w b f) (o : Obj) : Fnd (w.alloc o) b f := ⟨h.c, h.l, h.blk.alloc o⟩
theorem Fnd.fr (h : Fnd w b f) {G G' : Nat → Prop} (hf : Fr G w G' w') (hG : ¬ G b) : Fnd w' b f := ⟨h.c, h.l, hf.blk h.blk hG⟩
end

section
variable {x : Int} {past : Bool} {m k words : Nat} {base link er : Int} {f : Found} {s s' s2 : St}
theorem skGo_err (h : sget s (uAdd base k) = (link, er, s')) (he : (er != 0) = true) : skGo x past (m + 1) base k words f s = (f, er, s') := by
  rw [skGo]; simp only; rw [h]; simp only; rw [if_neg (by simp [he])]
theorem skGo_zero (h : sget s (uAdd base k) = (link, 0, s')) (hl : link = 0) (hk : 0 < k) : skGo x past (m + 1) base k words f s = skGo x past m base (k - 1) words { f with cell := f.cell.set k (uAdd base k), link := f.link.set k link } s' := by
  rw [skGo]; simp only; rw [h]; simp only; rw [if_pos (by decide), if_pos (by simp [hl]), if_pos hk]
theorem skGo_zero0 (h : sget s (uAdd base k) = (link, 0, s')) (hl : link = 0) (hk : k = 0) : skGo x past (m + 1) base k words f s = ({ f with cell := f.cell.set k (uAdd base k), link := f.link.set k link }, 0, s') := by
  rw [skGo]; simp only; rw [h]; simp only; rw [if_pos (by decide), if_pos (by simp [hl]), if_neg (by omega)]
theorem skGo_long (h : sget s (uAdd base k) = (link, 0, s')) (hl : link ≠ 0) (hw : 65536 < words + 1) : skGo x past (m + 1) base k words f s = ({ f with cell := f.cell.set k (uAdd base k), link := f.link.set k link }, 320, s') := by
  rw [skGo]; simp only; rw [h]; simp only; rw [if_pos (by decide), if_neg (by simp [hl]), if_pos hw]
theorem skGo_err2 {w e2 : Int} (h : sget s (uAdd base k) = (link, 0, s')) (hl : link ≠ 0) (hw : ¬ 65536 < words + 1) (h2 : sget s' (IntKind.u64.wrap (link - 1)) = (w, e2, s2)) (he : (e2 != 0) = true) :
    skGo x past (m + 1) base k words f s = ({ f with cell := f.cell.set k (uAdd base k), link := f.link.set k link, word := w }, e2, s2) := by
  rw [skGo]; simp only; rw [h]; simp only; rw [if_pos (by decide), if_neg (by simp [hl]), if_neg hw, h2]; simp only; rw [if_neg (by simp [he])]
theorem skGo_next {w : Int} (h : sget s (uAdd base k) = (link, 0, s')) (hl : link ≠ 0) (hw : ¬ 65536 < words + 1) (h2 : sget s' (IntKind.u64.wrap (link - 1)) = (w, 0, s2)) (hx : w < x ∨ (past = true ∧ w = x)) :
    skGo x past (m + 1) base k words f s = skGo x past m (uAdd link 1) k (words + 1) { f with cell := f.cell.set k (uAdd base k), link := f.link.set k link, word := w } s2 := by
  rw [skGo]; simp only; rw [h]; simp only; rw [if_pos (by decide), if_neg (by simp [hl]), if_neg hw, h2]; simp only; rw [if_pos (by decide), if_pos hx]
theorem skGo_down {w : Int} (h : sget s (uAdd base k) = (link, 0, s')) (hl : link ≠ 0) (hw : ¬ 65536 < words + 1) (h2 : sget s' (IntKind.u64.wrap (link - 1)) = (w, 0, s2)) (hx : ¬ (w < x ∨ (past = true ∧ w = x))) (hk : 0 < k) :
    skGo x past (m + 1) base k words f s = skGo x past m base (k - 1) (words + 1) { f with cell := f.cell.set k (uAdd base k), link := f.link.set k link, word := w } s2 := by
  rw [skGo]; simp only; rw [h]; simp only; rw [if_pos (by decide), if_neg (by simp [hl]), if_neg hw, h2]; simp only; rw [if_pos (by decide), if_neg hx, if_pos hk]
theorem skGo_end {w : Int} (h : sget s (uAdd base k) = (link, 0, s')) (hl : link ≠ 0) (hw : ¬ 65536 < words + 1) (h2 : sget s' (IntKind.u64.wrap (link - 1)) = (w, 0, s2)) (hx : ¬ (w < x ∨ (past = true ∧ w = x))) (hk : k = 0) :
    skGo x past (m + 1) base k words f s = ({ f with cell := f.cell.set k (uAdd base k), link := f.link.set k link, word := w }, 0, s2) := by
  rw [skGo]; simp only; rw [h]; simp only; rw [if_pos (by decide), if_neg (by simp [hl]), if_neg hw, h2]; simp only; rw [if_pos (by decide), if_neg hx, if_neg (by omega)]
end
/-- What a search leaves behind. -/
def LftF (t n B : Nat) (F0 : Nat → Prop) (w0 : World) (s' : St) (f : Found) (er : Int) (P : Option Addr) (w' : World) : Prop :=
  Fits s' ∧ Bud s' n ∧ ∃ F', Txw w' t F' s' ∧ Fr F0 w0 F' w' ∧ (er = 0 → ∃ fb, P = some ⟨fb, 0, none⟩ ∧ B ≤ fb ∧ Fnd w' fb f ∧ ¬ F' fb)

theorem lits91 (us : List Value) (h : us.length = 91) : ∃ f : Nat → Value, us = [f 0, f 1, f 2, f 3, f 4, f 5, f 6, f 7, f 8, f 9, f 10, f 11, f 12, f 13, f 14, f 15, f 16, f 17, f 18, f 19, f 20, f 21, f 22, f 23, f 24, f 25, f 26, f 27, f 28, f 29, f 30, f 31, f 32, f 33, f 34, f 35, f 36, f 37, f 38, f 39, f 40, f 41, f 42, f 43, f 44, f 45, f 46, f 47, f 48, f 49, f 50, f 51, f 52, f 53, f 54, f 55, f 56, f 57, f 58, f 59, f 60, f 61, f 62, f 63, f 64, f 65, f 66, f 67, f 68, f 69, f 70, f 71, f 72, f 73, f 74, f 75, f 76, f 77, f 78, f 79, f 80, f 81, f 82, f 83, f 84, f 85, f 86, f 87, f 88, f 89, f 90] :=
  ⟨fun i => us.getD i undef, by have e := eq_map_range us; rw [h] at e; exact e⟩
/-- What holds at the search's label. -/
def SkJ (t n fb H : Nat) (F0 : Nat → Prop) (w0 : World) (s : St) (a x : Int) (past : Bool) (gk : Nat) (a' : Act) (w' : World) : Prop :=
  ∃ (base : Int) (k words : Nat) (f : Found) (s1 : St) (F1 : Nat → Prop), (∃ us : List Value, us.length = 91 ∧ a' = ⟨(.iface 29 (.pointer (some ⟨t, 0, none⟩)) :: .int .u64 a :: .int .u64 x :: .bool past :: undef :: undef :: undef :: undef :: .pointer none :: .int .i64 0 :: .pointer (some ⟨fb, 0, none⟩) :: .int .u64 base :: .int .i64 (k : Int) :: .int .i64 (words : Int) :: us).toArray, []⟩) ∧
    0 ≤ base ∧ k < 8 ∧ words ≤ 65536 ∧ 65537 - words + k ≤ gk ∧ Hid (skSearch s a x past = skGo x past gk base k words f s1) ∧ Fits s1 ∧ Bud s1 (n + 2 * gk) ∧ Txw w' t F1 s1 ∧ Fr F0 w0 F1 w' ∧ Fnd w' fb f ∧ ¬ F1 fb ∧ H ≤ w'.heap.size

set_option maxRecDepth 100000 in
theorem sksearch_b {t n : Nat} {F F0 : Nat → Prop} {s : St} {a x : Int} {past : Bool} {w w0 : World} (hw : Txw w t F s) (hf : Fits s) (hb : Bud s (n + 131090)) (ha : 0 ≤ a) (hm : Fr F0 w0 F w) :
    Calls Try.prog 27 #[.iface 29 (.pointer (some ⟨t, 0, none⟩)), .int .u64 a, .int .u64 x, .bool past] w fun e w' => ∃ f er s' P, Hid (skSearch s a x past = (f, er, s')) ∧ e = .returned (.tuple #[.pointer P, .int .i64 er]) ∧ LftF t n w.heap.size F0 w0 s' f er P w' := by
  go_enter Try.func27, Try.ntmps27
  go_wp2
  have hlt := hw.lt
  have hH : Fr F0 w0 F (w.alloc (.cells (fndCells noFound).toArray 67)) := hm.alloc _
  have hT : Txw (w.alloc (.cells (fndCells noFound).toArray 67)) t F s := hw.alloc _
  have hN : Fnd (w.alloc (.cells (fndCells noFound).toArray 67)) w.heap.size noFound := ⟨rfl, rfl, Blk.new _ _ _⟩
  have hF : ¬ F w.heap.size := fun h => by have := hlt _ h; omega
  have hS : w.heap.size ≤ (w.alloc (.cells (fndCells noFound).toArray 67)).heap.size := by simp
  refine wp_scope_ghost 0 (SkJ t n w.heap.size w.heap.size F0 w0 s a x past) rfl ?_ ?_
  case refine_2 =>
    intro K hK
    have hK' := Lib.hid hK
    clear hK hlt
    go_wp2
    go_step3
    rename_i K2 hK2
    refine hK2 _ _ (hK'.out 65545 _ _ ⟨a, 7, 0, noFound, s, F, ⟨_, rfl, rfl⟩, ha, by omega, by omega, by omega, Lib.hid rfl, hf, hb, hT, hH, hN, hF, hS⟩)
  case refine_1 =>
    clear hT hH hN hF hS hlt
    intro gk a' wr hJ K hK
    obtain ⟨base, k, words, f, s1, F1, hU, hb0, hk, hwd, hgk, hL1, hf1, hb1, hw1, hm1, hf1', hn1, hH1⟩ := hJ
    obtain ⟨us, hus, rfl⟩ := hU
    obtain ⟨u, rfl⟩ := lits91 us hus
    clear hus
    have hK' := Lib.hid hK
    have hms := hm.size
    generalize hfbe : w.heap.size = fb at *
    have Hfb := Lib.hid hfbe
    clear hfbe
    have hF1 := Lib.hid hf1'
    have hW1 := Lib.hid hw1
    have hM1 := Lib.hid hm1
    have hG := Lib.hid hgk
    have d1 := hf1'.atc k hk
    have z1 := hf1'.free k
    have hki : (k : Int) < 8 := by omega
    have hki0 : (0 : Int) ≤ (k : Int) := by omega
    clear hK hm hw hf hb hm1 hw1 hf1' hgk
    go_wp2
    have hF2 := Lib.hid (hF1.out.setc k hk base)
    have hW2 := Lib.hid (hW1.out.set (p := ⟨fb, k, none⟩) hn1 (.int .u64 base))
    have hM2 := Lib.hid (hM1.out.set (p := ⟨fb, k, none⟩) (.inr (.inr hms)) (.int .u64 base))
    have hH2 : fb ≤ (wr.setCell ⟨fb, k, none⟩ (.int .u64 base)).heap.size := by simpa [World.setCell] using hH1
    generalize wr.setCell ⟨fb, k, none⟩ (.int .u64 base) = w2 at *
    have d2 := hF2.out.atc k hk
    have e2 : ({ f with cell := f.cell.set k base } : Found).cell.getD k 0 = base := by
      have := hF1.out.c
      simp [List.getD_eq_getElem?_getD, List.getElem?_set, this, hk]
    rw [e2] at d2
    have z2 := hF2.out.free k
    have hwr : IntKind.u64.wrap (k : Int) = (k : Int) := IntWalk.u64_in _ (by omega)
    clear d1 z1 e2
    refine wp_region_mix (fun _ => True) [3, 3, 3, 3, 3, 1, 3, 3, 3, 3, 3, 3, 2] (List.range 13) (by kernel_rfl) (by kernel_rfl) (fun _ _ h => h) trivial ?_
    repeat ((first | refine wpMix_pure rfl rfl (fun K hK => ?_) | refine wpMix_loc rfl rfl (fun K hK => ?_) | refine wpMix_any rfl rfl (fun K hK => ?_)); go_simp; refine hK _ _ ?_; clear hK K)
    refine wpMix_loud rfl rfl (fun n2 K hK => ?_)
    go_wp2
    refine hK _ _ (fun _ => trivial) ?_; clear hK K
    refine wpMix_nil (fun n3 => ?_)
    obtain ⟨w3, hw3⟩ : ∃ v, v = ((w2.drewN (1 + n2)).setCell ⟨fb, k, none⟩ (.int .u64 (IntKind.u64.wrap (base + k)))).drewN n3 := ⟨_, rfl⟩
    obtain ⟨c, hc⟩ : ∃ c, c = IntKind.u64.wrap (base + k) := ⟨_, rfl⟩
    have hc0 : 0 ≤ c := by rw [hc]; exact (uw_bd _).1
    have hF3 : Hid (Fnd w3 fb { f with cell := f.cell.set k c }) := Lib.hid (by
      have := ((hF2.out.drewN (1 + n2)).setc k hk (IntKind.u64.wrap (base + k))).drewN n3
      rw [hw3, hc]
      simpa [List.set_set] using this)
    have hW3 : Hid (Txw w3 t F1 s1) := Lib.hid (by rw [hw3]; exact ((hW2.out.drewN _).set (p := ⟨fb, k, none⟩) hn1 _).drewN _)
    have hM3 : Hid (Fr F0 w0 F1 w3) := Lib.hid (by rw [hw3]; exact ((hM2.out.drewN _).set (p := ⟨fb, k, none⟩) (.inr (.inr hms)) _).drewN _)
    have hH3 : fb ≤ w3.heap.size := by rw [hw3]; simpa [World.setCell] using hH2
    have Hc := Lib.hid hc
    rw [← hw3]
    rw [← hc]
    clear hw3 hc hF1 hW1 hM1 hF2 hW2 hM2 hH1 hH2 d2 z2 hwr
    have d3 := hF3.out.atc k hk
    have e3 : ({ f with cell := f.cell.set k c } : Found).cell.getD k 0 = c := by
      have := hF3.out.c
      simp only [List.length_set] at this
      simp [List.getD_eq_getElem?_getD, List.getElem?_set, this, hk]
    rw [e3] at d3
    have z3 := hF3.out.free (8 + k)
    clear e3
    go_wp2
    refine wp_region_mix (fun W' => W'.cell? ⟨fb, k, none⟩ = some (.int .u64 c)) [3, 3, 3, 3, 3, 3, 0, 2, 3, 3, 2, 3, 3, 3, 3, 3] (List.range 16) (by kernel_rfl) (by kernel_rfl) (fun _ _ h => h) d3 ?_
    repeat (first | ((first | refine wpMix_pure rfl rfl (fun K hK => ?_) | refine wpMix_loc rfl rfl (fun K hK => ?_) | refine wpMix_any rfl rfl (fun K hK => ?_)); go_simp; refine hK _ _ ?_; clear hK K) | (refine wpMix_any rfl rfl (fun K hK => ?_); rw [if_pos (by go_simp)]; apply Exists.intro; refine And.intro (fun w2 hS2 => ?_) (hK _ _ ?_); (focus (obtain hs1 := hS2; go_simp; rfl)); clear hK K))
    refine wpMix_loud rfl rfl (fun n4 K hK => ?_)
    go_wp2
    refine hK _ _ (fun _ => d3) ?_; clear hK K
    repeat (first | ((first | refine wpMix_pure rfl rfl (fun K hK => ?_) | refine wpMix_loc rfl rfl (fun K hK => ?_) | refine wpMix_any rfl rfl (fun K hK => ?_)); go_simp; refine hK _ _ ?_; clear hK K) | (refine wpMix_any rfl rfl (fun K hK => ?_); rw [if_pos (by go_simp)]; apply Exists.intro; refine And.intro (fun w2 hS2 => ?_) (hK _ _ ?_); (focus (obtain hs1 := hS2; go_simp; rfl)); clear hK K))
    refine wpMix_loud rfl rfl (fun n5 K hK => ?_)
    obtain ⟨m, rfl⟩ : ∃ m, gk = m + 1 := ⟨gk - 1, by have := hG.out; omega⟩
    have hb1' : Bud s1 ((n + 2 * m + 1) + 1) := hb1
    go_wp2_with fail
    refine (tget_b (hW3.out.drewN _) hf1 hb1' hc0 (Fr.refl _ _)).mono ?_
    rintro e w5 ⟨lk, er, s5, q5, dx, dx', rfl, f5, b5, F5, hw5, hm5⟩
    have hF5 : Hid (Fnd w5 fb { f with cell := f.cell.set k c }) := Lib.hid ((hF3.out.drewN _).fr hm5 hn1)
    have hn5 : ¬ F5 fb := (hm5.apart (G := fun j => j = fb) (fun j hj => by subst hj; exact ⟨by have := hF3.out.blk.lt; simpa using this, hn1⟩) fb rfl).2
    have hM5 : Hid (Fr F0 w0 F5 w5) := Lib.hid ((hM3.out.drewN _).trans hm5)
    have hW5 := Lib.hid hw5
    have hH5 : fb ≤ w5.heap.size := Nat.le_trans hH3 hm5.size
    have d5 := hF5.out.atl k hk
    have z5 := hF5.out.free (8 + k)
    have hq5 : Hid (sget s1 (uAdd base k) = (lk, er, s5)) := Lib.hid (by have := q5.out; rw [Hc.out] at this; exact this)
    clear hw5 hm5 hF3 hW3 hM3 hH3 q5 d3 z3 hn1 hb1 hb1'
    go_wp2
    refine hK _ _ (fun h => (Bool.false_ne_true ((Eq.symm (by kernel_rfl)).trans h)).elim) ?_; clear hK K
    repeat ((first | refine wpMix_pure rfl rfl (fun K hK => ?_) | refine wpMix_loc rfl rfl (fun K hK => ?_) | refine wpMix_any rfl rfl (fun K hK => ?_)); go_simp; refine hK _ _ ?_; clear hK K)
    refine wpMix_nil (fun n6 => ?_)
    have hF5 := Lib.hid (hF5.out.drewN n6)
    have hM5 := Lib.hid (hM5.out.drewN n6)
    have hW5 := Lib.hid (hW5.out.drewN n6)
    have hH5 : fb ≤ (w5.drewN n6).heap.size := hH5
    have d5 := hF5.out.atl k hk
    have z5 := hF5.out.free (8 + k)
    generalize w5.drewN n6 = w6 at *
    by_cases he : er = 0
    case neg =>
      have hz : (er != 0) = true := by simpa using he
      go_wp2
      go_ret2
      refine ⟨f, er, s5, none, Lib.hid (hL1.out.trans (skGo_err hq5.out hz)), rfl, f5, b5.mono (by omega), F5, hW5.out, hM5.out, fun h => absurd h he⟩
    subst he
    -- the link is stored
    have hF7 := Lib.hid (hF5.out.setl k hk lk)
    have hM7 := Lib.hid (hM5.out.set (p := ⟨fb, 8 + k, none⟩) (.inr (.inr hms)) (.int .u64 lk))
    have hW7 := Lib.hid (hW5.out.set (p := ⟨fb, 8 + k, none⟩) hn5 (.int .u64 lk))
    have hH7 : fb ≤ (w6.setCell ⟨fb, 8 + k, none⟩ (.int .u64 lk)).heap.size := by simpa [World.setCell] using hH5
    have hc8 : { f with cell := f.cell.set k c, link := f.link.set k lk } = ({ f with cell := f.cell.set k (uAdd base k), link := f.link.set k lk } : Found) := by rw [Hc.out]; rfl
    have Hc8 := Lib.hid hc8
    clear hc8 hF5 hM5 hW5
    by_cases hl : lk = 0
    · have hl2 : (lk != 0) = false := by simp [hl]
      by_cases hk0 : k = 0
      · have hk2 : ¬ 0 < k := by omega
        have hend := Lib.hid (hL1.out.trans (skGo_zero0 hq5.out hl hk0))
        clear hl hk0
        go_wp2
        go_ret2
        exact ⟨_, 0, s5, _, hend, rfl, f5, b5.mono (by omega), F5, hW7.out, hM7.out, fun _ => ⟨fb, rfl, by rw [Hfb.out]; exact Nat.le_refl _, by rw [← Hc8.out]; exact hF7.out, hn5⟩⟩
      · have hk2 : 0 < k := by omega
        obtain ⟨kd, hkd⟩ : ∃ kd : Nat, (k : Int) - 1 = (kd : Int) := ⟨k - 1, by omega⟩
        have hkd' := Lib.hid (show k - 1 = kd by omega)
        have hnx := Lib.hid (hL1.out.trans (skGo_zero hq5.out hl hk2))
        clear hl hk0
        go_wp2
        go_step3
        refine ⟨rfl, hK'.out m _ _ (Nat.lt_succ_self _) ⟨base, kd, words, _, s5, F5, ⟨_, rfl, rfl⟩, hb0, by omega, hwd, by have := hG.out; omega, by have h := hnx.out; rw [hkd'.out, ← Hc8.out] at h; exact Lib.hid h, f5, b5.mono (by omega), hW7.out, hM7.out, hF7.out, hn5, hH7⟩⟩
    · have hl2 : (lk != 0) = true := by simpa using hl
      have Hl := Lib.hid hl
      clear hl
      obtain ⟨wd, hwd1⟩ : ∃ wd : Int, (words : Int) + 1 = wd := ⟨_, rfl⟩
      have hwd2 : 1 ≤ wd := by omega
      have hwd3 : wd ≤ 65537 := by omega
      by_cases hw6 : words = 65536
      · have hend := Lib.hid (hL1.out.trans (skGo_long hq5.out Hl.out (by omega)))
        have hwt : decide ((65536 : Int) < wd) = true := decide_eq_true (by omega)
        clear hw6 hwd2 hwd3
        go_wp2
        go_ret2
        exact ⟨_, 320, s5, none, hend, rfl, f5, b5.mono (by omega), F5, hW7.out, hM7.out, fun h => by cases h⟩
      · have hw7 := Lib.hid (show ¬ 65536 < words + 1 by omega)
        have hwt : decide ((65536 : Int) < wd) = false := decide_eq_false (by omega)
        have hwi := Lib.hid (show words + 1 ≤ 65536 by omega)
        clear hw6
        go_wp2_with fail
        refine (tget_b hW7.out f5 b5 (uw_bd _).1 (Fr.refl _ _)).mono ?_
        rintro e w8 ⟨y, e8, s8, q8, dy, dy', rfl, f8, b8, F8, hw8, hm8⟩
        have hF8 := Lib.hid ((hF7.out.fr hm8 hn5).setw y)
        have hn8 : ¬ F8 fb := (hm8.apart (G := fun j => j = fb) (fun j hj => by subst hj; exact ⟨hF7.out.blk.lt, hn5⟩) fb rfl).2
        have hM8 := Lib.hid ((hM7.out.trans hm8).set (p := ⟨fb, 16, none⟩) (.inr (.inr hms)) (.int .u64 y))
        have hW8 := Lib.hid (hw8.set (p := ⟨fb, 16, none⟩) hn8 (.int .u64 y))
        have hH8 : fb ≤ (w8.setCell ⟨fb, 16, none⟩ (.int .u64 y)).heap.size := by simpa [World.setCell] using Nat.le_trans hH7 hm8.size
        have d8 := (hF7.out.fr hm8 hn5).atw
        have z8 := (hF7.out.fr hm8 hn5).free 16
        have d9 := hF8.out.atw
        simp only at d8 d9
        clear hF7 hM7 hW7 hH7 hw8 hm8
        have Hc9 : Hid ({ f with cell := f.cell.set k c, link := f.link.set k lk, word := y } = ({ f with cell := f.cell.set k (uAdd base k), link := f.link.set k lk, word := y } : Found)) := Lib.hid (by rw [Hc.out]; rfl)
        by_cases he : e8 = 0
        case neg =>
          have hz : (e8 != 0) = true := by simpa using he
          have hend := Lib.hid (hL1.out.trans (skGo_err2 hq5.out Hl.out hw7.out q8.out hz))
          go_wp2
          try rw [Exit.jump_ret]
          go_ret2
          exact ⟨_, e8, s8, none, hend, rfl, f8, b8.mono (by omega), F8, hW8.out, hM8.out, fun h => absurd h he⟩
        subst he
        by_cases hlt : y < x
        · have hb1 : decide (y < x) = true := decide_eq_true hlt
          have hx : y < x ∨ (past = true ∧ y = x) := .inl hlt
          have hnx : Hid (skSearch s a x past = skGo x past m (IntKind.u64.wrap (lk + 1)) k (words + 1) { f with cell := f.cell.set k c, link := f.link.set k lk, word := y } s8) := Lib.hid (by rw [Hc9.out]; exact hL1.out.trans (skGo_next hq5.out Hl.out hw7.out q8.out hx))
          clear hx hlt
          go_wp2
          go_step3
          refine ⟨rfl, hK'.out m _ _ (Nat.lt_succ_self _) ⟨IntKind.u64.wrap (lk + 1), k, words + 1, _, s8, F8, ⟨_, rfl, by rw [← hwd1]; rfl⟩, (uw_bd _).1, hk, hwi.out, by have := hG.out; omega, hnx, f8, b8, hW8.out, hM8.out, hF8.out, hn8, hH8⟩⟩
        · have hb1 : decide (y < x) = false := decide_eq_false hlt
          cases past with
          | false =>
            have hxn : ¬ (y < x ∨ (false = true ∧ y = x)) := by simpa using hlt
            have Hxn := Lib.hid hxn
            clear hxn hlt
            by_cases hk0 : k = 0
            · have hk2 : ¬ 0 < k := by omega
              have hend := Lib.hid (hL1.out.trans (skGo_end hq5.out Hl.out hw7.out q8.out Hxn.out hk0))
              clear hk0
              go_wp2
              try rw [Exit.jump_ret]
              go_ret2
              exact ⟨_, 0, s8, _, hend, rfl, f8, b8.mono (by omega), F8, hW8.out, hM8.out, fun _ => ⟨fb, rfl, by rw [Hfb.out]; exact Nat.le_refl _, by rw [← Hc9.out]; exact hF8.out, hn8⟩⟩
            · have hk2 : 0 < k := by omega
              obtain ⟨kd, hkd⟩ : ∃ kd : Nat, (k : Int) - 1 = (kd : Int) := ⟨k - 1, by omega⟩
              have hkd' := Lib.hid (show k - 1 = kd by omega)
              have hnx := Lib.hid (hL1.out.trans (skGo_down hq5.out Hl.out hw7.out q8.out Hxn.out hk2))
              clear hk0
              go_wp2
              go_step3
              refine ⟨rfl, hK'.out m _ _ (Nat.lt_succ_self _) ⟨base, kd, words + 1, _, s8, F8, ⟨_, rfl, by rw [← hwd1]; rfl⟩, hb0, by omega, hwi.out, by have := hG.out; omega, by have h := hnx.out; rw [hkd'.out, ← Hc9.out] at h; exact Lib.hid h, f8, b8, hW8.out, hM8.out, hF8.out, hn8, hH8⟩⟩
          | true =>
            by_cases heq : y = x
            · have hb2 : (y == x) = true := by simpa using heq
              have hx : y < x ∨ (true = true ∧ y = x) := .inr ⟨rfl, heq⟩
              have hnx : Hid (skSearch s a x true = skGo x true m (IntKind.u64.wrap (lk + 1)) k (words + 1) { f with cell := f.cell.set k c, link := f.link.set k lk, word := y } s8) := Lib.hid (by rw [Hc9.out]; exact hL1.out.trans (skGo_next hq5.out Hl.out hw7.out q8.out hx))
              clear hx heq hlt
              go_wp2
              go_step3
              refine ⟨rfl, hK'.out m _ _ (Nat.lt_succ_self _) ⟨IntKind.u64.wrap (lk + 1), k, words + 1, _, s8, F8, ⟨_, rfl, by rw [← hwd1]; rfl⟩, (uw_bd _).1, hk, hwi.out, by have := hG.out; omega, hnx, f8, b8, hW8.out, hM8.out, hF8.out, hn8, hH8⟩⟩
            · have hb2 : (y == x) = false := by simpa using heq
              have hxn : ¬ (y < x ∨ (true = true ∧ y = x)) := (fun h => h.elim hlt fun h => heq h.2)
              have Hxn := Lib.hid hxn
              clear heq
              clear hxn hlt
              by_cases hk0 : k = 0
              · have hk2 : ¬ 0 < k := by omega
                have hend := Lib.hid (hL1.out.trans (skGo_end hq5.out Hl.out hw7.out q8.out Hxn.out hk0))
                clear hk0
                go_wp2
                try rw [Exit.jump_ret]
                go_ret2
                exact ⟨_, 0, s8, _, hend, rfl, f8, b8.mono (by omega), F8, hW8.out, hM8.out, fun _ => ⟨fb, rfl, by rw [Hfb.out]; exact Nat.le_refl _, by rw [← Hc9.out]; exact hF8.out, hn8⟩⟩
              · have hk2 : 0 < k := by omega
                obtain ⟨kd, hkd⟩ : ∃ kd : Nat, (k : Int) - 1 = (kd : Int) := ⟨k - 1, by omega⟩
                have hkd' := Lib.hid (show k - 1 = kd by omega)
                have hnx := Lib.hid (hL1.out.trans (skGo_down hq5.out Hl.out hw7.out q8.out Hxn.out hk2))
                clear hk0
                go_wp2
                go_step3
                refine ⟨rfl, hK'.out m _ _ (Nat.lt_succ_self _) ⟨base, kd, words + 1, _, s8, F8, ⟨_, rfl, by rw [← hwd1]; rfl⟩, hb0, by omega, hwi.out, by have := hG.out; omega, by have h := hnx.out; rw [hkd'.out, ← Hc9.out] at h; exact Lib.hid h, f8, b8, hW8.out, hM8.out, hF8.out, hn8, hH8⟩⟩
end Go.Proofs.Ytgbgodhkehnbdaa
