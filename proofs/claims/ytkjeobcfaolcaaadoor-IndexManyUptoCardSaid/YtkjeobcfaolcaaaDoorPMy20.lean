/- IndexMeans: two tables in one world, call by call. -/
import Derived.ProofKit
import Derived.LaidMore
import Derived.OpenShut
import Derived.Stop.Joined
import Derived.Deep.DeepHandedRow
import Derived.Test.YtkjeobcfaolcaaaDoorTie
import Derived.Test.YtkjeobcfaolcaaaDoorCards
import Derived.Test.YtkjeobcfaolcaaaDoorPMy11
import Derived.Test.YtkjeobcfaolcaaaDoorPMy13
import Derived.Test.YtkjeobcfaolcaaaDoorPMy14
import Derived.Test.YtkjeobcfaolcaaaDoorPMy16
import Derived.Test.YtkjeobcfaolcaaaDoorPMy19
namespace Go.Proofs.YtkjeobcfaolcaaaDoor
open Go.RowKit
set_option maxHeartbeats 4000000
set_option linter.unusedVariables false
set_option linter.unusedSimpArgs false

theorem Lies.cellz {w : World} {A : Option Addr} {n cp : Nat} {l : List Int} (h : Lies w (.slice A n cp) l) {i : Nat} (hi : i < l.length) : n = l.length ∧ ∃ g off, A = some ⟨g, off, none⟩ ∧ ∀ j (hj : j < l.length), w.cell? ⟨g, off + j, none⟩ = some (.int .u64 (l[j]'hj)) := by
  obtain ⟨A', cp', e, _, _, hc⟩ := h
  injection e with e1 e2 e3
  subst e1 e2
  obtain ⟨g, o, rfl, _⟩ := hc i hi
  refine ⟨rfl, g, o, rfl, fun j hj => ?_⟩
  obtain ⟨g', o', e, hcell⟩ := hc j hj
  injection e with e
  injection e with e1 e2
  subst e1 e2
  rw [hcell, List.getD_eq_getElem?_getD, List.getElem?_eq_getElem hj]
  rfl
theorem k_le {k m : Nat} (h : 3 * 2 ^ k ≤ 8 * (m + 3)) (hm : m ≤ 1048576) : k ≤ 40 ∧ 2 ^ k * 32 ≤ 140737488355328 := by
  refine ⟨Nat.le_of_not_lt fun hk => ?_, by omega⟩
  have : 2 ^ 41 ≤ 2 ^ k := Nat.pow_le_pow_right (by omega) hk
  omega
/-- the world wr, begun at w: table T of numbers at t, table U of texts at u -/
structure MI (w wr : World) (t u a b : Nat) (T : Tbl Int) (U : Tbl ByteArray) : Prop where
  tb : ∃ F G, TbI wr t F T ∧ TbS wr u G U ∧ (∀ x, F x → ¬ G x) ∧ (∀ x, F x → w.heap.size ≤ x) ∧ (∀ x, G x → w.heap.size ≤ x)
  below : Below w.heap.size w wr
  tab : Tab w
  la : T.l.length ≤ a
  ak : 3 * 2 ^ T.k ≤ 8 * (a + 3)
  lb : U.l.length ≤ b
  bk : 3 * 2 ^ U.k ≤ 8 * (b + 3)
section
variable {w wr : World} {t u a b : Nat} {T : Tbl Int} {U : Tbl ByteArray}
theorem MI.tab' (h : MI w wr t u a b T U) : Tab wr := h.tab.keep (h.below.block 1 h.tab.lt)
theorem MI.drewN (h : MI w wr t u a b T U) (n : Nat) : MI w (wr.drewN n) t u a b T U := ⟨h.tb, below_drewNs h.below n, h.tab, h.la, h.ak, h.lb, h.bk⟩
theorem MI.okT (h : MI w wr t u a b T U) : T.Ok := by obtain ⟨F, G, h1, _⟩ := h.tb; exact h1.ok
/-- the first table has turned -/
theorem MI.stepT {w' : World} {F G F' : Nat → Prop} {T' : Tbl Int} {a' : Nat} (h : MI w wr t u a b T U) (h1 : TbI wr t F T) (h2 : TbS wr u G U) (hd : ∀ x, F x → ¬ G x) (hF : ∀ x, F x → w.heap.size ≤ x) (hG : ∀ x, G x → w.heap.size ≤ x)
    (ht : TbI w' t F' T') (hf : Fr F wr F' w') (ha : T'.l.length ≤ a') (hk : 3 * 2 ^ T'.k ≤ 8 * (a' + 3)) : MI w w' t u a' b T' U :=
  ⟨⟨F', G, ht, h2.fr hf fun x hx hx' => hd x hx' hx, fun x hx hg => (hf.new x hx).elim (fun h => hd x h hg) fun h => by have := h2.lt x hg; omega, fun x hx => (hf.new x hx).elim (hF x) fun h9 => Nat.le_trans h.below.size h9, hG⟩,
    h.below.trans (hf.below hF h.below.size), h.tab, ha, hk, h.lb, h.bk⟩
theorem MI.stepU {w' : World} {F G G' : Nat → Prop} {U' : Tbl ByteArray} {b' : Nat} (h : MI w wr t u a b T U) (h1 : TbI wr t F T) (h2 : TbS wr u G U) (hd : ∀ x, F x → ¬ G x) (hF : ∀ x, F x → w.heap.size ≤ x) (hG : ∀ x, G x → w.heap.size ≤ x)
    (ht : TbS w' u G' U') (hf : Fr G wr G' w') (hb : U'.l.length ≤ b') (hk : 3 * 2 ^ U'.k ≤ 8 * (b' + 3)) : MI w w' t u a b' T U' :=
  ⟨⟨F, G', h1.fr hf fun x hx hx' => hd x hx hx', ht, fun x hx hg => (hf.new x hg).elim (fun h => hd x hx h) fun h => by have := h1.lt x hx; omega, hF, fun x hx => (hf.new x hx).elim (hG x) fun h9 => Nat.le_trans h.below.size h9⟩,
    h.below.trans (hf.below hG h.below.size), h.tab, h.la, h.ak, hb, hk⟩
theorem MI.putT (h : MI w wr t u a b T U) (ha : a ≤ 1048576) (key y : Int) : Calls Tryd.prog 15 #[.pointer (some ⟨t, 0, none⟩), .int .u64 key, .int .i64 y] wr fun e w' => (∃ v, e = .returned v) ∧ MI w w' t u (a + 1) b (T.put 0 key y) U := by
  obtain ⟨F, G, h1, h2, hd, hF, hG⟩ := h.tb
  obtain ⟨hk, hby⟩ := k_le h.ak ha
  have hla := h.la
  refine (putI_tb (y := y) h.tab' h1 hk (by omega) (by omega)).mono ?_
  rintro _ w' ⟨rfl, F', h1', hf⟩
  exact ⟨⟨_, rfl⟩, h.stepT h1 h2 hd hF hG h1' hf (by have := T.put_len 0 key y; omega) (T.put_k 0 key y h.la h.ak)⟩
theorem MI.putU (h : MI w wr t u a b T U) (hb : b ≤ 1048576) (key : Int) (y : ByteArray) : Calls Tryd.prog 16 #[.pointer (some ⟨u, 0, none⟩), .int .u64 key, .string y] wr fun e w' => (∃ v, e = .returned v) ∧ MI w w' t u a (b + 1) T (U.put ⟨#[]⟩ key y) := by
  obtain ⟨F, G, h1, h2, hd, hF, hG⟩ := h.tb
  obtain ⟨hk, hby⟩ := k_le h.bk hb
  have hlb := h.lb
  refine (putS_tb (y := y) h.tab' h2 hk (by omega) (by omega)).mono ?_
  rintro _ w' ⟨rfl, G', h2', hf⟩
  exact ⟨⟨_, rfl⟩, h.stepU h1 h2 hd hF hG h2' hf (by have := U.put_len ⟨#[]⟩ key y; omega) (U.put_k ⟨#[]⟩ key y h.lb h.bk)⟩
theorem MI.getT (h : MI w wr t u a b T U) (ha : a ≤ 1048576) (key : Int) : Calls Tryd.prog 17 #[.pointer (some ⟨t, 0, none⟩), .int .u64 key] wr fun e w' => e = .returned (.tuple #[.int .i64 (T.get key), .bool (decide (key ∈ T.l))]) ∧ MI w w' t u a b T U := by
  obtain ⟨F, G, h1, h2, hd, hF, hG⟩ := h.tb
  obtain ⟨hk, hby⟩ := k_le h.ak ha
  refine (getI_tb h.tab' h1 hk).mono ?_
  rintro _ w' ⟨rfl, n, rfl⟩
  exact ⟨rfl, h.drewN n⟩
theorem MI.takeT (h : MI w wr t u a b T U) (ha : a ≤ 1048576) (key : Int) : Calls Tryd.prog 18 #[.pointer (some ⟨t, 0, none⟩), .int .u64 key] wr fun e w' => e = .returned (.tuple #[.int .i64 (T.get key), .bool (decide (key ∈ T.l))]) ∧ MI w w' t u a b (T.take 0 key) U := by
  obtain ⟨F, G, h1, h2, hd, hF, hG⟩ := h.tb
  obtain ⟨hk, hby⟩ := k_le h.ak ha
  have hla := h.la
  refine (takeI_tb h.tab' h1 hk (by omega)).mono ?_
  rintro _ w' ⟨rfl, F', h1', hf⟩
  exact ⟨rfl, h.stepT h1 h2 hd hF hG h1' hf (by have := T.take_len 0 key; omega) (by rw [T.take_k]; exact h.ak)⟩
theorem MI.takeU (h : MI w wr t u a b T U) (hb : b ≤ 1048576) (key : Int) : Calls Tryd.prog 19 #[.pointer (some ⟨u, 0, none⟩), .int .u64 key] wr fun e w' => (∃ v, e = .returned v) ∧ MI w w' t u a b T (U.take ⟨#[]⟩ key) := by
  obtain ⟨F, G, h1, h2, hd, hF, hG⟩ := h.tb
  obtain ⟨hk, hby⟩ := k_le h.bk hb
  have hlb := h.lb
  refine (takeS_tb h.tab' h2 hk (by omega)).mono ?_
  rintro _ w' ⟨rfl, G', h2', hf⟩
  exact ⟨⟨_, rfl⟩, h.stepU h1 h2 hd hF hG h2' hf (by have := U.take_len ⟨#[]⟩ key; omega) (by rw [U.take_k]; exact h.bk)⟩
theorem MI.askedT (h : MI w wr t u a b T U) (ha : a ≤ 1048576) (key : Int) : Calls Tryd.prog 20 #[.pointer (some ⟨t, 0, none⟩), .int .u64 key] wr fun e w' => e = .returned (.int .i64 (T.asked key : Int)) ∧ wr = w' := by
  obtain ⟨F, G, h1, h2, hd, hF, hG⟩ := h.tb
  obtain ⟨hk, hby⟩ := k_le h.ak ha
  exact askedI_tb h.tab' h1 hk
theorem MI.askedU (h : MI w wr t u a b T U) (hb : b ≤ 1048576) (key : Int) : Calls Tryd.prog 22 #[.pointer (some ⟨u, 0, none⟩), .int .u64 key] wr fun e w' => e = .returned (.int .i64 (U.asked key : Int)) ∧ wr = w' := by
  obtain ⟨F, G, h1, h2, hd, hF, hG⟩ := h.tb
  obtain ⟨hk, hby⟩ := k_le h.bk hb
  exact askedS_tb h.tab' h2 hk
theorem MI.askT (h : MI w wr t u a b T U) (ha : a ≤ 1048576) (key : Int) : 1 ≤ T.asked key ∧ T.asked key ≤ T.l.length + 1 := by
  obtain ⟨F, G, h1, h2, hd, hF, hG⟩ := h.tb
  obtain ⟨hk, hby⟩ := k_le h.ak ha
  obtain ⟨_, _, _, h3, h4⟩ := Tbl.lookI h1 hk key
  exact ⟨h3, h4⟩
theorem MI.lenT (h : MI w wr t u a b T U) : Calls Tryd.prog 21 #[.pointer (some ⟨t, 0, none⟩)] wr fun e w' => e = .returned (.int .i64 (T.l.length : Int)) ∧ wr = w' := by
  obtain ⟨F, G, h1, h2, hd, hF, hG⟩ := h.tb
  exact lenI_tb h1
theorem MI.lenU (h : MI w wr t u a b T U) : Calls Tryd.prog 25 #[.pointer (some ⟨u, 0, none⟩)] wr fun e w' => e = .returned (.int .i64 (U.l.length : Int)) ∧ wr = w' := by
  obtain ⟨F, G, h1, h2, hd, hF, hG⟩ := h.tb
  exact lenS_tb h2
theorem MI.slotsT (h : MI w wr t u a b T U) : Calls Tryd.prog 23 #[.pointer (some ⟨t, 0, none⟩)] wr fun e w' => e = .returned (.int .i64 ((2 ^ T.k : Nat) : Int)) ∧ wr = w' := by
  obtain ⟨F, G, h1, h2, hd, hF, hG⟩ := h.tb
  exact slotsI_tb h1
theorem MI.slotsU (h : MI w wr t u a b T U) : Calls Tryd.prog 24 #[.pointer (some ⟨u, 0, none⟩)] wr fun e w' => e = .returned (.int .i64 ((2 ^ U.k : Nat) : Int)) ∧ wr = w' := by
  obtain ⟨F, G, h1, h2, hd, hF, hG⟩ := h.tb
  exact slotsS_tb h2
theorem MI.keysT (h : MI w wr t u a b T U) (ha : a ≤ 1048576) : Calls Tryd.prog 27 #[.pointer (some ⟨t, 0, none⟩)] wr fun e w' => ∃ A cp, e = .returned (.slice A T.l.length cp) ∧ Wl w' (.slice A T.l.length cp) T.l ∧ MI w w' t u a b T U := by
  obtain ⟨F, G, h1, h2, hd, hF, hG⟩ := h.tb
  have hla := h.la
  refine (keysI_tb h1 (by omega)).mono ?_
  rintro _ w' ⟨A, cp, rfl, hv, hf⟩
  exact ⟨A, cp, rfl, hv, ⟨F, G, h1.fr hf fun _ _ h => h, h2.fr hf fun _ _ h => h, hd, hF, hG⟩, h.below.trans (hf.below (fun _ h => h.elim) h.below.size), h.tab, h.la, h.ak, h.lb, h.bk⟩
theorem MI.keysU (h : MI w wr t u a b T U) (hb : b ≤ 1048576) {v : Value} {l : List Int} (hv : Wl wr v l) : Calls Tryd.prog 28 #[.pointer (some ⟨u, 0, none⟩)] wr fun e w' => ∃ A cp, e = .returned (.slice A U.l.length cp) ∧ Wl w' (.slice A U.l.length cp) U.l ∧ Wl w' v l ∧ Below w.heap.size w w' := by
  obtain ⟨F, G, h1, h2, hd, hF, hG⟩ := h.tb
  have hlb := h.lb
  refine (keysS_tb h2 (by omega)).mono ?_
  rintro _ w' ⟨A, cp, rfl, hv', hf⟩
  exact ⟨A, cp, rfl, hv', hv.frs hf fun _ _ h => h, h.below.trans (hf.below (fun _ h => h.elim) h.below.size)⟩
end
end Go.Proofs.YtkjeobcfaolcaaaDoor
/- IndexMany: the law's walk (lists of at most 1048576 words). -/
namespace Go.Proofs.YtkjeobcfaolcaaaDoor
open Go.RowKit
set_option maxHeartbeats 8000000
set_option linter.unusedVariables false
set_option linter.unusedSimpArgs false

theorem lies_at {w wr : World} {A : Option Addr} {cp : Nat} {l : List Int} (h : Lies w (.slice A l.length cp) l) (hb : Below w.heap.size w wr) {i : Nat} (hi : i < l.length) : ∃ g off, A = some ⟨g, off, none⟩ ∧ wr.cell? ⟨g, off + i, none⟩ = some (.int .u64 (l[i]'hi)) := by
  obtain ⟨_, g, off, rfl, hc⟩ := (h.below hb).cellz hi
  exact ⟨g, off, rfl, hc i hi⟩
set_option maxRecDepth 100000 in
theorem many_b {w : World} {A B : Option Addr} {l m : List Int} {c d : Nat} (hL : Lies w (.slice A l.length c) l) (hM : Lies w (.slice B m.length d) m) (hl : l.length ≤ 1048576) (hmm : m.length ≤ 1048576) (hT : Tab w) :
    Calls Tryd.prog 6 #[.slice A l.length c, .slice B m.length d] w fun e w' => e = .returned (.bool true) ∧ Below w.heap.size w w' := by
  have hT := Lib.hid hT
  have hL := Lib.hid hL
  have hM := Lib.hid hM
  go_enter Tryd.func6, Tryd.ntmps6
  go_wp2_with fail
  refine (newW_tb w).mono ?_
  rintro _ w2 ⟨t, F, rfl, ht, hf⟩
  have ht := Lib.hid ht
  have hf := Lib.hid hf
  go_wp2_with fail
  refine (newR_tb w2).mono ?_
  rintro _ w3 ⟨r, G, rfl, hu, hg⟩
  have M0 := Lib.hid (PI.start hT.out (Below.refl _ _) ht.out hf.out hu hg)
  clear ht hf hu hg
  have hln : ((l.length : Nat) : Int) ≤ 1048576 := by omega
  have hmn : ((m.length : Nat) : Int) ≤ 1048576 := by omega
  go_wp2
  go_loopw [7] (fun iv wr => ∃ (i : Nat) (T : Tbl Int), i ≤ l.length ∧ iv = .int .i64 i ∧ Hid (PI w wr t r i i T T ∧ T.s.Clean 0)) (fun iv _ => l.length - (intOf iv).toNat)
  case atStart => exact ⟨0, _, by omega, rfl, Lib.hid ⟨M0.out, Tbl.clean_new 0⟩⟩
  case round =>
    obtain ⟨i, T, hi, rfl, HH⟩ := hrel
    clear M0
    by_cases hil : i < l.length
    · obtain ⟨ga, off, rfl, hc⟩ := lies_at hL.out HH.out.1.below hil
      have C1 := Lib.hid (plays1_b HH.out.1 (by omega) 0 0 0 l[i] (i : Int))
      have hcl := Lib.hid (Tbl.clean_put HH.out.2 l[i] (i : Int))
      have hii : (i : Int) ≤ 1048576 := by omega
      generalize T.put 0 l[i] (i : Int) = T' at *
      generalize l[i] = key at *
      have hw64 : IntKind.u64.wrap (i : Int) = (i : Int) := by rw [IntKind.wrap_u64]; omega
      by_cases him : i < m.length
      · obtain ⟨gb, ofb, rfl, hcb⟩ := lies_at hM.out HH.out.1.below him
        have HB : Hid (∀ W, Below w.heap.size w W → W.cell? ⟨gb, ofb + i, none⟩ = some (.int .u64 m[i])) := Lib.hid fun W hW => by
          obtain ⟨ga', off', e, h⟩ := lies_at hM.out hW him
          injection e with e
          injection e with e1 e2
          subst e1 e2
          exact h
        go_wp2_with fail
        refine C1.out.mono ?_
        rintro _ w4 ⟨rfl, p4⟩
        have hcb4 := HB.out w4 p4.below
        have C2 := Lib.hid (plays3_b p4 (by omega) hcl.out 0 0 0 m[i] 0)
        have hcl2 := Lib.hid (Tbl.clean_take hcl.out m[i])
        generalize T'.take 0 m[i] = T2 at *
        generalize m[i] = key2 at *
        clear p4 C1 hc hcb
        go_wp2_with fail
        refine C2.out.mono ?_
        rintro _ w5 ⟨rfl, p5⟩
        have P5 := Lib.hid p5
        clear p5 C2 hcb4
        go_wp2
        go_roundw
        case rel => exact ⟨i + 1, T2, by omega, by simp, Lib.hid ⟨P5.out, hcl2.out⟩⟩
        case measure => simp [intOf]; omega
      · have hdm : decide ((i : Int) < (m.length : Int)) = false := decide_eq_false (by omega)
        go_wp2_with fail
        refine C1.out.mono ?_
        rintro _ w4 ⟨rfl, p4⟩
        have P4 := Lib.hid p4
        clear p4 C1 hc
        go_wp2
        go_roundw
        case rel => exact ⟨i + 1, T', by omega, by simp, Lib.hid ⟨P4.out, hcl.out⟩⟩
        case measure => simp [intOf]; omega
    · obtain rfl : i = l.length := by omega
      go_wp2
      go_loopw [8] (fun iv wr => ∃ (i : Nat) (T : Tbl Int), i ≤ l.length ∧ iv = .int .i64 i ∧ Hid (PI w wr t r l.length l.length T T ∧ T.s.Clean 0)) (fun iv _ => l.length - (intOf iv).toNat)
      case atStart => exact ⟨0, T, by omega, rfl, HH⟩
      case round =>
        clear HH T
        obtain ⟨i, T, hi, rfl, HH⟩ := hrel
        by_cases hil : i < l.length
        · obtain ⟨ga, off, rfl, hc⟩ := lies_at hL.out HH.out.1.below hil
          have C1 := Lib.hid (fun n => (HH.out.1.drewN n).askedT hl l[i])
          have C2 := Lib.hid (fun n => (HH.out.1.drewN n).askedU hl l[i])
          have C3 := Lib.hid (fun n => plays2_b (HH.out.1.drewN n) hl 0 0 0 l[i] 0)
          have hcl := Lib.hid HH.out.2
          generalize l[i] = key at *
          generalize T.asked key = na at *
          have q1 : ((na : Int) != (na : Int)) = false := by simp
          go_wp2_with fail
          refine wp_region_mix (fun W' => W'.cell? ⟨ga, off + i, none⟩ = some (.int .u64 key)) [3, 3, 3, 3, 1, 2, 3, 3, 3, 3, 0, 2, 3, 3, 3, 3, 3, 3, 3, 1, 3, 2, 3, 3] [0, 1, 2, 3, 4, 6, 7, 8, 9, 10, 5, 11, 12, 13, 14, 15, 16, 17, 18, 19, 20, 21, 22, 23] (by kernel_rfl) (by kernel_rfl) (fun _ _ h => h) hc ?_
          repeat (first | ((first | refine wpMix_pure rfl rfl (fun K hK => ?_) | refine wpMix_loc rfl rfl (fun K hK => ?_) | refine wpMix_any rfl rfl (fun K hK => ?_)); go_simp; refine hK _ _ ?_; clear hK K) | (refine wpMix_any rfl rfl (fun K hK => ?_); rw [if_pos (by go_simp)]; apply Exists.intro; refine And.intro (fun w2 hS2 => ?_) (hK _ _ ?_); (focus (obtain hsc := hS2; go_simp; rfl)); clear hK K))
          refine wpMix_loud rfl rfl (fun n1 K hK => ?_)
          go_wp2_with fail
          refine (C1.out (1 + n1)).mono ?_
          rintro _ w5 ⟨rfl, rfl⟩
          go_wp2_with fail
          refine hK _ _ (fun _ => hc) ?_; clear hK K
          repeat (first | ((first | refine wpMix_pure rfl rfl (fun K hK => ?_) | refine wpMix_loc rfl rfl (fun K hK => ?_) | refine wpMix_any rfl rfl (fun K hK => ?_)); go_simp; refine hK _ _ ?_; clear hK K) | (refine wpMix_any rfl rfl (fun K hK => ?_); rw [if_pos (by go_simp)]; apply Exists.intro; refine And.intro (fun w2 hS2 => ?_) (hK _ _ ?_); (focus (obtain hsc := hS2; go_simp; rfl)); clear hK K))
          refine wpMix_loud rfl rfl (fun n2 K hK => ?_)
          go_wp2_with fail
          refine (C2.out (1 + n1 + n2)).mono ?_
          rintro _ w6 ⟨rfl, rfl⟩
          go_wp2_with fail
          refine hK _ _ (fun h => (Bool.false_ne_true ((Eq.symm (by kernel_rfl)).trans h)).elim) ?_; clear hK K
          repeat ((first | refine wpMix_pure rfl rfl (fun K hK => ?_) | refine wpMix_loc rfl rfl (fun K hK => ?_) | refine wpMix_any rfl rfl (fun K hK => ?_)); go_simp; refine hK _ _ ?_; clear hK K)
          refine wpMix_loud rfl rfl (fun n3 K hK => ?_)
          go_wp2_with fail
          refine (C3.out (1 + n1 + n2 + n3)).mono ?_
          rintro _ w7 ⟨rfl, p7⟩
          have P7 := Lib.hid p7
          clear p7 C1 C2 C3
          go_wp2_with fail
          refine hK _ _ (fun h => (Bool.false_ne_true ((Eq.symm (by kernel_rfl)).trans h)).elim) ?_; clear hK K
          repeat ((first | refine wpMix_pure rfl rfl (fun K hK => ?_) | refine wpMix_loc rfl rfl (fun K hK => ?_) | refine wpMix_any rfl rfl (fun K hK => ?_)); go_simp; refine hK _ _ ?_; clear hK K)
          refine wpMix_nil (fun n4 => ?_)
          go_wp2
          go_roundw
          case rel => exact ⟨i + 1, T, by omega, by simp, Lib.hid ⟨P7.out.drewN _, hcl.out⟩⟩
          case measure => simp [intOf]; omega
        · obtain rfl : i = l.length := by omega
          have C1 := Lib.hid (tells_b (HH.out.1.vw hl) HH.out.1 0)
          go_wp2_with fail
          refine C1.out.mono ?_
          rintro _ w5 ⟨rfl, f5⟩
          have p5 := HH.out.1.new_ f5
          clear f5
          have KN := Lib.hid (known_b p5.tab')
          have hb5 := Lib.hid p5.below
          clear p5 C1
          go_wp2_with fail
          refine KN.out.mono ?_
          rintro _ w6 ⟨rfl, hb6⟩
          have hb6 := Lib.hid (hb5.out.trans (hb6.mono hb5.out.size))
          go_wp2
          go_ret
          exact ⟨rfl, hb6.out⟩
end Go.Proofs.YtkjeobcfaolcaaaDoor
/- IndexMany: its statement of no more than 1048576 values (of the first form by size alone: a table of so many slots cannot be made), and its card. -/
namespace Go.Proofs.YtkjeobcfaolcaaaDoor.indexMany
open Go.ChangeShapes Go.WideShapes Go.ChangeAt Go.WideMaps Go.WideElems Go.RowKit Go.Deep
set_option linter.unusedVariables false
theorem own : ownKnob Tryd.prog.godebug = none := by kernel_rfl
theorem laidOut : laidOutB Tryd.prog = true := by kernel_rfl
theorem g32 : Tryd.prog.globalNamed "math/bits.deBruijn32tab" = some 0 := by kernel_rfl
theorem g64 : Tryd.prog.globalNamed "math/bits.deBruijn64tab" = some 1 := by kernel_rfl
theorem t64 : (Tryd.prog.globals[1]?).map (·.type) = some 118 := by kernel_rfl
theorem door_met0 (os : Os) (args : Array Value) : laidMet Tryd.prog Rows.indexManyUptoRow.laid ((World.doorLaid Tryd.prog 400 os).forCall (fun _ _ => 0) ⟨#[], args, []⟩).memory := laidMet_of_run' 8 (by kernel_rfl) (by kernel_rfl)
theorem door_met (os : Os) (args : Array Value) : laidMetH Tryd.prog Rows.indexManyUptoRow.laid ((World.doorLaid Tryd.prog 400 os).forCall (fun _ _ => 0) ⟨#[], args, []⟩).memory :=
  laidMetH_of_parts3 (fuel := 8) (laidMet_of_run' 8 (by kernel_rfl) (by kernel_rfl)) (by kernel_rfl) (by kernel_rfl)
theorem of_laid {W : World} (h : laidMetH Tryd.prog Rows.indexManyUptoRow.laid W) : Tab W := by
  rw [MakeChecks.laidMetH_plain _ _ _ (by kernel_rfl)] at h
  obtain ⟨ps, ⟨g0, t0, cs0, f0, p0, q0, hg0, ht0, hv0, hd0, ⟨g1, t1, cs1, f1, p1, q1, hg1, ht1, hv1, hd1, _, _⟩, _⟩, _, _⟩ := h
  obtain rfl := Option.some.inj (g64.symm.trans hg1)
  obtain rfl := Option.some.inj (t64.symm.trans ht1)
  obtain ⟨xs, m1, rfl, hx1, hlen, hn3, hel⟩ := DataW.trod_array Tryd.underlying118 hd1
  have c1 : Tryd.prog.cellsOf 5 = 1 := by kernel_rfl
  rw [c1] at hel
  have hL : (Rows.laid_math_bits_deBruijn64tab : DataW Unit) = .agg (Lib.deBruijn64tab.map fun (n : Nat) => .lit (.int .u8 (n : Int))) := by kernel_rfl
  rw [hL] at hx1
  simp only [Prod.mk.injEq, DataW.agg.injEq] at hx1
  have hx := hx1.1
  have hT64 : Lib.deBruijn64tab.length = 64 := by decide
  intro i hi
  rw [hT64] at hi
  have hxi := congrArg (fun l => l[i]?) hx
  simp only [List.getElem?_map] at hxi
  have h1 := hel i hi
  obtain ⟨x, hxx⟩ : ∃ x, xs[i]? = some x := ⟨xs[i]'(by omega), List.getElem?_eq_getElem (by omega)⟩
  obtain ⟨n, hn⟩ : ∃ n, Lib.deBruijn64tab[i]? = some n := ⟨Lib.deBruijn64tab[i]'(by omega), List.getElem?_eq_getElem (by omega)⟩
  rw [hxx, hn] at hxi
  simp only [Option.map_some, Option.some.injEq] at hxi
  rw [hxx] at h1
  obtain ⟨k, e1, e2, _⟩ := DataW.trod_int (k := .u8) Tryd.underlying5 h1
  have hk : k = (n : Int) := by rw [e2] at hxi; simpa using hxi.symm
  have hcell := World.var?_cell hg1 hv1 i
  rw [hcell, List.getD_eq_getElem?_getD, hn]
  rw [Nat.mul_one] at e1
  have hg : cs1.toList[i]? = some (.int .u8 k) := by
    have := congrArg (fun l => l[0]?) e1
    simpa using this
  rw [← Array.getElem?_toList, hg, hk]
  rfl

theorem laidOut' : laidOutB Tryd.prog = true := by kernel_rfl
theorem one_le {H : Type} (d : DataW H) : 1 ≤ Rows.uptoBulk d := by
  cases d with
  | lit l => cases l <;> simp [Rows.uptoBulk]
  | nil => simp [Rows.uptoBulk]
  | ptr d => simp [Rows.uptoBulk]
  | slice elems spare => simp [Rows.uptoBulk]
  | agg parts => simp [Rows.uptoBulk]
  | iface t d => simp [Rows.uptoBulk]
  | map entries => simp [Rows.uptoBulk]
  | held h => simp [Rows.uptoBulk]
theorem length_le {H : Type} (l : List (DataW H)) : l.length ≤ Rows.uptoBulkAll l := by
  induction l with
  | nil => simp [Rows.uptoBulkAll]
  | cons x r ih => have := one_le x; simp only [Rows.uptoBulkAll, List.length_cons]; omega
theorem slice_le {H : Type} (elems spare : List (DataW H)) : elems.length + spare.length + 1 ≤ Rows.uptoBulk (.slice elems spare) := by
  have h1 := length_le elems
  have h2 := length_le spare
  simp only [Rows.uptoBulk]
  omega
theorem words_le {H : Type} {enc : TypeId × Value → H} {P : Program} {w : World} {base : Nat} {spare : Nat → Bool} {held : Bool} {t e : TypeId} {A : Option Addr} {len cap : Nat} {d : DataW H} {p : List MemPlace}
    (ht : P.underlying t = some (.slice e)) (he : P.underlying e = some (.int .u64)) (hc : P.cellsOf e = 1) (h : DataW.Trod enc P w base spare held t (.slice A len cap) d p) : len ≤ Rows.uptoBulk d := by
  obtain ⟨fuel, hf⟩ := h
  rcases open_ints ht he hc hf with ⟨hcs, hx⟩ | ⟨x, l, c, zs, hcs, _, hl, hm, hz, hx, hcell, hwz⟩
  · simp [Value.cells] at hcs
    omega
  · simp [Value.cells] at hcs
    obtain ⟨rfl, rfl, rfl⟩ := hcs
    have hlz : len ≤ zs.length := by rw [hz]; split <;> omega
    simp only [Prod.mk.injEq] at hx
    rw [hx.1]
    refine Nat.le_trans ?_ (slice_le _ _)
    simp [lits]
    omega
theorem reads (os : Os) {H : Type} (enc : TypeId × Value → H) : ∃ places, DataW.whole enc Tryd.prog ((World.doorLaid Tryd.prog 400 os).forCall (fun _ _ => 0) ⟨#[], #[.slice none 0 0, .slice none 0 0], []⟩).memory Tryd.f6.params.toList Rows.indexManySpec.vars false #[Value.slice none 0 0, Value.slice none 0 0].toList 8 = some ([.nil, .nil], [], places) :=
  ⟨[], by kernel_rfl⟩
set_option maxRecDepth 100000 in
theorem liftedUpto (os : Os) (started : os.Started) (H : Type) (enc : TypeId × Value → H) (F : Stop.Interp) :
    ReturnsInHanded {} Tryd.checked os 6 .any ((Rows.OpenSpec.upto Rows.indexManySpec).preRow enc Tryd.prog Tryd.f6 Rows.indexManyUptoRow.domain false Rows.indexManyUptoRow.laid) (((Rows.OpenSpec.upto Rows.indexManySpec).at F).post enc Tryd.prog Tryd.f6 false true false false) := by
  obtain ⟨places, hx⟩ := reads os enc
  refine returnsInHanded_of_row (C := Tryd.checked) (s := Rows.OpenSpec.upto Rows.indexManySpec) own started (by kernel_rfl) Tryd.func6
    (witness_row_at (enc := enc) (C := Tryd.checked) false (World.doorLaid Tryd.prog 400 os) #[.slice none 0 0, .slice none 0 0] rfl (by kernel_rfl) (by kernel_rfl) (by kernel_rfl)
      (OpenSpec.preRow_of_cond 8 hx (by kernel_rfl) (fun k hk => by cases hk; kernel_rfl) (by kernel_rfl) (door_met0 os _))) ?_
  intro W base args ds gs before hval0 hW hcnd hcond hsz0 hL _ _
  have hval : ∀ (j : Nat) t v, Tryd.f6.params[j]? = some t → args[j]? = some v → Value.okWide Tryd.prog W .any base t v := hval0
  have hsz : (DataW.weightsEach Tryd.prog (Tryd.f6.params.toList ++ Rows.indexManySpec.plain.varTypes Tryd.prog) (ds ++ gs)).all (· ≤ reachBytes) = true := hsz0
  have hbulk : Rows.uptoBulkAll (ds ++ gs) ≤ 1048576 := of_decide_eq_true (hcond _ rfl)
  have hW' := hW
  obtain ⟨p, q, hA0, hV, rfl, hfz, hnd⟩ := hW
  have hA : DataW.TrodAll enc Tryd.prog W 0 (fun _ => true) true Tryd.f6.params.toList args.toList ds p := hA0
  rw [Tryd.params6] at hA hval hsz
  obtain ⟨v0, vs0, d0, ds0, p0, q0, hargs, rfl, rfl, h0, r0⟩ := trodAll_cons hA
  obtain ⟨v1, vs1, d1, ds1, p1, q1, rfl, rfl, rfl, h1, r1⟩ := trodAll_cons r0
  obtain ⟨rfl, rfl, rfl⟩ := trodAll_nil r1
  obtain rfl : args = #[v0, v1] := by cases args; simp_all
  obtain ⟨rfl, rfl⟩ := trodVars_none hV
  obtain ⟨a0, len0, cap0, rfl⟩ := okWide_slice Tryd.underlying31 (hval 0 31 v0 rfl rfl)
  obtain ⟨a1, len1, cap1, rfl⟩ := okWide_slice Tryd.underlying31 (hval 1 31 v1 rfl rfl)
  have k0 := h0
  have k1 := h1
  have lt0 : ∀ x ∈ p0, x.block < W.heap.size := by obtain ⟨m, hm⟩ := k0; exact DataW.trod_lt m _ _ _ hm
  have lt1 : ∀ x ∈ p1, x.block < W.heap.size := by obtain ⟨m, hm⟩ := k1; exact DataW.trod_lt m _ _ _ hm
  have b0 := words_le Tryd.underlying31 Tryd.underlying22 (by kernel_rfl) h0
  have b1 := words_le Tryd.underlying31 Tryd.underlying22 (by kernel_rfl) h1
  simp only [List.append_nil, Rows.uptoBulkAll] at hbulk
  obtain ⟨l0, rfl, w0⟩ := open_words hsz (j := 0) rfl rfl Tryd.underlying31 Tryd.underlying22 (by kernel_rfl) (by kernel_rfl) h0
  obtain ⟨l1, rfl, w1⟩ := open_words hsz (j := 1) rfl rfl Tryd.underlying31 Tryd.underlying22 (by kernel_rfl) (by kernel_rfl) h1
  clear hA0 hval0 hsz0
  have hT := of_laid hL
  refine (many_b w0.lies w1.lies (by omega) (by omega) hT).mono fun e W' ⟨he, bel⟩ => ?_
  subst he
  exact ⟨_, rfl, _, _, _, [], _, [], hW', trodAll_mk1 (shut_bool Tryd.underlying4 _), (trodAll_cons_mk (Below.trod laidOut (by kernel_rfl) (of_decide_eq_true (by kernel_rfl)) k0 bel lt0) (trodAll_cons_mk (Below.trod laidOut (by kernel_rfl) (of_decide_eq_true (by kernel_rfl)) k1 bel lt1) trodAll_mk0)), rfl, bel.frame _, fun h => by cases h⟩
theorem proved0 : Rows.IndexManyUptoSaid :=
  OpenClaim.holds_of_cond 6 Tryd.f6 rfl rfl rfl rfl rfl rfl rfl ⟨rfl, rfl, rfl, rfl, rfl⟩ rfl rfl rfl rfl rfl (by kernel_rfl) Tryd.func6 (by kernel_rfl)
    (of_decide_eq_true (by kernel_rfl)) (by unfold Func.isWrapper; first | (rw [if_pos (by decide +kernel)]; kernel_rfl) | (rw [if_neg (by decide +kernel)]; exact ⟨rfl, rfl⟩))
    (fun os started H enc _ F => by rw [OpenClaim.pre_eq_preRow]; exact liftedUpto os started H enc F)
theorem plain (f : FuncId) (fn : Func) (hf : Tryd.pinned.checked.prog.funcNamed "parley/parleylaw04.IndexMany" = some f) (hfn : Tryd.pinned.checked.prog.funcs[f]? = some fn) :
    false = Tryd.pinned.checked.prog.looks [] ∧ ∀ (j : Nat) t, fn.params[j]? = some t → Tryd.pinned.checked.prog.wantsStandIn t = false := by
  obtain rfl : f = 6 := Option.some.inj ((show Tryd.prog.funcNamed "parley/parleylaw04.IndexMany" = some 6 by kernel_rfl).symm.trans hf) |>.symm
  obtain rfl : fn = Tryd.f6 := (Option.some.inj (Tryd.func6.symm.trans hfn)).symm
  refine ⟨by kernel_rfl, fun j t ht => ?_⟩
  rw [Tryd.params6] at ht
  rcases j with _ | _ | j
  · obtain rfl : t = 31 := by simpa using ht.symm
    exact (show Tryd.prog.wantsStandIn 31 = false by kernel_rfl)
  · obtain rfl : t = 31 := by simpa using ht.symm
    exact (show Tryd.prog.wantsStandIn 31 = false by kernel_rfl)
  · simp at ht
theorem proved : Rows.IndexManyUptoCardSaid :=
  Claim7.holds_tied_plain_at .later [] _ _ _ _ proved0 (fun _ h => by cases h) (by kernel_rfl) (fun _ h => by cases h) indexManyUpto_row_tie rfl ⟨rfl, rfl⟩ (by kernel_rfl) rfl plain (by kernel_rfl)
end Go.Proofs.YtkjeobcfaolcaaaDoor.indexMany
