/- IndexMeans: the law's walk, of lists of no more than 1048576 words. -/
import Derived.Test.YtkjeobcfaolcaaaDoorIxMnA
namespace Go.Proofs.YtkjeobcfaolcaaaDoor
open Go.RowKit
set_option maxHeartbeats 8000000
set_option linter.unusedVariables false
set_option linter.unusedSimpArgs false

theorem Lies.at_ {w wr : World} {A : Option Addr} {cp : Nat} {l : List Int} (h : Lies w (.slice A l.length cp) l) (hb : Below w.heap.size w wr) {i : Nat} (hi : i < l.length) : ∃ g off, A = some ⟨g, off, none⟩ ∧ wr.cell? ⟨g, off + i, none⟩ = some (.int .u64 (l[i]'hi)) := by
  obtain ⟨_, g, off, rfl, hc⟩ := (h.below hb).cellz hi
  exact ⟨g, off, rfl, hc i hi⟩
theorem sameIx_b {va vb : Value} {l : List Int} {w : World} (h1 : Lies w va l) (h2 : Lies w vb l) (hn : (l.length : Int) ≤ 9223372036854775807) :
    Calls Tryd.prog 26 #[va, vb] w fun e w' => e = .returned (.bool true) ∧ ∃ n, w' = w.drewN n :=
  (words_b h1 h2 hn).mono fun e w' h => ⟨by simpa using h.2, h.1⟩
set_option maxRecDepth 100000 in
theorem means_b {w : World} {A B : Option Addr} {l m : List Int} {c d : Nat} (hL : Lies w (.slice A l.length c) l) (hM : Lies w (.slice B m.length d) m) (hl : l.length ≤ 1048576) (hmm : m.length ≤ 1048576) (hT : Tab w) :
    Calls Tryd.prog 4 #[.slice A l.length c, .slice B m.length d] w fun e w' => e = .returned (.bool true) ∧ Below w.heap.size w w' := by
  have KN := Lib.hid (known_b hT)
  have hT := Lib.hid hT
  have hL := Lib.hid hL
  have hM := Lib.hid hM
  go_enter Tryd.func4, Tryd.ntmps4
  go_wp2_with fail
  refine KN.out.mono ?_
  rintro _ w1 ⟨rfl, hb1⟩
  have hb1 := Lib.hid hb1
  go_wp2_with fail
  refine (newI_tb w1).mono ?_
  rintro _ w2 ⟨t, F, rfl, ht, hf⟩
  have ht := Lib.hid ht
  have hf := Lib.hid hf
  go_wp2_with fail
  refine (newS_tb w2).mono ?_
  rintro _ w3 ⟨u, G, rfl, hu, hg⟩
  have M0 : Hid (MI w w3 t u 0 0 (Tbl.new 0) (Tbl.new ⟨#[]⟩)) := Lib.hid ⟨⟨F, G, ht.out.fr hg fun _ _ h => h, hu, fun x hx hgx => (hg.new x hgx).elim (fun h => h) fun h => by have := ht.out.lt x hx; omega,
    fun x hx => (hf.out.new x hx).elim (fun h => h.elim) fun h => Nat.le_trans hb1.out.size h, fun x hx => (hg.new x hx).elim (fun h => h.elim) fun h => Nat.le_trans (Nat.le_trans hb1.out.size hf.out.size) h⟩,
    (hb1.out.trans (hf.out.below (fun _ h => h.elim) hb1.out.size)).trans (hg.below (fun _ h => h.elim) (Nat.le_trans hb1.out.size hf.out.size)), hT.out, by simp [Tbl.new], by simp [Tbl.new], by simp [Tbl.new], by simp [Tbl.new]⟩
  clear ht hf hu hg KN hb1
  have hln : ((l.length : Nat) : Int) ≤ 1048576 := by omega
  have hmn : ((m.length : Nat) : Int) ≤ 1048576 := by omega
  go_wp2
  go_loopw [7] (fun iv wr => ∃ (i : Nat) (T : Tbl Int) (U : Tbl ByteArray), i ≤ l.length ∧ iv = .int .i64 i ∧ Hid (MI w wr t u i i T U ∧ T.Same U)) (fun iv _ => l.length - (intOf iv).toNat)
  case atStart => exact ⟨0, _, _, by omega, rfl, Lib.hid ⟨M0.out, Tbl.Same.new _ _⟩⟩
  case round =>
    obtain ⟨i, T, U, hi, rfl, HH⟩ := hrel
    clear M0
    by_cases hil : i < l.length
    · obtain ⟨ga, off, rfl, hc⟩ := hL.out.at_ HH.out.1.below hil
      have C1 := Lib.hid (HH.out.1.putT (by omega) l[i] i)
      have HK := Lib.hid (show (T.put 0 l[i] (i : Int)).Same (U.put ⟨#[]⟩ l[i] ⟨#[120]⟩) from HH.out.2.put _ _ _ _ _)
      have HG : Hid ((T.put 0 l[i] (i : Int)).get l[i] = i) := Lib.hid (Tbl.get_put HH.out.1.okT (by have := (k_le HH.out.1.ak (by omega)).1; omega) 0 l[i] i)
      have HB : Hid (∀ W, Below w.heap.size w W → W.cell? ⟨ga, off + i, none⟩ = some (.int .u64 l[i])) := Lib.hid fun W hW => by
        obtain ⟨ga', off', e, h⟩ := hL.out.at_ hW hil
        injection e with e
        injection e with e1 e2
        subst e1 e2
        exact h
      have HI : Hid (l[i] ∈ (T.put 0 l[i] (i : Int)).l) := Lib.hid (T.mem_put 0 l[i] i)
      generalize l[i] = key at *
      generalize T.put 0 key (i : Int) = T' at *
      go_wp2_with fail
      refine C1.out.mono ?_
      rintro _ w4 ⟨⟨v1, rfl⟩, M1⟩
      have C2 := Lib.hid (M1.putU (by omega) key ⟨#[120]⟩)
      have hc4 := HB.out w4 M1.below
      clear hc C1
      generalize U.put ⟨#[]⟩ key ⟨#[120]⟩ = U' at *
      go_wp2_with fail
      refine C2.out.mono ?_
      rintro _ w5 ⟨⟨v2, rfl⟩, M2⟩
      have C3 := Lib.hid (M2.getT (by omega) key)
      have hc5 := HB.out w5 M2.below
      rw [HG.out, decide_eq_true HI.out] at C3
      clear hc4 C2 M1
      go_wp2_with fail
      refine C3.out.mono ?_
      rintro _ w6 ⟨rfl, M3⟩
      have M3 := Lib.hid M3
      clear hc5 C3 M2
      go_wp2
      go_roundw
      case rel => exact ⟨i + 1, T', U', by omega, by simp, Lib.hid ⟨M3.out, HK.out⟩⟩
      case measure => simp [intOf]; omega
    · obtain rfl : i = l.length := by omega
      go_wp2
      go_loopw [10] (fun iv wr => ∃ (i : Nat) (T : Tbl Int) (U : Tbl ByteArray), i ≤ m.length ∧ iv = .int .i64 i ∧ Hid (MI w wr t u l.length l.length T U ∧ T.Same U)) (fun iv _ => m.length - (intOf iv).toNat)
      case atStart => exact ⟨0, T, U, by omega, rfl, HH⟩
      case round =>
        clear HH T U
        obtain ⟨i, T, U, hi, rfl, HH⟩ := hrel
        by_cases hil : i < m.length
        · obtain ⟨ga, off, rfl, hc⟩ := hM.out.at_ HH.out.1.below hil
          have HB : Hid (∀ W, Below w.heap.size w W → W.cell? ⟨ga, off + i, none⟩ = some (.int .u64 m[i])) := Lib.hid fun W hW => by
            obtain ⟨ga', off', e, h⟩ := hM.out.at_ hW hil
            injection e with e
            injection e with e1 e2
            subst e1 e2
            exact h
          have C1 := Lib.hid (HH.out.1.getT hl m[i])
          have HK := Lib.hid (show (T.take 0 m[i]).Same (U.take ⟨#[]⟩ m[i]) from HH.out.2.take _ _ _)
          have HI : Hid (¬ m[i] ∈ (T.take 0 m[i]).l) := Lib.hid (T.not_take 0 m[i])
          generalize m[i] = key at *
          generalize hbb : decide (key ∈ T.l) = bb at *
          generalize T.get key = gv at *
          go_wp2_with fail
          refine C1.out.mono ?_
          rintro _ w4 ⟨rfl, M1⟩
          have C2 := Lib.hid (M1.takeT hl key)
          have hc4 := HB.out w4 M1.below
          rw [hbb] at C2
          generalize T.take 0 key = T' at *
          generalize T.get key = gv2 at *
          clear hc C1
          go_wp2_with fail
          refine C2.out.mono ?_
          rintro _ w5 ⟨rfl, M2⟩
          have C3 := Lib.hid (M2.takeU hl key)
          have hc5 := HB.out w5 M2.below
          generalize U.take ⟨#[]⟩ key = U' at *
          clear hc4 C2 M1
          go_wp2_with fail
          refine C3.out.mono ?_
          rintro _ w6 ⟨⟨v3, rfl⟩, M3⟩
          have C4 := Lib.hid (M3.getT hl key)
          rw [decide_eq_false HI.out] at C4
          have hc6 := HB.out w6 M3.below
          generalize T'.get key = gv3 at *
          clear hc5 C3 M2 hbb
          go_wp2_with fail
          refine C4.out.mono ?_
          rintro _ w7 ⟨rfl, M4⟩
          have M4 := Lib.hid M4
          clear hc6 C4 M3
          have hbq : (bb != bb) = false := by cases bb <;> rfl
          cases bb
          · go_wp2
            go_roundw
            case rel => exact ⟨i + 1, T', U', by omega, by simp, Lib.hid ⟨M4.out, HK.out⟩⟩
            case measure => simp [intOf]; omega
          · go_wp2
            go_roundw
            case rel => exact ⟨i + 1, T', U', by omega, by simp, Lib.hid ⟨M4.out, HK.out⟩⟩
            case measure => simp [intOf]; omega
        · obtain rfl : i = m.length := by omega
          go_wp2
          have HT := Lib.hid HH.out.2
          go_loopw [17] (fun iv wr => ∃ (i : Nat), i ≤ l.length ∧ iv = .int .i64 i ∧ Hid (MI w wr t u l.length l.length T U)) (fun iv _ => l.length - (intOf iv).toNat)
          case atStart => exact ⟨0, by omega, rfl, Lib.hid HH.out.1⟩
          case round =>
            clear HH
            obtain ⟨i, hi, rfl, HM⟩ := hrel
            by_cases hil : i < l.length
            · obtain ⟨ga, off, rfl, hc⟩ := hL.out.at_ HM.out.below hil
              have C1 := Lib.hid (HM.out.askedT hl l[i])
              have C2 := Lib.hid (HM.out.askedU hl l[i])
              have C3 := Lib.hid HM.out.lenT
              have hla := HM.out.la
              obtain ⟨a1, a2⟩ := HM.out.askT hl l[i]
              rw [← HT.out.asked] at C2
              generalize l[i] = key at *
              generalize T.asked key = n at *
              have x1 : decide ((n : Int) < 1) = false := decide_eq_false (by omega)
              have x2 : decide ((n : Int) > (T.l.length : Int) + 1) = false := decide_eq_false (by omega)
              have x3 : ((n : Int) != (n : Int)) = false := by simp
              have x4 : (T.l.length : Int) ≤ 1048576 := by omega
              go_wp2_with fail
              refine C1.out.mono ?_
              rintro _ w4 ⟨rfl, rfl⟩
              go_wp2_with fail
              refine C3.out.mono ?_
              rintro _ w4 ⟨rfl, rfl⟩
              go_wp2_with fail
              refine C2.out.mono ?_
              rintro _ w4 ⟨rfl, rfl⟩
              go_wp2
              go_roundw
              case rel => exact ⟨i + 1, by omega, by simp, HM⟩
              case measure => simp [intOf]; omega
            · obtain rfl : i = l.length := by omega
              have C1 := Lib.hid HM.out.lenT
              have C2 := Lib.hid HM.out.slotsT
              have C3 := Lib.hid HM.out.slotsU
              have C4 := Lib.hid HM.out.lenU
              have hla := HM.out.la
              have hak := HM.out.ak
              have hrm := HM.out.okT.room
              rw [← HT.out.k] at C3
              rw [← HT.out.l] at C4
              have C5 := Lib.hid (HM.out.keysT hl)
              generalize 2 ^ T.k = sl at *
              have x1 : decide (4 * (T.l.length : Int) ≤ 3 * (sl : Int)) = true := decide_eq_true (by omega)
              have x4 : (T.l.length : Int) ≤ 1048576 := by omega
              have x5 : (sl : Int) ≤ 2800000 := by omega
              go_wp2_with fail
              refine C1.out.mono ?_
              rintro _ w4 ⟨rfl, rfl⟩
              go_wp2_with fail
              refine C2.out.mono ?_
              rintro _ w4 ⟨rfl, rfl⟩
              go_wp2_with fail
              refine C2.out.mono ?_
              rintro _ w4 ⟨rfl, rfl⟩
              go_wp2_with fail
              refine C3.out.mono ?_
              rintro _ w4 ⟨rfl, rfl⟩
              go_wp2_with fail
              refine C1.out.mono ?_
              rintro _ w4 ⟨rfl, rfl⟩
              go_wp2_with fail
              refine C4.out.mono ?_
              rintro _ w4 ⟨rfl, rfl⟩
              go_wp2_with fail
              refine C5.out.mono ?_
              rintro _ w5 ⟨A5, c5, rfl, hv5, M5⟩
              have C6 := Lib.hid (M5.keysU hl hv5)
              rw [← HT.out.l] at C6
              clear hv5 M5 C5 C4 C3 C2 C1
              go_wp2_with fail
              refine C6.out.mono ?_
              rintro _ w6 ⟨A6, c6, rfl, hv6, hv7, hb6⟩
              have C7 := Lib.hid (sameIx_b hv7.lies hv6.lies (by omega))
              have hb6 := Lib.hid hb6
              clear C6 hv6 hv7
              go_wp2_with fail
              refine C7.out.mono ?_
              rintro _ w7 ⟨rfl, n7, rfl⟩
              go_wp2
              go_ret
              exact ⟨rfl, below_drewNs hb6.out n7⟩
end Go.Proofs.YtkjeobcfaolcaaaDoor
