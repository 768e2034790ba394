/- A step on two lists of one room, by contract: the answer of a plain set. -/
import Derived.Test.YtcohopobjppmaaaLiP3
import Derived.Test.YtcohopobjppmaaaLiU
import Derived.Test.YtcohopobjppmaaaLiY
namespace Go.Proofs.Ytcohopobjppmaaa
open Go.RowKit
set_option linter.unusedVariables false
set_option linter.unusedSimpArgs false

/-- the document's answer: word, has, list, error; the keys then -/
def dAns (keys : List Int) (kind key : Int) (space : Bool) : Int × Bool × List Int × Int × List Int :=
  if kind = 1 then (if rHas keys key = false ∧ space = false then (0, false, [], 9, keys) else (0, !rHas keys key, [], 0, rIns keys key))
  else if kind = 2 then (0, rHas keys key, [], 0, rRem keys key)
  else if kind = 3 then (0, rHas keys key, [], 0, keys)
  else if kind = 4 then ((keys.length : Int), false, [], 0, keys)
  else if kind = 5 then ((rAbove keys key).1, (rAbove keys key).2, [], 0, keys)
  else if kind = 6 then (keys.getD 0 0, !keys.isEmpty, [], 0, keys)
  else if kind = 7 then (0, false, keys, 0, keys)
  else if kind = 8 then ((keys.length : Int), false, [], 0, [])
  else if kind = 9 then (0, false, [], 0, [])
  else (0, false, [], 0, keys)
def looksAt (kind : Int) : Prop := kind < 1 ∨ 3 ≤ kind ∧ kind ≤ 7 ∨ 9 < kind
/-- what a step has made -/
structure Stepd (s s2 : St) (nn l0 l0' l1 : Int) (ns0' ns1 : List (Int × Int)) (A : Int × Bool × List Int × Int × List Int) (kind x : Int) : Prop where
  both : ∃ fs', Both s2.W nn l0' l1 ns0' ns1 fs'
  keys : kl ns0' = A.2.2.2.2
  fail : s2.fail = s.fail
  nine : kind = 9 → x = l0'
  other : kind ≠ 9 → x = A.1 ∧ l0' = l0
  quiet : looksAt kind ∨ A.2.2.2.1 ≠ 0 → s2.puts = s.puts ∧ s2.W = s.W
def DoP (t n : Nat) (F0 : Nat → Prop) (w0 : World) (s : St) (nn l0 l1 : Int) (ns1 : List (Int × Int)) (A : Int × Bool × List Int × Int × List Int) (kind : Int) (en : Ending) (w' : World) : Prop :=
  ∃ x v s2 l0' ns0', en = .returned (.agg #[.int .u64 x, .bool A.2.1, v, .int .i64 A.2.2.2.1]) ∧ LftK t n F0 w0 s2 v A.2.2.1 w' ∧ Stepd s s2 nn l0 l0' l1 ns0' ns1 A kind x
section
variable {t n : Nat} {F F0 : Nat → Prop} {s : St} {nn l0 l1 on key kind : Int} {ns0 ns1 : List (Int × Int)} {fs : List Int} {w w0 : World} {space : Bool}
theorem Both.bd (hB : Both s.W nn l0 l1 ns0 ns1 fs) : 18 ≤ l0 ∧ l0 ≤ 1000 ∧ 18 ≤ l1 ∧ l1 ≤ 1000 := by
  have h1 := hB.in_.room.mem l0 (by simp)
  have h2 := hB.in_.room.mem l1 (by simp)
  have h3 := hB.in_.room.le
  have h4 := hB.in_.room.n2
  omega
theorem there_split {s1 : St} {p' : Pl} {a : Int} {pre post : List (Int × Int)} (hF : Found s s1 p' a pre post) (hb : ∀ x ∈ post, 0 ≤ x.1) : there p' key 0 = hk post key := by
  unfold there
  rw [hF.next]
  cases post with
  | nil => simp [hdt, hk]
  | cons x r =>
    rw [hF.key x r rfl]
    have := hb x (by simp)
    have h1 : hdt (x :: r) 0 = x.1 + 1 := rfl
    rw [h1, show (x.1 + 1 != 0) = true by simp; omega]
    simp [hk]
theorem lIns_no {p' : Pl} {s' : St} {l : Int} (h : rTake s 0 2 = (0, 9, s')) : lIns p' 0 s 0 l key = (false, 9, s') := by
  unfold lIns
  rw [htake_ok, h]
  simp only [hget_no (show (9 : Int) ≠ 0 by simp), hput_no (show (9 : Int) ≠ 0 by simp)]
  rfl
theorem plain_ins (hB : Both s.W nn l0 l1 ns0 ns1 fs) (hf : s.fail < 0) (hsp : space = true ↔ spc s.W nn fs) :
    ∃ p' ks' s1 b e s2 ns0' fs', hfind (fun x => decide (x < key)) 300 s 0 l0 = some (p', ks', 0, s1) ∧ lInsR p' 0 s1 0 l0 key = (b, e, s2) ∧ Both s2.W nn l0 l1 ns0' ns1 fs' ∧ s2.fail = s.fail ∧
      (if rHas (kl ns0) key = false ∧ space = false then (0, false, [], 9, kl ns0) else ((0 : Int), !rHas (kl ns0) key, ([] : List Int), (0 : Int), rIns (kl ns0) key)) = (0, b, [], e, kl ns0') ∧ (e ≠ 0 → s2.puts = s.puts ∧ s2.W = s.W) := by
  have hlen := hB.len
  obtain ⟨pre, post, rfl, hpos, h1, h2⟩ := split_at ns0 key
  obtain ⟨p', s1, hfd, hF⟩ := hfind_run (q := fun x => decide (x < key)) (k := 300) hB.in_.lst hf hlen.2 (by simp at hlen; omega) (by simp at hlen; omega) (fun x hx => by simpa using h1 x hx) (fun x r h => by simpa using h2 x r h)
  have hpb : ∀ x ∈ post, 0 ≤ x.1 := fun x hx => (hB.in_.lst.bd x (by simp [hx])).1
  have hth := there_split (key := key) hF hpb
  have hrh := rHas_split hpos
  rw [← hrh] at hth
  refine ⟨p', asked pre post, s1, ?_⟩
  have hB1 : Both s1.W nn l0 l1 (pre ++ post) ns1 fs := hB.lkd hF.lkd
  cases hh : rHas (kl (pre ++ post)) key with
  | true =>
    refine ⟨false, 0, s1, pre ++ post, fs, hfd, if_pos (.inr (hth.trans hh)), hB1, hF.lkd.fail, ?_, fun h => absurd rfl h⟩
    rw [if_neg (by simp)]
    unfold rIns
    rw [if_pos hh]
    rfl
  | false =>
    have hnot : lInsR p' 0 s1 0 l0 key = lIns p' 0 s1 0 l0 key := if_neg (by
      rintro (h | h)
      · exact h rfl
      · rw [hth, hh] at h; simp at h)
    cases hspc : space with
    | true =>
      have hs1 : spc s1.W nn fs := by rw [hF.lkd.W]; exact hsp.1 hspc
      obtain ⟨hnm, hgt⟩ := mem_split (key := key) (hB.in_.lst.rise) h1 h2 (fun x r h => by
        rw [hh, h] at hrh
        intro hc
        simp only [hk] at hrh
        rw [hc] at hrh
        simp at hrh)
      obtain ⟨nd, s2, fs', hi, M⟩ := ins_ok hB1.in_ (by rw [hF.lkd.fail]; exact hf) hs1 h1 hgt hF.from_ hF.next
      refine ⟨true, 0, s2, pre ++ (nd, key) :: post, fs', hfd, hnot.trans hi, M.both hB1, M.fail.trans hF.lkd.fail, ?_, fun h => absurd rfl h⟩
      rw [if_neg (by simp), rIns_split hpos hh nd]
      rfl
    | false =>
      have hs1 : ¬ spc s1.W nn fs := by rw [hF.lkd.W]; exact fun h => by have := hsp.2 h; rw [hspc] at this; cases this
      obtain ⟨s2, ht, k⟩ := take_no hB1.in_.room (by rw [hF.lkd.fail]; exact hf) hs1
      refine ⟨false, 9, s2, pre ++ post, fs, hfd, hnot.trans (lIns_no ht), hB1.lkd k, k.fail.trans hF.lkd.fail, ?_, fun _ => ⟨k.puts.trans hF.lkd.puts, k.W.trans hF.lkd.W⟩⟩
      rw [if_pos ⟨rfl, rfl⟩]
theorem plain_rem (hB : Both s.W nn l0 l1 ns0 ns1 fs) (hf : s.fail < 0) :
    ∃ p' ks' s1 b s2 ns0' fs', hfind (fun x => decide (x < key)) 300 s 0 l0 = some (p', ks', 0, s1) ∧ lRemR p' 0 s1 0 l0 key = (b, 0, s2) ∧ Both s2.W nn l0 l1 ns0' ns1 fs' ∧ s2.fail = s.fail ∧ there p' key 0 = rHas (kl ns0) key ∧ Lkd s s1 ∧ b = rHas (kl ns0) key ∧ kl ns0' = rRem (kl ns0) key := by
  have hlen := hB.len
  obtain ⟨pre, post, rfl, hpos, h1, h2⟩ := split_at ns0 key
  obtain ⟨p', s1, hfd, hF⟩ := hfind_run (q := fun x => decide (x < key)) (k := 300) hB.in_.lst hf hlen.2 (by simp at hlen; omega) (by simp at hlen; omega) (fun x hx => by simpa using h1 x hx) (fun x r h => by simpa using h2 x r h)
  have hpb : ∀ x ∈ post, 0 ≤ x.1 := fun x hx => (hB.in_.lst.bd x (by simp [hx])).1
  have hth := there_split (key := key) hF hpb
  have hrh := rHas_split hpos
  rw [← hrh] at hth
  refine ⟨p', asked pre post, s1, ?_⟩
  have hB1 : Both s1.W nn l0 l1 (pre ++ post) ns1 fs := hB.lkd hF.lkd
  cases hh : rHas (kl (pre ++ post)) key with
  | true =>
    have hnot : lRemR p' 0 s1 0 l0 key = lRem p' 0 s1 0 l0 := if_neg (by
      rintro (h | h)
      · exact h rfl
      · rw [hth, hh] at h; simp at h)
    obtain ⟨nd, post', rfl⟩ : ∃ nd r, post = (nd, key) :: r := by
      cases post with
      | nil => rw [hrh] at hh; cases hh
      | cons x r =>
        rw [hrh] at hh
        simp only [hk] at hh
        obtain ⟨a, b⟩ := x
        have : b = key := by simpa using hh
        exact ⟨a, r, by rw [this]⟩
    obtain ⟨s2, fs', hi, M⟩ := rem_ok hB1.in_ (by rw [hF.lkd.fail]; exact hf) hF.from_ hF.next
    exact ⟨true, s2, pre ++ post', fs', hfd, hnot.trans hi, M.both hB1, M.fail.trans hF.lkd.fail, hth.trans hh, hF.lkd, rfl, (rRem_split hB.in_.lst.rise).symm⟩
  | false =>
    obtain ⟨hnm, hgt⟩ := mem_split (key := key) (hB.in_.lst.rise) h1 h2 (fun x r h => by
      rw [hh, h] at hrh
      intro hc
      simp only [hk] at hrh
      rw [hc] at hrh
      simp at hrh)
    exact ⟨false, s1, pre ++ post, fs, hfd, if_pos (.inr (hth.trans hh)), hB1, hF.lkd.fail, hth.trans hh, hF.lkd, rfl, (rRem_not hnm).symm⟩
theorem plain_above (hB : Both s.W nn l0 l1 ns0 ns1 fs) (hf : s.fail < 0) :
    ∃ p' ks' s1, hfind (fun x => decide (x ≤ key)) 300 s 0 l0 = some (p', ks', 0, s1) ∧ Lkd s s1 ∧ firstOf p' 0 = ((rAbove (kl ns0) key).1, (rAbove (kl ns0) key).2, 0) := by
  have hlen := hB.len
  obtain ⟨pre, post, rfl, h1, h2⟩ := split_le ns0 key
  obtain ⟨p', s1, hfd, hF⟩ := hfind_run (q := fun x => decide (x ≤ key)) (k := 300) hB.in_.lst hf hlen.2 (by simp at hlen; omega) (by simp at hlen; omega) (fun x hx => by simpa using h1 x hx) (fun x r h => by simpa using h2 x r h)
  have hpb : ∀ x ∈ post, 0 ≤ x.1 := fun x hx => (hB.in_.lst.bd x (by simp [hx])).1
  refine ⟨p', asked pre post, s1, hfd, hF.lkd, ?_⟩
  rw [rAbove_split (fun x hx => by have := h1 x hx; omega) (fun x r h => by have := h2 x r h; omega)]
  unfold firstOf
  rw [hF.next]
  cases post with
  | nil => rfl
  | cons x r =>
    have := hpb x (by simp)
    rw [if_neg (by show ¬ ((0 : Int) ≠ 0 ∨ x.1 + 1 = 0); omega), hF.key x r rfl]
    rfl
theorem plain_first (hB : Both s.W nn l0 l1 ns0 ns1 fs) (hf : s.fail < 0) :
    ∃ p' ks' s1, hfind (fun _ => false) 300 s 0 l0 = some (p', ks', 0, s1) ∧ Lkd s s1 ∧ firstOf p' 0 = ((kl ns0).getD 0 0, !(kl ns0).isEmpty, 0) := by
  have hlen := hB.len
  obtain ⟨p', s1, hfd, hF⟩ := hfind_run (q := fun _ => false) (k := 300) (pre := []) (post := ns0) hB.in_.lst hf hlen.2 (by simp) (by simp) (by simp) (fun x r h => rfl)
  have hpb : ∀ x ∈ ns0, 0 ≤ x.1 := fun x hx => (hB.in_.lst.bd x (by simp [hx])).1
  refine ⟨p', _, s1, hfd, hF.lkd, ?_⟩
  unfold firstOf
  rw [hF.next]
  cases ns0 with
  | nil => rfl
  | cons x r =>
    have := hpb x (by simp)
    rw [if_neg (by show ¬ ((0 : Int) ≠ 0 ∨ x.1 + 1 = 0); omega), hF.key x r rfl]
    simp [kl]
theorem plain_all (hB : Both s.W nn l0 l1 ns0 ns1 fs) (hf : s.fail < 0) :
    ∃ p' s1, hfind (fun _ => true) 300 s 0 l0 = some (p', kl ns0, 0, s1) ∧ Lkd s s1 ∧ p'.next = 0 := by
  have hlen := hB.len
  obtain ⟨p', s1, hfd, hF⟩ := hfind_run (q := fun _ => true) (k := 300) (pre := ns0) (post := []) (by rw [List.append_nil]; exact hB.in_.lst) hf hlen.2 (by omega) (by omega) (by simp) (fun x r h => by cases h)
  exact ⟨p', s1, by rw [hfd]; simp [asked, kl], hF.lkd, hF.next⟩
theorem dAns_1 {keys : List Int} : dAns keys 1 key space = (if rHas keys key = false ∧ space = false then (0, false, [], 9, keys) else (0, !rHas keys key, [], 0, rIns keys key)) := by unfold dAns; rw [if_pos rfl]
set_option maxRecDepth 100000 in
theorem doB (hw : Txw w t F s) (hf : Fits s) (hb : Bud s (n + 6 * 300 + 20)) (hk : 0 ≤ key) (hk' : key ≤ 18446744073709551615) (hB : Both s.W nn l0 l1 ns0 ns1 fs) (hfl : s.fail < 0) (hsp : space = true ↔ spc s.W nn fs) (hm : Fr F0 w0 F w) :
    Calls Try.prog 7 #[.iface 31 (.pointer (some ⟨t, 0, none⟩)), .int .u64 0, .int .u64 l0, .agg #[.int .i64 kind, .int .i64 on, .int .u64 key]] w (DoP t n F0 w0 s nn l0 l1 ns1 (dAns (kl ns0) kind key space) kind) := by
  obtain ⟨b0, b1, -, -⟩ := hB.bd
  have hl : 0 ≤ l0 := by omega
  have hl' : l0 ≤ 18446744073709551615 := by omega
  by_cases h0 : kind < 1 ∨ 9 < kind
  · have e : dAns (kl ns0) kind key space = (0, false, [], 0, kl ns0) := by
      unfold dAns
      rw [if_neg (by omega), if_neg (by omega), if_neg (by omega), if_neg (by omega), if_neg (by omega), if_neg (by omega), if_neg (by omega), if_neg (by omega), if_neg (by omega)]
    rw [e]
    exact (do0_b (N := 300) (s' := s) (e' := 0) (p' := ⟨0, 0, 0, 0⟩) (ks' := []) hw hf hb (by omega) (by omega) hl hl' hk hk' h0 hm).mono fun e w' ⟨q1, q2⟩ =>
      ⟨_, _, s, l0, ns0, q1, LftK.nil q2, ⟨fs, hB⟩, rfl, rfl, fun h => by omega, fun _ => ⟨rfl, rfl⟩, fun _ => ⟨rfl, rfl⟩⟩
  · rcases (show kind = 1 ∨ kind = 2 ∨ kind = 3 ∨ kind = 4 ∨ kind = 5 ∨ kind = 6 ∨ kind = 7 ∨ kind = 8 ∨ kind = 9 by omega) with rfl | rfl | rfl | rfl | rfl | rfl | rfl | rfl | rfl
    · obtain ⟨p', ks', s1, b, e, s2, ns0', fs', h1, h2, h3, h4, h5, h6⟩ := plain_ins (key := key) hB hfl hsp
      rw [dAns_1, h5]
      exact (do1_b hw hf hb (by omega) (by omega) hl hl' hk hk' h1 h2 hm).mono fun _ w' ⟨q1, q2⟩ =>
        ⟨_, _, s2, l0, ns0', q1, LftK.nil q2, ⟨fs', h3⟩, rfl, h4, fun h => by omega, fun _ => ⟨rfl, rfl⟩, fun h => h.elim (fun h => by unfold looksAt at h; omega) h6⟩
    · obtain ⟨p', ks', s1, b, s2, ns0', fs', h1, h2, h3, h4, h5, h6, h7, h8⟩ := plain_rem (key := key) hB hfl
      rw [show dAns (kl ns0) 2 key space = (0, b, [], 0, kl ns0') by rw [h7, h8]; rfl]
      exact (do2_b hw hf hb (by omega) (by omega) hl hl' hk hk' h1 h2 hm).mono fun _ w' ⟨q1, q2⟩ =>
        ⟨_, _, s2, l0, ns0', q1, LftK.nil q2, ⟨fs', h3⟩, rfl, h4, fun h => by omega, fun _ => ⟨rfl, rfl⟩, fun h => h.elim (fun h => by unfold looksAt at h; omega) (fun h => absurd rfl h)⟩
    · obtain ⟨p', ks', s1, b, s2, ns0', fs', h1, h2, h3, h4, h5, h6, h7, h8⟩ := plain_rem (key := key) hB hfl
      rw [show dAns (kl ns0) 3 key space = (0, rHas (kl ns0) key, [], 0, kl ns0) from rfl]
      exact (do3_b hw hf hb (by omega) (by omega) hl hl' hk hk' h1 h5 hm).mono fun _ w' ⟨q1, q2⟩ =>
        ⟨_, _, s1, l0, ns0, q1, LftK.nil q2, ⟨fs, hB.lkd h6⟩, rfl, h6.fail, fun h => by omega, fun _ => ⟨rfl, rfl⟩, fun _ => ⟨h6.puts, h6.W⟩⟩
    · have hlb := hB.in_.lst.bd _ List.mem_cons_self
      simp only at hlb
      have hR : hget s 0 l0 = (((kl ns0).length : Int), 0, gt1 s) := by rw [hg hfl (by omega), show ca s.W l0 = (ns0.length : Int) from hB.in_.lst.run.1]; simp [kl]
      rw [show dAns (kl ns0) 4 key space = (((kl ns0).length : Int), false, [], 0, kl ns0) from rfl]
      exact (do4_b (N := 300) (p' := ⟨0, 0, 0, 0⟩) (ks' := []) hw hf hb (by omega) (by omega) hl hl' hk hk' hR hm).mono fun _ w' ⟨q1, q2⟩ =>
        ⟨_, _, gt1 s, l0, ns0, q1, LftK.nil q2, ⟨fs, hB⟩, rfl, rfl, fun h => by omega, fun _ => ⟨rfl, rfl⟩, fun _ => ⟨rfl, rfl⟩⟩
    · obtain ⟨p', ks', s1, h1, h6, h2⟩ := plain_above (key := key) hB hfl
      rw [show dAns (kl ns0) 5 key space = ((rAbove (kl ns0) key).1, (rAbove (kl ns0) key).2, [], 0, kl ns0) from rfl]
      exact (do5_b hw hf hb (by omega) (by omega) hl hl' hk hk' h1 h2 hm).mono fun _ w' ⟨q1, q2⟩ =>
        ⟨_, _, s1, l0, ns0, q1, LftK.nil q2, ⟨fs, hB.lkd h6⟩, rfl, h6.fail, fun h => by omega, fun _ => ⟨rfl, rfl⟩, fun _ => ⟨h6.puts, h6.W⟩⟩
    · obtain ⟨p', ks', s1, h1, h6, h2⟩ := plain_first hB hfl
      rw [show dAns (kl ns0) 6 key space = ((kl ns0).getD 0 0, !(kl ns0).isEmpty, [], 0, kl ns0) from rfl]
      exact (do6_b hw hf hb (by omega) (by omega) hl hl' hk hk' h1 h2 hm).mono fun _ w' ⟨q1, q2⟩ =>
        ⟨_, _, s1, l0, ns0, q1, LftK.nil q2, ⟨fs, hB.lkd h6⟩, rfl, h6.fail, fun h => by omega, fun _ => ⟨rfl, rfl⟩, fun _ => ⟨h6.puts, h6.W⟩⟩
    · obtain ⟨p', s1, h1, h6, h2⟩ := plain_all hB hfl
      have hks : keysOf (kl ns0) p' 0 = (kl ns0, 0) := by unfold keysOf firstOf; simp [h2]
      rw [show dAns (kl ns0) 7 key space = (0, false, kl ns0, 0, kl ns0) from rfl]
      exact (do7_b hw hf hb (by omega) (by omega) hl hl' hk hk' h1 hks hm).mono fun _ w' ⟨v, q1, q2⟩ =>
        ⟨_, v, s1, l0, ns0, q1, q2, ⟨fs, hB.lkd h6⟩, rfl, h6.fail, fun h => by omega, fun _ => ⟨rfl, rfl⟩, fun _ => ⟨h6.puts, h6.W⟩⟩
    · obtain ⟨p', s1, h1, h6, h2⟩ := plain_all hB hfl
      have hB1 := hB.lkd h6
      obtain ⟨s2, fs', hc, M⟩ := clr_ok hB1.in_ (by rw [h6.fail]; exact hfl)
      rw [show dAns (kl ns0) 8 key space = (((kl ns0).length : Int), false, [], 0, []) from rfl]
      have hc' : lClr (kl ns0).length 0 s1 0 l0 = (((kl ns0).length : Int), 0, s2) := by rw [show (kl ns0).length = ns0.length by simp [kl]]; exact hc
      exact (do8_b hw hf hb (by omega) (by omega) hl hl' hk hk' h1 hc' hm).mono fun _ w' ⟨q1, q2⟩ =>
        ⟨_, _, s2, l0, [], q1, LftK.nil q2, ⟨fs', M.both hB1⟩, rfl, M.fail.trans h6.fail, fun h => by omega, fun _ => ⟨rfl, rfl⟩, fun h => h.elim (fun h => by unfold looksAt at h; omega) (fun h => absurd rfl h)⟩
    · obtain ⟨p', s1, h1, h6, h2⟩ := plain_all hB hfl
      have hB1 := hB.lkd h6
      obtain ⟨s2, l', s3, fs', hd, hnw, hl0, M⟩ := redo_ok hB1.in_ (by rw [h6.fail]; exact hfl)
      rw [show dAns (kl ns0) 9 key space = (0, false, [], 0, []) from rfl]
      have hd' : lDrp (kl ns0).length 0 s1 0 l0 = (0, s2) := by rw [show (kl ns0).length = ns0.length by simp [kl]]; exact hd
      refine (do9_b hw hf hb (by omega) (by omega) hl hl' hk hk' h1 hd' hm).mono fun _ w' ⟨x, e2, s4, q0, q1, q2⟩ => ?_
      have q3 : lRe 0 s2 0 = (l', 0, s3) := (if_pos rfl).trans hnw
      obtain ⟨rfl, rfl, rfl⟩ : x = l' ∧ e2 = 0 ∧ s4 = s3 := by
        have := q0.out.symm.trans q3
        simpa using this
      exact ⟨_, _, s4, x, [], q1, LftK.nil q2, ⟨fs', M.both hB1⟩, rfl, M.fail.trans h6.fail, fun _ => rfl, fun h => absurd rfl h, fun h => h.elim (fun h => by unfold looksAt at h; omega) (fun h => absurd rfl h)⟩
end
end Go.Proofs.Ytcohopobjppmaaa
