/- Right pleas: the loops of both sides. -/
import Derived.Test.YtkgampbboffhmaaDoorX5
set_option linter.unusedVariables false
set_option linter.unusedSimpArgs false
set_option maxRecDepth 100000
namespace Go.Proofs.YtkgampbboffhmaaDoor
open Go Go.Q

theorem framed_any (K : Nat) (c : Cou) (m : Plea) : ∃ b, F44 K c m = some b := by
  unfold F44
  repeat' split
  all_goals exact ⟨_, rfl⟩

theorem cut_take (l : List Bal) (t : Nat) : cut l 0 (t : Int) = l.take t := by simp [cut]

theorem bal_getD {l : List Bal} (h : BalsI l) {t : Nat} (ht : t < l.length) : BalI (l.getD t z0) := by
  refine h _ ?_
  rw [List.getD_eq_getElem?_getD, List.getElem?_eq_getElem ht]
  exact List.getElem_mem ht

theorem right_go (K : Nat) (hK : 200000 ≤ K) (c : Cou) (hc : okC c = true) (m : Plea) (hl : m.2.2.2.2.length ≤ 100000) (hm : PleaI m) (hb : BalsI m.2.2.2.2) (kx) : ∀ (r t n : Nat) (so : Plea), t + r = m.2.2.2.2.length → r < n →
    so.1 = m.1 → so.2.1 = m.2.1 → so.2.2.1 = m.2.2.1 → so.2.2.2.1 = m.2.2.2.1 →
    F21l0 K n m.2.2.2.2 (m.2.2.2.2.length : Int) (t : Int) c m so kx = if votesFrom c m r t = true then kx else some false
  | 0, t, n, so, hh, hn, s1, s2, s3, s4 => by
    obtain ⟨n, rfl⟩ : ∃ m, n = m + 1 := ⟨n - 1, by omega⟩
    rw [F21l0, B21l0, ltF (by omega), if_neg (by decide)]
    rfl
  | r + 1, t, n, so, hh, hn, s1, s2, s3, s4 => by
    obtain ⟨n, rfl⟩ : ∃ m, n = m + 1 := ⟨n - 1, by omega⟩
    have e1 : IntKind.wrap .i64 ((t : Int) + 1) = ((t + 1 : Nat) : Int) := by rw [wi64 (by omega) (by omega)]; omega
    rw [F21l0, B21l0, ltT (by omega), if_pos rfl, inT (by omega) (by omega), if_pos rfl, inBT (by omega) (by omega) (by omega), if_pos rfl, nthD_bal, e1, cut_take, s1, s2, s3, s4]
    have hv := bal_getD hb (t := t) (by omega)
    have := vote_own K hK c hc (cutP m t) (m.2.2.2.2.getD t z0) (by simp [cutP]; omega) hm hv.1 hv.2
    refine (congrArg (fun o => Option.bind o _) this).trans ?_
    rw [Option.bind_some, eqI_eq, votesFrom]
    by_cases a : votE c (cutP m t) (m.2.2.2.2.getD t z0) = 0
    · rw [decide_eq_true a, Bool.not_true, if_neg (by decide), Bool.true_and]
      exact right_go K hK c hc m hl hm hb kx r (t + 1) n (cutP m t) (by omega) (by omega) rfl rfl rfl rfl
    · rw [decide_eq_false a, Bool.not_false, if_pos rfl, Bool.false_and, if_neg (by decide)]

theorem right_own (K : Nat) (hK : 200000 ≤ K) (c : Cou) (hn : c.1.length ≤ 100000) (m : Plea) (hl : m.2.2.2.2.length ≤ 100000) (hm : PleaI m) (hb : BalsI m.2.2.2.2) : F21 K c m = some (rightB c m) := by
  unfold F21 rightB
  rw [show F19 K (c.1, (c.2.1, (c.2.2.1, c.2.2.2))) = _ from check_own K (by omega) c hn, Option.bind_some]
  by_cases hc : okC c = true
  · rw [chk_ok hc, show (!(eqI (0 : Int) 0)) = false from rfl, if_neg (by decide), show F33 K (c.1, (c.2.1, (c.2.2.1, c.2.2.2))) (m.1, (m.2.1, (m.2.2.1, (m.2.2.2.1, m.2.2.2.2)))) = _ from framed_own K c m, Option.bind_some, hc, Bool.true_and]
    by_cases hf : framB c m
    · rw [decide_eq_true hf, Bool.not_true, if_neg (by decide), Bool.true_and]
      refine (right_go K hK c hc m hl hm hb _ m.2.2.2.2.length 0 K m (by omega) (by omega) rfl rfl rfl rfl).trans ?_
      cases votesFrom c m m.2.2.2.2.length 0 <;> rfl
    · rw [decide_eq_false hf]; rfl
  · rw [chk_no hc, Bool.eq_false_iff.2 hc]; rfl

theorem rright_go (K : Nat) (hK : 200000 ≤ K) (c : Cou) (hc : okC c = true) (m : Plea) (hl : m.2.2.2.2.length ≤ 100000) (hm : PleaI m) (hb : BalsI m.2.2.2.2) (kx) : ∀ (r t n : Nat), t + r = m.2.2.2.2.length → r < n →
    F22l0 K n (t : Int) c m kx = if votesFrom c m r t = true then kx else some false
  | 0, t, n, hh, hn => by
    obtain ⟨n, rfl⟩ : ∃ m, n = m + 1 := ⟨n - 1, by omega⟩
    rw [F22l0, B22l0, ltF (by omega), if_neg (by decide)]
    rfl
  | r + 1, t, n, hh, hn => by
    obtain ⟨n, rfl⟩ : ∃ m, n = m + 1 := ⟨n - 1, by omega⟩
    have e1 : IntKind.wrap .i64 ((t : Int) + 1) = ((t + 1 : Nat) : Int) := by rw [wi64 (by omega) (by omega)]; omega
    rw [F22l0, B22l0, ltT (by omega), if_pos rfl, inBT (by omega) (by omega) (by omega), if_pos rfl, inT (by omega) (by omega), if_pos rfl, nthD_bal, e1, cut_take]
    have hv := bal_getD hb (t := t) (by omega)
    have := wrong_ref K hK c hc (cutP m t) (m.2.2.2.2.getD t z0) (by simp [cutP]; omega) hm hv.1 hv.2
    refine (congrArg (fun o => Option.bind o _) this).trans ?_
    rw [Option.bind_some, eqI_eq, votesFrom]
    by_cases a : votE c (cutP m t) (m.2.2.2.2.getD t z0) = 0
    · rw [decide_eq_true a, Bool.not_true, if_neg (by decide), Bool.true_and]
      exact rright_go K hK c hc m hl hm hb kx r (t + 1) n (by omega) (by omega)
    · rw [decide_eq_false a, Bool.not_false, if_pos rfl, Bool.false_and, if_neg (by decide)]

theorem right_ref (K : Nat) (hK : 200000 ≤ K) (c : Cou) (hn : c.1.length ≤ 100000) (m : Plea) (hl : m.2.2.2.2.length ≤ 100000) (hm : PleaI m) (hb : BalsI m.2.2.2.2) : F22 K c m = some (rightB c m) := by
  unfold F22 rightB
  rw [show F20 K (c.1, (c.2.1, (c.2.2.1, c.2.2.2))) = _ from check_ref K (by omega) c hn, Option.bind_some]
  by_cases hc : okC c = true
  · rw [chk_ok hc, show F44 K (c.1, (c.2.1, (c.2.2.1, c.2.2.2))) (m.1, (m.2.1, (m.2.2.1, (m.2.2.2.1, m.2.2.2.2)))) = _ from framed_ref K c m hc, Option.bind_some, show (!(eqI (0 : Int) 0)) = false from rfl, if_neg (by decide), hc, Bool.true_and]
    by_cases hf : framB c m
    · rw [decide_eq_true hf, Bool.not_true, if_neg (by decide), Bool.true_and]
      refine (rright_go K hK c hc m hl hm hb _ m.2.2.2.2.length 0 K (by omega) (by omega)).trans ?_
      cases votesFrom c m m.2.2.2.2.length 0 <;> rfl
    · rw [decide_eq_false hf]; rfl
  · obtain ⟨b, hf⟩ := framed_any K (c.1, (c.2.1, (c.2.2.1, c.2.2.2))) (m.1, (m.2.1, (m.2.2.1, (m.2.2.2.1, m.2.2.2.2))))
    rw [hf, Option.bind_some, chk_no hc, Bool.eq_false_iff.2 hc]; rfl

end Go.Proofs.YtkgampbboffhmaaDoor
