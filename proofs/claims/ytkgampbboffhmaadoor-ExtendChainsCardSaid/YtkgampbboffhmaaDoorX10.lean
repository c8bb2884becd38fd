/- Decide: both sides. -/
import Derived.Test.YtkgampbboffhmaaDoorX9
set_option linter.unusedVariables false
set_option linter.unusedSimpArgs false
set_option maxRecDepth 100000
namespace Go.Proofs.YtkgampbboffhmaaDoor
open Go Go.Q

def decP (c : Cou) (m : Plea) (now : Int) : Int × Int :=
  if okC c = true then (if rightB c m = true then (if m.2.1 < now then (0, 18) else if now < lastV m then (0, 15) else if yesN m.2.2.2.2 < c.2.2.1 then (0, 29) else (m.2.2.1, 0)) else (0, 1)) else (0, 1)

theorem Decide_own (K : Nat) (hK : 200000 ≤ K) (c : Cou) (hn : c.1.length ≤ 100000) (m : Plea) (now : Int) (hl : m.2.2.2.2.length ≤ 100000) (hm : PleaI m) (hb : BalsI m.2.2.2.2) : F16 K c m now = some (decP c m now) := by
  unfold F16 decP
  rw [show F19 K (c.1, (c.2.1, (c.2.2.1, c.2.2.2))) = _ from check_own K (by omega) c hn, Option.bind_some]
  by_cases hc : okC c = true
  · rw [chk_ok hc, nn0, if_neg (by decide), if_pos hc]
    rw [show F18 K (m.1, (m.2.1, (m.2.2.1, (m.2.2.2.1, m.2.2.2.2)))) = _ from count_own K m hl (by omega), Option.bind_some]
    rw [show F21 K (c.1, (c.2.1, (c.2.2.1, c.2.2.2))) (m.1, (m.2.1, (m.2.2.1, (m.2.2.2.1, m.2.2.2.2)))) = _ from right_own K hK c hn m hl hm hb, Option.bind_some]
    by_cases hr : rightB c m = true
    · rw [hr, Bool.not_true, if_neg (by decide), if_pos rfl]
      by_cases a : m.2.1 < now
      · rw [ltT a, if_pos rfl, if_pos a]
      rw [ltF (by omega), if_neg (by decide), if_neg a]
      rw [show F42 K (m.1, (m.2.1, (m.2.2.1, (m.2.2.2.1, m.2.2.2.2)))) = _ from last_own K m hl, Option.bind_some]
      by_cases a2 : now < lastV m
      · rw [ltT a2, if_pos rfl, if_pos a2]
      rw [ltF (by omega), if_neg (by decide), if_neg a2]
      by_cases a3 : yesN m.2.2.2.2 < c.2.2.1
      · rw [ltT a3, if_pos rfl, if_pos a3]
      · rw [ltF (by omega), if_neg (by decide), if_neg a3]
    · rw [Bool.eq_false_iff.2 hr]; rfl
  · rw [chk_no hc, if_neg hc]; rfl

theorem Decide_ref (K : Nat) (hK : 200000 ≤ K) (c : Cou) (hn : c.1.length ≤ 100000) (m : Plea) (now : Int) (hl : m.2.2.2.2.length ≤ 100000) (hm : PleaI m) (hb : BalsI m.2.2.2.2) : F17 K c m now = some (decP c m now) := by
  unfold F17 decP
  rw [show F20 K (c.1, (c.2.1, (c.2.2.1, c.2.2.2))) = _ from check_ref K (by omega) c hn, Option.bind_some]
  by_cases hc : okC c = true
  · rw [chk_ok hc, nn0, if_neg (by decide), if_pos hc]
    rw [show F22 K (c.1, (c.2.1, (c.2.2.1, c.2.2.2))) (m.1, (m.2.1, (m.2.2.1, (m.2.2.2.1, m.2.2.2.2)))) = _ from right_ref K hK c hn m hl hm hb, Option.bind_some]
    by_cases hr : rightB c m = true
    · rw [hr, Bool.not_true, if_neg (by decide), if_pos rfl]
      by_cases a : m.2.1 < now
      · rw [ltT a, if_pos rfl, if_pos a]
      rw [ltF (by omega), if_neg (by decide), if_neg a]
      rw [show F24 K (m.1, (m.2.1, (m.2.2.1, (m.2.2.2.1, m.2.2.2.2)))) = _ from yes_ref K m hl (by omega), Option.bind_some]
      have fin : (if (ltI (yesN m.2.2.2.2) c.2.2.1) = true then some ((0 : Int), (29 : Int)) else some (m.2.2.1, (0 : Int))) = some (if yesN m.2.2.2.2 < c.2.2.1 then (0, 29) else (m.2.2.1, 0)) := by
        by_cases a3 : yesN m.2.2.2.2 < c.2.2.1
        · rw [ltT a3, if_pos rfl, if_pos a3]
        · rw [ltF (by omega), if_neg (by decide), if_neg a3]
      by_cases h0 : m.2.2.2.2.length = 0
      · have el : lastV m = m.2.2.2.1 := by rw [lastV, if_pos h0]
        rw [el]
        by_cases a3 : now < m.2.2.2.1
        · rw [ltT a3, if_pos rfl, if_pos a3]
        rw [ltF (by omega), if_neg (by decide), if_neg a3, ltF (by omega), if_neg (by decide)]
        exact fin
      · have e : IntKind.wrap .i64 ((m.2.2.2.2.length : Int) - 1) = ((m.2.2.2.2.length - 1 : Nat) : Int) := by rw [wi64 (by omega) (by omega)]; omega
        have el : lastV m = max m.2.2.2.1 (m.2.2.2.2.getD (m.2.2.2.2.length - 1) z0).2.1 := by rw [lastV, if_neg h0]
        rw [el]
        by_cases a3 : now < m.2.2.2.1
        · rw [ltT a3, if_pos rfl, if_pos (by omega)]
        rw [ltF (by omega), if_neg (by decide), ltT (by omega), if_pos rfl, e, inT (by omega) (by omega), if_pos rfl, nthD_bal]
        by_cases a5 : now < (m.2.2.2.2.getD (m.2.2.2.2.length - 1) z0).2.1
        · rw [ltT a5, if_pos rfl, if_pos (by omega)]
        · rw [ltF (by omega), if_neg (by decide)]
          refine fin.trans ?_
          rw [if_neg (c := now < max _ _) (by omega)]
    · rw [Bool.eq_false_iff.2 hr]; rfl
  · rw [chk_no hc, if_neg hc]; rfl

end Go.Proofs.YtkgampbboffhmaaDoor
