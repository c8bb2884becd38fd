/- Open, Vote, Count, Decide: both sides. -/
import Derived.Test.YtkgampbboffhmaaDoorX6
set_option linter.unusedVariables false
set_option linter.unusedSimpArgs false
set_option maxRecDepth 100000
namespace Go.Proofs.YtkgampbboffhmaaDoor
open Go Go.Q

def pl0 : Plea := (0, (0, (0, (0, []))))
theorem nn0 : (!(eqI (0 : Int) 0)) = false := rfl

def voteP (c : Cou) (m : Plea) (v : Bal) : Plea × Int :=
  if okC c = true then (if rightB c m = true then (if votE c m v = 0 then ((m.1, (m.2.1, (m.2.2.1, (m.2.2.2.1, m.2.2.2.2 ++ [v])))), 0) else (m, votE c m v)) else (m, 1)) else (m, 1)

theorem Vote_own (K : Nat) (hK : 200000 ≤ K) (c : Cou) (hn : c.1.length ≤ 100000) (m : Plea) (v : Bal) (hl : m.2.2.2.2.length ≤ 100000) (hm : PleaI m) (hb : BalsI m.2.2.2.2) (hv : BalI v) : F14 K c m v = some (voteP c m v) := by
  unfold F14 voteP
  rw [show F19 K (c.1, (c.2.1, (c.2.2.1, c.2.2.2))) = _ from check_own K (by omega) c hn, Option.bind_some]
  by_cases hc : okC c = true
  · rw [chk_ok hc, nn0, if_neg (by decide), if_pos hc]
    rw [show F21 K (c.1, (c.2.1, (c.2.2.1, c.2.2.2))) (m.1, (m.2.1, (m.2.2.1, (m.2.2.2.1, m.2.2.2.2)))) = _ from right_own K hK c hn m hl hm hb, Option.bind_some]
    by_cases hr : rightB c m = true
    · rw [hr, Bool.not_true, if_neg (by decide), if_pos rfl]
      rw [show F39 K (c.1, (c.2.1, (c.2.2.1, c.2.2.2))) (m.1, (m.2.1, (m.2.2.1, (m.2.2.2.1, m.2.2.2.2)))) (v.1, (v.2.1, (v.2.2.1, v.2.2.2))) = _ from vote_own K hK c hc m v hl hm hv.1 hv.2, Option.bind_some]
      by_cases he : votE c m v = 0
      · rw [he, nn0, if_neg (by decide), if_pos rfl]
        unfold F40
        rw [roomT (by simp; omega), if_pos rfl, Option.bind_some, roomT (by simp; omega), if_pos rfl]
        rfl
      · rw [eqI_eq, decide_eq_false he, Bool.not_false, if_pos rfl, if_neg he]
    · rw [Bool.eq_false_iff.2 hr]; rfl
  · rw [chk_no hc, if_neg hc]; rfl

theorem Vote_ref (K : Nat) (hK : 200000 ≤ K) (c : Cou) (hn : c.1.length ≤ 100000) (m : Plea) (v : Bal) (hl : m.2.2.2.2.length ≤ 100000) (hm : PleaI m) (hb : BalsI m.2.2.2.2) (hv : BalI v) : F15 K c m v = some (voteP c m v) := by
  unfold F15 voteP
  rw [show F20 K (c.1, (c.2.1, (c.2.2.1, c.2.2.2))) = _ from check_ref K (by omega) c hn, Option.bind_some]
  by_cases hc : okC c = true
  · rw [chk_ok hc, nn0, if_neg (by decide), if_pos hc]
    rw [show F22 K (c.1, (c.2.1, (c.2.2.1, c.2.2.2))) (m.1, (m.2.1, (m.2.2.1, (m.2.2.2.1, m.2.2.2.2)))) = _ from right_ref K hK c hn m hl hm hb, Option.bind_some]
    by_cases hr : rightB c m = true
    · rw [hr, Bool.not_true, if_neg (by decide), if_pos rfl]
      rw [show F41 K (c.1, (c.2.1, (c.2.2.1, c.2.2.2))) (m.1, (m.2.1, (m.2.2.1, (m.2.2.2.1, m.2.2.2.2)))) (v.1, (v.2.1, (v.2.2.1, v.2.2.2))) = _ from wrong_ref K hK c hc m v hl hm hv.1 hv.2, Option.bind_some]
      by_cases he : votE c m v = 0
      · rw [he, nn0, if_neg (by decide), if_pos rfl]
        rw [roomT (by simp; omega), if_pos rfl, roomT (by simp; omega), if_pos rfl]
        rfl
      · rw [eqI_eq, decide_eq_false he, Bool.not_false, if_pos rfl, if_neg he]
    · rw [Bool.eq_false_iff.2 hr]; rfl
  · rw [chk_no hc, if_neg hc]; rfl

end Go.Proofs.YtkgampbboffhmaaDoor
