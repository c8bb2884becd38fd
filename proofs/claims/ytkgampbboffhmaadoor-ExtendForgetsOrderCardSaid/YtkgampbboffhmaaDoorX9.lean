/- Open, Decide: both sides. -/
import Derived.Test.YtkgampbboffhmaaDoorX8
set_option linter.unusedVariables false
set_option linter.unusedSimpArgs false
set_option maxRecDepth 100000
namespace Go.Proofs.YtkgampbboffhmaaDoor
open Go Go.Q

def openP (c : Cou) (o la u now : Int) : Plea × Int :=
  if okC c = true then (if la < now then (pl0, 18) else if framB c (o, (la, (u, (now, [])))) then ((o, (la, (u, (now, [])))), 0) else (pl0, 3)) else (pl0, 1)

theorem Open_own (K : Nat) (hK : 200000 ≤ K) (c : Cou) (hn : c.1.length ≤ 100000) (o la u now : Int) : F10 K c o la u now = some (openP c o la u now) := by
  unfold F10 openP
  rw [show F19 K (c.1, (c.2.1, (c.2.2.1, c.2.2.2))) = _ from check_own K (by omega) c hn, Option.bind_some]
  by_cases hc : okC c = true
  · rw [chk_ok hc, nn0, if_neg (by decide), if_pos hc]
    by_cases a : la < now
    · rw [ltT a, if_pos rfl, if_pos a]; rfl
    rw [ltF (by omega), if_neg (by decide), if_neg a]
    rw [show F33 K (c.1, (c.2.1, (c.2.2.1, c.2.2.2))) (o, (la, (u, (now, [])))) = _ from framed_own K c _, Option.bind_some]
    by_cases hf : framB c (o, (la, (u, (now, []))))
    · rw [decide_eq_true hf, if_pos hf]; rfl
    · rw [decide_eq_false hf, if_neg hf]; rfl
  · rw [chk_no hc, if_neg hc]; rfl

theorem Open_ref (K : Nat) (hK : 200000 ≤ K) (c : Cou) (hn : c.1.length ≤ 100000) (o la u now : Int) (h : PleaI (o, (la, (u, (now, []))))) : F11 K c o la u now = some (openP c o la u now) := by
  unfold F11 openP
  rw [show F20 K (c.1, (c.2.1, (c.2.2.1, c.2.2.2))) = _ from check_ref K (by omega) c hn, Option.bind_some]
  by_cases hc : okC c = true
  · rw [chk_ok hc, nn0, if_neg (by decide), if_pos hc]
    by_cases a : la < now
    · rw [ltT a, if_pos rfl, if_pos a]; rfl
    rw [ltF (by omega), if_neg (by decide), if_neg a]
    rw [show F22 K (c.1, (c.2.1, (c.2.2.1, c.2.2.2))) (o, (la, (u, (now, [])))) = _ from right_ref K hK c hn (o, (la, (u, (now, [])))) (by simp) h (fun v hv => by cases hv), Option.bind_some]
    have e : rightB c (o, (la, (u, (now, [])))) = decide (framB c (o, (la, (u, (now, []))))) := by simp [rightB, hc, votesFrom]
    rw [e]
    by_cases hf : framB c (o, (la, (u, (now, []))))
    · rw [decide_eq_true hf, if_pos hf]; rfl
    · rw [decide_eq_false hf, if_neg hf]; rfl
  · rw [chk_no hc, if_neg hc]; rfl

end Go.Proofs.YtkgampbboffhmaaDoor
