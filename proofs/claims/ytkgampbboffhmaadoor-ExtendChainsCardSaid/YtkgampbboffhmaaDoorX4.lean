/- Votes of the reference; right pleas, both sides. -/
import Derived.Test.YtkgampbboffhmaaDoorX3
set_option linter.unusedVariables false
set_option linter.unusedSimpArgs false
set_option maxRecDepth 100000
namespace Go.Proofs.YtkgampbboffhmaaDoor
open Go Go.Q

theorem wrong_go (K : Nat) (c : Cou) (m : Plea) (v : Bal) (hl : m.2.2.2.2.length ≤ 100000) (kx) : ∀ (r t n : Nat), t + r = m.2.2.2.2.length → r < n →
    F41l0 K n (t : Int) c m v kx = if 0 ≤ seatFrom (houses m.2.2.2.2) v.1 r t then some 9 else kx c m v
  | 0, t, n, hh, hn => by
    obtain ⟨n, rfl⟩ : ∃ m, n = m + 1 := ⟨n - 1, by omega⟩
    rw [F41l0, B41l0, ltF (by omega), if_neg (by decide)]
    rfl
  | r + 1, t, n, hh, hn => by
    obtain ⟨n, rfl⟩ : ∃ m, n = m + 1 := ⟨n - 1, by omega⟩
    have e1 : IntKind.wrap .i64 ((t : Int) + 1) = ((t + 1 : Nat) : Int) := by rw [wi64 (by omega) (by omega)]; omega
    rw [F41l0, B41l0, ltT (by omega), if_pos rfl, inT (by omega) (by omega), if_pos rfl, nthD_bal, e1, seatFrom, houses_getD, eqI_eq]
    by_cases a : (m.2.2.2.2.getD t z0).1 = v.1
    · rw [decide_eq_true a, if_pos rfl, if_pos a, if_pos (by omega)]
    · rw [decide_eq_false a, if_neg (by decide), if_neg a]
      exact wrong_go K c m v hl kx r (t + 1) n (by omega) (by omega)

theorem wrong_ref (K : Nat) (hK : 200000 ≤ K) (c : Cou) (hc : okC c = true) (m : Plea) (v : Bal) (hl : m.2.2.2.2.length ≤ 100000) (hm : PleaI m) (h1 : I64 v.1) (h2 : I64 v.2.1) : F41 K c m v = some (votE c m v) := by
  have hb := okC_b hc
  unfold F41 votE
  rw [show F31 K (c.1, (c.2.1, (c.2.2.1, c.2.2.2))) v.1 = _ from seat_ref K c v.1 (by have := hb.2.1; omega) (by have := hb.2.1; omega), Option.bind_some]
  by_cases hs : seat c.1 v.1 < 0
  · rw [ltT hs, if_pos rfl, if_pos hs]
  rw [ltF (by omega), if_neg (by decide), if_neg hs]
  refine (wrong_go K c m v hl _ m.2.2.2.2.length 0 K (by omega) (by omega)).trans ?_
  rw [show seatFrom (houses m.2.2.2.2) v.1 m.2.2.2.2.length 0 = seat (houses m.2.2.2.2) v.1 by rw [seat, houses, List.length_map]]
  by_cases a1 : 0 ≤ seat (houses m.2.2.2.2) v.1
  · rw [if_pos a1, if_pos a1]
  rw [if_neg a1, if_neg a1]
  have fin : ((F13 K (c.1, (c.2.1, (c.2.2.1, c.2.2.2))) (m.1, (m.2.1, (m.2.2.1, (m.2.2.2.1, m.2.2.2.2)))) v.1 v.2.1 v.2.2.1).bind fun y4 => (if ((!(Ty.beq (Ty.arr 16 (Ty.int IntKind.u8)) v.2.2.2 y4.1)) = true) then (some (16 : Int)) else (some (0 : Int)))) = some (if v.2.2.2 = sealV c m v.1 v.2.1 v.2.2.1 then 0 else 16) := by
    rw [show F13 K (c.1, (c.2.1, (c.2.2.1, c.2.2.2))) (m.1, (m.2.1, (m.2.2.1, (m.2.2.2.1, m.2.2.2.2)))) v.1 v.2.1 v.2.2.1 = _ from Seal_ref K hK c (by have := hb.2.1; omega) m v.1 v.2.1 v.2.2.1 hm h1 h2, Option.bind_some, beq_arr, sealP, if_pos hc, if_neg hs]
    by_cases a4 : v.2.2.2 = sealV c m v.1 v.2.1 v.2.2.1
    · rw [decide_eq_true a4, if_pos a4]; rfl
    · rw [decide_eq_false a4, if_neg a4]; rfl
  show (if (ltI m.2.1 v.2.1) = true then _ else _) = _
  by_cases a2 : m.2.1 < v.2.1
  · rw [ltT a2, if_pos rfl, if_pos a2]
  rw [ltF (by omega), if_neg (by decide), if_neg a2]
  by_cases h0 : m.2.2.2.2.length = 0
  · have el : lastV m = m.2.2.2.1 := by rw [lastV, if_pos h0]
    rw [el]
    by_cases a3 : v.2.1 < m.2.2.2.1
    · rw [ltT a3, if_pos rfl, if_pos a3]
    rw [ltF (by omega), if_neg (by decide), if_neg a3, ltF (by omega), if_neg (by decide)]
    exact fin
  · have e : IntKind.wrap .i64 ((m.2.2.2.2.length : Int) - 1) = ((m.2.2.2.2.length - 1 : Nat) : Int) := by rw [wi64 (by omega) (by omega)]; omega
    have el : lastV m = max m.2.2.2.1 (m.2.2.2.2.getD (m.2.2.2.2.length - 1) z0).2.1 := by rw [lastV, if_neg h0]
    rw [el]
    by_cases a3 : v.2.1 < m.2.2.2.1
    · rw [ltT a3, if_pos rfl, if_pos (by omega)]
    rw [ltF (by omega), if_neg (by decide), ltT (by omega), if_pos rfl, e, inT (by omega) (by omega), if_pos rfl, nthD_bal]
    by_cases a5 : v.2.1 < (m.2.2.2.2.getD (m.2.2.2.2.length - 1) z0).2.1
    · rw [ltT a5, if_pos rfl, if_pos (by omega)]
    · rw [ltF (by omega), if_neg (by decide), if_neg (by omega)]
      exact fin

end Go.Proofs.YtkgampbboffhmaaDoor
