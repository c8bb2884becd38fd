/- Votes: the error of a vote; both sides. -/
import Derived.Test.YtkgampbboffhmaaDoorX2
set_option linter.unusedVariables false
set_option linter.unusedSimpArgs false
set_option maxRecDepth 100000
namespace Go.Proofs.YtkgampbboffhmaaDoor
open Go Go.Q

def z0 : Bal := (0, (0, (false, List.replicate 16 0)))
theorem nthD_bal (l : List Bal) (t : Nat) : nthD (Ty.pair (Ty.int IntKind.i64) (Ty.pair (Ty.int IntKind.i64) (Ty.pair Ty.bool (Ty.arr 16 (Ty.int IntKind.u8))))) l (t : Int) = l.getD t z0 := by
  simp only [nthD, Int.toNat_natCast]; rfl
def houses (l : List Bal) : List Int := l.map (·.1)
theorem houses_getD (l : List Bal) (t : Nat) : (houses l).getD t 0 = (l.getD t z0).1 := by
  simp only [houses, List.getD_eq_getElem?_getD, List.getElem?_map]
  cases l[t]? <;> rfl

theorem idxf_go (K : Nat) (l : List Bal) (v : Bal) (hl : l.length ≤ 100000) : ∀ (r t n : Nat), t + r = l.length → r < n →
    F69l0 K n l v (l.length : Int) (t : Int) (some (-1)) = some (seatFrom (houses l) v.1 r t)
  | 0, t, n, hh, hn => by
    obtain ⟨n, rfl⟩ : ∃ m, n = m + 1 := ⟨n - 1, by omega⟩
    rw [F69l0, B69l0, ltF (by omega), if_neg (by decide)]
    rfl
  | r + 1, t, n, hh, hn => by
    obtain ⟨n, rfl⟩ : ∃ m, n = m + 1 := ⟨n - 1, by omega⟩
    have e1 : IntKind.wrap .i64 ((t : Int) + 1) = ((t + 1 : Nat) : Int) := by rw [wi64 (by omega) (by omega)]; omega
    rw [F69l0, B69l0, ltT (by omega), if_pos rfl, inT (by omega) (by omega), if_pos rfl, nthD_bal, e1, seatFrom, houses_getD]
    unfold F55
    rw [Option.bind_some, eqI_eq]
    by_cases a : (l.getD t z0).1 = v.1
    · rw [decide_eq_true a, if_pos rfl, if_pos a]
    · rw [decide_eq_false a, if_neg (by decide), if_neg a]
      exact idxf_go K l v hl r (t + 1) n (by omega) (by omega)
theorem voted_own (K : Nat) (l : List Bal) (v : Bal) (hl : l.length ≤ 100000) (hK : l.length < K) : F54 K l v = some (decide (0 ≤ seat (houses l) v.1)) := by
  unfold F54 F69
  have := idxf_go K l v hl l.length 0 K (by omega) (by omega)
  refine (congrArg (fun o => Option.bind o fun y0 => some (leI 0 y0)) this).trans ?_
  rw [Option.bind_some, leI_eq, seat, houses, List.length_map]

def lastV (m : Plea) : Int := if m.2.2.2.2.length = 0 then m.2.2.2.1 else max m.2.2.2.1 (m.2.2.2.2.getD (m.2.2.2.2.length - 1) z0).2.1
theorem last_own (K : Nat) (m : Plea) (hl : m.2.2.2.2.length ≤ 100000) : F42 K m = some (lastV m) := by
  unfold F42 lastV
  by_cases h : m.2.2.2.2.length = 0
  · rw [ltF (by omega), if_neg (by decide), if_pos h]
  · have e : IntKind.wrap .i64 ((m.2.2.2.2.length : Int) - 1) = ((m.2.2.2.2.length - 1 : Nat) : Int) := by rw [wi64 (by omega) (by omega)]; omega
    rw [ltT (by omega), if_pos rfl, e, inT (by omega) (by omega), if_pos rfl, nthD_bal, if_neg h]
    congr 1
    simp only [maxI]
    omega

def votE (c : Cou) (m : Plea) (v : Bal) : Int :=
  if seat c.1 v.1 < 0 then 19 else if 0 ≤ seat (houses m.2.2.2.2) v.1 then 9 else if m.2.1 < v.2.1 then 18 else if v.2.1 < lastV m then 15
  else if v.2.2.2 = sealV c m v.1 v.2.1 v.2.2.1 then 0 else 16

theorem vote_own (K : Nat) (hK : 200000 ≤ K) (c : Cou) (hc : okC c = true) (m : Plea) (v : Bal) (hl : m.2.2.2.2.length ≤ 100000) (hm : PleaI m) (h1 : I64 v.1) (h2 : I64 v.2.1) : F39 K c m v = some (votE c m v) := by
  have hb := okC_b hc
  unfold F39 votE
  rw [contains_ok K c.1 v.1 (by have := hb.2.1; omega) (by have := hb.2.1; omega), Option.bind_some]
  by_cases hs : seat c.1 v.1 < 0
  · rw [decide_eq_false (by omega), if_pos hs]; rfl
  rw [decide_eq_true (by omega), if_neg hs, if_neg (by decide)]
  rw [show F54 K m.2.2.2.2 (v.1, (v.2.1, (v.2.2.1, v.2.2.2))) = _ from voted_own K m.2.2.2.2 v hl (by omega), Option.bind_some]
  by_cases a1 : 0 ≤ seat (houses m.2.2.2.2) v.1
  · rw [decide_eq_true a1, if_pos rfl, if_pos a1]
  rw [decide_eq_false a1, if_neg (by decide), if_neg a1]
  by_cases a2 : m.2.1 < v.2.1
  · rw [ltT a2, if_pos rfl, if_pos a2]
  rw [ltF (by omega), if_neg (by decide), if_neg a2]
  rw [show F42 K (m.1, (m.2.1, (m.2.2.1, (m.2.2.2.1, m.2.2.2.2)))) = _ from last_own K m hl, Option.bind_some]
  by_cases a3 : v.2.1 < lastV m
  · rw [ltT a3, if_pos rfl, if_pos a3]
  rw [ltF (by omega), if_neg (by decide), if_neg a3]
  rw [show F35 K (c.1, (c.2.1, (c.2.2.1, c.2.2.2))) (m.1, (m.2.1, (m.2.2.1, (m.2.2.2.1, m.2.2.2.2)))) (v.1, (v.2.1, (v.2.2.1, v.2.2.2))) = _ from seal_own K hK c m v hc (by omega) hm h1 h2, Option.bind_some, beq_arr]
  by_cases a4 : v.2.2.2 = sealV c m v.1 v.2.1 v.2.2.1
  · rw [decide_eq_true a4, if_pos a4]; rfl
  · rw [decide_eq_false a4, if_neg a4]; rfl

end Go.Proofs.YtkgampbboffhmaaDoor
