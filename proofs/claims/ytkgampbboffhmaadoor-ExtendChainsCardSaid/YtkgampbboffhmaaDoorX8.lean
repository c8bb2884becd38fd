/- Open, Count, Decide: both sides. -/
import Derived.Test.YtkgampbboffhmaaDoorX7
set_option linter.unusedVariables false
set_option linter.unusedSimpArgs false
set_option maxRecDepth 100000
namespace Go.Proofs.YtkgampbboffhmaaDoor
open Go Go.Q

def yesN (l : List Bal) : Int := (l.map fun v => flg v.2.2.1).sum
theorem flg_le (b : Bool) : 0 ≤ flg b ∧ flg b ≤ 1 := by cases b <;> exact ⟨by decide, by decide⟩
theorem yesN_le : ∀ l : List Bal, 0 ≤ yesN l ∧ yesN l ≤ (l.length : Int)
  | [] => by simp [yesN]
  | v :: l => by
    have := yesN_le l
    have := flg_le v.2.2.1
    simp only [yesN, List.map_cons, List.sum_cons, List.length_cons] at *
    omega
theorem yesN_take {l : List Bal} {t : Nat} (h : t < l.length) : yesN (l.take (t + 1)) = yesN (l.take t) + flg (l.getD t z0).2.2.1 := by
  rw [getD_take (d := z0) h]
  simp [yesN]

theorem count_go (K : Nat) (m : Plea) (hl : m.2.2.2.2.length ≤ 100000) (kx) : ∀ (r t n : Nat), t + r = m.2.2.2.2.length → r < n →
    F18l0 K n (yesN (m.2.2.2.2.take t)) m.2.2.2.2 (m.2.2.2.2.length : Int) (t : Int) m kx = kx (yesN m.2.2.2.2) m
  | 0, t, n, hh, hn => by
    obtain ⟨n, rfl⟩ : ∃ m, n = m + 1 := ⟨n - 1, by omega⟩
    rw [F18l0, B18l0, ltF (by omega), if_neg (by decide), List.take_of_length_le (by omega)]
  | r + 1, t, n, hh, hn => by
    obtain ⟨n, rfl⟩ : ∃ m, n = m + 1 := ⟨n - 1, by omega⟩
    have e1 : IntKind.wrap .i64 ((t : Int) + 1) = ((t + 1 : Nat) : Int) := by rw [wi64 (by omega) (by omega)]; omega
    have h1 := yesN_le (m.2.2.2.2.take t)
    have h2 := flg_le (m.2.2.2.2.getD t z0).2.2.1
    have h3 : (m.2.2.2.2.take t).length ≤ 100000 := by simp; omega
    rw [F18l0, B18l0, ltT (by omega), if_pos rfl, inT (by omega) (by omega), if_pos rfl, nthD_bal, e1, flag_own, Option.bind_some, wi64 (by omega) (by omega), ← yesN_take (by omega)]
    exact count_go K m hl kx r (t + 1) n (by omega) (by omega)
theorem count_own (K : Nat) (m : Plea) (hl : m.2.2.2.2.length ≤ 100000) (hK : 100000 < K) : F18 K m = some (yesN m.2.2.2.2, (m.2.2.2.2.length : Int) - yesN m.2.2.2.2) := by
  unfold F18
  refine (count_go K m hl _ m.2.2.2.2.length 0 K (by omega) (by omega)).trans ?_
  have h1 := yesN_le m.2.2.2.2
  rw [wi64 (by omega) (by omega)]

theorem yes_go (K : Nat) (m : Plea) (hl : m.2.2.2.2.length ≤ 100000) (kx) : ∀ (r t n : Nat), t + r = m.2.2.2.2.length → r < n →
    F24l0 K n (yesN (m.2.2.2.2.take t)) (t : Int) m kx = kx (yesN m.2.2.2.2)
  | 0, t, n, hh, hn => by
    obtain ⟨n, rfl⟩ : ∃ m, n = m + 1 := ⟨n - 1, by omega⟩
    rw [F24l0, B24l0, ltF (by omega), if_neg (by decide), List.take_of_length_le (by omega)]
  | r + 1, t, n, hh, hn => by
    obtain ⟨n, rfl⟩ : ∃ m, n = m + 1 := ⟨n - 1, by omega⟩
    have e1 : IntKind.wrap .i64 ((t : Int) + 1) = ((t + 1 : Nat) : Int) := by rw [wi64 (by omega) (by omega)]; omega
    have h1 := yesN_le (m.2.2.2.2.take t)
    have h2 := flg_le (m.2.2.2.2.getD t z0).2.2.1
    have h3 : (m.2.2.2.2.take t).length ≤ 100000 := by simp; omega
    rw [F24l0, B24l0, ltT (by omega), if_pos rfl, inT (by omega) (by omega), if_pos rfl, nthD_bal, e1, flag_ref, Option.bind_some, wi64 (by omega) (by omega), ← yesN_take (by omega)]
    exact yes_go K m hl kx r (t + 1) n (by omega) (by omega)
theorem yes_ref (K : Nat) (m : Plea) (hl : m.2.2.2.2.length ≤ 100000) (hK : 100000 < K) : F24 K m = some (yesN m.2.2.2.2) := by
  unfold F24
  exact yes_go K m hl _ m.2.2.2.2.length 0 K (by omega) (by omega)

end Go.Proofs.YtkgampbboffhmaaDoor
