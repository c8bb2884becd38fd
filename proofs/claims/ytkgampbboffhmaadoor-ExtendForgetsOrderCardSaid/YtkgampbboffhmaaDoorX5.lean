/- Right pleas, both sides. -/
import Derived.Test.YtkgampbboffhmaaDoorX4
set_option linter.unusedVariables false
set_option linter.unusedSimpArgs false
set_option maxRecDepth 100000
namespace Go.Proofs.YtkgampbboffhmaaDoor
open Go Go.Q

def framB (c : Cou) (m : Plea) : Prop := 0 ≤ m.1 ∧ m.1 ≤ 1099511627776 ∧ 0 ≤ m.2.2.2.1 ∧ m.2.2.2.1 ≤ m.2.1 ∧ m.2.1 < m.2.2.1 ∧ m.2.2.1 ≤ 1000000 ∧ m.2.2.1 - m.2.1 ≤ c.2.2.2
instance (c : Cou) (m : Plea) : Decidable (framB c m) := by unfold framB; infer_instance

theorem framed_own (K : Nat) (c : Cou) (m : Plea) : F33 K c m = some (decide (framB c m)) := by
  unfold F33
  simp only [leI_eq, ltI_eq, decide_eq_true_eq]
  by_cases a1 : 0 ≤ m.1
  · rw [if_pos a1]
    by_cases a2 : m.1 ≤ 1099511627776
    · rw [if_pos a2]
      by_cases a3 : 0 ≤ m.2.2.2.1
      · rw [if_pos a3]
        by_cases a4 : m.2.2.2.1 ≤ m.2.1
        · rw [if_pos a4]
          by_cases a5 : m.2.1 < m.2.2.1
          · rw [if_pos a5]
            by_cases a6 : m.2.2.1 ≤ 1000000
            · rw [if_pos a6, wi64 (by omega) (by omega)]
              congr 1
              exact decide_eq_decide.2 ⟨fun h => ⟨a1, a2, a3, a4, a5, a6, h⟩, fun h => h.2.2.2.2.2.2⟩
            · rw [if_neg a6, decide_eq_false (fun h : framB c m => a6 h.2.2.2.2.2.1)]
          · rw [if_neg a5, decide_eq_false (fun h : framB c m => a5 h.2.2.2.2.1)]
        · rw [if_neg a4, decide_eq_false (fun h : framB c m => a4 h.2.2.2.1)]
      · rw [if_neg a3, decide_eq_false (fun h : framB c m => a3 h.2.2.1)]
    · rw [if_neg a2, decide_eq_false (fun h : framB c m => a2 h.2.1)]
  · rw [if_neg a1, decide_eq_false (fun h : framB c m => a1 h.1)]

theorem framed_ref (K : Nat) (c : Cou) (m : Plea) (hc : okC c = true) : F44 K c m = some (decide (framB c m)) := by
  have hb := okC_b hc
  have b1 := hb.2.2.2.2.2.1
  have b2 := hb.2.2.2.2.2.2
  unfold F44
  simp only [leI_eq, ltI_eq, decide_eq_true_eq]
  by_cases a1 : m.1 < 0
  · rw [if_pos a1, decide_eq_false (fun h : framB c m => by have := h.1; omega)]
  by_cases a2 : 1099511627776 < m.1
  · rw [if_neg a1, if_pos a2, decide_eq_false (fun h : framB c m => by have := h.2.1; omega)]
  by_cases a3 : m.2.2.2.1 < 0
  · rw [if_neg a1, if_neg a2, if_pos a3, decide_eq_false (fun h : framB c m => by have := h.2.2.1; omega)]
  by_cases a4 : m.2.1 < m.2.2.2.1
  · rw [if_neg a1, if_neg a2, if_neg a3, if_pos a4, decide_eq_false (fun h : framB c m => by have := h.2.2.2.1; omega)]
  by_cases a5 : m.2.2.1 ≤ m.2.1
  · rw [if_neg a1, if_neg a2, if_neg a3, if_neg a4, if_pos a5, decide_eq_false (fun h : framB c m => by have := h.2.2.2.2.1; omega)]
  by_cases a6 : 1000000 < m.2.2.1
  · rw [if_neg a1, if_neg a2, if_neg a3, if_neg a4, if_neg a5, if_pos a6, decide_eq_false (fun h : framB c m => by have := h.2.2.2.2.2.1; omega)]
  rw [if_neg a1, if_neg a2, if_neg a3, if_neg a4, if_neg a5, if_neg a6, wi64 (by omega) (by omega)]
  congr 1
  exact decide_eq_decide.2 ⟨fun h => ⟨by omega, by omega, by omega, by omega, by omega, by omega, by omega⟩, fun h => by have := h.2.2.2.2.2.2; omega⟩

def cutP (m : Plea) (t : Nat) : Plea := (m.1, (m.2.1, (m.2.2.1, (m.2.2.2.1, m.2.2.2.2.take t))))
def votesFrom (c : Cou) (m : Plea) : Nat → Nat → Bool
  | 0, _ => true
  | r + 1, t => decide (votE c (cutP m t) (m.2.2.2.2.getD t z0) = 0) && votesFrom c m r (t + 1)
def rightB (c : Cou) (m : Plea) : Bool := okC c && (decide (framB c m) && votesFrom c m m.2.2.2.2.length 0)

def BalI (v : Bal) : Prop := I64 v.1 ∧ I64 v.2.1
def BalsI (l : List Bal) : Prop := ∀ v ∈ l, BalI v

end Go.Proofs.YtkgampbboffhmaaDoor
