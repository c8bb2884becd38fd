/- Pleas that grow: a right plea with a right vote is right. -/
import Derived.Test.YtkgampbboffhmaaDoorX12
set_option linter.unusedVariables false
set_option linter.unusedSimpArgs false
set_option maxRecDepth 100000
namespace Go.Proofs.YtkgampbboffhmaaDoor
open Go Go.Q

def addV (m : Plea) (v : Bal) : Plea := (m.1, (m.2.1, (m.2.2.1, (m.2.2.2.1, m.2.2.2.2 ++ [v]))))

theorem votesFrom_iff (c : Cou) (m : Plea) : ∀ r t, (votesFrom c m r t = true ↔ ∀ j, t ≤ j → j < t + r → votE c (cutP m j) (m.2.2.2.2.getD j z0) = 0)
  | 0, t => by simp only [votesFrom, true_iff]; intro j h1 h2; omega
  | r + 1, t => by
    rw [votesFrom, Bool.and_eq_true, decide_eq_true_eq, votesFrom_iff c m r (t + 1)]
    constructor
    · rintro ⟨h1, h2⟩ j h3 h4
      by_cases h : j = t
      · subst h; exact h1
      · exact h2 j (by omega) (by omega)
    · exact fun h => ⟨h t (by omega) (by omega), fun j h3 h4 => h j (by omega) (by omega)⟩

theorem rightB_iff (c : Cou) (m : Plea) : (rightB c m = true ↔ okC c = true ∧ framB c m ∧ ∀ j, j < m.2.2.2.2.length → votE c (cutP m j) (m.2.2.2.2.getD j z0) = 0) := by
  rw [rightB, Bool.and_eq_true, Bool.and_eq_true, decide_eq_true_eq, votesFrom_iff]
  constructor
  · exact fun ⟨a, b, d⟩ => ⟨a, b, fun j hj => d j (by omega) (by omega)⟩
  · exact fun ⟨a, b, d⟩ => ⟨a, b, fun j _ hj => d j (by omega)⟩

theorem right_snoc {c : Cou} {m : Plea} {v : Bal} (hr : rightB c m = true) (hv : votE c m v = 0) : rightB c (addV m v) = true := by
  rw [rightB_iff] at hr ⊢
  obtain ⟨h1, h2, h3⟩ := hr
  refine ⟨h1, h2, fun j hj => ?_⟩
  have hj : j < (m.2.2.2.2 ++ [v]).length := hj
  rw [List.length_append, List.length_singleton] at hj
  have e1 : cutP (addV m v) j = cutP m j := by
    show (_, _, _, _, (m.2.2.2.2 ++ [v]).take j) = (_, _, _, _, m.2.2.2.2.take j)
    rw [List.take_append_of_le_length (by omega)]
    rfl
  rw [e1]
  show votE c (cutP m j) ((m.2.2.2.2 ++ [v]).getD j z0) = 0
  by_cases h : j < m.2.2.2.2.length
  · rw [List.getD_eq_getElem?_getD, List.getElem?_append_left h, ← List.getD_eq_getElem?_getD]
    exact h3 j h
  · obtain rfl : j = m.2.2.2.2.length := by omega
    rw [List.getD_eq_getElem?_getD, List.getElem?_append_right (by omega)]
    have e2 : cutP m m.2.2.2.2.length = m := by
      show (_, _, _, _, m.2.2.2.2.take _) = m
      rw [List.take_length]
    rw [e2]
    simpa using hv

theorem voteP_ok {c : Cou} {m : Plea} {v : Bal} (hr : rightB c m = true) (hv : votE c m v = 0) : voteP c m v = (addV m v, 0) := by
  rw [voteP, if_pos ((rightB_iff c m).1 hr).1, if_pos hr, if_pos hv]; rfl
theorem voteP_no {c : Cou} {m : Plea} {v : Bal} (hr : rightB c m = true) (hv : votE c m v ≠ 0) : voteP c m v = (m, votE c m v) := by
  rw [voteP, if_pos ((rightB_iff c m).1 hr).1, if_pos hr, if_neg hv]

/-! ### Seats -/
theorem seatFrom_spec (l : List Int) (h : Int) : ∀ r t, t + r = l.length → (seatFrom l h r t = -1 ∧ ∀ j, t ≤ j → j < l.length → l.getD j 0 ≠ h) ∨ ∃ j : Nat, seatFrom l h r t = (j : Int) ∧ t ≤ j ∧ j < l.length ∧ l.getD j 0 = h
  | 0, t, hh => .inl ⟨rfl, fun j h1 h2 => by omega⟩
  | r + 1, t, hh => by
    rw [seatFrom]
    by_cases a : l.getD t 0 = h
    · rw [if_pos a]; exact .inr ⟨t, rfl, by omega, by omega, a⟩
    · rw [if_neg a]
      rcases seatFrom_spec l h r (t + 1) (by omega) with ⟨h1, h2⟩ | ⟨j, h1, h2, h3, h4⟩
      · refine .inl ⟨h1, fun j h3 h4 => ?_⟩
        by_cases hj : j = t
        · subst hj; exact a
        · exact h2 j (by omega) h4
      · exact .inr ⟨j, h1, by omega, h3, h4⟩
theorem seat_iff (l : List Int) (h : Int) : 0 ≤ seat l h ↔ h ∈ l := by
  rcases seatFrom_spec l h l.length 0 (by omega) with ⟨h1, h2⟩ | ⟨j, h1, h2, h3, h4⟩
  · rw [seat, h1]
    refine ⟨fun h => by omega, fun hm => ?_⟩
    obtain ⟨j, hj, e⟩ := List.getElem_of_mem hm
    exact absurd (by rw [List.getD_eq_getElem?_getD, List.getElem?_eq_getElem hj]; exact e) (h2 j (by omega) hj)
  · rw [seat, h1]
    exact ⟨fun _ => h4 ▸ getD_mem h3, fun _ => by omega⟩
theorem houses_snoc (l : List Bal) (v : Bal) : houses (l ++ [v]) = houses l ++ [v.1] := by simp [houses]

theorem lastV_snoc (m : Plea) (v : Bal) : lastV (addV m v) = max m.2.2.2.1 v.2.1 := by
  have e : (addV m v).2.2.2.2 = m.2.2.2.2 ++ [v] := rfl
  rw [lastV, e, List.length_append, List.length_singleton, if_neg (by omega)]
  have : (m.2.2.2.2 ++ [v]).getD (m.2.2.2.2.length + 1 - 1) z0 = v := by
    rw [List.getD_eq_getElem?_getD, List.getElem?_append_right (by omega)]; simp
  rw [this]; rfl
theorem yesN_snoc (l : List Bal) (v : Bal) : yesN (l ++ [v]) = yesN l + flg v.2.2.1 := by simp [yesN]

theorem okC_range {c : Cou} (h : okC c = true) {x : Int} (hx : x ∈ c.1) : 0 ≤ x ∧ x < 12 := by
  obtain ⟨j, hj, e⟩ := List.getElem_of_mem hx
  have := okC_key h hj
  have e2 : c.1.getD j 0 = x := by rw [List.getD_eq_getElem?_getD, List.getElem?_eq_getElem hj]; exact e
  have h1 := this.1
  have h2 := this.2.1
  omega
theorem okC_lt {c : Cou} (h : okC c = true) : ∀ (j i : Nat), i < j → j < c.1.length → c.1.getD i 0 < c.1.getD j 0
  | 0, i, h1, h2 => by omega
  | j + 1, i, h1, h2 => by
    have := (okC_key h h2).2.2.1.resolve_left (by omega)
    rw [Nat.add_sub_cancel] at this
    by_cases hi : i = j
    · subst hi; exact this
    · have := okC_lt h j i (by omega) (by omega); omega

theorem perm_sum {l l' : List Int} (h : l.Perm l') : l.sum = l'.sum := by
  induction h with
  | nil => rfl
  | cons x _ ih => simp [ih]
  | swap x y l => simp only [List.sum_cons]; omega
  | trans _ _ h1 h2 => exact h1.trans h2

end Go.Proofs.YtkgampbboffhmaaDoor
