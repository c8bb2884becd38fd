/- The book: its error, a posting in addition, comparisons. -/
import Derived.Test.YtcjjagkcdepgdaaDoorH6
set_option linter.unusedVariables false
set_option linter.unusedSimpArgs false
set_option maxRecDepth 100000
namespace Go.Proofs.YtcjjagkcdepgdaaDoor
open Go Go.Q

abbrev Pst := Int × Int × Int × Int × Int × Int
abbrev Bk := Int × List Pst
abbrev tyPst : Ty := .pair (.int .i64) (.pair (.int .i64) (.pair (.int .i64) (.pair (.int .i64) (.pair (.int .i64) (.int .i64)))))
def pst0 : Pst := (0, 0, 0, 0, 0, 0)
theorem nthD_pst (xs : List Pst) (i : Int) : nthD tyPst xs i = xs.getD i.toNat pst0 := rfl
theorem drop_cons {α : Type} {L : List α} {t : Nat} {p : α} {r : List α} (z : α) (h : L.drop t = p :: r) : t < L.length ∧ L.getD t z = p ∧ L.drop (t + 1) = r := by
  have hlt : t < L.length := by
    by_cases hlt : t < L.length
    · exact hlt
    · rw [List.drop_eq_nil_of_le (by omega)] at h; cases h
  rw [List.drop_eq_getElem_cons hlt] at h
  simp only [List.cons.injEq] at h
  exact ⟨hlt, by rw [List.getD_eq_getElem?_getD, List.getElem?_eq_getElem hlt]; exact h.1, h.2⟩
theorem drop_nil {α : Type} {L : List α} {t : Nat} (h : L.drop t = []) : L.length ≤ t := List.drop_eq_nil_iff.1 h
theorem ltN (x y : Int) : ltI x y = !(leI y x) := by
  rw [ltI_eq, leI_eq, Bool.eq_iff_iff]; simp
theorem bindS {α β : Type} {o : Option α} {v : α} {f : α → Option β} {r : Option β} (h : o = some v) (k : f v = r) : o.bind f = r := by rw [h]; exact k

theorem eta_pst (p : Pst) : (p.1, (p.2.1, (p.2.2.1, (p.2.2.2.1, (p.2.2.2.2.1, p.2.2.2.2.2))))) = p := rfl
theorem eqN {x : Int} (h : x ≠ 0) : (!(eqI x 0)) = true := by rw [eqF (by omega)]; rfl
theorem eqZ {x : Int} (h : x = 0) : ¬ (!(eqI x 0)) = true := by rw [eqT h]; decide
/-! ### The error -/
def inA (a n : Int) : Bool := leI 0 n && ltI n a
def win (x lo hi : Int) : Bool := leI lo x && leI x hi
def oneE (a : Int) (p : Pst) : Int :=
  if (!inA a p.1 || (!inA a p.2.1 || eqI p.1 p.2.1)) = true then 1
  else if (!win p.2.2.1 1 1099511627776 || (!win p.2.2.2.1 0 1000000 || (!win p.2.2.2.2.1 1 7 || !win p.2.2.2.2.2 0 1099511627776))) = true then 3 else 0
def chkL (a : Int) : Int → List Pst → Int
  | _, [] => 0
  | last, p :: l => if oneE a p ≠ 0 then oneE a p else if ltI p.2.2.2.1 last = true then 15 else chkL a p.2.2.2.1 l
def chkE (b : Bk) : Int := if b.1 < 1 ∨ 40 < b.1 then 3 else if 10000 < b.2.length then 13 else chkL b.1 0 b.2

theorem account_own (K : Nat) (b : Bk) (n : Int) : F38 K b n = some (inA b.1 n) := by
  unfold F38 inA
  cases leI 0 n <;> rfl
theorem in_ref (K : Nat) (b : Bk) (n : Int) : F41 K b n = some (inA b.1 n) := by
  unfold F41 inA
  cases leI 0 n <;> rfl
theorem within_own (K : Nat) (x lo hi : Int) : F37 K x lo hi = some (win x lo hi) := by
  unfold F37 win
  cases leI lo x <;> rfl
theorem one_ref (K : Nat) (b : Bk) (p : Pst) : F39 K b p = some (oneE b.1 p) := by
  unfold F39
  simp only [in_ref, Option.bind_some, oneE]
  rcases Bool.eq_false_or_eq_true (inA b.1 p.1) with e1 | e1
  rotate_left
  · simp [win, ltN, e1]
  rcases Bool.eq_false_or_eq_true (inA b.1 p.2.1) with e2 | e2
  rotate_left
  · simp [win, ltN, e1, e2]
  rcases (Bool.eq_false_or_eq_true (eqI p.1 p.2.1)).symm with e3 | e3
  rotate_left
  · simp [win, ltN, e1, e2, e3]
  rcases Bool.eq_false_or_eq_true (leI 1 p.2.2.1) with e4 | e4
  rotate_left
  · simp [win, ltN, e1, e2, e3, e4]
  rcases Bool.eq_false_or_eq_true (leI p.2.2.1 1099511627776) with e5 | e5
  rotate_left
  · simp [win, ltN, e1, e2, e3, e4, e5]
  rcases Bool.eq_false_or_eq_true (leI 0 p.2.2.2.1) with e6 | e6
  rotate_left
  · simp [win, ltN, e1, e2, e3, e4, e5, e6]
  rcases Bool.eq_false_or_eq_true (leI p.2.2.2.1 1000000) with e7 | e7
  rotate_left
  · simp [win, ltN, e1, e2, e3, e4, e5, e6, e7]
  rcases Bool.eq_false_or_eq_true (leI 1 p.2.2.2.2.1) with e8 | e8
  rotate_left
  · simp [win, ltN, e1, e2, e3, e4, e5, e6, e7, e8]
  rcases Bool.eq_false_or_eq_true (leI p.2.2.2.2.1 7) with e9 | e9
  rotate_left
  · simp [win, ltN, e1, e2, e3, e4, e5, e6, e7, e8, e9]
  rcases Bool.eq_false_or_eq_true (leI 0 p.2.2.2.2.2) with e10 | e10
  rotate_left
  · simp [win, ltN, e1, e2, e3, e4, e5, e6, e7, e8, e9, e10]
  rcases Bool.eq_false_or_eq_true (leI p.2.2.2.2.2 1099511627776) with e11 | e11
  rotate_left
  · simp [win, ltN, e1, e2, e3, e4, e5, e6, e7, e8, e9, e10, e11]
  simp [win, ltN, e1, e2, e3, e4, e5, e6, e7, e8, e9, e10, e11]

theorem chk_own_go (K : Nat) (b : Bk) (L : List Pst) (hL : L.length ≤ 10000) : ∀ (r : List Pst) (t n : Nat) (last : Int), L.drop t = r → r.length < n →
    F15l0 K n last L (L.length : Int) (t : Int) b (some 0) = some (chkL b.1 last r)
  | [], t, n, last, h, hn => by
    obtain ⟨n, rfl⟩ : ∃ m, n = m + 1 := ⟨n - 1, by omega⟩
    have := drop_nil h
    simp (disch := omega) only [F15l0, B15l0, ltF, ↓reduceIte, Bool.false_eq_true]
    rfl
  | p :: r, t, n, last, h, hn => by
    obtain ⟨n, rfl⟩ : ∃ m, n = m + 1 := ⟨n - 1, by omega⟩
    obtain ⟨h1, h2, h3⟩ := drop_cons pst0 h
    have ih := chk_own_go K b L hL r (t + 1) n p.2.2.2.1 h3 (by simpa using hn)
    have hw : IntKind.wrap .i64 ((t : Int) + 1) = ((t + 1 : Nat) : Int) := wi64 (by omega) (by omega)
    rw [F15l0, B15l0, ltT (by omega), if_pos rfl, inT (by omega) (by omega), if_pos rfl]
    simp only [nthD_pst, Int.toNat_natCast, h2, account_own, within_own, Option.bind_some, hw, ih]
    rcases Bool.eq_false_or_eq_true (inA b.1 p.1) with e1 | e1
    rotate_left
    · simp [chkL, oneE, e1]
    rcases Bool.eq_false_or_eq_true (inA b.1 p.2.1) with e2 | e2
    rotate_left
    · simp [chkL, oneE, e1, e2]
    rcases (Bool.eq_false_or_eq_true (eqI p.1 p.2.1)).symm with e3 | e3
    rotate_left
    · simp [chkL, oneE, e1, e2, e3]
    rcases Bool.eq_false_or_eq_true (win p.2.2.1 1 1099511627776) with e4 | e4
    rotate_left
    · simp [chkL, oneE, e1, e2, e3, e4]
    rcases Bool.eq_false_or_eq_true (win p.2.2.2.1 0 1000000) with e5 | e5
    rotate_left
    · simp [chkL, oneE, e1, e2, e3, e4, e5]
    rcases Bool.eq_false_or_eq_true (win p.2.2.2.2.1 1 7) with e6 | e6
    rotate_left
    · simp [chkL, oneE, e1, e2, e3, e4, e5, e6]
    rcases Bool.eq_false_or_eq_true (win p.2.2.2.2.2 0 1099511627776) with e7 | e7
    rotate_left
    · simp [chkL, oneE, e1, e2, e3, e4, e5, e6, e7]
    rcases Bool.eq_false_or_eq_true (ltI p.2.2.2.1 last) with e8 | e8
    rotate_left
    · simp [chkL, oneE, e1, e2, e3, e4, e5, e6, e7, e8]
    simp [chkL, oneE, e1, e2, e3, e4, e5, e6, e7, e8]
theorem chk_own (K : Nat) (hK : 20000 ≤ K) (b : Bk) : F15 K b = some (chkE b) := by
  unfold F15 chkE
  by_cases h1 : b.1 < 1
  · rw [ltT h1, if_pos rfl, if_pos (.inl h1)]
  · rw [ltF (by omega), if_neg (by decide)]
    by_cases h2 : 40 < b.1
    · rw [ltT h2, if_pos rfl, if_pos (.inr h2)]
    · rw [ltF (by omega), if_neg (by decide), if_neg (show ¬(b.1 < 1 ∨ 40 < b.1) by omega)]
      by_cases h3 : 10000 < b.2.length
      · rw [ltT (by omega), if_pos rfl, if_pos h3]
      · rw [ltF (by omega), if_neg (by decide), if_neg h3]
        exact chk_own_go K b b.2 (by omega) b.2 0 K 0 rfl (by omega)

def lastT (L : List Pst) : Nat → Int
  | 0 => 0
  | t + 1 => (L.getD t pst0).2.2.2.1
theorem oneE_tick {a : Int} {p : Pst} (h : oneE a p = 0) : 0 ≤ p.2.2.2.1 := by
  unfold oneE at h
  split at h
  · cases h
  · split at h
    · cases h
    · rename_i h2
      simp only [Bool.or_eq_true, Bool.not_eq_true', not_or, Bool.not_eq_false, win, Bool.and_eq_true, leI_eq, decide_eq_true_eq] at h2
      exact h2.2.1.1
theorem chk_ref_go (K : Nat) (b : Bk) (hL : b.2.length ≤ 10000) : ∀ (r : List Pst) (t n : Nat), b.2.drop t = r → r.length < n →
    F16l0 K n (t : Int) b (some 0) = some (chkL b.1 (lastT b.2 t) r)
  | [], t, n, h, hn => by
    obtain ⟨n, rfl⟩ : ∃ m, n = m + 1 := ⟨n - 1, by omega⟩
    have := drop_nil h
    simp (disch := omega) only [F16l0, B16l0, ltF, ↓reduceIte, Bool.false_eq_true]
    rfl
  | p :: r, t, n, h, hn => by
    obtain ⟨n, rfl⟩ : ∃ m, n = m + 1 := ⟨n - 1, by omega⟩
    obtain ⟨h1, h2, h3⟩ := drop_cons pst0 h
    have ih := chk_ref_go K b hL r (t + 1) n h3 (by simpa using hn)
    have hw : IntKind.wrap .i64 ((t : Int) + 1) = ((t + 1 : Nat) : Int) := wi64 (by omega) (by omega)
    have hl : lastT b.2 (t + 1) = p.2.2.2.1 := by rw [lastT, h2]
    rw [hl] at ih
    rw [F16l0, B16l0, ltT (by omega), if_pos rfl, inT (by omega) (by omega), if_pos rfl]
    simp only [nthD_pst, Int.toNat_natCast, h2, eta_pst, one_ref, Option.bind_some, hw, ih]
    by_cases h0 : oneE b.1 p = 0
    · have hc : chkL b.1 (lastT b.2 t) (p :: r) = if ltI p.2.2.2.1 (lastT b.2 t) = true then 15 else chkL b.1 p.2.2.2.1 r := by rw [chkL, if_neg (fun k => k h0)]
      rw [hc, if_neg (eqZ h0)]
      cases t with
      | zero =>
        have hz : ltI p.2.2.2.1 (lastT b.2 0) = false := ltF (oneE_tick h0)
        rw [hz, if_neg (show ¬ ltI 0 ((0 : Nat) : Int) = true by decide)]
        rfl
      | succ t =>
        have hm : IntKind.wrap .i64 (((t + 1 : Nat) : Int) - 1) = (t : Int) := by rw [wi64 (by omega) (by omega)]; omega
        rw [if_pos (show ltI 0 ((t + 1 : Nat) : Int) = true from ltT (by omega)), if_pos trivial, hm, if_pos (show inR (t : Int) (b.2.length : Int) = true from inT (by omega) (by omega)), Int.toNat_natCast, lastT]
        cases ltI p.2.2.2.1 (b.2.getD t pst0).2.2.2.1 <;> rfl
    · have hc : chkL b.1 (lastT b.2 t) (p :: r) = oneE b.1 p := by rw [chkL, if_pos h0]
      rw [hc, if_pos (eqN h0)]
theorem chk_ref (K : Nat) (hK : 20000 ≤ K) (b : Bk) : F16 K b = some (chkE b) := by
  unfold F16 chkE
  by_cases h1 : b.1 < 1
  · rw [ltT h1, if_pos rfl, if_pos (.inl h1)]
  · rw [ltF (by omega), if_neg (by decide)]
    by_cases h2 : 40 < b.1
    · rw [ltT h2, if_pos rfl, if_pos (.inr h2)]
    · rw [ltF (by omega), if_neg (by decide), if_neg (show ¬(b.1 < 1 ∨ 40 < b.1) by omega)]
      by_cases h3 : 10000 < b.2.length
      · rw [ltT (by omega), if_pos rfl, if_pos h3]
      · rw [ltF (by omega), if_neg (by decide), if_neg h3]
        exact chk_ref_go K b (by omega) b.2 0 K rfl (by omega)

/-! ### A posting in addition -/
def postE (b : Bk) (p : Pst) : Bk × Int := if chkE b ≠ 0 then ((0, []), chkE b) else if chkE (b.1, b.2 ++ [p]) ≠ 0 then ((0, []), chkE (b.1, b.2 ++ [p])) else ((b.1, b.2 ++ [p]), 0)
theorem chkE_len {b : Bk} (h : chkE b = 0) : b.2.length ≤ 10000 := by
  unfold chkE at h
  split at h
  · cases h
  · split at h
    · cases h
    · omega
theorem postE_no {b : Bk} {p : Pst} (h : chkE b ≠ 0) : postE b p = ((0, []), chkE b) := by rw [postE, if_pos h]
theorem postE_not {b : Bk} {p : Pst} (h : chkE b = 0) (h' : chkE (b.1, b.2 ++ [p]) ≠ 0) : postE b p = ((0, []), chkE (b.1, b.2 ++ [p])) := by rw [postE, if_neg (fun k => k h), if_pos h']
theorem postE_ok {b : Bk} {p : Pst} (h : chkE b = 0) (h' : chkE (b.1, b.2 ++ [p]) = 0) : postE b p = ((b.1, b.2 ++ [p]), 0) := by rw [postE, if_neg (fun k => k h), if_neg (fun k => k h')]
theorem post_own (K : Nat) (hK : 20000 ≤ K) (b : Bk) (p : Pst) : F9 K b p = some (postE b p) := by
  unfold F9
  refine bindS (chk_own K hK b) ?_
  by_cases h : chkE b = 0
  · rw [if_neg (eqZ h)]
    have hl := chkE_len h
    refine bindS (v := b.2) (show F29 K b.2 = _ from ?_) ?_
    · unfold F29
      exact if_pos (show room (0 + b.2.length) = true from roomT (by omega))
    · refine (if_pos (show room (b.2.length + 1) = true from roomT (by omega))).trans ?_
      refine bindS (chk_own K hK (b.1, b.2 ++ [p])) ?_
      by_cases h' : chkE (b.1, b.2 ++ [p]) = 0
      · rw [if_neg (eqZ h'), postE_ok h h']; rfl
      · rw [if_pos (eqN h'), postE_not h h']
  · rw [if_pos (eqN h), postE_no h]
theorem post_ref (K : Nat) (hK : 20000 ≤ K) (b : Bk) (p : Pst) : F10 K b p = some (postE b p) := by
  unfold F10
  refine bindS (chk_ref K hK b) ?_
  by_cases h : chkE b = 0
  · rw [if_neg (eqZ h)]
    have hl := chkE_len h
    refine (if_pos (show room (0 + b.2.length) = true from roomT (by omega))).trans ((if_pos (show room (b.2.length + 1) = true from roomT (by omega))).trans ?_)
    refine bindS (chk_ref K hK (b.1, b.2 ++ [p])) ?_
    by_cases h' : chkE (b.1, b.2 ++ [p]) = 0
    · rw [if_neg (eqZ h'), postE_ok h h']; rfl
    · rw [if_pos (eqN h'), postE_not h h']
  · rw [if_pos (eqN h), postE_no h]

/-! ### Comparisons -/
theorem beq_pst (p q : Pst) : Ty.beq tyPst p q = decide (p = q) := by
  show (eqI p.1 q.1 && (eqI p.2.1 q.2.1 && (eqI p.2.2.1 q.2.2.1 && (eqI p.2.2.2.1 q.2.2.2.1 && (eqI p.2.2.2.2.1 q.2.2.2.2.1 && eqI p.2.2.2.2.2 q.2.2.2.2.2))))) = _
  obtain ⟨a, b, c, d, e, f⟩ := p
  obtain ⟨a', b', c', d', e', f'⟩ := q
  rw [Bool.eq_iff_iff]
  simp [eqI_eq]
theorem same_go (K : Nat) (a b : Bk) (ha : a.2.length ≤ 100000) (hl : a.2.length = b.2.length) : ∀ (r s : List Pst) (t n : Nat), a.2.drop t = r → b.2.drop t = s → r.length < n →
    F17l0 K n (t : Int) a b (some true) = some (decide (r = s))
  | [], s, t, n, h, h', hn => by
    obtain ⟨n, rfl⟩ : ∃ m, n = m + 1 := ⟨n - 1, by omega⟩
    have := drop_nil h
    rw [List.drop_eq_nil_of_le (by omega)] at h'
    subst h'
    simp (disch := omega) only [F17l0, B17l0, ltF, ↓reduceIte, Bool.false_eq_true]
    rfl
  | p :: r, s, t, n, h, h', hn => by
    obtain ⟨n, rfl⟩ : ∃ m, n = m + 1 := ⟨n - 1, by omega⟩
    obtain ⟨h1, h2, h3⟩ := drop_cons pst0 h
    obtain ⟨q, s, rfl⟩ : ∃ q s', s = q :: s' := by
      cases s with
      | nil => have := drop_nil h'; omega
      | cons q s => exact ⟨q, s, rfl⟩
    obtain ⟨g1, g2, g3⟩ := drop_cons pst0 h'
    have ih := same_go K a b ha hl r s (t + 1) n h3 g3 (by simpa using hn)
    have hw : IntKind.wrap .i64 ((t : Int) + 1) = ((t + 1 : Nat) : Int) := wi64 (by omega) (by omega)
    rw [F17l0, B17l0, ltT (by omega), if_pos rfl, inT (by omega) (by omega), if_pos rfl, inT (by omega) (by omega), if_pos rfl]
    simp only [nthD_pst, Int.toNat_natCast, h2, g2, eta_pst, hw, ih]
    rw [beq_pst p q]
    by_cases e : p = q
    · subst e; simp
    · simp [e]
theorem same_ok (K : Nat) (hK : 20000 ≤ K) (a b : Bk) (ha : a.2.length ≤ 10001) : F17 K a b = some (decide (a.1 = b.1 ∧ a.2 = b.2)) := by
  unfold F17
  by_cases h1 : a.1 = b.1
  · rw [if_neg (show ¬ (!(eqI a.1 b.1)) = true by rw [eqT h1]; decide)]
    by_cases h2 : a.2.length = b.2.length
    · rw [if_neg (show ¬ (!(eqI (a.2.length : Int) (b.2.length : Int))) = true by rw [eqT (by omega)]; decide)]
      refine (same_go K a b (by omega) h2 a.2 b.2 0 K rfl rfl (by omega)).trans ?_
      simp [h1]
    · rw [if_pos (show (!(eqI (a.2.length : Int) (b.2.length : Int))) = true by rw [eqF (by omega)]; rfl)]
      have : ¬ (a.2 = b.2) := fun e => h2 (by rw [e])
      simp [this]
  · rw [if_pos (show (!(eqI a.1 b.1)) = true by rw [eqF (by omega)]; rfl)]
    simp [h1]
theorem ints_go (K : Nat) (a b : List Int) (ha : a.length ≤ 100000) (hl : a.length = b.length) : ∀ (r s : List Int) (t n : Nat), a.drop t = r → b.drop t = s → r.length < n →
    F26l0 K n a b (t : Int) (some true) = some (decide (r = s))
  | [], s, t, n, h, h', hn => by
    obtain ⟨n, rfl⟩ : ∃ m, n = m + 1 := ⟨n - 1, by omega⟩
    have := drop_nil h
    rw [List.drop_eq_nil_of_le (by omega)] at h'
    subst h'
    simp (disch := omega) only [F26l0, B26l0, ltF, ↓reduceIte, Bool.false_eq_true]
    rfl
  | p :: r, s, t, n, h, h', hn => by
    obtain ⟨n, rfl⟩ : ∃ m, n = m + 1 := ⟨n - 1, by omega⟩
    obtain ⟨h1, h2, h3⟩ := drop_cons 0 h
    obtain ⟨q, s, rfl⟩ : ∃ q s', s = q :: s' := by
      cases s with
      | nil => have := drop_nil h'; omega
      | cons q s => exact ⟨q, s, rfl⟩
    obtain ⟨g1, g2, g3⟩ := drop_cons 0 h'
    have ih := ints_go K a b ha hl r s (t + 1) n h3 g3 (by simpa using hn)
    have hw : IntKind.wrap .i64 ((t : Int) + 1) = ((t + 1 : Nat) : Int) := wi64 (by omega) (by omega)
    rw [F26l0, B26l0, ltT (by omega), if_pos rfl, inT (by omega) (by omega), if_pos rfl, inT (by omega) (by omega), if_pos rfl]
    simp only [nthD_int, Int.toNat_natCast, h2, g2, hw, ih]
    by_cases e : p = q
    · subst e; rw [if_neg (show ¬ (!(eqI p p)) = true by rw [eqT rfl]; decide)]; simp
    · rw [if_pos (show (!(eqI p q)) = true by rw [eqF (by omega)]; rfl)]; simp [e]
theorem ints_ok (K : Nat) (hK : 20000 ≤ K) (a b : List Int) (ha : a.length ≤ 10001) : F26 K a b = some (decide (a = b)) := by
  unfold F26
  by_cases h2 : a.length = b.length
  · rw [if_neg (show ¬ (!(eqI (a.length : Int) (b.length : Int))) = true by rw [eqT (by omega)]; decide)]
    exact ints_go K a b (by omega) h2 a b 0 K rfl rfl (by omega)
  · rw [if_pos (show (!(eqI (a.length : Int) (b.length : Int))) = true by rw [eqF (by omega)]; rfl)]
    have : ¬ a = b := fun e => h2 (by rw [e])
    simp [this]

end Go.Proofs.YtcjjagkcdepgdaaDoor
