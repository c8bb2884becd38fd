/- Statements and totals: both sides. -/
import Derived.Test.YtcjjagkcdepgdaaDoorY2
set_option linter.unusedVariables false
set_option linter.unusedSimpArgs false
set_option maxRecDepth 100000
namespace Go.Proofs.YtcjjagkcdepgdaaDoor
open Go Go.Q

/-! ### The error of an account and ticks -/
def spanE (b : Bk) (n fr to : Int) : Int := if chkE b ≠ 0 then chkE b else if inA b.1 n = true then (if fr < 0 ∨ to < fr ∨ 1000001 < to then 1 else 0) else 8
theorem span_no {b : Bk} {n fr to : Int} (h : chkE b ≠ 0) : spanE b n fr to = chkE b := by rw [spanE, if_pos h]
theorem span_out {b : Bk} {n fr to : Int} (h : chkE b = 0) (h' : inA b.1 n = false) : spanE b n fr to = 8 := by rw [spanE, if_neg (fun k => k h), h', if_neg (by decide)]
theorem span_in {b : Bk} {n fr to : Int} (h : chkE b = 0) (h' : inA b.1 n = true) : spanE b n fr to = if fr < 0 ∨ to < fr ∨ 1000001 < to then 1 else 0 := by rw [spanE, if_neg (fun k => k h), if_pos h']
theorem span_ok {b : Bk} {n fr to : Int} (h : spanE b n fr to = 0) : chkE b = 0 ∧ inA b.1 n = true ∧ 0 ≤ fr ∧ fr ≤ to ∧ to ≤ 1000001 := by
  by_cases h1 : chkE b = 0
  · rcases Bool.eq_false_or_eq_true (inA b.1 n) with e | e
    · rw [span_in h1 e] at h
      split at h
      · cases h
      · exact ⟨h1, e, by omega, by omega, by omega⟩
    · rw [span_out h1 e] at h; cases h
  · rw [span_no h1] at h; exact absurd h h1
theorem span_own (K : Nat) (hK : 20000 ≤ K) (b : Bk) (n fr to : Int) : F43 K b n fr to = some (spanE b n fr to) := by
  unfold F43
  refine bindS (chk_own K hK b) ?_
  by_cases h : chkE b = 0
  · rw [if_neg (eqZ h)]
    refine bindS (account_own K b n) ?_
    rcases Bool.eq_false_or_eq_true (inA b.1 n) with e | e
    · rw [e, if_neg (by decide), span_in h e]
      by_cases h1 : fr < 0
      · simp only [ltT h1, ↓reduceIte, if_pos (show fr < 0 ∨ to < fr ∨ 1000001 < to from .inl h1)]
      · by_cases h2 : to < fr
        · simp only [ltF (show 0 ≤ fr by omega), ltT h2, ↓reduceIte, Bool.false_eq_true, if_pos (show fr < 0 ∨ to < fr ∨ 1000001 < to from .inr (.inl h2))]
        · by_cases h3 : 1000001 < to
          · simp only [ltF (show 0 ≤ fr by omega), ltF (show fr ≤ to by omega), ltT h3, ↓reduceIte, Bool.false_eq_true, if_pos (show fr < 0 ∨ to < fr ∨ 1000001 < to from .inr (.inr h3))]
          · simp only [ltF (show 0 ≤ fr by omega), ltF (show fr ≤ to by omega), ltF (show to ≤ 1000001 by omega), ↓reduceIte, Bool.false_eq_true, if_neg (show ¬ (fr < 0 ∨ to < fr ∨ 1000001 < to) by omega)]
    · rw [e, if_pos (by decide), span_out h e]
  · rw [if_pos (eqN h), span_no h]
theorem span_ref (K : Nat) (hK : 20000 ≤ K) (b : Bk) (n fr to : Int) : F45 K b n fr to = some (spanE b n fr to) := by
  unfold F45
  refine bindS (chk_ref K hK b) ?_
  by_cases h : chkE b = 0
  · rw [if_neg (eqZ h)]
    refine bindS (in_ref K b n) ?_
    rcases Bool.eq_false_or_eq_true (inA b.1 n) with e | e
    · rw [e, if_neg (by decide), span_in h e]
      by_cases h1 : fr < 0
      · simp only [ltT h1, ↓reduceIte, if_pos (show fr < 0 ∨ to < fr ∨ 1000001 < to from .inl h1)]
      · by_cases h2 : to < fr
        · simp only [ltF (show 0 ≤ fr by omega), ltT h2, ↓reduceIte, Bool.false_eq_true, if_pos (show fr < 0 ∨ to < fr ∨ 1000001 < to from .inr (.inl h2))]
        · by_cases h3 : 1000001 < to
          · simp only [ltF (show 0 ≤ fr by omega), ltF (show fr ≤ to by omega), ltT h3, ↓reduceIte, Bool.false_eq_true, if_pos (show fr < 0 ∨ to < fr ∨ 1000001 < to from .inr (.inr h3))]
          · simp only [ltF (show 0 ≤ fr by omega), ltF (show fr ≤ to by omega), ltF (show to ≤ 1000001 by omega), ↓reduceIte, Bool.false_eq_true, if_neg (show ¬ (fr < 0 ∨ to < fr ∨ 1000001 < to) by omega)]
    · rw [e, if_pos (by decide), span_out h e]
  · rw [if_pos (eqN h), span_no h]

/-! ### What a posting gives -/
theorem gives_ok {a : Int} {p : Pst} (h : OneI a p) (n k : Int) : (gives n k p = [(k, got p n)] ∧ (p.1 = n ∨ p.2.1 = n)) ∨ (gives n k p = [] ∧ ¬ (p.1 = n ∨ p.2.1 = n)) := by
  obtain ⟨_, _, hne, h4, _⟩ := h
  have hw : RowKit.wrap64 (-p.2.2.1) = -p.2.2.1 := by simp only [RowKit.wrap64]; omega
  unfold gives got
  by_cases e1 : p.1 = n
  · have e2 : ¬ p.2.1 = n := fun e => hne (e1.trans e.symm)
    left
    rw [if_pos e1, if_neg e2, if_pos e1, if_neg e2]
    exact ⟨by simp, .inl e1⟩
  · by_cases e2 : p.2.1 = n
    · left
      rw [if_neg e1, if_pos e2, if_neg e1, if_pos e2, hw]
      exact ⟨by simp, .inr e2⟩
    · right
      rw [if_neg e1, if_neg e2]
      exact ⟨rfl, fun h => h.elim e1 e2⟩
theorem got_none {p : Pst} {n : Int} (h : ¬ (p.1 = n ∨ p.2.1 = n)) : got p n = 0 := by
  unfold got; rw [if_neg (fun e => h (.inl e)), if_neg (fun e => h (.inr e))]; rfl

/-! ### Statements -/
def linesL (n fr to : Int) : Int → List Pst → List Int
  | _, [] => []
  | k, p :: l => (if fr ≤ p.2.2.2.1 ∧ p.2.2.2.1 < to ∧ (p.1 = n ∨ p.2.1 = n) then [k] else []) ++ linesL n fr to (k + 1) l
theorem lines_nil {a : Int} (n fr to : Int) : ∀ {l : List Pst} {last : Int} (k : Int), chkL a last l = 0 → to ≤ last → linesL n fr to k l = []
  | [], _, _, _, _ => rfl
  | p :: l, last, k, h, ht => by
    obtain ⟨h1, h2, h3⟩ := chkL_cons h
    rw [linesL, if_neg (by omega), lines_nil n fr to (k + 1) h3 (by omega)]; rfl
theorem lines_len (n fr to : Int) : ∀ (l : List Pst) (k : Int), (linesL n fr to k l).length ≤ l.length
  | [], _ => Nat.le_refl _
  | p :: l, k => by
    have := lines_len n fr to l (k + 1)
    rw [linesL, List.length_append, List.length_cons]
    split <;> simp <;> omega
abbrev el1 (x : Int × Int) : Int × (Int × Unit) := (x.1, x.2, ())
theorem stmt_own_go (K : Nat) (a : Int) (b : Bk) (n fr to : Int) (t9 c2 c3) (c1 : Bk) (b8) (op cl : Int) (kx) (hL : b.2.length ≤ 10000) : ∀ (l : List Pst) (k m : Nat) (last : Int) (acc : List Int), b.2.drop k = l → chkL a last l = 0 → l.length < m → acc.length + l.length ≤ 20000 →
    F22l0 K m ((givesL n to (k : Int) l).map el1) t9 c1 c2 c3 b fr b8 (op, (acc, cl)) kx = kx false t9 c1 c2 c3 b fr b8 (op, (acc ++ linesL n fr to (k : Int) l, cl))
  | [], k, m, last, acc, h, hc, hm, ha => by
    obtain ⟨m, rfl⟩ : ∃ j, m = j + 1 := ⟨m - 1, by omega⟩
    rw [linesL, List.append_nil]; rfl
  | p :: l, k, m, last, acc, h, hc, hm, ha => by
    obtain ⟨m, rfl⟩ : ∃ j, m = j + 1 := ⟨m - 1, by omega⟩
    obtain ⟨g1, g2, g3⟩ := drop_cons pst0 h
    obtain ⟨h1, h2, h3⟩ := chkL_cons hc
    simp only [List.length_cons] at hm ha
    have hk : (k : Int) + 1 = ((k + 1 : Nat) : Int) := by omega
    by_cases ht : to ≤ p.2.2.2.1
    · rw [givesL, if_pos ht, linesL, if_neg (by omega), lines_nil n fr to _ h3 ht, List.append_nil, List.append_nil]; rfl
    · rw [givesL, if_neg ht, linesL, hk]
      rcases gives_ok h1 n k with ⟨e1, e2⟩ | ⟨e1, e2⟩
      · rw [e1, List.singleton_append, List.map_cons, F22l0, B22l0]
        rw [if_pos (show inR (k : Int) (b.2.length : Int) = true from inT (by omega) (by omega))]
        simp only [nthD_pst, Int.toNat_natCast, g2]
        by_cases hf : fr ≤ p.2.2.2.1
        · rw [if_pos (show leI fr p.2.2.2.1 = true from leT hf), if_pos (show fr ≤ p.2.2.2.1 ∧ p.2.2.2.1 < to ∧ (p.1 = n ∨ p.2.1 = n) from ⟨hf, by omega, e2⟩)]
          refine (if_pos (show room (acc.length + 1) = true from roomT (by omega))).trans ?_
          refine (stmt_own_go K a b n fr to t9 c2 c3 c1 b8 op cl kx hL l (k + 1) m _ (acc ++ [(k : Int)]) g3 h3 (by omega) (by simp; omega)).trans ?_
          rw [List.append_assoc]
        · rw [if_neg (show ¬ leI fr p.2.2.2.1 = true by rw [leF (by omega)]; decide), if_neg (fun h => hf h.1), List.nil_append]
          exact stmt_own_go K a b n fr to t9 c2 c3 c1 b8 op cl kx hL l (k + 1) m _ acc g3 h3 (by omega) (by omega)
      · rw [e1, List.nil_append, if_neg (fun h => e2 h.2.2), List.nil_append]
        exact stmt_own_go K a b n fr to t9 c2 c3 c1 b8 op cl kx hL l (k + 1) (m + 1) _ acc g3 h3 (by omega) (by omega)
def stE (b : Bk) (n fr to : Int) : (Int × (List Int × Int)) × Int := if spanE b n fr to ≠ 0 then ((0, ([], 0)), spanE b n fr to) else ((balB n fr b.2, (linesL n fr to 0 b.2, balB n to b.2)), 0)
theorem stE_no {b : Bk} {n fr to : Int} (h : spanE b n fr to ≠ 0) : stE b n fr to = ((0, ([], 0)), spanE b n fr to) := by rw [stE, if_pos h]
theorem stE_ok {b : Bk} {n fr to : Int} (h : spanE b n fr to = 0) : stE b n fr to = ((balB n fr b.2, (linesL n fr to 0 b.2, balB n to b.2)), 0) := by rw [stE, if_neg (fun k => k h)]
theorem Statement_own (K : Nat) (hK : 20000 ≤ K) (b : Bk) (n fr to : Int) : F22 K b n fr to = some (stE b n fr to) := by
  unfold F22
  refine bindS (span_own K hK b n fr to) ?_
  by_cases h : spanE b n fr to = 0
  · rw [if_neg (eqZ h), stE_ok h]
    obtain ⟨h1, h2, h3, h4, h5⟩ := span_ok h
    obtain ⟨_, hl, hc⟩ := chkE_ok h1
    refine bindS (balance_own K hK b n fr h1) (bindS (balance_own K hK b n to h1) (bindS (bof_own K b n to) (bindS (it_own K b n to h1) ?_)))
    refine (stmt_own_go K b.1 b n fr to _ _ _ _ _ _ _ _ hl b.2 0 K 0 [] rfl hc (by omega) (by simp; omega)).trans ?_
    rfl
  · rw [if_pos (eqN h), stE_no h]

theorem stmt_ref_go (K : Nat) (b : Bk) (n fr to : Int) (b8) (op cl : Int) (kx) (hL : b.2.length ≤ 10000) : ∀ (l : List Pst) (k m : Nat) (acc : List Int), b.2.drop k = l → l.length < m → acc.length + l.length ≤ 20000 →
    F23l0 K m n fr to (k : Int) b b8 (op, (acc, cl)) kx = kx b8 (op, (acc ++ linesL n fr to (k : Int) l, cl))
  | [], k, m, acc, h, hm, ha => by
    obtain ⟨m, rfl⟩ : ∃ j, m = j + 1 := ⟨m - 1, by omega⟩
    have := drop_nil h
    rw [F23l0, B23l0, if_neg (show ¬ ltI (k : Int) (b.2.length : Int) = true by rw [ltF (by omega)]; decide), linesL, List.append_nil]
  | p :: l, k, m, acc, h, hm, ha => by
    obtain ⟨m, rfl⟩ : ∃ j, m = j + 1 := ⟨m - 1, by omega⟩
    obtain ⟨g1, g2, g3⟩ := drop_cons pst0 h
    simp only [List.length_cons] at hm ha
    have hk : (k : Int) + 1 = ((k + 1 : Nat) : Int) := by omega
    have hw : IntKind.wrap .i64 ((k : Int) + 1) = ((k + 1 : Nat) : Int) := wi64 (by omega) (by omega)
    rw [F23l0, B23l0, if_pos (show ltI (k : Int) (b.2.length : Int) = true from ltT (by omega)), if_pos (show inR (k : Int) (b.2.length : Int) = true from inT (by omega) (by omega))]
    simp only [nthD_pst, Int.toNat_natCast, g2, hw]
    have i1 := stmt_ref_go K b n fr to b8 op cl kx hL l (k + 1) m (acc ++ [(k : Int)]) g3 (by omega) (by simp; omega)
    have i2 := stmt_ref_go K b n fr to b8 op cl kx hL l (k + 1) m acc g3 (by omega) (by omega)
    rw [linesL, hk]
    by_cases h1 : fr ≤ p.2.2.2.1
    · rw [if_pos (show leI fr p.2.2.2.1 = true from leT h1)]
      by_cases h2 : p.2.2.2.1 < to
      · rw [if_pos (show ltI p.2.2.2.1 to = true from ltT h2)]
        by_cases h3 : p.1 = n
        · rw [if_pos (show eqI p.1 n = true from eqT h3)]
          refine (if_pos (show room (acc.length + 1) = true from roomT (by omega))).trans ?_
          rw [if_pos (show fr ≤ p.2.2.2.1 ∧ p.2.2.2.1 < to ∧ (p.1 = n ∨ p.2.1 = n) from ⟨h1, h2, .inl h3⟩), ← List.append_assoc]
          exact i1
        · rw [if_neg (show ¬ eqI p.1 n = true by rw [eqF (by omega)]; decide)]
          by_cases h4 : p.2.1 = n
          · rw [if_pos (show eqI p.2.1 n = true from eqT h4)]
            refine (if_pos (show room (acc.length + 1) = true from roomT (by omega))).trans ?_
            rw [if_pos (show fr ≤ p.2.2.2.1 ∧ p.2.2.2.1 < to ∧ (p.1 = n ∨ p.2.1 = n) from ⟨h1, h2, .inr h4⟩), ← List.append_assoc]
            exact i1
          · rw [if_neg (show ¬ eqI p.2.1 n = true by rw [eqF (by omega)]; decide), if_neg (fun h => h.2.2.elim h3 h4), List.nil_append]
            exact i2
      · rw [if_neg (show ¬ ltI p.2.2.2.1 to = true by rw [ltF (by omega)]; decide), if_neg (fun h => h2 h.2.1), List.nil_append]
        exact i2
    · rw [if_neg (show ¬ leI fr p.2.2.2.1 = true by rw [leF (by omega)]; decide), if_neg (fun h => h1 h.1), List.nil_append]
      exact i2
theorem Statement_ref (K : Nat) (hK : 20000 ≤ K) (b : Bk) (n fr to : Int) : F23 K b n fr to = some (stE b n fr to) := by
  unfold F23
  refine bindS (span_ref K hK b n fr to) ?_
  by_cases h : spanE b n fr to = 0
  · rw [if_neg (eqZ h), stE_ok h]
    obtain ⟨h1, h2, h3, h4, h5⟩ := span_ok h
    obtain ⟨_, hl, hc⟩ := chkE_ok h1
    rw [wi64 (show -9223372036854775808 ≤ fr - 1 by omega) (by omega), wi64 (show -9223372036854775808 ≤ to - 1 by omega) (by omega)]
    refine bindS (Balance_ref K hK b n (fr - 1)) (bindS (Balance_ref K hK b n (to - 1)) ?_)
    rw [balE_ok h1 h2, balE_ok h1 h2, show fr - 1 + 1 = fr by omega, show to - 1 + 1 = to by omega]
    refine (stmt_ref_go K b n fr to _ _ _ _ hl b.2 0 K [] rfl (by omega) (by simp; omega)).trans ?_
    rfl
  · rw [if_pos (eqN h), stE_no h]

/-! ### Totals -/
def totW (n fr to w : Int) : List Pst → Int
  | [] => 0
  | p :: l => (if p.2.2.2.2.1 = w ∧ fr ≤ p.2.2.2.1 ∧ p.2.2.2.1 < to then got p n else 0) + totW n fr to w l
theorem totW_zero {a : Int} (n fr to w : Int) : ∀ {l : List Pst} {last : Int}, chkL a last l = 0 → to ≤ last → totW n fr to w l = 0
  | [], _, _, _ => rfl
  | p :: l, last, h, ht => by
    obtain ⟨h1, h2, h3⟩ := chkL_cons h
    rw [totW, if_neg (by omega), totW_zero n fr to w h3 (by omega)]; rfl
theorem range_set (f : Nat → Int) (j : Nat) (x : Int) : ((List.range 8).map f).set j x = (List.range 8).map (fun w => if w = j then x else f w) := by
  apply List.ext_getElem
  · simp
  · intro i h1 h2
    simp only [List.getElem_set, List.getElem_map, List.getElem_range]
    by_cases e : j = i
    · rw [if_pos e, if_pos e.symm]
    · rw [if_neg e, if_neg (fun h => e h.symm)]
theorem range_getD (f : Nat → Int) {j : Nat} (h : j < 8) : ((List.range 8).map f).getD j 0 = f j := by
  rw [List.getD_eq_getElem?_getD, List.getElem?_map, List.getElem?_range h]; rfl
theorem tot_own_go (K : Nat) (a : Int) (b : Bk) (n fr to : Int) (t8 t9 c2 c3) (c1 : Bk) (kx) (hL : b.2.length ≤ 10000) : ∀ (l : List Pst) (k m : Nat) (last : Int) (f : Nat → Int), b.2.drop k = l → chkL a last l = 0 → l.length < m →
    (∀ w, -4000000000000000000 ≤ f w - l.length * 1099511627776 ∧ f w + l.length * 1099511627776 ≤ 4000000000000000000) →
    F24l0 K m ((givesL n to (k : Int) l).map el1) t8 t9 c1 c2 c3 b fr ((List.range 8).map f) kx = kx false t8 t9 c1 c2 c3 b fr ((List.range 8).map fun w : Nat => f w + totW n fr to (w : Int) l)
  | [], k, m, last, f, h, hc, hm, hf => by
    obtain ⟨m, rfl⟩ : ∃ j, m = j + 1 := ⟨m - 1, by omega⟩
    simp only [totW, Int.add_zero]; rfl
  | p :: l, k, m, last, f, h, hc, hm, hf => by
    obtain ⟨m, rfl⟩ : ∃ j, m = j + 1 := ⟨m - 1, by omega⟩
    obtain ⟨g1, g2, g3⟩ := drop_cons pst0 h
    obtain ⟨h1, h2, h3⟩ := chkL_cons hc
    have hgb := got_bound h1 n
    simp only [List.length_cons] at hm hf
    have hk : (k : Int) + 1 = ((k + 1 : Nat) : Int) := by omega
    by_cases ht : to ≤ p.2.2.2.1
    · have hz : ∀ w : Nat, f w + totW n fr to w (p :: l) = f w := fun w => by rw [totW, if_neg (by omega), totW_zero n fr to w h3 ht]; omega
      simp only [hz]
      rw [givesL, if_pos ht]; rfl
    · rw [givesL, if_neg ht, hk]
      have hskip : got p n = 0 ∨ ¬ fr ≤ p.2.2.2.1 → ∀ w : Nat, f w + totW n fr to w (p :: l) = f w + totW n fr to w l := fun hs w => by
        rw [totW]
        split
        · rcases hs with hs | hs
          · rw [hs, Int.zero_add]
          · omega
        · rw [Int.zero_add]
      rcases gives_ok h1 n k with ⟨e1, e2⟩ | ⟨e1, e2⟩
      · rw [e1, List.singleton_append, List.map_cons, F24l0, B24l0]
        rw [if_pos (show inR (k : Int) (b.2.length : Int) = true from inT (by omega) (by omega))]
        simp only [nthD_pst, Int.toNat_natCast, g2]
        by_cases hfr : fr ≤ p.2.2.2.1
        · obtain ⟨_, _, _, _, _, hy, _⟩ := h1
          rw [if_pos (show leI fr p.2.2.2.1 = true from leT hfr)]
          have hin : inR p.2.2.2.2.1 ((8 : Nat) : Int) = true := inT (by omega) (by omega)
          rw [if_pos hin, if_pos hin]
          obtain ⟨j, hj⟩ : ∃ j : Nat, p.2.2.2.2.1 = (j : Int) := ⟨p.2.2.2.2.1.toNat, by omega⟩
          have hj8 : j < 8 := by omega
          have hfj := hf j
          rw [hj, Int.toNat_natCast, nthD_int, Int.toNat_natCast, range_getD f hj8, range_set, wi64 (by omega) (by omega)]
          refine (tot_own_go K a b n fr to t8 t9 c2 c3 c1 kx hL l (k + 1) m _ (fun w => if w = j then f j + got p n else f w) g3 h3 (by omega) (fun w => ?_)).trans ?_
          · have := hf w
            split <;> omega
          · congr 1
            apply List.map_congr_left
            intro w hw
            rw [totW, hj]
            by_cases hwj : w = j
            · subst hwj
              rw [if_pos rfl, if_pos ⟨rfl, hfr, by omega⟩, Int.add_assoc]
            · rw [if_neg hwj, if_neg (by omega), Int.zero_add]
        · rw [if_neg (show ¬ leI fr p.2.2.2.1 = true by rw [leF (by omega)]; decide)]
          simp only [hskip (.inr hfr)]
          exact tot_own_go K a b n fr to t8 t9 c2 c3 c1 kx hL l (k + 1) m _ f g3 h3 (by omega) (fun w => by have := hf w; omega)
      · rw [e1, List.nil_append]
        simp only [hskip (.inl (got_none e2))]
        exact tot_own_go K a b n fr to t8 t9 c2 c3 c1 kx hL l (k + 1) (m + 1) _ f g3 h3 (by omega) (fun w => by have := hf w; omega)
def totL (n fr to : Int) (l : List Pst) : List Int := (List.range 8).map fun w : Nat => totW n fr to (w : Int) l
def totE (b : Bk) (n fr to : Int) : List Int × Int := if spanE b n fr to ≠ 0 then ([], spanE b n fr to) else (totL n fr to b.2, 0)
theorem totE_no {b : Bk} {n fr to : Int} (h : spanE b n fr to ≠ 0) : totE b n fr to = ([], spanE b n fr to) := by rw [totE, if_pos h]
theorem totE_ok {b : Bk} {n fr to : Int} (h : spanE b n fr to = 0) : totE b n fr to = (totL n fr to b.2, 0) := by rw [totE, if_neg (fun k => k h)]
theorem Totals_own (K : Nat) (hK : 20000 ≤ K) (b : Bk) (n fr to : Int) : F24 K b n fr to = some (totE b n fr to) := by
  unfold F24
  refine bindS (span_own K hK b n fr to) ?_
  by_cases h : spanE b n fr to = 0
  · rw [if_neg (eqZ h), totE_ok h]
    obtain ⟨h1, h2, h3, h4, h5⟩ := span_ok h
    obtain ⟨_, hl, hc⟩ := chkE_ok h1
    refine bindS (bof_own K b n to) (bindS (it_own K b n to h1) ?_)
    have hz : List.replicate 8 (0 : Int) = (List.range 8).map (fun _ : Nat => (0 : Int)) := by rfl
    rw [hz]
    refine (tot_own_go K b.1 b n fr to _ _ _ _ _ _ hl b.2 0 K 0 _ rfl hc (by omega) (fun w => by omega)).trans ?_
    simp only [Int.zero_add]
    rw [if_neg (by decide)]
    rfl
  · rw [if_pos (eqN h), totE_no h]

theorem tot_ref_in (K : Nat) (a : Int) (b : Bk) (n fr to w : Int) (out : List Int) (b8) (kx) (hL : b.2.length ≤ 10000) : ∀ (l : List Pst) (k m : Nat) (last acc : Int), b.2.drop k = l → chkL a last l = 0 → l.length < m → -4000000000000000000 ≤ acc - l.length * 1099511627776 → acc + l.length * 1099511627776 ≤ 4000000000000000000 →
    F25l2 K m n fr to out w acc (k : Int) b b8 kx = kx n fr to out w (acc + totW n fr to w l) b b8
  | [], k, m, last, acc, h, hc, hm, h1, h2 => by
    obtain ⟨m, rfl⟩ : ∃ j, m = j + 1 := ⟨m - 1, by omega⟩
    have := drop_nil h
    rw [F25l2, B25l2, if_neg (show ¬ ltI (k : Int) (b.2.length : Int) = true by rw [ltF (by omega)]; decide), totW, Int.add_zero]
  | p :: l, k, m, last, acc, h, hc, hm, h1, h2 => by
    obtain ⟨m, rfl⟩ : ∃ j, m = j + 1 := ⟨m - 1, by omega⟩
    obtain ⟨g1, g2, g3⟩ := drop_cons pst0 h
    obtain ⟨c1, c2, c3⟩ := chkL_cons hc
    have hg := got_bound c1 n
    simp only [List.length_cons] at hm h1 h2
    have hw : IntKind.wrap .i64 ((k : Int) + 1) = ((k + 1 : Nat) : Int) := wi64 (by omega) (by omega)
    rw [F25l2, B25l2, if_pos (show ltI (k : Int) (b.2.length : Int) = true from ltT (by omega)), if_pos (show inR (k : Int) (b.2.length : Int) = true from inT (by omega) (by omega))]
    simp only [nthD_pst, Int.toNat_natCast, g2, hw, eta_pst, got_ref K a p n c1, Option.bind_some]
    have i1 := tot_ref_in K a b n fr to w out b8 kx hL l (k + 1) m _ (acc + got p n) g3 c3 (by omega) (by omega) (by omega)
    have i2 := tot_ref_in K a b n fr to w out b8 kx hL l (k + 1) m _ acc g3 c3 (by omega) (by omega) (by omega)
    rw [wi64 (show -9223372036854775808 ≤ acc + got p n by omega) (by omega), totW]
    by_cases e1 : p.2.2.2.2.1 = w
    · rw [if_pos (show eqI p.2.2.2.2.1 w = true from eqT e1)]
      by_cases e2 : fr ≤ p.2.2.2.1
      · rw [if_pos (show leI fr p.2.2.2.1 = true from leT e2)]
        by_cases e3 : p.2.2.2.1 < to
        · rw [if_pos (show ltI p.2.2.2.1 to = true from ltT e3), if_pos ⟨e1, e2, e3⟩, ← Int.add_assoc]; exact i1
        · rw [if_neg (show ¬ ltI p.2.2.2.1 to = true by rw [ltF (by omega)]; decide), if_neg (fun h => e3 h.2.2), Int.zero_add]; exact i2
      · rw [if_neg (show ¬ leI fr p.2.2.2.1 = true by rw [leF (by omega)]; decide), if_neg (fun h => e2 h.2.1), Int.zero_add]; exact i2
    · rw [if_neg (show ¬ eqI p.2.2.2.2.1 w = true by rw [eqF (by omega)]; decide), if_neg (fun h => e1 h.1), Int.zero_add]; exact i2
theorem tot_ref_out (K : Nat) (hK : 20000 ≤ K) (b : Bk) (n fr to : Int) (b8) (kx) (h : chkE b = 0) : ∀ (r w m : Nat), w + r = 8 → r < m →
    F25l0 K m n fr to ((List.range w).map fun w : Nat => totW n fr to (w : Int) b.2) (w : Int) b b8 kx = kx (totL n fr to b.2) b8
  | 0, w, m, hw, hm => by
    obtain ⟨m, rfl⟩ : ∃ j, m = j + 1 := ⟨m - 1, by omega⟩
    obtain rfl : w = 8 := by omega
    rw [F25l0, B25l0, if_neg (by decide)]; rfl
  | r + 1, w, m, hw, hm => by
    obtain ⟨m, rfl⟩ : ∃ j, m = j + 1 := ⟨m - 1, by omega⟩
    obtain ⟨_, hl, hc⟩ := chkE_ok h
    rw [F25l0, B25l0, if_pos (show ltI (w : Int) 8 = true from ltT (by omega))]
    refine (tot_ref_in K b.1 b n fr to (w : Int) _ b8 _ hl b.2 0 K 0 0 rfl hc (by omega) (by omega) (by omega)).trans ?_
    refine (if_pos (show room (((List.range w).map fun w : Nat => totW n fr to (w : Int) b.2).length + 1) = true from roomT (by simp; omega))).trans ?_
    rw [wi64 (by omega) (by omega), Int.zero_add]
    have := tot_ref_out K hK b n fr to b8 kx h r (w + 1) m (by omega) (by omega)
    rw [List.range_succ, List.map_append] at this
    exact this
theorem Totals_ref (K : Nat) (hK : 20000 ≤ K) (b : Bk) (n fr to : Int) : F25 K b n fr to = some (totE b n fr to) := by
  unfold F25
  refine bindS (span_ref K hK b n fr to) ?_
  by_cases h : spanE b n fr to = 0
  · rw [if_neg (eqZ h), totE_ok h]
    exact tot_ref_out K hK b n fr to _ _ (span_ok h).1 8 0 K rfl (by omega)
  · rw [if_pos (eqN h), totE_no h]

end Go.Proofs.YtcjjagkcdepgdaaDoor
