/- The council: both sides of Check, Seat, the frame of a plea. -/
import Derived.Test.YtkgampbboffhmaaDoorH7
set_option linter.unusedVariables false
set_option linter.unusedSimpArgs false
set_option maxRecDepth 100000
namespace Go.Proofs.YtkgampbboffhmaaDoor
open Go Go.Q

abbrev Cou := List Int × (List ByteArray × (Int × Int))
abbrev Bal := Int × (Int × (Bool × List Int))
abbrev Plea := Int × (Int × (Int × (Int × List Bal)))

def okH (c : Cou) (t : Nat) : Prop := 0 ≤ c.1.getD t 0 ∧ c.1.getD t 0 < 12 ∧ (t = 0 ∨ c.1.getD (t - 1) 0 < c.1.getD t 0) ∧ 1 ≤ (c.2.1.getD t ByteArray.empty).size ∧ (c.2.1.getD t ByteArray.empty).size ≤ 64
instance (c : Cou) (t : Nat) : Decidable (okH c t) := by unfold okH; infer_instance

def okB (c : Cou) : Prop := 1 ≤ c.1.length ∧ c.1.length ≤ 12 ∧ c.2.1.length = c.1.length ∧ (c.1.length : Int) / 2 < c.2.2.1 ∧ c.2.2.1 ≤ (c.1.length : Int) ∧ 1 ≤ c.2.2.2 ∧ c.2.2.2 ≤ 1000000
instance (c : Cou) : Decidable (okB c) := by unfold okB; infer_instance
def okFrom (c : Cou) (t r : Nat) : Bool := (List.range' t r).all fun j => decide (okH c j)
def okC (c : Cou) : Bool := decide (okB c) && okFrom c 0 c.1.length
def chk (c : Cou) : Int := if okC c = true then 0 else 1

theorem okFrom_succ (c : Cou) (t r : Nat) : okFrom c t (r + 1) = (decide (okH c t) && okFrom c (t + 1) r) := by simp [okFrom, List.range'_succ]

theorem pred_nat {t : Nat} (h : 0 < t) : IntKind.wrap .i64 ((t : Int) - 1) = ((t - 1 : Nat) : Int) ∨ 9223372036854775807 < t := by
  by_cases h' : t ≤ 9223372036854775807
  · left; rw [wi64 (by omega) (by omega)]; omega
  · right; omega

theorem okH_zero {α : Type} {c : Cou} {x y : α} : (if c.1.getD 0 0 < 0 then y else if (12 : Int) ≤ c.1.getD 0 0 then y else if ((c.2.1.getD 0 ByteArray.empty).size : Int) < 1 then y else if (64 : Int) < ((c.2.1.getD 0 ByteArray.empty).size : Int) then y else x) = if okH c 0 then x else y := by
  by_cases h : okH c 0
  · rw [if_pos h]
    obtain ⟨a1, a2, a3, a4, a5⟩ := h
    rw [if_neg (by omega), if_neg (by omega), if_neg (by omega), if_neg (by omega)]
  · rw [if_neg h]
    by_cases a1 : c.1.getD 0 0 < 0
    · rw [if_pos a1]
    by_cases a2 : (12 : Int) ≤ c.1.getD 0 0
    · rw [if_neg a1, if_pos a2]
    by_cases a4 : ((c.2.1.getD 0 ByteArray.empty).size : Int) < 1
    · rw [if_neg a1, if_neg a2, if_pos a4]
    by_cases a5 : (64 : Int) < ((c.2.1.getD 0 ByteArray.empty).size : Int)
    · rw [if_neg a1, if_neg a2, if_neg a4, if_pos a5]
    · exact absurd ⟨by omega, by omega, .inl rfl, by omega, by omega⟩ h
theorem okH_succ {α : Type} {c : Cou} {t : Nat} (h0 : t ≠ 0) {x y : α} : (if c.1.getD t 0 < 0 then y else if (12 : Int) ≤ c.1.getD t 0 then y else if c.1.getD t 0 ≤ c.1.getD (t - 1) 0 then y else if ((c.2.1.getD t ByteArray.empty).size : Int) < 1 then y else if (64 : Int) < ((c.2.1.getD t ByteArray.empty).size : Int) then y else x) = if okH c t then x else y := by
  by_cases h : okH c t
  · rw [if_pos h]
    obtain ⟨a1, a2, a3, a4, a5⟩ := h
    have a3 : c.1.getD (t - 1) 0 < c.1.getD t 0 := a3.resolve_left h0
    rw [if_neg (by omega), if_neg (by omega), if_neg (by omega), if_neg (by omega), if_neg (by omega)]
  · rw [if_neg h]
    by_cases a1 : c.1.getD t 0 < 0
    · rw [if_pos a1]
    by_cases a2 : (12 : Int) ≤ c.1.getD t 0
    · rw [if_neg a1, if_pos a2]
    by_cases a3 : c.1.getD t 0 ≤ c.1.getD (t - 1) 0
    · rw [if_neg a1, if_neg a2, if_pos a3]
    by_cases a4 : ((c.2.1.getD t ByteArray.empty).size : Int) < 1
    · rw [if_neg a1, if_neg a2, if_neg a3, if_pos a4]
    by_cases a5 : (64 : Int) < ((c.2.1.getD t ByteArray.empty).size : Int)
    · rw [if_neg a1, if_neg a2, if_neg a3, if_neg a4, if_pos a5]
    · exact absurd ⟨by omega, by omega, .inr (by omega), by omega, by omega⟩ h

theorem check_step (K : Nat) (c : Cou) (t : Nat) (h12 : c.1.length ≤ 12) (hl : c.2.1.length = c.1.length) (ht : t < c.1.length) (kn kx) :
    B19l0 K c.1 (c.1.length : Int) (t : Int) c kn kx = if okH c t then kn c.1 (c.1.length : Int) ((t + 1 : Nat) : Int) c else some 1 := by
  have e1 : IntKind.wrap .i64 ((t : Int) + 1) = ((t + 1 : Nat) : Int) := by rw [wi64 (by omega) (by omega)]; omega
  unfold B19l0
  have i1 : inR (t : Int) ((c.1.length : Nat) : Int) = true := inT (by omega) (by omega)
  have i2 : inR (t : Int) ((c.2.1.length : Nat) : Int) = true := inT (by omega) (by omega)
  rw [ltT (by omega : (t : Int) < (c.1.length : Int)), if_pos rfl, i1, if_pos rfl, i2]
  simp only [if_true, nthD_int, nthD_str, Int.toNat_natCast, e1]
  by_cases h0 : t = 0
  · subst h0
    rw [show ltI (0 : Int) ((0 : Nat) : Int) = false from ltF (by omega)]
    simp only [ltI_eq, leI_eq, decide_eq_true_eq, Bool.false_eq_true, if_false]
    exact okH_zero
  · rw [show ltI (0 : Int) (t : Int) = true from ltT (by omega)]
    have e2 : IntKind.wrap .i64 ((t : Int) - 1) = ((t - 1 : Nat) : Int) := (pred_nat (by omega)).elim id (by omega)
    rw [e2, show inR ((t - 1 : Nat) : Int) ((c.1.length : Nat) : Int) = true from inT (by omega) (by omega)]
    simp only [ltI_eq, leI_eq, decide_eq_true_eq, if_true, Int.toNat_natCast]
    exact okH_succ h0

theorem check_go (K : Nat) (c : Cou) (h12 : c.1.length ≤ 12) (hl : c.2.1.length = c.1.length) (kx) : ∀ (r t n : Nat), t + r = c.1.length → r < n →
    F19l0 K n c.1 (c.1.length : Int) (t : Int) c kx = if okFrom c t r = true then kx else some 1
  | 0, t, n, h, hn => by
    obtain ⟨n, rfl⟩ : ∃ m, n = m + 1 := ⟨n - 1, by omega⟩
    rw [F19l0, B19l0, ltF (by omega), if_neg (by decide)]
    rfl
  | r + 1, t, n, h, hn => by
    obtain ⟨n, rfl⟩ : ∃ m, n = m + 1 := ⟨n - 1, by omega⟩
    rw [F19l0, check_step K c t h12 hl (by omega), okFrom_succ]
    by_cases hc : okH c t
    · rw [if_pos hc, check_go K c h12 hl kx r (t + 1) n (by omega) (by omega), decide_eq_true hc, Bool.true_and]
    · rw [if_neg hc, decide_eq_false hc, Bool.false_and, if_neg (by decide)]

theorem check_own (K : Nat) (hK : 20 ≤ K) (c : Cou) (hn : c.1.length ≤ 100000) : F19 K c = some (chk c) := by
  unfold F19 chk okC
  by_cases h1 : 1 ≤ c.1.length ∧ c.1.length ≤ 12 ∧ c.2.1.length = c.1.length
  · obtain ⟨h1, h2, h3⟩ := h1
    have e : IntKind.wrap .i64 (Int.tdiv ((c.1.length : Nat) : Int) 2) = (c.1.length : Int) / 2 := by
      rw [Int.tdiv_eq_ediv_of_nonneg (by omega), wi64 (by omega) (by omega)]
    rw [e]
    have hg := check_go K c h2 h3 (some 0) c.1.length 0 K (by omega) (by omega)
    simp only [ltI_eq, leI_eq, eqI_eq, Bool.not_eq_true', decide_eq_true_eq, decide_eq_false_iff_not]
    rw [if_neg (by omega), if_neg (by omega), if_neg (by omega)]
    by_cases h4 : (c.1.length : Int) / 2 < c.2.2.1 ∧ c.2.2.1 ≤ (c.1.length : Int) ∧ 1 ≤ c.2.2.2 ∧ c.2.2.2 ≤ 1000000
    · rw [if_neg (by omega), if_neg (by omega), if_neg (by omega), if_neg (by omega)]
      refine hg.trans ?_
      rw [decide_eq_true (show okB c from ⟨h1, h2, h3, h4⟩), Bool.true_and]
      cases okFrom c 0 c.1.length <;> rfl
    · rw [decide_eq_false (show ¬ okB c from fun hb => h4 hb.2.2.2), Bool.false_and]
      by_cases a1 : c.2.2.1 ≤ (c.1.length : Int) / 2
      · rw [if_pos a1]; rfl
      by_cases a2 : (c.1.length : Int) < c.2.2.1
      · rw [if_neg a1, if_pos a2]; rfl
      by_cases a3 : c.2.2.2 < 1
      · rw [if_neg a1, if_neg a2, if_pos a3]; rfl
      · rw [if_neg a1, if_neg a2, if_neg a3, if_pos (by omega)]; rfl
  · rw [decide_eq_false (show ¬ okB c from fun hb => h1 ⟨hb.1, hb.2.1, hb.2.2.1⟩), Bool.false_and]
    simp only [ltI_eq, leI_eq, eqI_eq, Bool.not_eq_true', decide_eq_true_eq, decide_eq_false_iff_not]
    by_cases a1 : (c.1.length : Int) < 1
    · rw [if_pos a1]; rfl
    by_cases a2 : (12 : Int) < (c.1.length : Int)
    · rw [if_neg a1, if_pos a2]; rfl
    · rw [if_neg a1, if_neg a2, if_pos (by omega)]; rfl

/-! ### The reference's -/
theorem rcheck_step (K : Nat) (c : Cou) (t : Nat) (h12 : c.1.length ≤ 12) (hl : c.2.1.length = c.1.length) (ht : t < c.1.length) (kn kx) :
    B20l0 K (c.1.length : Int) (t : Int) c kn kx = if okH c t then kn (c.1.length : Int) ((t + 1 : Nat) : Int) c else some 1 := by
  have e1 : IntKind.wrap .i64 ((t : Int) + 1) = ((t + 1 : Nat) : Int) := by rw [wi64 (by omega) (by omega)]; omega
  unfold B20l0
  have i1 : inR (t : Int) ((c.1.length : Nat) : Int) = true := inT (by omega) (by omega)
  have i2 : inR (t : Int) ((c.2.1.length : Nat) : Int) = true := inT (by omega) (by omega)
  rw [ltT (by omega : (t : Int) < (c.1.length : Int)), if_pos rfl, i1, if_pos rfl, i2]
  have e11 : ∀ x : Int, ltI 11 x = leI 12 x := fun x => by rw [ltI_eq, leI_eq]; exact decide_eq_decide.2 (by omega)
  simp only [if_true, nthD_int, nthD_str, Int.toNat_natCast, e1, e11]
  by_cases h0 : t = 0
  · subst h0
    rw [show ltI (0 : Int) ((0 : Nat) : Int) = false from ltF (by omega)]
    simp only [ltI_eq, leI_eq, decide_eq_true_eq, Bool.false_eq_true, if_false]
    exact okH_zero
  · rw [show ltI (0 : Int) (t : Int) = true from ltT (by omega)]
    have e2 : IntKind.wrap .i64 ((t : Int) - 1) = ((t - 1 : Nat) : Int) := (pred_nat (by omega)).elim id (by omega)
    rw [e2, show inR ((t - 1 : Nat) : Int) ((c.1.length : Nat) : Int) = true from inT (by omega) (by omega)]
    simp only [ltI_eq, leI_eq, decide_eq_true_eq, if_true, Int.toNat_natCast]
    exact okH_succ h0

theorem rcheck_go (K : Nat) (c : Cou) (h12 : c.1.length ≤ 12) (hl : c.2.1.length = c.1.length) (kx) : ∀ (r t n : Nat), t + r = c.1.length → r < n →
    F20l0 K n (c.1.length : Int) (t : Int) c kx = if okFrom c t r = true then kx else some 1
  | 0, t, n, h, hn => by
    obtain ⟨n, rfl⟩ : ∃ m, n = m + 1 := ⟨n - 1, by omega⟩
    rw [F20l0, B20l0, ltF (by omega), if_neg (by decide)]
    rfl
  | r + 1, t, n, h, hn => by
    obtain ⟨n, rfl⟩ : ∃ m, n = m + 1 := ⟨n - 1, by omega⟩
    rw [F20l0, rcheck_step K c t h12 hl (by omega), okFrom_succ]
    by_cases hc : okH c t
    · rw [if_pos hc, rcheck_go K c h12 hl kx r (t + 1) n (by omega) (by omega), decide_eq_true hc, Bool.true_and]
    · rw [if_neg hc, decide_eq_false hc, Bool.false_and, if_neg (by decide)]

theorem check_ref (K : Nat) (hK : 20 ≤ K) (c : Cou) (hn : c.1.length ≤ 100000) : F20 K c = some (chk c) := by
  unfold F20 chk okC
  simp only [ltI_eq, leI_eq, eqI_eq, Bool.not_eq_true', decide_eq_true_eq, decide_eq_false_iff_not]
  by_cases a1 : (c.1.length : Int) < 1
  · rw [if_pos a1, decide_eq_false (show ¬ okB c from fun hb => by have := hb.1; omega)]; rfl
  by_cases a2 : (12 : Int) < (c.1.length : Int)
  · rw [if_neg a1, if_pos a2, decide_eq_false (show ¬ okB c from fun hb => by have := hb.2.1; omega)]; rfl
  by_cases a3 : ¬ ((c.2.1.length : Int) = (c.1.length : Int))
  · rw [if_neg a1, if_neg a2, if_pos a3, decide_eq_false (show ¬ okB c from fun hb => by have := hb.2.2.1; omega)]; rfl
  rw [if_neg a1, if_neg a2, if_neg a3]
  by_cases a4 : c.2.2.1 < 1
  · rw [if_pos a4, decide_eq_false (show ¬ okB c from fun hb => by have := hb.2.2.2.1; omega)]; rfl
  by_cases a5 : (c.1.length : Int) < c.2.2.1
  · rw [if_neg a4, if_pos a5, decide_eq_false (show ¬ okB c from fun hb => by have := hb.2.2.2.2.1; omega)]; rfl
  rw [if_neg a4, if_neg a5, wi64 (by omega) (by omega)]
  by_cases a6 : 2 * c.2.2.1 ≤ (c.1.length : Int)
  · rw [if_pos a6, decide_eq_false (show ¬ okB c from fun hb => by have := hb.2.2.2.1; omega)]; rfl
  by_cases a7 : c.2.2.2 < 1
  · rw [if_neg a6, if_pos a7, decide_eq_false (show ¬ okB c from fun hb => by have := hb.2.2.2.2.2.1; omega)]; rfl
  by_cases a8 : 1000000 < c.2.2.2
  · rw [if_neg a6, if_neg a7, if_pos a8, decide_eq_false (show ¬ okB c from fun hb => by have := hb.2.2.2.2.2.2; omega)]; rfl
  rw [if_neg a6, if_neg a7, if_neg a8]
  have hg := rcheck_go K c (by omega) (by omega) (some 0) c.1.length 0 K (by omega) (by omega)
  refine hg.trans ?_
  rw [decide_eq_true (show okB c from ⟨by omega, by omega, by omega, by omega, by omega, by omega, by omega⟩), Bool.true_and]
  cases okFrom c 0 c.1.length <;> rfl

/-! ### The seat of a house -/
def seatFrom (l : List Int) (h : Int) : Nat → Nat → Int
  | 0, _ => -1
  | r + 1, t => if l.getD t 0 = h then (t : Int) else seatFrom l h r (t + 1)
def seat (l : List Int) (h : Int) : Int := seatFrom l h l.length 0

theorem seat_go (K : Nat) (c : Cou) (h : Int) (hl : c.1.length ≤ 100000) : ∀ (r t n : Nat), t + r = c.1.length → r < n →
    F31l0 K n h (t : Int) c (some (-1)) = some (seatFrom c.1 h r t)
  | 0, t, n, hh, hn => by
    obtain ⟨n, rfl⟩ : ∃ m, n = m + 1 := ⟨n - 1, by omega⟩
    rw [F31l0, B31l0, ltF (by omega), if_neg (by decide)]
    rfl
  | r + 1, t, n, hh, hn => by
    obtain ⟨n, rfl⟩ : ∃ m, n = m + 1 := ⟨n - 1, by omega⟩
    have e1 : IntKind.wrap .i64 ((t : Int) + 1) = ((t + 1 : Nat) : Int) := by rw [wi64 (by omega) (by omega)]; omega
    rw [F31l0, B31l0, ltT (by omega), if_pos rfl, inT (by omega) (by omega), if_pos rfl, nthD_int, Int.toNat_natCast, eqI_eq, e1, seatFrom]
    by_cases a : c.1.getD t 0 = h
    · rw [decide_eq_true a, if_pos rfl, if_pos a]
    · rw [decide_eq_false a, if_neg (by decide), if_neg a]
      exact seat_go K c h hl r (t + 1) n (by omega) (by omega)
theorem seat_ref (K : Nat) (c : Cou) (h : Int) (hl : c.1.length ≤ 100000) (hK : c.1.length < K) : F31 K c h = some (seat c.1 h) := by
  unfold F31
  exact seat_go K c h hl c.1.length 0 K (by omega) (by omega)

theorem index_go (K : Nat) (l : List Int) (h : Int) (hl : l.length ≤ 100000) : ∀ (r t n : Nat), t + r = l.length → r < n →
    F49l0 K n l h (l.length : Int) (t : Int) (some (-1)) = some (seatFrom l h r t)
  | 0, t, n, hh, hn => by
    obtain ⟨n, rfl⟩ : ∃ m, n = m + 1 := ⟨n - 1, by omega⟩
    rw [F49l0, B49l0, ltF (by omega), if_neg (by decide)]
    rfl
  | r + 1, t, n, hh, hn => by
    obtain ⟨n, rfl⟩ : ∃ m, n = m + 1 := ⟨n - 1, by omega⟩
    have e1 : IntKind.wrap .i64 ((t : Int) + 1) = ((t + 1 : Nat) : Int) := by rw [wi64 (by omega) (by omega)]; omega
    rw [F49l0, B49l0, ltT (by omega), if_pos rfl, inT (by omega) (by omega), if_pos rfl, nthD_int, Int.toNat_natCast, eqI_eq, e1, seatFrom]
    by_cases a : l.getD t 0 = h
    · rw [decide_eq_true a.symm, if_pos rfl, if_pos a]
    · rw [decide_eq_false (fun e => a e.symm), if_neg (by decide), if_neg a]
      exact index_go K l h hl r (t + 1) n (by omega) (by omega)
theorem index_ok (K : Nat) (l : List Int) (h : Int) (hl : l.length ≤ 100000) (hK : l.length < K) : F49 K l h = some (seat l h) := by
  unfold F49
  exact index_go K l h hl l.length 0 K (by omega) (by omega)
theorem contains_ok (K : Nat) (l : List Int) (h : Int) (hl : l.length ≤ 100000) (hK : l.length < K) : F34 K l h = some (decide (0 ≤ seat l h)) := by
  unfold F34
  rw [index_ok K l h hl hK, Option.bind_some, leI_eq]

/-! ### Texts -/
def txt (n : Int) : ByteArray := mkStr (encInt n)
theorem txt_size (n : Int) : (txt n).size ≤ 11 := by rw [txt, mkStr_size]; exact encInt_len n

theorem texts_go (K : Nat) (hK : 12 ≤ K) (l : List Int) (hl : l.length ≤ 100000) (hi : ∀ n ∈ l, I64 n) : ∀ (r t n : Nat), t + r = l.length → r < n →
    F45l0 K n ((l.take t).map txt) l (l.length : Int) (t : Int) (fun y => some y) = some (l.map txt)
  | 0, t, n, hh, hn => by
    obtain ⟨n, rfl⟩ : ∃ m, n = m + 1 := ⟨n - 1, by omega⟩
    rw [F45l0, B45l0, ltF (by omega), if_neg (by decide), List.take_of_length_le (by omega)]
  | r + 1, t, n, hh, hn => by
    obtain ⟨n, rfl⟩ : ∃ m, n = m + 1 := ⟨n - 1, by omega⟩
    have e1 : IntKind.wrap .i64 ((t : Int) + 1) = ((t + 1 : Nat) : Int) := by rw [wi64 (by omega) (by omega)]; omega
    rw [F45l0, B45l0, ltT (by omega), if_pos rfl, inT (by omega) (by omega), if_pos rfl, nthD_int, Int.toNat_natCast, int_own K hK _ (hi _ (getD_mem (by omega))), Option.bind_some, e1,
      roomT (by simp; omega), if_pos rfl]
    have := texts_go K hK l hl hi r (t + 1) n (by omega) (by omega)
    rw [getD_take (d := 0) (by omega), List.map_append] at this
    exact this
theorem texts_own (K : Nat) (l : List Int) (hl : l.length ≤ 100000) (hK : l.length + 12 ≤ K) (hi : ∀ n ∈ l, I64 n) : F45 K l = some (l.map txt) := by
  unfold F45
  exact texts_go K (by omega) l hl hi l.length 0 K (by omega) (by omega)

theorem rtexts_go (K : Nat) (hK : 12 ≤ K) (l : List Int) (hl : l.length ≤ 100000) (hi : ∀ n ∈ l, I64 n) : ∀ (r t n : Nat), t + r = l.length → r < n →
    F37l0 K n l ((l.take t).map txt) (t : Int) (fun y => some y) = some (l.map txt)
  | 0, t, n, hh, hn => by
    obtain ⟨n, rfl⟩ : ∃ m, n = m + 1 := ⟨n - 1, by omega⟩
    rw [F37l0, B37l0, ltF (by omega), if_neg (by decide), List.take_of_length_le (by omega)]
  | r + 1, t, n, hh, hn => by
    obtain ⟨n, rfl⟩ : ∃ m, n = m + 1 := ⟨n - 1, by omega⟩
    have e1 : IntKind.wrap .i64 ((t : Int) + 1) = ((t + 1 : Nat) : Int) := by rw [wi64 (by omega) (by omega)]; omega
    rw [F37l0, B37l0, ltT (by omega), if_pos rfl, inT (by omega) (by omega), if_pos rfl, nthD_int, Int.toNat_natCast, int_ref K hK _ (hi _ (getD_mem (by omega))), Option.bind_some, e1,
      roomT (by simp; omega), if_pos rfl]
    have := rtexts_go K hK l hl hi r (t + 1) n (by omega) (by omega)
    rw [getD_take (d := 0) (by omega), List.map_append] at this
    exact this
theorem texts_ref (K : Nat) (l : List Int) (hl : l.length ≤ 100000) (hK : l.length + 12 ≤ K) (hi : ∀ n ∈ l, I64 n) : F37 K l = some (l.map txt) := by
  unfold F37
  exact rtexts_go K (by omega) l hl hi l.length 0 K (by omega) (by omega)

end Go.Proofs.YtkgampbboffhmaaDoor
