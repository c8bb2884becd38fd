/- The compression function: the program's and the reference's. -/
import Derived.Test.YtcjjagkcdepgdaaDoorRA
import Derived.Test.YtcjjagkcdepgdaaDoorFa
set_option linter.unusedVariables false
set_option linter.unusedSimpArgs false
set_option maxRecDepth 100000
namespace Go.Proofs.YtcjjagkcdepgdaaDoor
open Go Go.Q

theorem umax : IntKind.max .u32 = 4294967295 := by kernel_rfl

theorem rotl_7 (K : Nat) (x : Int) : F62 K x (-7) = some (rr x 25 7) := by kernel_rfl
theorem rotl_18 (K : Nat) (x : Int) : F62 K x (-18) = some (rr x 14 18) := by kernel_rfl
theorem rotl_17 (K : Nat) (x : Int) : F62 K x (-17) = some (rr x 15 17) := by kernel_rfl
theorem rotl_19 (K : Nat) (x : Int) : F62 K x (-19) = some (rr x 13 19) := by kernel_rfl
theorem mix_1 (K : Nat) (x : Int) : F58 K x 6 11 25 = some (bs1 x) := by kernel_rfl
theorem mix_0 (K : Nat) (x : Int) : F58 K x 2 13 22 = some (bs0 x) := by kernel_rfl

theorem rotr_of (K : Nat) (x l r : Int) (h : F61 K x r = some (bitOr .u32 (shrI .u32 x r) (shlI .u32 x l))) : F61 K x r = some (rr x l r) := by
  rw [h, bitOr_comm]; rfl
theorem rotr_7 (K : Nat) (x : Int) : F61 K x 7 = some (rr x 25 7) := rotr_of K x 25 7 (by kernel_rfl)
theorem rotr_18 (K : Nat) (x : Int) : F61 K x 18 = some (rr x 14 18) := rotr_of K x 14 18 (by kernel_rfl)
theorem rotr_17 (K : Nat) (x : Int) : F61 K x 17 = some (rr x 15 17) := rotr_of K x 15 17 (by kernel_rfl)
theorem rotr_19 (K : Nat) (x : Int) : F61 K x 19 = some (rr x 13 19) := rotr_of K x 13 19 (by kernel_rfl)
theorem rotr_6 (K : Nat) (x : Int) : F61 K x 6 = some (rr x 26 6) := rotr_of K x 26 6 (by kernel_rfl)
theorem rotr_11 (K : Nat) (x : Int) : F61 K x 11 = some (rr x 21 11) := rotr_of K x 21 11 (by kernel_rfl)
theorem rotr_25 (K : Nat) (x : Int) : F61 K x 25 = some (rr x 7 25) := rotr_of K x 7 25 (by kernel_rfl)
theorem rotr_2 (K : Nat) (x : Int) : F61 K x 2 = some (rr x 30 2) := rotr_of K x 30 2 (by kernel_rfl)
theorem rotr_13 (K : Nat) (x : Int) : F61 K x 13 = some (rr x 19 13) := rotr_of K x 19 13 (by kernel_rfl)
theorem rotr_22 (K : Nat) (x : Int) : F61 K x 22 = some (rr x 10 22) := rotr_of K x 10 22 (by kernel_rfl)

/-! ### The schedule -/
theorem cut4 {b : List Int} {t : Nat} (h : 4 * t + 4 ≤ b.length) : cut b (4 * (t : Int)) (4 * (t : Int) + 4) = [b.getD (4 * t) 0, b.getD (4 * t + 1) 0, b.getD (4 * t + 2) 0, b.getD (4 * t + 3) 0] := by
  unfold cut
  rw [show (4 * (t : Int) + 4 - 4 * (t : Int)).toNat = 4 by omega, show (4 * (t : Int)).toNat = 4 * t by omega]
  rw [List.drop_eq_getElem_cons (by omega), List.drop_eq_getElem_cons (by omega), List.drop_eq_getElem_cons (by omega), List.drop_eq_getElem_cons (by omega)]
  simp only [List.take_succ_cons, List.take_zero, List.getD_eq_getElem?_getD]
  rw [List.getElem?_eq_getElem (by omega), List.getElem?_eq_getElem (by omega), List.getElem?_eq_getElem (by omega), List.getElem?_eq_getElem (by omega)]
  simp

theorem schedule_in (K n t : Nat) (b : List Int) (t11 : Int) (x0 x1 x2 x3 : Int) (b2 w : List Int) (kx) (hn : 5 ≤ n) (ht : t < 64) (hw : w.length = 64) (hz : w.getD t 0 = 0)
    (h0 : 0 ≤ x0 ∧ x0 < 256) (h1 : 0 ≤ x1 ∧ x1 < 256) (h2 : 0 ≤ x2 ∧ x2 < 256) (h3 : 0 ≤ x3 ∧ x3 < 256) :
    F57l2 K n b (t : Int) t11 [x0, x1, x2, x3] 4 0 b2 w kx = kx b t11 b2 (w.set t (word4 x0 x1 x2 x3)) := by
  obtain ⟨n, rfl⟩ : ∃ m, n = m + 5 := ⟨n - 5, by omega⟩
  have e : ∀ (v : List Int) (x : Int), v.length = 64 → (v.set t x).getD t 0 = x := fun v x hv => by
    rw [List.getD_eq_getElem?_getD, List.getElem?_set_self (by omega)]; rfl
  simp (disch := omega) only [F57l2, B57l2, ltT, ltF, inT, ↓reduceIte, eq_self, Bool.false_eq_true, List.length_cons, List.length_nil, wi64, Int.toNat_natCast, nthD_int, List.set_set, Int.cast_ofNat_Int, Int.reduceAdd, Nat.reduceAdd, Int.zero_add]
  rw [← word_own h0 h1 h2 h3]
  simp only [e _ _ hw, hz]
  rfl

theorem getD_set_ne {w : List Int} {t j : Nat} {x : Int} (h : t ≠ j) : (w.set t x).getD j 0 = w.getD j 0 := by
  rw [List.getD_eq_getElem?_getD, List.getElem?_set_ne h, List.getD_eq_getElem?_getD]

theorem schedule_go (K : Nat) (hK : 5 ≤ K) (b : List Int) (hb : b.length = 64) (hB : Byt b) (b2 : List Int) (kx) : ∀ (r t n : Nat) (w : List Int), t + r = 64 → r < n → w.length = 64 → (∀ j, t ≤ j → w.getD j 0 = 0) →
    F57l0 K n b (t : Int) b2 w kx = kx b2 (schedGo b r t w)
  | 0, t, n, w, h, hn, hw, hz => by
    obtain ⟨n, rfl⟩ : ∃ m, n = m + 1 := ⟨n - 1, by omega⟩
    simp (disch := omega) only [F57l0, B57l0, ltF, ↓reduceIte, Bool.false_eq_true, schedGo]
  | r + 1, t, n, w, h, hn, hw, hz => by
    obtain ⟨n, rfl⟩ : ∃ m, n = m + 1 := ⟨n - 1, by omega⟩
    have ih := schedule_go K hK b hb hB b2 kx r (t + 1) n (w.set t (if t < 16 then word b t else ent w t)) (by omega) (by omega) (by rw [List.length_set]; exact hw) (fun j hj => by rw [getD_set_ne (by omega)]; exact hz j (by omega))
    rw [schedGo, ← ih]
    by_cases ht : t < 16
    · rw [if_pos ht]
      simp (disch := omega) only [F57l0, B57l0, ltT, inBT, wi64, ↓reduceIte, eq_self, cut4, List.length_cons, List.length_nil, Nat.reduceAdd, Int.cast_ofNat_Int]
      rw [schedule_in K K t b _ _ _ _ _ b2 w _ hK (by omega) hw (hz t (Nat.le_refl _)) (hB.getD _) (hB.getD _) (hB.getD _) (hB.getD _)]
      simp (disch := omega) only [wi64]
      rfl
    · rw [if_neg ht]
      simp (disch := omega) only [F57l0, B57l0, ltT, ltF, inT, wi64, ↓reduceIte, eq_self, Bool.false_eq_true, rotl_7, rotl_17, rotl_18, rotl_19, Option.bind_some, nthD_int, Int.toNat_natCast,
        show ((t : Int) - 15).toNat = t - 15 by omega, show ((t : Int) - 2).toNat = t - 2 by omega, show ((t : Int) - 16).toNat = t - 16 by omega, show ((t : Int) - 7).toNat = t - 7 by omega]
      rfl

theorem schedule_ok (K : Nat) (hK : 65 ≤ K) (b : List Int) (hb : b.length = 64) (hB : Byt b) : F57 K b = some (sched b) := by
  unfold F57
  refine (schedule_go K (by omega) b hb hB _ _ 64 0 K _ rfl (by omega) (by simp) (fun j _ => ?_)).trans rfl
  rw [List.getD_eq_getElem?_getD, List.getElem?_replicate]
  split <;> rfl
end Go.Proofs.YtcjjagkcdepgdaaDoor
