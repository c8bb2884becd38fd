/- The compression function: the reference's words, both rounds. -/
import Derived.Test.YtcjjagkcdepgdaaDoorH1
set_option linter.unusedVariables false
set_option linter.unusedSimpArgs false
set_option maxRecDepth 100000
namespace Go.Proofs.YtcjjagkcdepgdaaDoor
open Go Go.Q

theorem words_lo (K : Nat) (b : List Int) (hb : b.length = 64) (hB : Byt b) (b2 : List Int) (kx) : ∀ (r t n : Nat) (w : List Int), t + r = 16 → r < n → w.length = 64 →
    F60l0 K n b (t : Int) b2 w kx = kx b2 (schedGo b r t w)
  | 0, t, n, w, h, hn, hw => by
    obtain ⟨n, rfl⟩ : ∃ m, n = m + 1 := ⟨n - 1, by omega⟩
    simp (disch := omega) only [F60l0, B60l0, ltF, ↓reduceIte, Bool.false_eq_true, schedGo]
  | r + 1, t, n, w, h, hn, hw => by
    obtain ⟨n, rfl⟩ : ∃ m, n = m + 1 := ⟨n - 1, by omega⟩
    have ih := words_lo K b hb hB b2 kx r (t + 1) n (w.set t (if t < 16 then word b t else ent w t)) (by omega) (by omega) (by rw [List.length_set]; exact hw)
    rw [schedGo, ← ih, if_pos (by omega)]
    have := word_ref (hB.getD (4 * t)) (hB.getD (4 * t + 1)) (hB.getD (4 * t + 2)) (hB.getD (4 * t + 3))
    rw [word, ← this]
    simp (disch := omega) only [F60l0, B60l0, ltT, inT, wi64, ↓reduceIte, eq_self, nthD_int, Int.toNat_natCast,
      show (4 * (t : Int)).toNat = 4 * t by omega, show (4 * (t : Int) + 1).toNat = 4 * t + 1 by omega, show (4 * (t : Int) + 2).toNat = 4 * t + 2 by omega, show (4 * (t : Int) + 3).toNat = 4 * t + 3 by omega]
    rfl

theorem words_hi (K : Nat) (b : List Int) (b2 : List Int) (kx) : ∀ (r t n : Nat) (w : List Int), 16 ≤ t → t + r = 64 → r < n → w.length = 64 →
    F60l2 K n (t : Int) b2 w kx = kx b2 (schedGo b r t w)
  | 0, t, n, w, h16, h, hn, hw => by
    obtain ⟨n, rfl⟩ : ∃ m, n = m + 1 := ⟨n - 1, by omega⟩
    simp (disch := omega) only [F60l2, B60l2, ltF, ↓reduceIte, Bool.false_eq_true, schedGo]
  | r + 1, t, n, w, h16, h, hn, hw => by
    obtain ⟨n, rfl⟩ : ∃ m, n = m + 1 := ⟨n - 1, by omega⟩
    have ih := words_hi K b b2 kx r (t + 1) n (w.set t (if t < 16 then word b t else ent w t)) (by omega) (by omega) (by omega) (by rw [List.length_set]; exact hw)
    rw [schedGo, ← ih, if_neg (by omega)]
    simp (disch := omega) only [F60l2, B60l2, ltT, ltF, inT, wi64, ↓reduceIte, eq_self, Bool.false_eq_true, rotr_7, rotr_17, rotr_18, rotr_19, Option.bind_some, nthD_int, Int.toNat_natCast,
        show ((t : Int) - 15).toNat = t - 15 by omega, show ((t : Int) - 2).toNat = t - 2 by omega, show ((t : Int) - 16).toNat = t - 16 by omega, show ((t : Int) - 7).toNat = t - 7 by omega]
    rfl

theorem schedGo_add (b : List Int) : ∀ (r k t : Nat) (w : List Int), schedGo b (r + k) t w = schedGo b k (t + r) (schedGo b r t w)
  | 0, k, t, w => by simp [schedGo]
  | r + 1, k, t, w => by rw [show r + 1 + k = (r + k) + 1 by omega, schedGo, schedGo_add b r k, schedGo, show t + 1 + r = t + (r + 1) by omega]

theorem words_ok (K : Nat) (hK : 65 ≤ K) (b : List Int) (hb : b.length = 64) (hB : Byt b) : F60 K b = some (sched b) := by
  unfold F60
  refine (words_lo K b hb hB _ _ 16 0 K _ rfl (by omega) (by simp)).trans ?_
  refine (words_hi K b _ _ 48 16 K _ (by omega) rfl (by omega) (by rw [schedGo_len]; simp)).trans ?_
  rw [sched, schedGo_add b 16 48 0]

/-! ### The program's rounds -/
theorem compress_go (K : Nat) (b2 b4 w : List Int) (kx) : ∀ (r t n : Nat) (a b c d e f g h : Int), t + r = 64 → r < n →
    F54l0 K n shaK (t : Int) b2 b4 w [a, b, c, d] [e, f, g, h] kx = kx b2 b4 ((rnd w r t a b c d e f g h).take 4) ((rnd w r t a b c d e f g h).drop 4)
  | 0, t, n, a, b, c, d, e, f, g, h, ht, hn => by
    obtain ⟨n, rfl⟩ : ∃ m, n = m + 1 := ⟨n - 1, by omega⟩
    simp (disch := omega) only [F54l0, B54l0, ltF, ↓reduceIte, Bool.false_eq_true, rnd]
    rfl
  | r + 1, t, n, a, b, c, d, e, f, g, h, ht, hn => by
    obtain ⟨n, rfl⟩ : ∃ m, n = m + 1 := ⟨n - 1, by omega⟩
    simp (disch := omega) only [F54l0, B54l0, ltT, inT, wi64, ↓reduceIte, eq_self, Bool.false_eq_true, umax, mix_1, mix_0, Option.bind_some, nthD_int, Int.toNat_natCast, Int.toNat_zero, Int.reduceToNat, List.getD_cons_zero, List.getD_cons_succ, List.replicate_zero]
    exact compress_go K b2 b4 w kx r (t + 1) n _ _ _ _ _ _ _ _ (by omega) (by omega)

theorem compress_add (K n : Nat) (hn : 5 ≤ n) (b4 : List Int) (s0 s1 s2 s3 s4 s5 s6 s7 a b c d e f g h : Int) (kx) :
    F54l2 K n 0 [s0, s1, s2, s3, s4, s5, s6, s7] b4 [a, b, c, d] [e, f, g, h] kx = kx [u32 (s0 + a), u32 (s1 + b), u32 (s2 + c), u32 (s3 + d), u32 (s4 + e), u32 (s5 + f), u32 (s6 + g), u32 (s7 + h)] b4 := by
  obtain ⟨n, rfl⟩ : ∃ m, n = m + 5 := ⟨n - 5, by omega⟩
  simp (disch := omega) only [F54l2, B54l2, ltT, ltF, inT, wi64, ↓reduceIte, eq_self, Bool.false_eq_true, nthD_int, Int.reduceAdd, Int.toNat_zero, Int.toNat_one, Int.reduceToNat, List.getD_cons_zero, List.getD_cons_succ, List.set_cons_zero, List.set_cons_succ]
  rfl

theorem eight {s : List Int} (h : s.length = 8) : ∃ a b c d e f g i, s = [a, b, c, d, e, f, g, i] := by
  match s, h with
  | [a, b, c, d, e, f, g, i], _ => exact ⟨a, b, c, d, e, f, g, i, rfl⟩

theorem compress_ok (K : Nat) (hK : 65 ≤ K) (s b : List Int) (hs : s.length = 8) (hb : b.length = 64) (hB : Byt b) : F54 K s b = some (comp s b) := by
  obtain ⟨s0, s1, s2, s3, s4, s5, s6, s7, rfl⟩ := eight hs
  unfold F54
  rw [schedule_ok K hK b hb hB, Option.bind_some]
  refine (compress_go K _ _ _ _ 64 0 K s0 s1 s2 s3 s4 s5 s6 s7 rfl (by omega)).trans ?_
  unfold comp
  simp only [List.getD_cons_zero, List.getD_cons_succ]
  obtain ⟨a, b', c, d, e, f, g, h, hr⟩ := eight (rnd_len (sched b) 64 0 s0 s1 s2 s3 s4 s5 s6 s7)
  rw [hr]
  exact compress_add K K (by omega) _ s0 s1 s2 s3 s4 s5 s6 s7 a b' c d e f g h _

/-! ### The reference's rounds -/
theorem ref_go (K : Nat) (t4 : List Int) (t5 : Int) (b2 b3 w : List Int) (kx) : ∀ (r t n : Nat) (a b c d e f g h : Int), t + r = 64 → r < n →
    F55l2 K n t4 t5 (t : Int) b2 b3 w [a, b, c, d, e, f, g, h] kx = kx t4 t5 b2 b3 (rnd w r t a b c d e f g h)
  | 0, t, n, a, b, c, d, e, f, g, h, ht, hn => by
    obtain ⟨n, rfl⟩ : ∃ m, n = m + 1 := ⟨n - 1, by omega⟩
    simp (disch := omega) only [F55l2, B55l2, ltF, ↓reduceIte, Bool.false_eq_true, rnd]
  | r + 1, t, n, a, b, c, d, e, f, g, h, ht, hn => by
    obtain ⟨n, rfl⟩ : ∃ m, n = m + 1 := ⟨n - 1, by omega⟩
    simp (disch := omega) only [F55l2, B55l2, ltT, inT, wi64, ↓reduceIte, eq_self, Bool.false_eq_true, rotr_6, rotr_11, rotr_25, rotr_2, rotr_13, rotr_22, bitXor_comm .u32 e 4294967295, Option.bind_some, nthD_int, Int.toNat_natCast, Int.toNat_zero, Int.reduceToNat, List.getD_cons_zero, List.getD_cons_succ, List.replicate_zero]
    exact ref_go K t4 t5 b2 b3 w kx r (t + 1) n _ _ _ _ _ _ _ _ (by omega) (by omega)

theorem ref_add (K n : Nat) (hn : 9 ≤ n) (t4 : List Int) (t5 : Int) (b2 : List Int) (s0 s1 s2 s3 s4 s5 s6 s7 a b c d e f g h : Int) (kx) :
    F55l4 K n t4 t5 0 b2 [s0, s1, s2, s3, s4, s5, s6, s7] [a, b, c, d, e, f, g, h] kx = kx t4 t5 b2 [u32 (s0 + a), u32 (s1 + b), u32 (s2 + c), u32 (s3 + d), u32 (s4 + e), u32 (s5 + f), u32 (s6 + g), u32 (s7 + h)] := by
  obtain ⟨n, rfl⟩ : ∃ m, n = m + 9 := ⟨n - 9, by omega⟩
  simp (disch := omega) only [F55l4, B55l4, ltT, ltF, inT, wi64, ↓reduceIte, eq_self, Bool.false_eq_true, nthD_int, Int.reduceAdd, Int.toNat_zero, Int.toNat_one, Int.reduceToNat, List.getD_cons_zero, List.getD_cons_succ, List.set_cons_zero, List.set_cons_succ]
  rfl

theorem out_go (K : Nat) (b2 s : List Int) (hs : s.length = 8) (kx) : ∀ (r t n : Nat), t + r = 32 → r < n →
    F55l6 K n (t : Int) b2 s ((List.range t).map (outI s) ++ List.replicate (32 - t) 0) kx = kx b2 (outL s)
  | 0, t, n, h, hn => by
    obtain ⟨n, rfl⟩ : ∃ m, n = m + 1 := ⟨n - 1, by omega⟩
    obtain rfl : t = 32 := by omega
    simp (disch := omega) only [F55l6, B55l6, ltF, ↓reduceIte, Bool.false_eq_true]
    rw [fill_end]; rfl
  | r + 1, t, n, h, hn => by
    obtain ⟨n, rfl⟩ : ∃ m, n = m + 1 := ⟨n - 1, by omega⟩
    have e1 : (t : Int).tdiv 4 = ((t / 4 : Nat) : Int) := by rw [Int.tdiv_eq_ediv_of_nonneg (by omega)]; omega
    have e2 : (t : Int).tmod 4 = ((t % 4 : Nat) : Int) := by rw [Int.tmod_eq_emod_of_nonneg (by omega)]; omega
    have ih := out_go K b2 s hs kx r (t + 1) n (by omega) (by omega)
    rw [← fill_step _ _ _ (by omega)] at ih
    simp (disch := omega) only [F55l6, B55l6, e1, e2, ltT, ltF, inT, wi64, ↓reduceIte, eq_self, Bool.false_eq_true, nthD_int, Int.toNat_natCast]
    exact ih
end Go.Proofs.YtcjjagkcdepgdaaDoor
