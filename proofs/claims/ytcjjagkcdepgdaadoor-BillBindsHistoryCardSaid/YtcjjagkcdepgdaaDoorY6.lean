/- The laws of the bill chapter: writing and reading. -/
import Derived.Test.YtcjjagkcdepgdaaDoorY5
set_option linter.unusedVariables false
set_option linter.unusedSimpArgs false
set_option maxRecDepth 100000
namespace Go.Proofs.YtcjjagkcdepgdaaDoor
open Go Go.Q

theorem postE_len (b : Bk) (p : Pst) : (postE b p).1.2.length ≤ b.2.length + 1 := by
  unfold postE
  split
  · simp
  · split <;> simp
theorem pure_writes (K : Nat) (hK : 200000 ≤ K) (a b : Bk) (p : Pst) (n : Int) : F3 K a b p n = some true := by
  unfold F3
  have hK' : 20000 ≤ K := by omega
  have hs := sanity_ok K hK
  by_cases h1 : 60 < a.2.length
  · rw [if_pos (show ltI 60 (a.2.length : Int) = true from ltT (by omega))]; exact bindS hs rfl
  · rw [if_neg (show ¬ ltI 60 (a.2.length : Int) = true by rw [ltF (by omega)]; decide)]
    by_cases h2 : 60 < b.2.length
    · rw [if_pos (show ltI 60 (b.2.length : Int) = true from ltT (by omega))]; exact bindS hs rfl
    · rw [if_neg (show ¬ ltI 60 (b.2.length : Int) = true by rw [ltF (by omega)]; decide)]
      have hp := postE_len a p
      refine bindS (post_own K hK' a p) (bindS (post_ref K hK' a p) (bindS (Fork_own K hK' a b) (bindS (Fork_ref K hK' a b) (bindS (Digest_own K hK a n) (bindS (Digest_ref K hK a n) (bindS hs ((if_pos rfl).trans ?_)))))))
      refine bindS (chk_own K hK' a) (bindS (chk_ref K hK' a) ((if_pos (eqT rfl)).trans ((if_pos (eqT rfl)).trans ?_)))
      refine bindS ((same_ok K hK' (postE a p).1 (postE a p).1 (by omega)).trans (show _ = some true by rw [decide_eq_true ⟨rfl, rfl⟩])) ((if_pos rfl).trans ((if_pos (eqT rfl)).trans ((if_pos (eqT rfl)).trans ?_)))
      refine (if_pos (show Ty.beq (.arr 16 (.int .u8)) (digE a n).1 (digE a n).1 = true by rw [beq_arr]; exact decide_eq_true rfl)).trans ?_
      rw [eqT rfl]

theorem pure_reads (K : Nat) (hK : 200000 ≤ K) (b : Bk) (at' : List Int) (ht : I64 (nthD (.int .i64) at' 2)) : F4 K b at' = some true := by
  unfold F4
  have hK' : 20000 ≤ K := by omega
  have hs := sanity_ok K hK
  by_cases h1 : 60 < b.2.length
  · rw [if_pos (show ltI 60 (b.2.length : Int) = true from ltT (by omega))]; exact bindS hs rfl
  · rw [if_neg (show ¬ ltI 60 (b.2.length : Int) = true by rw [ltF (by omega)]; decide)]
    generalize nthD (.int .i64) at' 0 = x at *
    generalize nthD (.int .i64) at' 1 = y at *
    generalize nthD (.int .i64) at' 2 = t at *
    generalize nthD (.int .i64) at' 3 = u at *
    have hl : (stE b x t u).1.2.1.length ≤ 10001 := by
      unfold stE
      split
      · simp
      · have := lines_len x t u b.2 0; dsimp only; omega
    have hm : (totE b x t u).1.length ≤ 10001 := by
      unfold totE
      split
      · simp
      · simp [totL]
    refine bindS (Balance_own K hK' b x t ht) (bindS (Balance_ref K hK' b x t) (bindS (Owes_own K hK' b x y t) (bindS (Owes_ref K hK' b x y t) (bindS (Statement_own K hK' b x t u) (bindS (Statement_ref K hK' b x t u) (bindS (Totals_own K hK' b x t u) (bindS (Totals_ref K hK' b x t u) ?_)))))))
    have hn : ∀ z : Int, ¬ (!(eqI z z)) = true := fun z => by rw [eqT rfl]; decide
    refine (if_neg (hn _)).trans ((if_neg (hn _)).trans ((if_neg (hn _)).trans ((if_neg (hn _)).trans ((if_neg (hn _)).trans ((if_neg (hn _)).trans (bindS hs ((if_pos rfl).trans ((if_pos (eqT rfl)).trans ((if_pos (eqT rfl)).trans ?_)))))))))
    refine bindS ((ints_ok K hK' _ _ hl).trans (show _ = some true by rw [decide_eq_true rfl])) ((if_pos rfl).trans ?_)
    exact bindS ((ints_ok K hK' _ _ hm).trans (show _ = some true by rw [decide_eq_true rfl])) rfl

end Go.Proofs.YtcjjagkcdepgdaaDoor
