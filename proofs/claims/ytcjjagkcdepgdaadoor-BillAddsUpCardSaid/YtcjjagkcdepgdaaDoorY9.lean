/- The fifth law of the bill chapter: digests bind what was before. -/
import Derived.Test.YtcjjagkcdepgdaaDoorY8
set_option linter.unusedVariables false
set_option linter.unusedSimpArgs false
set_option maxRecDepth 100000
namespace Go.Proofs.YtcjjagkcdepgdaaDoor
open Go Go.Q

def dgT (b : Bk) (i : Nat) : List Int := digL (dig0 b.1) (b.2.take i)
theorem digE_nat {b : Bk} (h : chkE b = 0) {i : Nat} (hi : i ≤ b.2.length) : digE b (i : Int) = (dgT b i, 0) := by
  rw [digE_ok h (by omega) (by omega), Int.toNat_natCast]; rfl
theorem take_succ (L : List Pst) {i : Nat} (h : i < L.length) : L.take (i + 1) = L.take i ++ [L.getD i pst0] := getD_take h
theorem forkL_spec : ∀ (a b : List Pst) (k : Int), (forkL k a b = (0, 8) ∧ a = b) ∨ ∃ j : Nat, forkL k a b = (k + j, 0) ∧ a.take j = b.take j ∧ j ≤ a.length ∧ j ≤ b.length ∧ (j < a.length → j < b.length → a.getD j pst0 ≠ b.getD j pst0)
  | [], [], k => .inl ⟨rfl, rfl⟩
  | [], q :: b, k => .inr ⟨0, by rw [forkL]; simp, rfl, by simp, by simp, by simp⟩
  | p :: a, [], k => .inr ⟨0, by rw [forkL]; simp, rfl, by simp, by simp, by simp⟩
  | p :: a, q :: b, k => by
    rw [forkL]
    by_cases e : p = q
    · rw [if_pos e]
      rcases forkL_spec a b (k + 1) with ⟨h1, h2⟩ | ⟨j, h1, h2, h3, h4, h5⟩
      · exact .inl ⟨h1, by rw [e, h2]⟩
      · refine .inr ⟨j + 1, ?_, by rw [List.take_succ_cons, List.take_succ_cons, e, h2], by simpa using h3, by simpa using h4, ?_⟩
        · rw [h1, Prod.mk.injEq]; exact ⟨by omega, rfl⟩
        · intro g1 g2
          simpa using h5 (by simpa using g1) (by simpa using g2)
    · rw [if_neg e]
      exact .inr ⟨0, by simp, rfl, by simp, by simp, fun _ _ => by simpa using e⟩

theorem binds_go (K : Nat) (hK : 200000 ≤ K) (a b : Bk) (ha : chkE a = 0) (hb : chkE b = 0) (n j : Nat) (hna : n ≤ a.2.length) (hnb : n ≤ b.2.length) (hj : j < n) (hne : a.2.getD j pst0 ≠ b.2.getD j pst0) (b8 b10) (kx) (hkx : dgT a n ≠ dgT b n → kx b8 b10 = some true) :
    ∀ (r t m : Nat), t + r = n → r < m → (j < t → dgT a t ≠ dgT b t) → F7l0 K m (n : Int) (t : Int) a b b8 b10 kx = some true
  | 0, t, m, ht, hm, hd => by
    obtain ⟨m, rfl⟩ : ∃ i, m = i + 1 := ⟨m - 1, by omega⟩
    obtain rfl : t = n := by omega
    rw [F7l0, B7l0, if_neg (show ¬ ltI (t : Int) (t : Int) = true by rw [ltF (by omega)]; decide)]
    exact hkx (hd hj)
  | r + 1, t, m, ht, hm, hd => by
    obtain ⟨m, rfl⟩ : ∃ i, m = i + 1 := ⟨m - 1, by omega⟩
    have la := chkE_len ha
    have lb := chkE_len hb
    have hs := sanity_ok K hK
    have ih := binds_go K hK a b ha hb n j hna hnb hj hne b8 b10 kx hkx r (t + 1) m (by omega) (by omega)
    have hw : IntKind.wrap .i64 ((t : Int) + 1) = ((t + 1 : Nat) : Int) := wi64 (by omega) (by omega)
    rw [F7l0, B7l0, if_pos (show ltI (t : Int) (n : Int) = true from ltT (by omega)), hw]
    refine bindS ((Digest_own K hK a t).trans (congrArg some (digE_nat ha (by omega)))) (bindS ((Digest_own K hK b t).trans (congrArg some (digE_nat hb (by omega)))) (bindS ((Digest_own K hK a ((t + 1 : Nat) : Int)).trans (congrArg some (digE_nat ha (by omega)))) (bindS ((Digest_own K hK b ((t + 1 : Nat) : Int)).trans (congrArg some (digE_nat hb (by omega)))) ?_)))
    have hz : ¬ (!(eqI 0 0)) = true := by decide
    have hbp : Ty.beq tyPst (nthD tyPst a.2 (t : Int)) (nthD tyPst b.2 (t : Int)) = decide (a.2.getD t pst0 = b.2.getD t pst0) := by
      rw [nthD_pst, nthD_pst, Int.toNat_natCast]; exact beq_pst _ _
    have heq : a.2.getD t pst0 = b.2.getD t pst0 → ¬ (!(Ty.beq tyPst (nthD tyPst a.2 (t : Int)) (nthD tyPst b.2 (t : Int)))) = true := fun e => by rw [hbp, decide_eq_true e]; decide
    have hnq : a.2.getD t pst0 ≠ b.2.getD t pst0 → (!(Ty.beq tyPst (nthD tyPst a.2 (t : Int)) (nthD tyPst b.2 (t : Int)))) = true := fun e => by rw [hbp, decide_eq_false e]; rfl
    refine (if_neg hz).trans ((if_neg hz).trans ((if_neg hz).trans ((if_neg hz).trans ?_)))
    dsimp only
    rw [beq_arr 16 .u8 (dgT a t) (dgT b t), beq_arr 16 .u8 (dgT a (t + 1)) (dgT b (t + 1))]
    by_cases e2 : dgT a (t + 1) = dgT b (t + 1)
    · by_cases e1 : dgT a t = dgT b t
      · rw [if_neg (by simp [e1]), if_pos (show inR (t : Int) (a.2.length : Int) = true from inT (by omega) (by omega)), if_pos (show inR (t : Int) (b.2.length : Int) = true from inT (by omega) (by omega))]
        by_cases e3 : a.2.getD t pst0 = b.2.getD t pst0
        · refine (if_neg (heq e3)).trans ?_
          refine ih fun hjt => ?_
          rcases Nat.lt_or_ge j t with h | h
          · exact absurd e1 (hd h)
          · obtain rfl : j = t := by omega
            exact absurd e3 hne
        · refine (if_pos (hnq e3)).trans ?_
          rw [if_pos (by simp [e2])]
          exact bindS hs rfl
      · rw [if_pos (by simp [e1]), if_pos (by simp [e2])]
        exact bindS hs rfl
    · have ih' := ih fun _ => e2
      by_cases e1 : dgT a t = dgT b t
      · rw [if_neg (by simp [e1]), if_pos (show inR (t : Int) (a.2.length : Int) = true from inT (by omega) (by omega)), if_pos (show inR (t : Int) (b.2.length : Int) = true from inT (by omega) (by omega))]
        by_cases e3 : a.2.getD t pst0 = b.2.getD t pst0
        · exact (if_neg (heq e3)).trans ih'
        · refine (if_pos (hnq e3)).trans ?_
          rw [if_neg (by simp [e2])]; exact ih'
      · rw [if_pos (by simp [e1]), if_neg (by simp [e2])]
        exact ih'

theorem pure_binds (K : Nat) (hK : 200000 ≤ K) (a b : Bk) (nu : Int) (hn : 0 ≤ nu ∧ nu ≤ 255) : F7 K a b nu = some true := by
  unfold F7
  have hK' : 20000 ≤ K := by omega
  have hs := sanity_ok K hK
  by_cases g1 : 60 < a.2.length
  · rw [if_pos (show ltI 60 (a.2.length : Int) = true from ltT (by omega))]; exact bindS hs rfl
  rw [if_neg (show ¬ ltI 60 (a.2.length : Int) = true by rw [ltF (by omega)]; decide)]
  by_cases g2 : 60 < b.2.length
  · rw [if_pos (show ltI 60 (b.2.length : Int) = true from ltT (by omega))]; exact bindS hs rfl
  rw [if_neg (show ¬ ltI 60 (b.2.length : Int) = true by rw [ltF (by omega)]; decide)]
  refine bindS (chk_own K hK' a) ?_
  by_cases ha : chkE a = 0
  rotate_left
  · rw [if_pos (eqN ha)]; exact bindS hs rfl
  rw [if_neg (eqZ ha)]
  refine bindS (chk_own K hK' b) ?_
  by_cases hb : chkE b = 0
  rotate_left
  · rw [if_pos (eqN hb)]; exact bindS hs rfl
  rw [if_neg (eqZ hb)]
  by_cases he : a.1 = b.1
  rotate_left
  · rw [if_pos (show (!(eqI a.1 b.1)) = true by rw [eqF (by omega)]; rfl)]; exact bindS hs rfl
  rw [if_neg (show ¬ (!(eqI a.1 b.1)) = true by rw [eqT he]; decide)]
  obtain ⟨M, hM⟩ : ∃ M : Nat, minI (a.2.length : Int) (b.2.length : Int) = (M : Int) ∧ M ≤ a.2.length ∧ M ≤ b.2.length := by
    unfold minI
    split
    · exact ⟨b.2.length, rfl, by omega, by omega⟩
    · exact ⟨a.2.length, rfl, by omega, by omega⟩
  rw [hM.1, wi64 (show -9223372036854775808 ≤ (M : Int) + 1 by omega) (by omega), wi64 (x := nu) (by omega) (by omega)]
  rw [if_neg (show ¬ eqI ((M : Int) + 1) 0 = true by rw [eqF (by omega)]; decide)]
  obtain ⟨x0, x1⟩ := tmod_in hn.1 (show 0 < (M : Int) + 1 by omega)
  obtain ⟨n, hnn⟩ : ∃ n : Nat, Int.tmod nu ((M : Int) + 1) = (n : Int) := ⟨(Int.tmod nu ((M : Int) + 1)).toNat, by omega⟩
  rw [hnn] at x1 ⊢
  have na : n ≤ a.2.length := by omega
  have nb : n ≤ b.2.length := by omega
  have hz : ¬ (!(eqI 0 0)) = true := by decide
  refine bindS ((Digest_own K hK a n).trans (congrArg some (digE_nat ha na))) (bindS ((Digest_own K hK b n).trans (congrArg some (digE_nat hb nb))) ((if_neg hz).trans ((if_neg hz).trans ?_)))
  refine bindS (Fork_own K hK' a b) ?_
  rw [forkE_ok ha hb he]
  dsimp only
  rcases forkL_spec a.2 b.2 0 with ⟨f1, f2⟩ | ⟨j, f1, f2, f3, f4, f5⟩
  · rw [f1]
    refine (if_pos (show eqI 8 8 = true by decide)).trans (bindS hs ((if_pos rfl).trans ?_))
    have : dgT a n = dgT b n := by unfold dgT; rw [he, f2]
    rw [beq_arr 16 .u8 (dgT a n) (dgT b n), decide_eq_true this]
  · rw [f1, Int.zero_add]
    refine (if_neg (show ¬ eqI 0 8 = true by decide)).trans ((if_pos (show eqI 0 0 = true by decide)).trans ?_)
    by_cases hjn : n ≤ j
    · rw [if_pos (show leI (n : Int) (j : Int) = true from leT (by omega))]
      refine bindS hs ((if_pos rfl).trans ?_)
      have : dgT a n = dgT b n := by
        unfold dgT
        have := congrArg (List.take n) f2
        rw [List.take_take, List.take_take, Nat.min_eq_left hjn] at this
        rw [he, this]
      rw [beq_arr 16 .u8 (dgT a n) (dgT b n), decide_eq_true this]
    · rw [if_neg (show ¬ leI (n : Int) (j : Int) = true by rw [leF (by omega)]; decide)]
      refine (if_neg hz).trans ?_
      rw [if_neg (show ¬ ltI (j : Int) 0 = true by rw [ltF (by omega)]; decide)]
      refine binds_go K hK a b ha hb n j na nb (by omega) (f5 (by omega) (by omega)) _ _ _ (fun hd => ?_) n 0 K (by omega) (by omega) (fun h => by omega)
      refine bindS hs ((if_pos rfl).trans ?_)
      rw [beq_arr 16 .u8 (dgT a n) (dgT b n), decide_eq_false hd]
      rfl

end Go.Proofs.YtcjjagkcdepgdaaDoor
