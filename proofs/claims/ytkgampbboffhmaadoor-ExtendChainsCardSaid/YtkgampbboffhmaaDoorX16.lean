/- The laws of the extend chapter that compare with the reference. -/
import Derived.Test.YtkgampbboffhmaaDoorX15
set_option linter.unusedVariables false
set_option linter.unusedSimpArgs false
set_option maxRecDepth 100000
namespace Go.Proofs.YtkgampbboffhmaaDoor
open Go Go.Q

theorem openP_len (c : Cou) (o la u now : Int) : (openP c o la u now).1.2.2.2.2.length = 0 := by
  unfold openP
  split
  · split
    · rfl
    · split <;> rfl
  · rfl
theorem voteP_len (c : Cou) (m : Plea) (v : Bal) : (voteP c m v).1.2.2.2.2.length ≤ m.2.2.2.2.length + 1 := by
  unfold voteP
  split
  · split
    · split
      · simp
      · simp
    · simp
  · simp

theorem pure_votes (K : Nat) (hK : 200000 ≤ K) (c : Cou) (m : Plea) (v : Bal) (a : List Int) (hm : PleaI m) (hb : BalsI m.2.2.2.2) (hv : BalI v) (ha : ∀ n ∈ a, I64 n) (hl : a.length = 4) : F3 K c m v a = some true := by
  have hi : ∀ i : Nat, i < 4 → I64 (nthD (.int .i64) a (i : Int)) := fun i h => by
    rw [nthD_int, Int.toNat_natCast]; exact ha _ (getD_mem (by omega))
  have hs := sanity30 K hK
  unfold F3
  refine bindS (few_cm K (by omega) c m) ?_
  by_cases hf : (fewC c && decide (m.2.2.2.2.length ≤ 14)) = true
  · rw [hf, if_neg (by decide)]
    rw [Bool.and_eq_true, decide_eq_true_eq] at hf
    have hn := fewC_len hf.1
    have hl2 := hf.2
    obtain ⟨p, hp⟩ : ∃ p, openP c (nthD (.int .i64) a 0) (nthD (.int .i64) a 1) (nthD (.int .i64) a 2) (nthD (.int .i64) a 3) = p := ⟨_, rfl⟩
    obtain ⟨q, hq⟩ : ∃ q, sealP c m v.1 v.2.1 v.2.2.1 = q := ⟨_, rfl⟩
    obtain ⟨r, hr⟩ : ∃ r, voteP c m v = r := ⟨_, rfl⟩
    obtain ⟨s, hd⟩ : ∃ s, decP c m (nthD (.int .i64) a 3) = s := ⟨_, rfl⟩
    have hpl := openP_len c (nthD (.int .i64) a 0) (nthD (.int .i64) a 1) (nthD (.int .i64) a 2) (nthD (.int .i64) a 3)
    have hrl := voteP_len c m v
    rw [hp] at hpl
    rw [hr] at hrl
    refine bindS ((Open_own K hK c (by omega) _ _ _ _).trans (congrArg some hp)) ?_
    refine bindS ((Open_ref K hK c (by omega) _ _ _ _ ⟨hi 0 (by omega), hi 1 (by omega), hi 2 (by omega), hi 3 (by omega)⟩).trans (congrArg some hp)) ?_
    refine bindS ((Seal_own K hK c (by omega) m _ _ _ hm hv.1 hv.2).trans (congrArg some hq)) ?_
    refine bindS ((Seal_ref K hK c (by omega) m _ _ _ hm hv.1 hv.2).trans (congrArg some hq)) ?_
    refine bindS ((Vote_own K hK c (by omega) m v (by omega) hm hb hv).trans (congrArg some hr)) ?_
    refine bindS ((Vote_ref K hK c (by omega) m v (by omega) hm hb hv).trans (congrArg some hr)) ?_
    refine bindS ((Decide_own K hK c (by omega) m _ (by omega) hm hb).trans (congrArg some hd)) ?_
    refine bindS ((Decide_ref K hK c (by omega) m _ (by omega) hm hb).trans (congrArg some hd)) ?_
    refine bindS (count_own K m (by omega) (by omega)) ?_
    refine bindS (check_own K (by omega) c (by omega)) ?_
    refine bindS (check_ref K (by omega) c (by omega)) ?_
    rw [if_neg (by simp [eqI_eq])]
    refine bindS (right_own K hK c (by omega) m (by omega) hm hb) ?_
    refine bindS (right_ref K hK c (by omega) m (by omega) hm hb) ?_
    rw [if_neg (by simp [beq_bool]), if_neg (by simp [eqI_eq])]
    refine bindS ((plea_same K p.1 p.1 (by omega) (by omega)).trans (congrArg some (decide_eq_true rfl))) ?_
    rw [if_neg (by decide), if_neg (by simp [beq_arr]), if_neg (by simp [eqI_eq]), if_neg (by simp [eqI_eq])]
    refine bindS ((plea_same K r.1 r.1 (by omega) (by omega)).trans (congrArg some (decide_eq_true rfl))) ?_
    rw [if_neg (by decide)]
    refine bindS hs ?_
    rw [if_pos rfl, if_pos (eqT rfl), if_pos (eqT rfl)]
    refine bindS (yes_ref K m (by omega) (by omega)) ?_
    rw [if_pos (eqT rfl)]
    have := yesN_le m.2.2.2.2
    show some (eqI (IntKind.wrap .i64 (yesN m.2.2.2.2 + ((m.2.2.2.2.length : Int) - yesN m.2.2.2.2))) _) = _
    rw [wi64 (by omega) (by omega), eqT (by omega)]
  · rw [Bool.eq_false_iff.2 hf, if_pos (by decide)]
    exact bindS hs rfl

def ExtJ (x : Ext) : Prop := PleaI x.1 ∧ BalsI x.1.2.2.2.2 ∧ SealW x.1.2.2.2.2 ∧ I64 x.2.1 ∧ x.2.2.length = 16

theorem records_go (K : Nat) (hK : 200000 ≤ K) (c : Cou) (l : List Ext) (hl : l.length ≤ 6) (hx : ∀ x ∈ l, ExtJ x) (kx) : ∀ (r t n : Nat), t + r = l.length → r < n →
    F4l0 K n l (t : Int) c kx = some true ∨ ((∀ j, t ≤ j → j < l.length → (l.getD j e0).1.2.2.2.2.length ≤ 14) ∧ F4l0 K n l (t : Int) c kx = kx l c)
  | 0, t, n, hh, hn => by
    obtain ⟨n, rfl⟩ : ∃ m, n = m + 1 := ⟨n - 1, by omega⟩
    refine .inr ⟨fun j h1 h2 => by omega, ?_⟩
    rw [F4l0, B4l0, ltF (by omega), if_neg (by decide)]
  | r + 1, t, n, hh, hn => by
    obtain ⟨n, rfl⟩ : ∃ m, n = m + 1 := ⟨n - 1, by omega⟩
    have e1 : IntKind.wrap .i64 ((t : Int) + 1) = ((t + 1 : Nat) : Int) := by rw [wi64 (by omega) (by omega)]; omega
    obtain ⟨x1, x2, x3, x4, x5⟩ := hx _ (getD_mem (d := e0) (show t < l.length by omega))
    have y5 := (hx _ (getD_mem (d := e0) (show 0 < l.length by omega))).2.2.2.2
    have key : F4l0 K (n + 1) l (t : Int) c kx = if (fewC c && decide ((l.getD t e0).1.2.2.2.2.length ≤ 14)) = true then F4l0 K n l ((t + 1 : Nat) : Int) c kx else some true := by
      rw [F4l0, B4l0, ltT (by omega), if_pos rfl, inT (by omega) (by omega), if_pos rfl, nthD_ext, show (0 : Int) = ((0 : Nat) : Int) from rfl, nthD_ext]
      refine bindS (few_cm K (by omega) c (l.getD t e0).1) ?_
      by_cases hf : (fewC c && decide ((l.getD t e0).1.2.2.2.2.length ≤ 14)) = true
      · rw [if_pos hf, hf, if_neg (by decide), inT (by omega) (by omega), if_pos rfl]
        rw [Bool.and_eq_true, decide_eq_true_eq] at hf
        have hl2 := hf.2
        rw [if_pos rfl, if_pos rfl]
        refine bindS (record_own K hK (l.getD 0 e0).2.2 (l.getD t e0).1 (l.getD t e0).2.1 y5 x1 x4 (by omega) x2 x3) ?_
        rw [if_pos rfl, if_pos rfl]
        refine bindS (record_ref K hK (l.getD 0 e0).2.2 (l.getD t e0).1 (l.getD t e0).2.1 y5 x1 x4 (by omega) x2 x3) ?_
        rw [if_neg (by simp [beq_arr]), e1]
      · rw [if_neg hf, Bool.eq_false_iff.2 hf, if_pos (by decide)]
        exact bindS (sanity30 K hK) rfl
    rw [key]
    by_cases hf : (fewC c && decide ((l.getD t e0).1.2.2.2.2.length ≤ 14)) = true
    · rw [if_pos hf]
      rw [Bool.and_eq_true, decide_eq_true_eq] at hf
      rcases records_go K hK c l hl hx kx r (t + 1) n (by omega) (by omega) with h | ⟨h1, h2⟩
      · exact .inl h
      · refine .inr ⟨fun j h3 h4 => ?_, h2⟩
        by_cases hj : j = t
        · subst hj; exact hf.2
        · exact h1 j (by omega) h4
    · rw [if_neg hf]; exact .inl rfl

theorem pure_records (K : Nat) (hK : 200000 ≤ K) (c : Cou) (l : List Ext) (hx : ∀ x ∈ l, ExtJ x) : F4 K c l = some true := by
  have hs := sanity30 K hK
  unfold F4
  by_cases h6 : l.length ≤ 6
  · rw [ltF (by omega), if_neg (by decide)]
    rcases records_go K hK c l h6 hx _ l.length 0 K (by omega) (by omega) with h | ⟨h1, h2⟩
    · exact h
    · refine h2.trans ?_
      refine bindS (few_c K (by omega) c) ?_
      by_cases hf : fewC c = true
      · rw [hf, if_neg (by decide)]
        have hn := fewC_len hf
        have hx' : ∀ x ∈ l, ExtI x := fun x hm => by
          obtain ⟨j, hj, e⟩ := List.getElem_of_mem hm
          obtain ⟨x1, x2, x3, x4, x5⟩ := hx x hm
          have := h1 j (by omega) hj
          rw [List.getD_eq_getElem?_getD, List.getElem?_eq_getElem hj, Option.getD_some, e] at this
          exact ⟨x1, x2, x3, by omega, x4, x5⟩
        refine bindS (Verify_own K hK c (by omega) l (by omega) hx') ?_
        refine bindS (Verify_ref K hK c (by omega) l (by omega) hx') ?_
        refine bindS hs ?_
        rw [if_pos rfl, if_pos (eqT rfl), eqT rfl]
      · rw [Bool.eq_false_iff.2 hf, if_pos (by decide)]
        exact bindS hs rfl
  · rw [ltT (by omega), if_pos rfl]
    exact bindS hs rfl

end Go.Proofs.YtkgampbboffhmaaDoor
