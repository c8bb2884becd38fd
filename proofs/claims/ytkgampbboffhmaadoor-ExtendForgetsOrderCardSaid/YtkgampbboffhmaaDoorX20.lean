/- The law of the chains, and one that is left out. -/
import Derived.Test.YtkgampbboffhmaaDoorX19
set_option linter.unusedVariables false
set_option linter.unusedSimpArgs false
set_option maxRecDepth 100000
namespace Go.Proofs.YtkgampbboffhmaaDoor
open Go Go.Q

theorem prefixes_go (K : Nat) (hK : 200000 ≤ K) (c : Cou) (hc : okC c = true) (sk : Int) (bf : List Int) (ps : Src) (N : Nat) (hN : N ≤ 5) (hg : ∀ k, k < N → GoodS c (ps k)) (hm : ∀ k, 0 < k → k < N → (ps (k - 1)).1.2.2.1 = (ps k).1.2.1) (kx) : ∀ (r t n : Nat), t + r = N + 1 → r < n →
    F7l4 K n sk (chn ps N) (t : Int) c bf kx = kx sk (chn ps N) c bf
  | 0, t, n, hh, hn => by
    obtain ⟨n, rfl⟩ : ∃ m, n = m + 1 := ⟨n - 1, by omega⟩
    have e := chn_len ps N
    rw [F7l4, B7l4, leF (by omega), if_neg (by decide)]
  | r + 1, t, n, hh, hn => by
    obtain ⟨n, rfl⟩ : ∃ m, n = m + 1 := ⟨n - 1, by omega⟩
    have e1 : IntKind.wrap .i64 ((t : Int) + 1) = ((t + 1 : Nat) : Int) := by rw [wi64 (by omega) (by omega)]; omega
    have h12 := (okC_b hc).2.1
    have e := chn_len ps N
    have ec : cut (chn ps N) 0 (t : Int) = chn ps t := by
      rw [cut, Int.sub_zero, Int.toNat_natCast, Int.toNat_zero, List.drop_zero, chn_take ps (by omega)]
    have hg' : ∀ k, k < t → GoodS c (ps k) := fun k hk => hg k (by omega)
    rw [F7l4, B7l4, leT (by omega), if_pos rfl, inBT (by omega) (by omega) (by omega), if_pos rfl, ec]
    refine bindS ((Verify_own K hK c (by omega) (chn ps t) (by rw [chn_len]; omega) (chn_ext hg')).trans (congrArg some (verP_chn hc hg' (fun k h1 h2 => hm k h1 (by omega))))) ?_
    rw [if_neg (by simp [eqI_eq]), if_neg (by show ¬ (!(eqI (0 : Int) 0)) = true; decide), e1]
    exact prefixes_go K hK c hc sk bf ps N hN hg hm kx r (t + 1) n (by omega) (by omega)

def gp (ps : Src) (a : Nat) : Src := fun k => if a = 0 then ps k else if k < a then ps k else ps (k + 1)
def gn (a t : Nat) : Nat := if a = 0 then t else if t ≤ a then t else t - 1
theorem gn_le (a t : Nat) : gn a t ≤ t := by unfold gn; split; · exact Nat.le_refl _
                                             · split <;> omega

theorem gap_go (K : Nat) (hK : 200000 ≤ K) (c : Cou) (ps : Src) (N : Nat) (hN : N ≤ 5) (hg : ∀ k, k < N → GoodS c (ps k)) (a : Nat) (kx) : ∀ (r t n : Nat), t + r = N → r < n →
    F7l6 K n (chn ps N) (a : Int) (chn (gp ps a) (gn a t)) (t : Int) c (dg (gp ps a) (gn a t)) kx = kx (chn ps N) (a : Int) (chn (gp ps a) (gn a N)) c
  | 0, t, n, hh, hn => by
    obtain ⟨n, rfl⟩ : ∃ m, n = m + 1 := ⟨n - 1, by omega⟩
    have e := chn_len ps N
    obtain rfl : t = N := by omega
    rw [F7l6, B7l6, ltF (by omega), if_neg (by decide)]
  | r + 1, t, n, hh, hn => by
    obtain ⟨n, rfl⟩ : ∃ m, n = m + 1 := ⟨n - 1, by omega⟩
    have e1 : IntKind.wrap .i64 ((t : Int) + 1) = ((t + 1 : Nat) : Int) := by rw [wi64 (by omega) (by omega)]; omega
    have e := chn_len ps N
    have ih := gap_go K hK c ps N hN hg a kx r (t + 1) n (by omega) (by omega)
    have hgn := gn_le a t
    have add : gn a (t + 1) = gn a t + 1 → gp ps a (gn a t) = ps t → ((F25 K (dg (gp ps a) (gn a t)) ((chn ps N).getD t e0).1 ((chn ps N).getD t e0).2.1).bind fun y0 => if room ((chn (gp ps a) (gn a t)).length + [((((chn ps N).getD t e0).1, (((chn ps N).getD t e0).2.1, y0)) : Ext)].length) = true then F7l6 K n (chn ps N) (a : Int) (chn (gp ps a) (gn a t) ++ [(((chn ps N).getD t e0).1, (((chn ps N).getD t e0).2.1, y0))]) ((t + 1 : Nat) : Int) c y0 kx else none) = kx (chn ps N) (a : Int) (chn (gp ps a) (gn a N)) c := fun h1 h2 => by
      have hgt := hg t (by omega)
      rw [chn_getD ps (show t < N by omega)]
      refine bindS (record_own K hK (dg (gp ps a) (gn a t)) (ps t).1 (ps t).2 (dg_len _ _) hgt.1 hgt.2.2.2.2.1 hgt.2.2.2.1 hgt.2.1 hgt.2.2.1) ?_
      rw [roomT (by rw [chn_len]; simp; omega), if_pos rfl]
      rw [h1, chn_snoc] at ih
      refine Eq.trans ?_ ih
      have q : mkE (gp ps a) (gn a t) = ((ps t).1, ((ps t).2, recD (dg (gp ps a) (gn a t)) (ps t).1 (ps t).2)) := by
        rw [mkE, dg, h2]
      have q2 : dg (gp ps a) (gn a t + 1) = recD (dg (gp ps a) (gn a t)) (ps t).1 (ps t).2 := by rw [dg, h2]
      rw [q, q2]
      rfl
    rw [F7l6, B7l6, ltT (by omega), if_pos rfl]
    by_cases h1 : t = a
    · subst h1
      rw [eqT rfl, if_pos rfl]
      by_cases h2 : t = 0
      · subst h2
        rw [ltF (by omega), if_neg (by decide), inT (by omega) (by omega), if_pos rfl, nthD_ext, e1]
        exact add rfl rfl
      · rw [ltT (by omega), if_pos rfl, e1]
        have : gn t (t + 1) = gn t t := by unfold gn; rw [if_neg h2, if_neg h2, if_neg (by omega), if_pos (by omega)]; omega
        rw [this] at ih
        exact ih
    · rw [eqF (by omega), if_neg (by decide), inT (by omega) (by omega), if_pos rfl, nthD_ext, e1]
      refine add ?_ ?_
      · unfold gn
        by_cases h2 : a = 0
        · rw [if_pos h2, if_pos h2]
        · rw [if_neg h2, if_neg h2]
          by_cases h3 : t < a
          · rw [if_pos (by omega), if_pos (by omega)]
          · rw [if_neg (by omega), if_neg (by omega)]; omega
      · unfold gn gp
        by_cases h2 : a = 0
        · rw [if_pos h2, if_pos h2]
        · rw [if_neg h2, if_neg h2]
          by_cases h3 : t < a
          · rw [if_pos (show t ≤ a by omega), if_pos h3]
          · rw [if_neg (show ¬ t ≤ a by omega), if_neg (by omega), Nat.sub_add_cancel (by omega)]

theorem pure_chains (K : Nat) (hK : 200000 ≤ K) (c : Cou) (more : List Int) (sk : Int) (hx : ∀ x ∈ more, 0 ≤ x ∧ x ≤ 65535) (hsk : 0 ≤ sk ∧ sk ≤ 255) : F7 K c more sk = some true := by
  unfold F7
  refine bindS (sanity30 K hK) ?_
  rw [if_neg (by decide)]
  refine bindS (few_c K (by omega) c) ?_
  by_cases hf : fewC c = true
  · rw [hf, if_neg (by decide)]
    have hn := fewC_len hf
    refine bindS (check_own K (by omega) c (by omega)) ?_
    by_cases hc : okC c = true
    · rw [chk_ok hc, nn0, if_neg (by decide)]
      by_cases h5 : more.length ≤ 5
      · rw [ltF (by omega), if_neg (by decide)]
        have e10 : laS c more 0 ≤ 1000000 := by show (10 : Int) ≤ 1000000; decide
        rcases chains_go K hK c hc more h5 hx sk _ more.length 0 K (by omega) (by omega) e10 (fun k hk => by omega) with h | ⟨⟨h1, h2⟩, h3⟩
        · exact h
        · refine h3.trans ?_
          obtain ⟨N, hN⟩ : ∃ N, more.length = N := ⟨_, rfl⟩
          obtain ⟨ps, hps⟩ : ∃ ps, srcS c more = ps := ⟨_, rfl⟩
          have hle : ∀ k, k < N → laS c more (k + 1) ≤ 1000000 := fun k hk => by
            have := laS_mono hc hx (N - (k + 1)) (k + 1)
            rw [Nat.add_sub_cancel' (by omega), ← hN] at this
            omega
          have hg : ∀ k, k < N → GoodS c (ps k) := fun k hk => by
            rw [← hps]; exact src_good hc hx (hle k hk) (h2 k (by omega))
          have hu : ∀ k, (ps k).1.2.2.1 = laS c more (k + 1) := fun k => by rw [← hps]; rfl
          have hl : ∀ k, (ps k).1.2.1 = laS c more k := fun k => by rw [← hps]; rfl
          have hm : ∀ k, 0 < k → k < N → (ps (k - 1)).1.2.2.1 = (ps k).1.2.1 := fun k h1 h2 => by
            rw [hu, hl, Nat.sub_add_cancel (by omega)]
          rw [hN, hps]
          refine (prefixes_go K hK c hc sk (dg ps N) ps N (by omega) hg hm _ (N + 1) 0 K (by omega) (by omega)).trans ?_
          have hcl := chn_len ps N
          by_cases hs : N < 2
          · rw [ltT (by omega), if_pos rfl]
          · have ew : IntKind.wrap .i64 (((chn ps N).length : Int) - 1) = ((N - 1 : Nat) : Int) := by rw [wi64 (by omega) (by omega)]; omega
            have ea : Int.tmod (IntKind.wrap .i64 sk) (IntKind.wrap .i64 (((chn ps N).length : Int) - 1)) = ((sk.toNat % (N - 1) : Nat) : Int) := by
              rw [ew, wi64 (by omega) (by omega), Int.tmod_eq_emod_of_nonneg hsk.1, Int.natCast_emod, Int.toNat_of_nonneg hsk.1]
            have ha : sk.toNat % (N - 1) < N - 1 := Nat.mod_lt _ (by omega)
            rw [ltF (by omega), if_neg (by decide), ea, ew, eqF (by omega), if_neg (by decide)]
            generalize sk.toNat % (N - 1) = a at ha
            have e0' : gn a 0 = 0 := Nat.le_zero.1 (gn_le a 0)
            have hgo := gap_go K hK c ps N (by omega) hg a (fun y11 y12 y13 y14 => (F28 K y14 y13).bind fun y15 => if (eqI y12 0) = true then (if (eqI y15.1 ((y11.length : Nat) : Int)) = true then some (eqI y15.2 0) else some false) else (if (eqI y15.1 y12) = true then some (eqI y15.2 4) else some false)) N 0 K (by omega) (by omega)
            rw [e0'] at hgo
            refine Eq.trans hgo ?_
            have h12 := (okC_b hc).2.1
            have hgg : ∀ k, k < gn a N → GoodS c (gp ps a k) := fun k hk => by
              unfold gn at hk
              unfold gp
              by_cases h0 : a = 0
              · rw [if_pos h0] at hk ⊢; exact hg k hk
              · rw [if_neg h0] at hk ⊢
                rw [if_neg (by omega)] at hk
                split
                · exact hg k (by omega)
                · exact hg (k + 1) (by omega)
            have hgl : (chn (gp ps a) (gn a N)).length ≤ 1000 := by rw [chn_len]; have := gn_le a N; omega
            by_cases h0 : a = 0
            · have eg : gn a N = N := by unfold gn; rw [if_pos h0]
              have ep : gp ps a = ps := by funext k; unfold gp; rw [if_pos h0]
              rw [eg, ep] at hgl ⊢
              refine bindS ((Verify_own K hK c (by omega) _ hgl (chn_ext hg)).trans (congrArg some (verP_chn hc hg hm))) ?_
              rw [eqT (by omega), if_pos rfl, eqT (by rw [hcl]), if_pos rfl]
              rfl
            · have eg : gn a N = N - 1 := by unfold gn; rw [if_neg h0, if_neg (by omega)]
              have ver : verP c (chn (gp ps a) (gn a N)) = ((a : Int), 4) := by
                refine verP_gap hc hgg a (by omega) (by omega) (fun k k1 k2 => ?_) ?_
                · unfold gp
                  rw [if_neg h0, if_neg h0, if_pos (by omega), if_pos (by omega)]
                  exact hm k k1 (by omega)
                · unfold gp
                  rw [if_neg h0, if_neg h0, if_pos (by omega), if_neg (by omega), hu, hl, Nat.sub_add_cancel (by omega)]
                  have := laS_mono hc hx 1 a
                  omega
              refine bindS ((Verify_own K hK c (by omega) _ hgl (chn_ext hgg)).trans (congrArg some ver)) ?_
              rw [eqF (by omega), if_neg (by decide), eqT rfl, if_pos rfl]
              rfl
      · rw [ltT (by omega), if_pos rfl]
    · rw [chk_no hc]; rfl
  · rw [Bool.eq_false_iff.2 hf]; rfl

end Go.Proofs.YtkgampbboffhmaaDoor
