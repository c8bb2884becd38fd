/- The fourth law of the bill chapter: statements that follow one another. -/
import Derived.Test.YtcjjagkcdepgdaaDoorY7
set_option linter.unusedVariables false
set_option linter.unusedSimpArgs false
set_option maxRecDepth 100000
namespace Go.Proofs.YtcjjagkcdepgdaaDoor
open Go Go.Q

/-! ### What lines give -/
def gl (L : List Pst) (n : Int) : List Int → Int
  | [] => 0
  | j :: r => got (L.getD j.toNat pst0) n + gl L n r
theorem gl_app (L : List Pst) (n : Int) : ∀ (r s : List Int), gl L n (r ++ s) = gl L n r + gl L n s
  | [], s => by simp [gl]
  | j :: r, s => by rw [List.cons_append, gl, gl, gl_app L n r s]; omega
theorem gl_lines {a : Int} (L : List Pst) (n fr to : Int) (hf : fr ≤ to) : ∀ {l : List Pst} {last : Int} (k : Nat), L.drop k = l → chkL a last l = 0 → gl L n (linesL n fr to (k : Int) l) = balB n to l - balB n fr l
  | [], _, _, _, _ => rfl
  | p :: l, last, k, h, hc => by
    obtain ⟨g1, g2, g3⟩ := drop_cons pst0 h
    obtain ⟨h1, h2, h3⟩ := chkL_cons hc
    have hk : (k : Int) + 1 = ((k + 1 : Nat) : Int) := by omega
    have ih := gl_lines L n fr to hf (k + 1) g3 h3
    rw [linesL, gl_app, hk, ih, balB, balB]
    have hz : ¬ (p.1 = n ∨ p.2.1 = n) → got p n = 0 := got_none
    by_cases e : fr ≤ p.2.2.2.1 ∧ p.2.2.2.1 < to ∧ (p.1 = n ∨ p.2.1 = n)
    · rw [if_pos e, gl, gl, Int.toNat_natCast, g2, if_pos e.2.1, if_neg (by omega)]
      omega
    · rw [if_neg e, gl]
      by_cases e1 : p.1 = n ∨ p.2.1 = n
      · by_cases e2 : p.2.2.2.1 < fr
        · rw [if_pos (show p.2.2.2.1 < to by omega), if_pos e2]; omega
        · have e3 : ¬ p.2.2.2.1 < to := fun h => e ⟨by omega, h, e1⟩
          rw [if_neg e3, if_neg e2]; omega
      · rw [hz e1]
        have : ∀ c : Prop, [Decidable c] → (if c then (0 : Int) else 0) = 0 := fun c _ => by split <;> rfl
        rw [this, this]; omega
def LineOK (a n : Int) (L : List Pst) (j : Int) : Prop := ∃ i : Nat, j = (i : Int) ∧ i < L.length ∧ OneI a (L.getD i pst0) ∧ got (L.getD i pst0) n ≠ 0
theorem lines_ok {a : Int} (L : List Pst) (n fr to : Int) : ∀ {l : List Pst} {last : Int} (k : Nat), L.drop k = l → chkL a last l = 0 → ∀ j ∈ linesL n fr to (k : Int) l, LineOK a n L j
  | [], _, _, _, _, j, hj => by cases hj
  | p :: l, last, k, h, hc, j, hj => by
    obtain ⟨g1, g2, g3⟩ := drop_cons pst0 h
    obtain ⟨h1, h2, h3⟩ := chkL_cons hc
    have hk : (k : Int) + 1 = ((k + 1 : Nat) : Int) := by omega
    rw [linesL, hk, List.mem_append] at hj
    rcases hj with hj | hj
    · split at hj
      · rename_i e
        simp only [List.mem_singleton] at hj
        subst hj
        refine ⟨k, rfl, g1, by rw [g2]; exact h1, ?_⟩
        rw [g2]
        obtain ⟨_, _, hne, h4, _⟩ := h1
        unfold got
        rcases e.2.2 with e1 | e1
        · rw [if_pos e1, if_neg (fun e2 => hne (e1.trans e2.symm))]; omega
        · rw [if_neg (fun e2 => hne (e2.trans e1.symm)), if_pos e1]; omega
      · cases hj
    · exact lines_ok L n fr to (k + 1) g3 h3 j hj
theorem lines_join {a : Int} (n t0 t1 t2 : Int) (h01 : t0 ≤ t1) (h12 : t1 ≤ t2) : ∀ {l : List Pst} {last : Int} (k : Int), chkL a last l = 0 → linesL n t0 t1 k l ++ linesL n t1 t2 k l = linesL n t0 t2 k l
  | [], _, _, _ => rfl
  | p :: l, last, k, hc => by
    obtain ⟨h1, h2, h3⟩ := chkL_cons hc
    have ih := lines_join n t0 t1 t2 h01 h12 (k + 1) h3
    rw [linesL, linesL, linesL]
    by_cases e : p.2.2.2.1 < t1
    · rw [if_neg (show ¬ (t1 ≤ p.2.2.2.1 ∧ p.2.2.2.1 < t2 ∧ (p.1 = n ∨ p.2.1 = n)) by omega), List.nil_append, List.append_assoc, ih]
      congr 1
      by_cases e1 : t0 ≤ p.2.2.2.1 ∧ p.2.2.2.1 < t1 ∧ (p.1 = n ∨ p.2.1 = n)
      · rw [if_pos e1, if_pos ⟨e1.1, by omega, e1.2.2⟩]
      · rw [if_neg e1, if_neg (fun h => e1 ⟨h.1, e, h.2.2⟩)]
    · have hn : linesL n t0 t1 (k + 1) l = [] := lines_nil n t0 t1 (k + 1) h3 (by omega)
      rw [hn, List.nil_append] at ih
      rw [if_neg (show ¬ (t0 ≤ p.2.2.2.1 ∧ p.2.2.2.1 < t1 ∧ (p.1 = n ∨ p.2.1 = n)) by omega), List.nil_append, hn, List.nil_append, ih]
      congr 1
      by_cases e1 : t1 ≤ p.2.2.2.1 ∧ p.2.2.2.1 < t2 ∧ (p.1 = n ∨ p.2.1 = n)
      · rw [if_pos e1, if_pos ⟨by omega, e1.2⟩]
      · rw [if_neg e1, if_neg (fun h => e1 ⟨by omega, h.2⟩)]
theorem tot_sum {a : Int} (n fr to : Int) (hf : fr ≤ to) : ∀ {l : List Pst} {last : Int}, chkL a last l = 0 → Su (fun w => totW n fr to w l) 8 = balB n to l - balB n fr l
  | [], _, _ => rfl
  | p :: l, last, hc => by
    obtain ⟨h1, h2, h3⟩ := chkL_cons hc
    obtain ⟨_, _, _, _, _, hy, _⟩ := h1
    have e : (fun w => totW n fr to w (p :: l)) = fun w => (if p.2.2.2.2.1 = w ∧ fr ≤ p.2.2.2.1 ∧ p.2.2.2.1 < to then got p n else 0) + totW n fr to w l := rfl
    rw [e, Su_add (fun w => if p.2.2.2.2.1 = w ∧ fr ≤ p.2.2.2.1 ∧ p.2.2.2.1 < to then got p n else 0) (fun w => totW n fr to w l), tot_sum n fr to hf h3, balB, balB]
    have s1 : Su (fun w => if p.2.2.2.2.1 = w ∧ fr ≤ p.2.2.2.1 ∧ p.2.2.2.1 < to then got p n else 0) 8 = if fr ≤ p.2.2.2.1 ∧ p.2.2.2.1 < to then got p n else 0 := by
      by_cases e : fr ≤ p.2.2.2.1 ∧ p.2.2.2.1 < to
      · rw [if_pos e, Su_congr (g := fun w => if p.2.2.2.2.1 = w then got p n else 0) _ (fun k _ => by simp [e])]
        exact Su_one _ _ _ (by omega) (by omega)
      · rw [if_neg e, Su_congr (g := fun _ => 0) _ (fun k _ => if_neg (fun h => e h.2))]
        exact Su_zero _
    rw [s1]
    by_cases e1 : p.2.2.2.1 < fr
    · rw [if_neg (by omega), if_pos (show p.2.2.2.1 < to by omega), if_pos e1]; omega
    · by_cases e2 : p.2.2.2.1 < to
      · rw [if_pos ⟨by omega, e2⟩, if_pos e2, if_neg e1]; omega
      · rw [if_neg (by omega), if_neg e2, if_neg e1]; omega

/-! ### The loops -/
theorem join_go (K : Nat) (b : Bk) (n : Int) (l4 : List Int) (one two) (op cl : Int) (lines : List Int) (kx) (h60 : b.2.length ≤ 60) (hll : lines.length ≤ 60) : ∀ (r : List Int) (t m : Nat) (sum : Int), lines.drop t = r → r.length < m → (∀ j ∈ r, LineOK b.1 n b.2 j) → -4000000000000000000 ≤ sum - r.length * 1099511627776 → sum + r.length * 1099511627776 ≤ 4000000000000000000 →
    F6l0 K m n l4 sum (t : Int) b one two (op, (lines, cl)) kx = kx l4 (sum + gl b.2 n r) one two (op, (lines, cl))
  | [], t, m, sum, h, hm, hj, h1, h2 => by
    obtain ⟨m, rfl⟩ : ∃ j, m = j + 1 := ⟨m - 1, by omega⟩
    have := drop_nil h
    rw [F6l0, B6l0, if_neg (show ¬ ltI (t : Int) (lines.length : Int) = true by rw [ltF (by omega)]; decide), gl, Int.add_zero]
  | j :: r, t, m, sum, h, hm, hj, h1, h2 => by
    obtain ⟨m, rfl⟩ : ∃ i, m = i + 1 := ⟨m - 1, by omega⟩
    obtain ⟨g1, g2, g3⟩ := drop_cons 0 h
    obtain ⟨i, rfl, hi, ho, hg⟩ := hj _ (.head _)
    simp only [List.length_cons] at hm h1 h2
    have hgb := got_bound ho n
    rw [F6l0, B6l0, if_pos (show ltI (t : Int) (lines.length : Int) = true from ltT (by omega)), if_pos (show inR (t : Int) (lines.length : Int) = true from inT (by omega) (by omega))]
    rw [nthD_int, Int.toNat_natCast, g2]
    rw [if_neg (show ¬ ltI (i : Int) 0 = true by rw [ltF (by omega)]; decide), if_neg (show ¬ leI (b.2.length : Int) (i : Int) = true by rw [leF (by omega)]; decide), if_pos (show inR (i : Int) (b.2.length : Int) = true from inT (by omega) (by omega))]
    rw [nthD_pst, Int.toNat_natCast]
    refine bindS (got_ref K b.1 (b.2.getD i pst0) n ho) ?_
    rw [if_neg (show ¬ eqI (got (b.2.getD i pst0) n) 0 = true by rw [eqF (by omega)]; decide), wi64 (by omega) (by omega), wi64 (by omega) (by omega)]
    refine (join_go K b n l4 one two op cl lines kx h60 hll r (t + 1) m _ g3 (by omega) (fun j hj' => hj j (.tail _ hj')) (by omega) (by omega)).trans ?_
    rw [gl, Int.toNat_natCast, Int.add_assoc]
theorem total_go (K : Nat) (n fr to : Int) (L : List Pst) (sum : Int) (one two all) (kx) (hB : ∀ w : Nat, w < 8 → -65970697666560 ≤ totW n fr to w L ∧ totW n fr to w L ≤ 65970697666560) : ∀ (r k m : Nat), k + r = 8 → r < m →
    F6l2 K m (totL n fr to L) sum (Su (fun w => totW n fr to w L) k) (k : Int) one two all kx = kx sum (Su (fun w => totW n fr to w L) 8) one two all
  | 0, k, m, hk, hm => by
    obtain ⟨m, rfl⟩ : ∃ j, m = j + 1 := ⟨m - 1, by omega⟩
    obtain rfl : k = 8 := by omega
    rw [F6l2, B6l2, if_neg (by decide)]
  | r + 1, k, m, hk, hm => by
    obtain ⟨m, rfl⟩ : ∃ j, m = j + 1 := ⟨m - 1, by omega⟩
    have ih := total_go K n fr to L sum one two all kx hB r (k + 1) m (by omega) (by omega)
    have hb := Su_bound (fun w => totW n fr to w L) 65970697666560 (k + 1) (fun j hj => hB j (by omega))
    have hlen : (totL n fr to L).length = 8 := by simp [totL]
    rw [Su] at ih hb
    rw [F6l2, B6l2, if_pos (show ltI (k : Int) 8 = true from ltT (by omega)), hlen, if_pos (show inR (k : Int) ((8 : Nat) : Int) = true from inT (by omega) (by omega))]
    have hd : nthD (.int .i64) (totL n fr to L) (k : Int) = totW n fr to (k : Int) L := by
      rw [nthD_int, Int.toNat_natCast, totL, range_getD (fun w : Nat => totW n fr to (w : Int) L) (show k < 8 by omega)]
    rw [hd, wi64 (by omega) (by omega), wi64 (by omega) (by omega)]
    exact ih
theorem totW_bound {a : Int} (n fr to w : Int) : ∀ {l : List Pst} {last : Int}, chkL a last l = 0 → -(l.length * 1099511627776 : Int) ≤ totW n fr to w l ∧ totW n fr to w l ≤ l.length * 1099511627776
  | [], _, _ => by simp [totW]
  | p :: l, last, h => by
    obtain ⟨h1, h2, h3⟩ := chkL_cons h
    have := totW_bound n fr to w h3
    have hg := got_bound h1 n
    simp only [totW, List.length_cons]
    split <;> omega

theorem span_zero {b : Bk} {n fr to : Int} (h : chkE b = 0) (h' : inA b.1 n = true) (h0 : 0 ≤ fr) (h1 : fr ≤ to) (h2 : to ≤ 1000001) : spanE b n fr to = 0 := by
  rw [span_in h h', if_neg (by omega)]
theorem pure_join (K : Nat) (hK : 200000 ≤ K) (b : Bk) (ac : Int) (ts : List Int) (ha : 0 ≤ ac ∧ ac ≤ 255) : F6 K b ac ts = some true := by
  unfold F6
  have hK' : 20000 ≤ K := by omega
  have hs := sanity_ok K hK
  by_cases g1 : 60 < b.2.length
  · rw [if_pos (show ltI 60 (b.2.length : Int) = true from ltT (by omega))]; exact bindS hs rfl
  · rw [if_neg (show ¬ ltI 60 (b.2.length : Int) = true by rw [ltF (by omega)]; decide)]
    refine bindS (chk_own K hK' b) ?_
    by_cases h : chkE b = 0
    · rw [if_neg (eqZ h)]
      obtain ⟨h40, hl, hc⟩ := chkE_ok h
      obtain ⟨t0, e0⟩ : ∃ t0 : Int, nthD (.int .i64) ts 0 = t0 := ⟨_, rfl⟩
      obtain ⟨t1, e1⟩ : ∃ t1 : Int, nthD (.int .i64) ts 1 = t1 := ⟨_, rfl⟩
      obtain ⟨t2, e2⟩ : ∃ t2 : Int, nthD (.int .i64) ts 2 = t2 := ⟨_, rfl⟩
      rw [e0, e1, e2]
      by_cases k0 : t0 < 0
      · rw [if_pos (show ltI t0 0 = true from ltT k0)]; exact bindS hs rfl
      · rw [if_neg (show ¬ ltI t0 0 = true by rw [ltF (by omega)]; decide)]
        by_cases k1 : t1 < t0
        · rw [if_pos (show ltI t1 t0 = true from ltT k1)]; exact bindS hs rfl
        · rw [if_neg (show ¬ ltI t1 t0 = true by rw [ltF (by omega)]; decide)]
          by_cases k2 : t2 < t1
          · rw [if_pos (show ltI t2 t1 = true from ltT k2)]; exact bindS hs rfl
          · rw [if_neg (show ¬ ltI t2 t1 = true by rw [ltF (by omega)]; decide)]
            by_cases k3 : 1000001 < t2
            · rw [if_pos (show ltI 1000001 t2 = true from ltT k3)]; exact bindS hs rfl
            · rw [if_neg (show ¬ ltI 1000001 t2 = true by rw [ltF (by omega)]; decide), if_neg (show ¬ eqI b.1 0 = true by rw [eqF (by omega)]; decide)]
              rw [wi64 (x := ac) (by omega) (by omega)]
              obtain ⟨x0, x1⟩ := tmod_in ha.1 (show 0 < b.1 by omega)
              generalize Int.tmod ac b.1 = n at *
              have hn := inA_of x0 x1
              have s1 := stE_ok (span_zero h hn (show 0 ≤ t0 by omega) (show t0 ≤ t1 by omega) (show t1 ≤ 1000001 by omega))
              have s2 := stE_ok (span_zero h hn (show 0 ≤ t1 by omega) (show t1 ≤ t2 by omega) (show t2 ≤ 1000001 by omega))
              have s3 := stE_ok (span_zero h hn (show 0 ≤ t0 by omega) (show t0 ≤ t2 by omega) (show t2 ≤ 1000001 by omega))
              have s4 := totE_ok (span_zero h hn (show 0 ≤ t0 by omega) (show t0 ≤ t2 by omega) (show t2 ≤ 1000001 by omega))
              have l1 := lines_len n t0 t1 b.2 0
              have l2 := lines_len n t1 t2 b.2 0
              have l3 := lines_len n t0 t2 b.2 0
              have hlj := lines_join n t0 t1 t2 (by omega) (by omega) 0 hc
              have hlk := lines_ok b.2 n t0 t2 0 rfl hc
              have hgl := gl_lines b.2 n t0 t2 (by omega) 0 rfl hc
              have hts := tot_sum n t0 t2 (by omega) hc
              have hb0 := balB_bound n t0 hc
              have hb2 := balB_bound n t2 hc
              have hlen : (totL n t0 t2 b.2).length = 8 := by simp [totL]
              refine bindS ((Statement_own K hK' b n t0 t1).trans (congrArg some s1)) (bindS ((Statement_own K hK' b n t1 t2).trans (congrArg some s2)) (bindS ((Statement_own K hK' b n t0 t2).trans (congrArg some s3)) (bindS ((Totals_own K hK' b n t0 t2).trans (congrArg some s4)) ?_)))
              have hz : ¬ (!(eqI 0 0)) = true := by decide
              refine (if_neg hz).trans ((if_neg hz).trans ((if_neg hz).trans ((if_neg hz).trans ((if_neg (show ¬ (!(eqI ((totL n t0 t2 b.2).length : Int) 8)) = true by rw [hlen]; decide)).trans ?_))))
              refine (join_go K b n (totL n t0 t2 b.2) _ _ _ _ (linesL n t0 t2 0 b.2) _ (by omega) (by omega) (linesL n t0 t2 0 b.2) 0 K (balB n t0 b.2) rfl (by omega) hlk (by omega) (by omega)).trans ?_
              refine (total_go K n t0 t2 b.2 _ _ _ _ _ (fun w _ => by have := totW_bound n t0 t2 (w : Int) hc; omega) 8 0 K rfl (by omega)).trans ?_
              refine (if_pos (show room (0 + (linesL n t0 t1 0 b.2).length) = true from roomT (by omega))).trans ?_
              refine (if_pos (show room ((linesL n t0 t1 0 b.2).length + (linesL n t1 t2 0 b.2).length) = true from roomT (by omega))).trans ?_
              refine bindS hs ((if_pos rfl).trans ?_)
              have hsum : balB n t0 b.2 + gl b.2 n (linesL n t0 t2 0 b.2) = balB n t2 b.2 := by
                have : gl b.2 n (linesL n t0 t2 0 b.2) = balB n t2 b.2 - balB n t0 b.2 := hgl
                omega
              refine (if_pos (eqT hsum)).trans ?_
              refine (if_pos (eqT (show Su (fun w => totW n t0 t2 w b.2) 8 = IntKind.wrap .i64 (balB n t2 b.2 - balB n t0 b.2) by rw [wi64 (by omega) (by omega)]; exact hts))).trans ?_
              refine (if_pos (eqT rfl)).trans ((if_pos (eqT rfl)).trans ((if_pos (eqT rfl)).trans ?_))
              exact bindS ((ints_ok K hK' (linesL n t0 t1 0 b.2 ++ linesL n t1 t2 0 b.2) (linesL n t0 t2 0 b.2) (by rw [List.length_append]; omega)).trans (show _ = some true by rw [hlj, decide_eq_true rfl])) rfl
    · rw [if_pos (eqN h)]; exact bindS hs rfl

end Go.Proofs.YtcjjagkcdepgdaaDoor
