/- The third law of the bill chapter: all balances together are 0. -/
import Derived.Test.YtcjjagkcdepgdaaDoorY6
set_option linter.unusedVariables false
set_option linter.unusedSimpArgs false
set_option maxRecDepth 100000
namespace Go.Proofs.YtcjjagkcdepgdaaDoor
open Go Go.Q

def Su (f : Int → Int) : Nat → Int
  | 0 => 0
  | n + 1 => Su f n + f n
theorem Su_add (f g : Int → Int) : ∀ n, Su (fun k => f k + g k) n = Su f n + Su g n
  | 0 => rfl
  | n + 1 => by rw [Su, Su, Su, Su_add f g n]; omega
theorem Su_sub (f g : Int → Int) : ∀ n, Su (fun k => f k - g k) n = Su f n - Su g n
  | 0 => rfl
  | n + 1 => by rw [Su, Su, Su, Su_sub f g n]; omega
theorem Su_zero : ∀ n, Su (fun _ => 0) n = 0
  | 0 => rfl
  | n + 1 => by rw [Su, Su_zero n]; rfl
theorem Su_out (x c : Int) : ∀ n : Nat, x < 0 ∨ (n : Int) ≤ x → Su (fun k => if x = k then c else 0) n = 0
  | 0, _ => rfl
  | n + 1, h => by rw [Su, Su_out x c n (by omega), if_neg (by omega)]; rfl
theorem Su_one (x c : Int) : ∀ n : Nat, 0 ≤ x → x < (n : Int) → Su (fun k => if x = k then c else 0) n = c
  | 0, _, _ => by omega
  | n + 1, h0, h1 => by
    rw [Su]
    by_cases e : x = (n : Int)
    · rw [Su_out x c n (by omega), if_pos e, Int.zero_add]
    · rw [Su_one x c n h0 (by omega), if_neg e, Int.add_zero]
theorem Su_bound (f : Int → Int) (B : Int) : ∀ n : Nat, (∀ k : Nat, k < n → -B ≤ f k ∧ f k ≤ B) → -(n * B) ≤ Su f n ∧ Su f n ≤ n * B
  | 0, _ => by simp [Su]
  | n + 1, h => by
    have := Su_bound f B n (fun k hk => h k (by omega))
    have h2 := h n (by omega)
    rw [Su, show ((n + 1 : Nat) : Int) * B = n * B + B by rw [Int.natCast_add, Int.add_mul]; simp]
    omega
theorem Su_congr {f g : Int → Int} : ∀ (n : Nat), (∀ k : Nat, k < n → f k = g k) → Su f n = Su g n
  | 0, _ => rfl
  | n + 1, h => by rw [Su, Su, Su_congr n (fun k hk => h k (by omega)), h n (by omega)]

theorem got_sum {a : Int} {p : Pst} (h : OneI a p) : Su (fun k => got p k) a.toNat = 0 := by
  obtain ⟨h1, h2, _⟩ := h
  unfold got
  rw [Su_sub, Su_one p.1 _ _ h1.1 (by omega), Su_one p.2.1 _ _ h2.1 (by omega)]
  omega
theorem bal_sum {a : Int} (bf : Int) : ∀ {l : List Pst} {last : Int}, chkL a last l = 0 → Su (fun k => balB k bf l) a.toNat = 0
  | [], _, _ => Su_zero _
  | p :: l, last, h => by
    obtain ⟨h1, h2, h3⟩ := chkL_cons h
    have e : (fun k => balB k bf (p :: l)) = fun k => (if p.2.2.2.1 < bf then got p k else 0) + balB k bf l := rfl
    rw [e, Su_add (fun k => if p.2.2.2.1 < bf then got p k else 0) (fun k => balB k bf l), bal_sum bf h3]
    by_cases hc : p.2.2.2.1 < bf
    · simp only [hc, if_true]
      rw [got_sum h1]; rfl
    · simp only [hc, if_false]
      rw [Su_zero]; rfl
theorem owe_sum {a : Int} (x tk : Int) (hx : 0 ≤ x) (hx' : x < a) : ∀ {l : List Pst} {last : Int}, chkL a last l = 0 → Su (fun k => giv k x tk l - giv x k tk l) a.toNat = balB x (tk + 1) l
  | [], _, _ => Su_zero _
  | p :: l, last, h => by
    obtain ⟨h1, h2, h3⟩ := chkL_cons h
    obtain ⟨i1, i2, i3, _⟩ := h1
    have e : (fun k => giv k x tk (p :: l) - giv x k tk (p :: l)) = fun k => ((if p.2.2.2.1 ≤ tk ∧ p.2.1 = k ∧ p.1 = x then p.2.2.1 else 0) - (if p.2.2.2.1 ≤ tk ∧ p.2.1 = x ∧ p.1 = k then p.2.2.1 else 0)) + (giv k x tk l - giv x k tk l) := by
      funext k; simp only [giv]; omega
    rw [e, Su_add (fun k => (if p.2.2.2.1 ≤ tk ∧ p.2.1 = k ∧ p.1 = x then p.2.2.1 else 0) - (if p.2.2.2.1 ≤ tk ∧ p.2.1 = x ∧ p.1 = k then p.2.2.1 else 0)) (fun k => giv k x tk l - giv x k tk l), owe_sum x tk hx hx' h3, balB]
    congr 1
    rw [Su_sub (fun k => if p.2.2.2.1 ≤ tk ∧ p.2.1 = k ∧ p.1 = x then p.2.2.1 else 0) (fun k => if p.2.2.2.1 ≤ tk ∧ p.2.1 = x ∧ p.1 = k then p.2.2.1 else 0)]
    by_cases ht : p.2.2.2.1 ≤ tk
    · rw [if_pos (by omega)]
      have s1 : Su (fun k => if p.2.2.2.1 ≤ tk ∧ p.2.1 = k ∧ p.1 = x then p.2.2.1 else 0) a.toNat = if p.1 = x then p.2.2.1 else 0 := by
        by_cases hd : p.1 = x
        · rw [if_pos hd]
          rw [Su_congr (g := fun k => if p.2.1 = k then p.2.2.1 else 0) _ (fun k _ => by simp [ht, hd])]
          exact Su_one _ _ _ i2.1 (by omega)
        · rw [if_neg hd]
          rw [Su_congr (g := fun _ => 0) _ (fun k _ => by simp [hd])]
          exact Su_zero _
      have s2 : Su (fun k => if p.2.2.2.1 ≤ tk ∧ p.2.1 = x ∧ p.1 = k then p.2.2.1 else 0) a.toNat = if p.2.1 = x then p.2.2.1 else 0 := by
        by_cases hd : p.2.1 = x
        · rw [if_pos hd]
          rw [Su_congr (g := fun k => if p.1 = k then p.2.2.1 else 0) _ (fun k _ => by simp [ht, hd])]
          exact Su_one _ _ _ i1.1 (by omega)
        · rw [if_neg hd]
          rw [Su_congr (g := fun _ => 0) _ (fun k _ => by simp [hd])]
          exact Su_zero _
      rw [s1, s2]; rfl
    · rw [if_neg (by omega)]
      rw [Su_congr (g := fun _ => 0) _ (fun k _ => if_neg (fun h => ht h.1)), Su_congr (f := fun k => if p.2.2.2.1 ≤ tk ∧ p.2.1 = x ∧ p.1 = k then p.2.2.1 else 0) (g := fun _ => 0) _ (fun k _ => if_neg (fun h => ht h.1)), Su_zero]; rfl

theorem inA_of {a n : Int} (h : 0 ≤ n) (h' : n < a) : inA a n = true := by unfold inA; rw [leT h, ltT h']; rfl
theorem adds_go (K : Nat) (hK : 20000 ≤ K) (b : Bk) (tk x y : Int) (ht : I64 tk) (h : chkE b = 0) (h60 : b.2.length ≤ 60) (hx : 0 ≤ x) (hx' : x < b.1) (kx) : ∀ (r k m : Nat), k + r = b.1.toNat → r < m →
    F5l0 K m tk x y (Su (fun k => balB k (tk + 1) b.2) k) (Su (fun k => giv k x tk b.2 - giv x k tk b.2) k) (k : Int) b kx = kx tk x y (Su (fun k => balB k (tk + 1) b.2) b.1.toNat) (Su (fun k => giv k x tk b.2 - giv x k tk b.2) b.1.toNat) b
  | 0, k, m, hk, hm => by
    obtain ⟨m, rfl⟩ : ∃ j, m = j + 1 := ⟨m - 1, by omega⟩
    rw [F5l0, B5l0, if_neg (show ¬ ltI (k : Int) b.1 = true by rw [ltF (by omega)]; decide), show k = b.1.toNat by omega]
  | r + 1, k, m, hk, hm => by
    obtain ⟨m, rfl⟩ : ∃ j, m = j + 1 := ⟨m - 1, by omega⟩
    obtain ⟨h40, hl, hc⟩ := chkE_ok h
    have hin := inA_of (a := b.1) (n := (k : Int)) (by omega) (by omega)
    have b1 := Su_bound (fun k => balB k (tk + 1) b.2) 65970697666560 (k + 1) (fun j hj => by have := balB_bound (j : Int) (tk + 1) hc; omega)
    have b2 := Su_bound (fun k => giv k x tk b.2 - giv x k tk b.2) 65970697666560 (k + 1) (fun j hj => by have := giv_bound (j : Int) x tk hc; have := giv_bound x (j : Int) tk hc; omega)
    have ih := adds_go K hK b tk x y ht h h60 hx hx' kx r (k + 1) m (by omega) (by omega)
    rw [Su] at b1 b2
    rw [Su, Su] at ih
    rw [F5l0, B5l0, if_pos (show ltI (k : Int) b.1 = true from ltT (by omega))]
    refine bindS ((Balance_own K hK b k tk ht).trans (congrArg some (balE_ok h hin))) (bindS ((Owes_own K hK b k x tk).trans (congrArg some (owesE_ok h hin (inA_of hx hx')))) ?_)
    refine (if_neg (show ¬ (!(eqI 0 0)) = true by decide)).trans ((if_neg (show ¬ (!(eqI 0 0)) = true by decide)).trans ?_)
    dsimp only
    rw [wi64 (by omega) (by omega), wi64 (by omega) (by omega), wi64 (by omega) (by omega)]
    exact ih

theorem tmod_in {v a : Int} (h : 0 ≤ v) (ha : 0 < a) : 0 ≤ Int.tmod v a ∧ Int.tmod v a < a := ⟨Int.tmod_nonneg _ h, Int.tmod_lt_of_pos _ ha⟩
theorem pure_adds (K : Nat) (hK : 200000 ≤ K) (b : Bk) (at' : List Int) (tk : Int) (ht : I64 tk) (v0 v1 : Int) (hv0 : nthD (.int .u8) at' 0 = v0) (hv1 : nthD (.int .u8) at' 1 = v1) (h0 : 0 ≤ v0 ∧ v0 ≤ 255) (h1 : 0 ≤ v1 ∧ v1 ≤ 255) : F5 K b at' tk = some true := by
  unfold F5
  have hK' : 20000 ≤ K := by omega
  have hs := sanity_ok K hK
  by_cases g1 : 60 < b.2.length
  · rw [if_pos (show ltI 60 (b.2.length : Int) = true from ltT (by omega))]; exact bindS hs rfl
  · rw [if_neg (show ¬ ltI 60 (b.2.length : Int) = true by rw [ltF (by omega)]; decide)]
    refine bindS (chk_own K hK' b) ?_
    by_cases h : chkE b = 0
    · rw [if_neg (eqZ h)]
      obtain ⟨h40, hl, hc⟩ := chkE_ok h
      have hz : ¬ eqI b.1 0 = true := by rw [eqF (by omega)]; decide
      rw [hv0, hv1, wi64 (x := v0) (by omega) (by omega), wi64 (x := v1) (by omega) (by omega)]
      obtain ⟨x0, x1⟩ := tmod_in h0.1 (show 0 < b.1 by omega)
      obtain ⟨y0, y1⟩ := tmod_in h1.1 (show 0 < b.1 by omega)
      generalize Int.tmod v0 b.1 = x at *
      generalize Int.tmod v1 b.1 = y at *
      refine (if_neg hz).trans ((if_neg hz).trans ?_)
      refine (adds_go K hK' b tk x y ht h (by omega) x0 x1 _ b.1.toNat 0 K (by omega) (by omega)).trans ?_
      have ix := inA_of x0 x1
      have iy := inA_of y0 y1
      have gb := giv_bound x y tk hc
      have gb' := giv_bound y x tk hc
      refine bindS ((Balance_own K hK' b x tk ht).trans (congrArg some (balE_ok h ix))) (bindS ((Owes_own K hK' b x y tk).trans (congrArg some (owesE_ok h ix iy))) (bindS ((Owes_own K hK' b y x tk).trans (congrArg some (owesE_ok h iy ix))) (bindS hs ((if_pos rfl).trans ?_))))
      refine (if_pos (eqT rfl)).trans ((if_pos (eqT rfl)).trans ((if_pos (eqT rfl)).trans ?_))
      refine (if_pos (eqT (bal_sum (tk + 1) hc))).trans ((if_pos (eqT (owe_sum x tk x0 x1 hc))).trans ?_)
      dsimp only
      rw [wi64 (by omega) (by omega), eqT (by omega)]
    · rw [if_pos (eqN h)]; exact bindS hs rfl

end Go.Proofs.YtcjjagkcdepgdaaDoor
