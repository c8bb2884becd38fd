/- Balances and debts: both sides. -/
import Derived.Test.YtcjjagkcdepgdaaDoorY1
set_option linter.unusedVariables false
set_option linter.unusedSimpArgs false
set_option maxRecDepth 100000
namespace Go.Proofs.YtcjjagkcdepgdaaDoor
open Go Go.Q

def OneI (a : Int) (p : Pst) : Prop := (0 ≤ p.1 ∧ p.1 < a) ∧ (0 ≤ p.2.1 ∧ p.2.1 < a) ∧ p.1 ≠ p.2.1 ∧ (1 ≤ p.2.2.1 ∧ p.2.2.1 ≤ 1099511627776) ∧ (0 ≤ p.2.2.2.1 ∧ p.2.2.2.1 ≤ 1000000) ∧ (1 ≤ p.2.2.2.2.1 ∧ p.2.2.2.2.1 ≤ 7) ∧ (0 ≤ p.2.2.2.2.2 ∧ p.2.2.2.2.2 ≤ 1099511627776)
theorem one_ok {a : Int} {p : Pst} (h : oneE a p = 0) : OneI a p := by
  unfold oneE at h
  split at h
  · cases h
  · rename_i h1
    split at h
    · cases h
    · rename_i h2
      simp only [Bool.or_eq_true, Bool.not_eq_true', not_or, Bool.not_eq_false, win, inA, Bool.and_eq_true, leI_eq, ltI_eq, eqI_eq, decide_eq_true_eq, Bool.not_eq_true, decide_eq_false_iff_not] at h1 h2
      exact ⟨h1.1, h1.2.1, h1.2.2, h2.1, h2.2.1, h2.2.2.1, h2.2.2.2⟩
theorem chkL_cons {a last : Int} {p : Pst} {l : List Pst} (h : chkL a last (p :: l) = 0) : OneI a p ∧ last ≤ p.2.2.2.1 ∧ chkL a p.2.2.2.1 l = 0 := by
  rw [chkL] at h
  split at h
  · rename_i h1; exact absurd h h1
  · rename_i h1
    split at h
    · cases h
    · rename_i h2
      refine ⟨one_ok (by simpa using h1), ?_, h⟩
      rw [ltI_eq] at h2
      simpa using h2
theorem chkE_ok {b : Bk} (h : chkE b = 0) : (1 ≤ b.1 ∧ b.1 ≤ 40) ∧ b.2.length ≤ 10000 ∧ chkL b.1 0 b.2 = 0 := by
  unfold chkE at h
  split at h
  · cases h
  · split at h
    · cases h
    · exact ⟨by omega, by omega, h⟩

/-! ### What an account gets -/
def got (p : Pst) (n : Int) : Int := (if p.1 = n then p.2.2.1 else 0) - (if p.2.1 = n then p.2.2.1 else 0)
def balB (n bf : Int) : List Pst → Int
  | [] => 0
  | p :: l => (if p.2.2.2.1 < bf then got p n else 0) + balB n bf l
theorem got_bound {a : Int} {p : Pst} (h : OneI a p) (n : Int) : -1099511627776 ≤ got p n ∧ got p n ≤ 1099511627776 := by
  obtain ⟨_, _, _, h4, _⟩ := h
  unfold got
  split <;> split <;> omega
theorem balB_bound {a : Int} (n bf : Int) : ∀ {l : List Pst} {last : Int}, chkL a last l = 0 → -(l.length * 1099511627776 : Int) ≤ balB n bf l ∧ balB n bf l ≤ l.length * 1099511627776
  | [], _, _ => by simp [balB]
  | p :: l, last, h => by
    obtain ⟨h1, h2, h3⟩ := chkL_cons h
    have := balB_bound n bf h3
    have hg := got_bound h1 n
    simp only [balB, List.length_cons]
    split <;> omega
theorem balB_zero {a : Int} (n bf : Int) : ∀ {l : List Pst} {last : Int}, chkL a last l = 0 → bf ≤ last → balB n bf l = 0
  | [], _, _, _ => rfl
  | p :: l, last, h, hb => by
    obtain ⟨h1, h2, h3⟩ := chkL_cons h
    rw [balB, if_neg (by omega), balB_zero n bf h3 (by omega)]; rfl
theorem balB_min {a : Int} (n tk : Int) : ∀ {l : List Pst} {last : Int}, chkL a last l = 0 → balB n (minI tk 1000000 + 1) l = balB n (tk + 1) l
  | [], _, _ => rfl
  | p :: l, last, h => by
    obtain ⟨h1, h2, h3⟩ := chkL_cons h
    obtain ⟨_, _, _, _, h5, _⟩ := h1
    rw [balB, balB, balB_min n tk h3]
    congr 1
    unfold minI
    by_cases hc : p.2.2.2.1 < tk + 1
    · rw [if_pos hc, if_pos (by split <;> omega)]
    · rw [if_neg hc, if_neg (by split <;> omega)]

def sumE : List (Int × (Int × Unit)) → Int
  | [] => 0
  | e :: l => e.2.1 + sumE l
theorem sum_go (K : Nat) (t6 c2 c3) (c1 : Bk) (kx) : ∀ (el : List (Int × (Int × Unit))) (n : Nat) (acc : Int), el.length < n → (∀ e ∈ el, -1099511627776 ≤ e.2.1 ∧ e.2.1 ≤ 1099511627776) → -4000000000000000000 ≤ acc - el.length * 1099511627776 → acc + el.length * 1099511627776 ≤ 4000000000000000000 →
    F40l0 K n el t6 c1 c2 c3 acc kx = kx false t6 c1 c2 c3 (acc + sumE el)
  | [], n, acc, hn, hb, h1, h2 => by
    obtain ⟨n, rfl⟩ : ∃ m, n = m + 1 := ⟨n - 1, by omega⟩
    rw [F40l0, B40l0, sumE, Int.add_zero]
  | e :: el, n, acc, hn, hb, h1, h2 => by
    obtain ⟨n, rfl⟩ : ∃ m, n = m + 1 := ⟨n - 1, by omega⟩
    have he := hb e (.head _)
    simp only [List.length_cons] at hn h1 h2
    rw [F40l0, B40l0]
    rw [wi64 (by omega) (by omega), sum_go K t6 c2 c3 c1 kx el n _ (by omega) (fun e h => hb e (.tail _ h)) (by omega) (by omega), sumE, Int.add_assoc]

theorem gives_facts {a : Int} (n bf : Int) : ∀ {l : List Pst} {last : Int} (k : Int), chkL a last l = 0 →
    sumE ((givesL n bf k l).map fun x => (x.1, x.2, ())) = balB n bf l ∧ (givesL n bf k l).length ≤ l.length ∧ ∀ e ∈ givesL n bf k l, -1099511627776 ≤ e.2 ∧ e.2 ≤ 1099511627776
  | [], _, k, _ => ⟨rfl, Nat.le_refl _, fun _ h => by cases h⟩
  | p :: l, last, k, h => by
    obtain ⟨h1, h2, h3⟩ := chkL_cons h
    obtain ⟨i1, i2, i3⟩ := gives_facts n bf (k + 1) h3
    obtain ⟨_, _, hne, h4, h5, _⟩ := h1
    rw [givesL, balB]
    by_cases hb : bf ≤ p.2.2.2.1
    · rw [if_pos hb, if_neg (by omega), balB_zero n bf h3 hb]
      exact ⟨rfl, by simp, fun _ h => by cases h⟩
    · rw [if_neg hb, if_pos (by omega)]
      have hw : RowKit.wrap64 (-p.2.2.1) = -p.2.2.1 := by simp only [RowKit.wrap64]; omega
      unfold gives got
      by_cases e1 : p.1 = n
      · have e2 : ¬ p.2.1 = n := fun e => hne (e1.trans e.symm)
        rw [if_pos e1, if_neg e2, if_pos e1, if_neg e2]
        refine ⟨by simp [sumE, i1], by simp; omega, fun e he => ?_⟩
        simp only [List.append_nil, List.singleton_append, List.mem_cons] at he
        rcases he with rfl | he
        · exact ⟨by dsimp only; omega, by dsimp only; omega⟩
        · exact i3 e he
      · rw [if_neg e1, if_neg e1]
        by_cases e2 : p.2.1 = n
        · rw [if_pos e2, if_pos e2, hw]
          refine ⟨by simp [sumE, i1], by simp; omega, fun e he => ?_⟩
          simp only [List.nil_append, List.singleton_append, List.mem_cons] at he
          rcases he with rfl | he
          · exact ⟨by dsimp only; omega, by dsimp only; omega⟩
          · exact i3 e he
        · rw [if_neg e2, if_neg e2]
          refine ⟨by simp [i1], by simp; omega, fun e he => i3 e (by simpa using he)⟩

theorem bof_own (K : Nat) (b : Bk) (n bf : Int) : F44 K b n bf = some (b, (bf, (n, ()))) := by unfold F44; rfl
theorem it_own (K : Nat) (b : Bk) (n bf : Int) (h : chkE b = 0) : It53 K b bf n = some ((givesL n bf 0 b.2).map fun x => (x.1, x.2, ())) := by
  have := chkE_len h
  rw [It53, roomT (by omega), if_pos rfl]
theorem balance_own (K : Nat) (hK : 20000 ≤ K) (b : Bk) (n bf : Int) (h : chkE b = 0) : F40 K b n bf = some (balB n bf b.2) := by
  obtain ⟨_, hl, hc⟩ := chkE_ok h
  obtain ⟨i1, i2, i3⟩ := gives_facts n bf 0 hc
  unfold F40
  refine bindS (bof_own K b n bf) (bindS (it_own K b n bf h) ?_)
  have hlen : ((givesL n bf 0 b.2).map fun x : Int × Int => (x.1, x.2, ())).length ≤ 10000 := by rw [List.length_map]; omega
  refine (sum_go K _ _ _ _ _ _ K 0 (by omega) (fun e he => ?_) (by omega) (by omega)).trans ?_
  · obtain ⟨x, hx, rfl⟩ := List.mem_map.1 he
    exact i3 x hx
  · rw [i1, Int.zero_add]; rfl

def balE (b : Bk) (n tk : Int) : Int × Int := if chkE b ≠ 0 then (0, chkE b) else if inA b.1 n = true then (balB n (tk + 1) b.2, 0) else (0, 8)
theorem balE_no {b : Bk} {n tk : Int} (h : chkE b ≠ 0) : balE b n tk = (0, chkE b) := by rw [balE, if_pos h]
theorem balE_out {b : Bk} {n tk : Int} (h : chkE b = 0) (h' : inA b.1 n = false) : balE b n tk = (0, 8) := by rw [balE, if_neg (fun k => k h), h', if_neg (by decide)]
theorem balE_ok {b : Bk} {n tk : Int} (h : chkE b = 0) (h' : inA b.1 n = true) : balE b n tk = (balB n (tk + 1) b.2, 0) := by rw [balE, if_neg (fun k => k h), if_pos h']

theorem Balance_own (K : Nat) (hK : 20000 ≤ K) (b : Bk) (n tk : Int) (ht : I64 tk) : F18 K b n tk = some (balE b n tk) := by
  unfold F18
  refine bindS (chk_own K hK b) ?_
  by_cases h : chkE b = 0
  · rw [if_neg (eqZ h)]
    refine bindS (account_own K b n) ?_
    rcases Bool.eq_false_or_eq_true (inA b.1 n) with e | e
    · rw [e, if_neg (by decide), balE_ok h e]
      have hw : IntKind.wrap .i64 (minI tk 1000000 + 1) = minI tk 1000000 + 1 := by
        obtain ⟨t1, t2⟩ := ht
        exact wi64 (by unfold minI; split <;> omega) (by unfold minI; split <;> omega)
      rw [hw]
      refine bindS (balance_own K hK b n _ h) ?_
      rw [balB_min n tk (chkE_ok h).2.2]
    · rw [e, if_pos (by decide), balE_out h e]
  · rw [if_pos (eqN h), balE_no h]

theorem got_ref (K : Nat) (a : Int) (p : Pst) (n : Int) (h : OneI a p) : F27 K p n = some (got p n) := by
  obtain ⟨_, _, hne, h4, _⟩ := h
  unfold F27 got
  by_cases e1 : p.1 = n
  · have e2 : ¬ p.2.1 = n := fun e => hne (e1.trans e.symm)
    rw [if_pos (show eqI p.1 n = true from eqT e1), if_neg (show ¬ eqI p.2.1 n = true by rw [eqF (by omega)]; decide), if_pos e1, if_neg e2, wi64 (by omega) (by omega)]
    congr 1; omega
  · rw [if_neg (show ¬ eqI p.1 n = true by rw [eqF (by omega)]; decide), if_neg e1]
    by_cases e2 : p.2.1 = n
    · rw [if_pos (show eqI p.2.1 n = true from eqT e2), if_pos e2, wi64 (by omega) (by omega)]
    · rw [if_neg (show ¬ eqI p.2.1 n = true by rw [eqF (by omega)]; decide), if_neg e2]; rfl

theorem bal_ref_go (K : Nat) (a : Int) (b : Bk) (n tk : Int) (b6) (kx) (hL : b.2.length ≤ 10000) : ∀ (r : List Pst) (t m : Nat) (last acc : Int), b.2.drop t = r → r.length < m → chkL a last r = 0 → -4000000000000000000 ≤ acc - r.length * 1099511627776 → acc + r.length * 1099511627776 ≤ 4000000000000000000 →
    F19l0 K m n tk acc (t : Int) b b6 kx = kx (acc + balB n (tk + 1) r) b6
  | [], t, m, last, acc, h, hm, hc, h1, h2 => by
    obtain ⟨m, rfl⟩ : ∃ k, m = k + 1 := ⟨m - 1, by omega⟩
    have := drop_nil h
    rw [F19l0, B19l0, if_neg (show ¬ ltI (t : Int) (b.2.length : Int) = true by rw [ltF (by omega)]; decide), balB, Int.add_zero]
  | p :: r, t, m, last, acc, h, hm, hc, h1, h2 => by
    obtain ⟨m, rfl⟩ : ∃ k, m = k + 1 := ⟨m - 1, by omega⟩
    obtain ⟨g1, g2, g3⟩ := drop_cons pst0 h
    obtain ⟨c1, c2, c3⟩ := chkL_cons hc
    have hg := got_bound c1 n
    simp only [List.length_cons] at hm h1 h2
    have hw : IntKind.wrap .i64 ((t : Int) + 1) = ((t + 1 : Nat) : Int) := wi64 (by omega) (by omega)
    have hin : inR (t : Int) (b.2.length : Int) = true := inT (by omega) (by omega)
    rw [F19l0, B19l0, if_pos (show ltI (t : Int) (b.2.length : Int) = true from ltT (by omega)), if_pos hin]
    simp only [nthD_pst, Int.toNat_natCast, g2, eta_pst, got_ref K a p n c1, Option.bind_some, hw]
    rw [balB]
    by_cases hp : p.2.2.2.1 ≤ tk
    · rw [if_pos (leT hp), if_pos hin, if_pos (by omega), wi64 (by omega) (by omega), bal_ref_go K a b n tk b6 kx hL r (t + 1) m _ _ g3 (by omega) c3 (by omega) (by omega), Int.add_assoc]
    · rw [if_neg (show ¬ leI p.2.2.2.1 tk = true by rw [leF (by omega)]; decide), if_neg (by omega), bal_ref_go K a b n tk b6 kx hL r (t + 1) m _ _ g3 (by omega) c3 (by omega) (by omega), Int.zero_add]
theorem Balance_ref (K : Nat) (hK : 20000 ≤ K) (b : Bk) (n tk : Int) : F19 K b n tk = some (balE b n tk) := by
  unfold F19
  refine bindS (chk_ref K hK b) ?_
  by_cases h : chkE b = 0
  · rw [if_neg (eqZ h)]
    refine bindS (in_ref K b n) ?_
    rcases Bool.eq_false_or_eq_true (inA b.1 n) with e | e
    · rw [e, if_neg (by decide), balE_ok h e]
      obtain ⟨_, hl, hc⟩ := chkE_ok h
      refine (bal_ref_go K b.1 b n tk _ _ hl b.2 0 K 0 0 rfl (by omega) hc (by omega) (by omega)).trans ?_
      rw [Int.zero_add]
    · rw [e, if_pos (by decide), balE_out h e]
  · rw [if_pos (eqN h), balE_no h]

/-! ### What one account has given to another one -/
def giv (x y tk : Int) : List Pst → Int
  | [] => 0
  | p :: l => (if p.2.2.2.1 ≤ tk ∧ p.2.1 = x ∧ p.1 = y then p.2.2.1 else 0) + giv x y tk l
theorem giv_bound {a : Int} (x y tk : Int) : ∀ {l : List Pst} {last : Int}, chkL a last l = 0 → 0 ≤ giv x y tk l ∧ giv x y tk l ≤ l.length * 1099511627776
  | [], _, _ => by simp [giv]
  | p :: l, last, h => by
    obtain ⟨h1, h2, h3⟩ := chkL_cons h
    have := giv_bound x y tk h3
    obtain ⟨_, _, _, h4, _⟩ := h1
    simp only [giv, List.length_cons]
    split <;> omega
def owesE (b : Bk) (x y tk : Int) : Int × Int := if chkE b ≠ 0 then (0, chkE b) else if inA b.1 x = true ∧ inA b.1 y = true then (giv x y tk b.2 - giv y x tk b.2, 0) else (0, 8)
theorem owesE_no {b : Bk} {x y tk : Int} (h : chkE b ≠ 0) : owesE b x y tk = (0, chkE b) := by rw [owesE, if_pos h]
theorem owesE_out {b : Bk} {x y tk : Int} (h : chkE b = 0) (h' : inA b.1 x = false ∨ inA b.1 y = false) : owesE b x y tk = (0, 8) := by
  rw [owesE, if_neg (fun k => k h), if_neg]
  rintro ⟨h1, h2⟩
  rcases h' with h' | h'
  · rw [h1] at h'; cases h'
  · rw [h2] at h'; cases h'
theorem owesE_ok {b : Bk} {x y tk : Int} (h : chkE b = 0) (h1 : inA b.1 x = true) (h2 : inA b.1 y = true) : owesE b x y tk = (giv x y tk b.2 - giv y x tk b.2, 0) := by rw [owesE, if_neg (fun k => k h), if_pos ⟨h1, h2⟩]

theorem eq_dec {x y : Int} : eqI x y = true ↔ x = y := by rw [eqI_eq, decide_eq_true_eq]
theorem le_dec {x y : Int} : leI x y = true ↔ x ≤ y := by rw [leI_eq, decide_eq_true_eq]
theorem giv_own_go (K : Nat) (a : Int) (x y tk : Int) (L : List Pst) (kx) (hL : L.length ≤ 10000) : ∀ (r : List Pst) (t m : Nat) (last acc : Int), L.drop t = r → r.length < m → chkL a last r = 0 → 0 ≤ acc → acc + r.length * 1099511627776 ≤ 4000000000000000000 →
    F42l0 K m x y tk acc L (L.length : Int) (t : Int) kx = kx (acc + giv x y tk r)
  | [], t, m, last, acc, h, hm, hc, h1, h2 => by
    obtain ⟨m, rfl⟩ : ∃ k, m = k + 1 := ⟨m - 1, by omega⟩
    have := drop_nil h
    rw [F42l0, B42l0, if_neg (show ¬ ltI (t : Int) (L.length : Int) = true by rw [ltF (by omega)]; decide), giv, Int.add_zero]
  | p :: r, t, m, last, acc, h, hm, hc, h1, h2 => by
    obtain ⟨m, rfl⟩ : ∃ k, m = k + 1 := ⟨m - 1, by omega⟩
    obtain ⟨g1, g2, g3⟩ := drop_cons pst0 h
    obtain ⟨c1, c2, c3⟩ := chkL_cons hc
    obtain ⟨_, _, _, h4, _⟩ := c1
    simp only [List.length_cons] at hm h1 h2
    have hw : IntKind.wrap .i64 ((t : Int) + 1) = ((t + 1 : Nat) : Int) := wi64 (by omega) (by omega)
    rw [F42l0, B42l0, if_pos (show ltI (t : Int) (L.length : Int) = true from ltT (by omega)), if_pos (show inR (t : Int) (L.length : Int) = true from inT (by omega) (by omega))]
    simp only [nthD_pst, Int.toNat_natCast, g2, hw]
    have i1 := giv_own_go K a x y tk L kx hL r (t + 1) m _ (acc + p.2.2.1) g3 (by omega) c3 (by omega) (by omega)
    have i2 := giv_own_go K a x y tk L kx hL r (t + 1) m _ acc g3 (by omega) c3 (by omega) (by omega)
    rw [wi64 (show -9223372036854775808 ≤ acc + p.2.2.1 by omega) (by omega), i1, i2, giv]
    simp only [eq_dec, le_dec]
    by_cases e1 : p.2.2.2.1 ≤ tk
    · by_cases e2 : p.2.1 = x
      · by_cases e3 : p.1 = y
        · rw [if_pos e1, if_pos e2, if_pos e3, if_pos ⟨e1, e2, e3⟩, Int.add_assoc]
        · rw [if_pos e1, if_pos e2, if_neg e3, if_neg (fun h => e3 h.2.2), Int.zero_add]
      · rw [if_pos e1, if_neg e2, if_neg (fun h => e2 h.2.1), Int.zero_add]
    · rw [if_neg e1, if_neg (fun h => e1 h.1), Int.zero_add]
theorem giv_own (K : Nat) (hK : 20000 ≤ K) (b : Bk) (x y tk : Int) (h : chkE b = 0) : F42 K x y b tk = some (giv x y tk b.2) := by
  unfold F42
  obtain ⟨_, hl, hc⟩ := chkE_ok h
  refine (giv_own_go K b.1 x y tk b.2 _ hl b.2 0 K 0 0 rfl (by omega) hc (by omega) (by omega)).trans ?_
  rw [Int.zero_add]
theorem Owes_own (K : Nat) (hK : 20000 ≤ K) (b : Bk) (x y tk : Int) : F20 K b x y tk = some (owesE b x y tk) := by
  unfold F20
  refine bindS (chk_own K hK b) ?_
  by_cases h : chkE b = 0
  · rw [if_neg (eqZ h)]
    refine bindS (account_own K b x) ?_
    rcases Bool.eq_false_or_eq_true (inA b.1 x) with e | e
    · rw [e, if_neg (by decide)]
      refine bindS (account_own K b y) ?_
      rcases Bool.eq_false_or_eq_true (inA b.1 y) with e' | e'
      · rw [e', if_neg (by decide), owesE_ok h e e']
        obtain ⟨_, hl, hc⟩ := chkE_ok h
        have g1 := giv_bound x y tk hc
        have g2 := giv_bound y x tk hc
        refine bindS (giv_own K hK b x y tk h) (bindS (giv_own K hK b y x tk h) ?_)
        rw [wi64 (by omega) (by omega)]
      · rw [e', if_pos (by decide), owesE_out h (.inr e')]
    · rw [e, if_pos (by decide), owesE_out h (.inl e)]
  · rw [if_pos (eqN h), owesE_no h]
def owt (x y tk : Int) (p : Pst) : Int := (if p.2.2.2.1 ≤ tk ∧ p.2.1 = x ∧ p.1 = y then p.2.2.1 else 0) - (if p.2.2.2.1 ≤ tk ∧ p.2.1 = y ∧ p.1 = x then p.2.2.1 else 0)
theorem owe_ref_go (K : Nat) (a : Int) (b : Bk) (x y tk : Int) (b8) (kx) (hL : b.2.length ≤ 10000) : ∀ (r : List Pst) (t m : Nat) (last acc : Int), b.2.drop t = r → r.length < m → chkL a last r = 0 → -4000000000000000000 ≤ acc - r.length * 1099511627776 → acc + r.length * 1099511627776 ≤ 4000000000000000000 →
    F21l0 K m x y tk acc (t : Int) b b8 kx = kx (acc + (giv x y tk r - giv y x tk r)) b8
  | [], t, m, last, acc, h, hm, hc, h1, h2 => by
    obtain ⟨m, rfl⟩ : ∃ k, m = k + 1 := ⟨m - 1, by omega⟩
    have := drop_nil h
    rw [F21l0, B21l0, if_neg (show ¬ ltI (t : Int) (b.2.length : Int) = true by rw [ltF (by omega)]; decide), giv, giv, Int.sub_self, Int.add_zero]
  | p :: r, t, m, last, acc, h, hm, hc, h1, h2 => by
    obtain ⟨m, rfl⟩ : ∃ k, m = k + 1 := ⟨m - 1, by omega⟩
    obtain ⟨g1, g2, g3⟩ := drop_cons pst0 h
    obtain ⟨c1, c2, c3⟩ := chkL_cons hc
    obtain ⟨_, _, _, h4, _⟩ := c1
    simp only [List.length_cons] at hm h1 h2
    have hw : IntKind.wrap .i64 ((t : Int) + 1) = ((t + 1 : Nat) : Int) := wi64 (by omega) (by omega)
    have hb : -1099511627776 ≤ owt x y tk p ∧ owt x y tk p ≤ 1099511627776 := by unfold owt; split <;> split <;> omega
    have ih := owe_ref_go K a b x y tk b8 kx hL r (t + 1) m _ (acc + owt x y tk p) g3 (by omega) c3 (by omega) (by omega)
    have he : acc + (giv x y tk (p :: r) - giv y x tk (p :: r)) = acc + owt x y tk p + (giv x y tk r - giv y x tk r) := by
      simp only [giv, owt]; omega
    rw [he, ← ih, F21l0, B21l0, if_pos (show ltI (t : Int) (b.2.length : Int) = true from ltT (by omega)), if_pos (show inR (t : Int) (b.2.length : Int) = true from inT (by omega) (by omega))]
    simp only [nthD_pst, Int.toNat_natCast, g2, hw, eq_dec, le_dec]
    rw [wi64 (show -9223372036854775808 ≤ acc + p.2.2.1 by omega) (by omega), wi64 (show -9223372036854775808 ≤ acc - p.2.2.1 by omega) (by omega), wi64 (show -9223372036854775808 ≤ acc + p.2.2.1 - p.2.2.1 by omega) (by omega)]
    unfold owt
    repeat' split
    all_goals first
      | rfl
      | (exfalso; omega)
      | (congr 1; omega)
theorem Owes_ref (K : Nat) (hK : 20000 ≤ K) (b : Bk) (x y tk : Int) : F21 K b x y tk = some (owesE b x y tk) := by
  unfold F21
  refine bindS (chk_ref K hK b) ?_
  by_cases h : chkE b = 0
  · rw [if_neg (eqZ h)]
    refine bindS (in_ref K b x) (bindS (in_ref K b y) ?_)
    rcases Bool.eq_false_or_eq_true (inA b.1 x) with e | e
    · rw [e, if_neg (show ¬ (!true) = true by decide)]
      rcases Bool.eq_false_or_eq_true (inA b.1 y) with e' | e'
      · rw [e', if_neg (by decide), owesE_ok h e e']
        obtain ⟨_, hl, hc⟩ := chkE_ok h
        refine (owe_ref_go K b.1 b x y tk _ _ hl b.2 0 K 0 0 rfl (by omega) hc (by omega) (by omega)).trans ?_
        rw [Int.zero_add]
      · rw [e', if_pos (by decide), owesE_out h (.inr e')]
    · rw [e, if_pos (by decide), owesE_out h (.inl e)]
  · rw [if_pos (eqN h), owesE_no h]

end Go.Proofs.YtcjjagkcdepgdaaDoor
