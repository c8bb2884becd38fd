/- Verify: both sides. -/
import Derived.Test.YtkgampbboffhmaaDoorX11
set_option linter.unusedVariables false
set_option linter.unusedSimpArgs false
set_option maxRecDepth 100000
namespace Go.Proofs.YtkgampbboffhmaaDoor
open Go Go.Q

abbrev Ext := Plea × (Int × List Int)
def e0 : Ext := (pl0, (0, List.replicate 16 0))
theorem nthD_ext (l : List Ext) (t : Nat) : nthD (Ty.pair (Ty.pair (Ty.int IntKind.i64) (Ty.pair (Ty.int IntKind.i64) (Ty.pair (Ty.int IntKind.i64) (Ty.pair (Ty.int IntKind.i64) (Ty.list (Ty.pair (Ty.int IntKind.i64) (Ty.pair (Ty.int IntKind.i64) (Ty.pair Ty.bool (Ty.arr 16 (Ty.int IntKind.u8)))))))))) (Ty.pair (Ty.int IntKind.i64) (Ty.arr 16 (Ty.int IntKind.u8)))) l (t : Int) = l.getD t e0 := by
  simp only [nthD, Int.toNat_natCast]; rfl

def ExtI (x : Ext) : Prop := PleaI x.1 ∧ BalsI x.1.2.2.2.2 ∧ SealW x.1.2.2.2.2 ∧ x.1.2.2.2.2.length ≤ 100 ∧ I64 x.2.1 ∧ x.2.2.length = 16

def lastI (l : List Ext) (o : Int) : Nat → Int
  | 0 => -1
  | k + 1 => if (l.getD k e0).1.1 = o then (k : Int) else lastI l o k
theorem lastI_lt (l : List Ext) (o : Int) : ∀ k, -1 ≤ lastI l o k ∧ lastI l o k < (k : Int)
  | 0 => ⟨Int.le_refl _, by simp [lastI]⟩
  | k + 1 => by
    have := lastI_lt l o k
    rw [lastI]; split <;> omega
def lastU (l : List Ext) (o : Int) (k : Nat) : Option Int := if lastI l o k < 0 then none else some (l.getD (lastI l o k).toNat e0).1.2.2.1
theorem lastU_succ (l : List Ext) (o : Int) (k : Nat) : lastU l o (k + 1) = if (l.getD k e0).1.1 = o then some (l.getD k e0).1.2.2.1 else lastU l o k := by
  rw [lastU, lastI]
  by_cases h : (l.getD k e0).1.1 = o
  · rw [if_pos h, if_pos h, if_neg (by omega), Int.toNat_natCast]
  · rw [if_neg h, if_neg h]; rfl
theorem mget_mput (v : Int) (k o : Int) : ∀ m : List (Int × Int), mget (mput m k v) o = if k = o then some v else mget m o
  | [] => by
    simp only [mput, mget, eqI_eq, decide_eq_true_eq]
    by_cases h : k = o
    · rw [if_pos h, if_pos h.symm]
    · rw [if_neg h, if_neg (fun e => h e.symm)]
  | (a, b) :: m => by
    simp only [mput, mget, eqI_eq, decide_eq_true_eq]
    by_cases h : k = a
    · subst h
      rw [if_pos rfl]
      simp only [mget, eqI_eq, decide_eq_true_eq]
      by_cases h : k = o
      · rw [if_pos h.symm, if_pos h]
      · rw [if_neg (fun e => h e.symm), if_neg h, if_neg (fun e => h e.symm)]
    · rw [if_neg h]
      simp only [mget, eqI_eq, decide_eq_true_eq]
      by_cases h' : o = a
      · subst h'; rw [if_pos rfl, if_neg h, if_pos rfl]
      · rw [if_neg h', mget_mput v k o m, if_neg h']

def extE (c : Cou) (l : List Ext) (t : Nat) (d : List Int) : Int :=
  if (l.getD t e0).2.2 = recD d (l.getD t e0).1 (l.getD t e0).2.1 then
    (if (decP c (l.getD t e0).1 (l.getD t e0).2.1).2 = 0 then
      (match lastU l (l.getD t e0).1.1 t with | some n => if n = (l.getD t e0).1.2.1 then 0 else 4 | none => 0)
    else (decP c (l.getD t e0).1 (l.getD t e0).2.1).2)
  else 23
def verFrom (c : Cou) (l : List Ext) : Nat → Nat → List Int → Int × Int
  | 0, _, _ => ((l.length : Int), 0)
  | r + 1, t, d => if extE c l t d = 0 then verFrom c l r (t + 1) (l.getD t e0).2.2 else ((t : Int), extE c l t d)
def verP (c : Cou) (l : List Ext) : Int × Int := if okC c = true then verFrom c l l.length 0 (List.replicate 16 0) else (0, 1)

theorem extE_own {R : Type} (c : Cou) (l : List Ext) (t : Nat) (d : List Int) (mp : List (Int × Int)) (hmp : ∀ o, mget mp o = lastU l o t) (r : Int → R) (k : R) :
    (if (!(decide ((l.getD t e0).2.2 = recD d (l.getD t e0).1 (l.getD t e0).2.1))) = true then r 23
      else if (!(eqI (decP c (l.getD t e0).1 (l.getD t e0).2.1).2 0)) = true then r (decP c (l.getD t e0).1 (l.getD t e0).2.1).2
      else if mhas mp (l.getD t e0).1.1 = true then (if (!(eqI (mgetD mp (l.getD t e0).1.1) (l.getD t e0).1.2.1)) = true then r 4 else k) else k) = if extE c l t d = 0 then k else r (extE c l t d) := by
  unfold extE mhas mgetD
  rw [hmp]
  by_cases h1 : (l.getD t e0).2.2 = recD d (l.getD t e0).1 (l.getD t e0).2.1
  · simp only [if_pos h1]
    rw [decide_eq_true h1, Bool.not_true, if_neg (by decide)]
    by_cases h2 : (decP c (l.getD t e0).1 (l.getD t e0).2.1).2 = 0
    · simp only [if_pos h2]
      rw [eqT h2, Bool.not_true, if_neg (by decide)]
      cases hu : lastU l (l.getD t e0).1.1 t with
      | none => rw [if_neg (by simp)]; simp
      | some n =>
        by_cases h3 : n = (l.getD t e0).1.2.1
        · simp [eqI_eq, h3]
        · simp only [Option.isSome_some, if_true, Option.getD_some, eqI_eq, h3, decide_false, Bool.not_false, if_false]
          rw [if_neg (by decide)]
    · simp only [if_neg h2]
      rw [eqI_eq, decide_eq_false h2, Bool.not_false, if_pos rfl]
  · simp only [if_neg h1]
    rw [decide_eq_false h1, Bool.not_false, if_pos rfl]; rfl

theorem verify_go (K : Nat) (hK : 200000 ≤ K) (c : Cou) (hn : c.1.length ≤ 100000) (l : List Ext) (hl : l.length ≤ 1000) (hx : ∀ x ∈ l, ExtI x) (kx) (hkx : kx l = some ((l.length : Int), (0 : Int))) : ∀ (r t n : Nat) (d : List Int) (mp : List (Int × Int)), t + r = l.length → r < n → d.length = 16 →
    (∀ o, mget mp o = lastU l o t) → F28l0 K n l l (l.length : Int) (t : Int) c d mp kx = some (verFrom c l r t d)
  | 0, t, n, d, mp, hh, hn, hd, hm => by
    obtain ⟨n, rfl⟩ : ∃ m, n = m + 1 := ⟨n - 1, by omega⟩
    rw [F28l0, B28l0, ltF (by omega), if_neg (by decide), hkx]
    rfl
  | r + 1, t, n, d, mp, hh, hn', hd, hm => by
    obtain ⟨n, rfl⟩ : ∃ m, n = m + 1 := ⟨n - 1, by omega⟩
    have e1 : IntKind.wrap .i64 ((t : Int) + 1) = ((t + 1 : Nat) : Int) := by rw [wi64 (by omega) (by omega)]; omega
    obtain ⟨x1, x2, x3, x4, x5, x6⟩ := hx _ (getD_mem (d := e0) (show t < l.length by omega))
    have ih := verify_go K hK c hn l hl hx kx hkx r (t + 1) n (l.getD t e0).2.2 (mput mp (l.getD t e0).1.1 (l.getD t e0).1.2.2.1) (by omega) (by omega) x6
      (fun o => by rw [mget_mput, lastU_succ, hm])
    rw [F28l0, B28l0, ltT (by omega), if_pos rfl, inT (by omega) (by omega), if_pos rfl, nthD_ext]
    rw [show F25 K d ((l.getD t e0).1.1, ((l.getD t e0).1.2.1, ((l.getD t e0).1.2.2.1, ((l.getD t e0).1.2.2.2.1, (l.getD t e0).1.2.2.2.2)))) (l.getD t e0).2.1 = _ from record_own K hK d (l.getD t e0).1 (l.getD t e0).2.1 hd x1 x5 x4 x2 x3, Option.bind_some]
    rw [show F16 K (c.1, (c.2.1, (c.2.2.1, c.2.2.2))) ((l.getD t e0).1.1, ((l.getD t e0).1.2.1, ((l.getD t e0).1.2.2.1, ((l.getD t e0).1.2.2.2.1, (l.getD t e0).1.2.2.2.2)))) (l.getD t e0).2.1 = _ from Decide_own K hK c hn (l.getD t e0).1 (l.getD t e0).2.1 (by omega) x1 x2, Option.bind_some, beq_arr, e1]
    rw [verFrom]
    refine (extE_own c l t d mp hm (fun e => some ((t : Int), e)) _).trans ?_
    by_cases he : extE c l t d = 0
    · rw [if_pos he, if_pos he]; exact ih
    · rw [if_neg he, if_neg he]

theorem Verify_own (K : Nat) (hK : 200000 ≤ K) (c : Cou) (hn : c.1.length ≤ 100000) (l : List Ext) (hl : l.length ≤ 1000) (hx : ∀ x ∈ l, ExtI x) : F28 K c l = some (verP c l) := by
  unfold F28 verP
  rw [show F19 K (c.1, (c.2.1, (c.2.2.1, c.2.2.2))) = _ from check_own K (by omega) c hn, Option.bind_some]
  by_cases hc : okC c = true
  · rw [chk_ok hc, nn0, if_neg (by decide), if_pos hc]
    exact verify_go K hK c hn l hl hx _ rfl l.length 0 K _ _ (by omega) (by omega) (by simp) (fun o => by simp [lastU, lastI, mget])
  · rw [chk_no hc, if_neg hc]; rfl

theorem lastI_go (K : Nat) (c : Cou) (b4 : Int × Int) (b6 : List Int) (l : List Ext) (hl : l.length ≤ 1000) (k : Nat) (hk : k < l.length) (kx) : ∀ (r t n : Nat), t + r = k → r < n →
    F29l2 K n l (k : Int) (lastI l (l.getD k e0).1.1 t) (t : Int) c b4 b6 kx = kx l (k : Int) (lastI l (l.getD k e0).1.1 k) c b4 b6
  | 0, t, n, hh, hn => by
    obtain ⟨n, rfl⟩ : ∃ m, n = m + 1 := ⟨n - 1, by omega⟩
    obtain rfl : t = k := by omega
    rw [F29l2, B29l2, ltF (by omega), if_neg (by decide)]
  | r + 1, t, n, hh, hn => by
    obtain ⟨n, rfl⟩ : ∃ m, n = m + 1 := ⟨n - 1, by omega⟩
    have e1 : IntKind.wrap .i64 ((t : Int) + 1) = ((t + 1 : Nat) : Int) := by rw [wi64 (by omega) (by omega)]; omega
    have ih := lastI_go K c b4 b6 l hl k hk kx r (t + 1) n (by omega) (by omega)
    rw [F29l2, B29l2, ltT (by omega), if_pos rfl, inT (by omega) (by omega), if_pos rfl, inT (by omega) (by omega), if_pos rfl, nthD_ext, nthD_ext, e1, eqI_eq]
    refine Eq.trans ?_ ih
    rw [lastI]
    by_cases h : (l.getD t e0).1.1 = (l.getD k e0).1.1
    · rw [decide_eq_true (show (l.getD t e0).1.1 = _ from h), if_pos rfl, if_pos h]
    · rw [decide_eq_false (show ¬ (l.getD t e0).1.1 = _ from h), if_neg (by decide), if_neg h]

theorem rverify_go (K : Nat) (hK : 200000 ≤ K) (c : Cou) (hn : c.1.length ≤ 100000) (b4 : Int × Int) (l : List Ext) (hl : l.length ≤ 1000) (hx : ∀ x ∈ l, ExtI x) (kx) (hkx : ∀ b, kx l b = some ((l.length : Int), (0 : Int))) : ∀ (r t n : Nat) (d : List Int), t + r = l.length → r < n → d.length = 16 →
    F29l0 K n l (t : Int) c b4 d kx = some (verFrom c l r t d)
  | 0, t, n, d, hh, hn, hd => by
    obtain ⟨n, rfl⟩ : ∃ m, n = m + 1 := ⟨n - 1, by omega⟩
    rw [F29l0, B29l0, ltF (by omega), if_neg (by decide), hkx]
    rfl
  | r + 1, t, n, d, hh, hn', hd => by
    obtain ⟨n, rfl⟩ : ∃ m, n = m + 1 := ⟨n - 1, by omega⟩
    have e1 : IntKind.wrap .i64 ((t : Int) + 1) = ((t + 1 : Nat) : Int) := by rw [wi64 (by omega) (by omega)]; omega
    obtain ⟨x1, x2, x3, x4, x5, x6⟩ := hx _ (getD_mem (d := e0) (show t < l.length by omega))
    have ih := rverify_go K hK c hn b4 l hl hx kx hkx r (t + 1) n (l.getD t e0).2.2 (by omega) (by omega) x6
    rw [F29l0, B29l0, ltT (by omega), if_pos rfl, inT (by omega) (by omega), if_pos rfl, if_pos rfl, nthD_ext]
    rw [show F26 K d ((l.getD t e0).1.1, ((l.getD t e0).1.2.1, ((l.getD t e0).1.2.2.1, ((l.getD t e0).1.2.2.2.1, (l.getD t e0).1.2.2.2.2)))) (l.getD t e0).2.1 = _ from record_ref K hK d (l.getD t e0).1 (l.getD t e0).2.1 hd x1 x5 x4 x2 x3, Option.bind_some, if_pos rfl, beq_arr, verFrom]
    unfold extE
    by_cases h1 : recD d (l.getD t e0).1 (l.getD t e0).2.1 = (l.getD t e0).2.2
    · rw [decide_eq_true (show recD d (l.getD t e0).1 (l.getD t e0).2.1 = _ from h1), Bool.not_true, if_neg (by decide), if_pos rfl, if_pos rfl]
      simp only [if_pos h1.symm]
      rw [show F17 K (c.1, (c.2.1, (c.2.2.1, c.2.2.2))) ((l.getD t e0).1.1, ((l.getD t e0).1.2.1, ((l.getD t e0).1.2.2.1, ((l.getD t e0).1.2.2.2.1, (l.getD t e0).1.2.2.2.2)))) (l.getD t e0).2.1 = _ from Decide_ref K hK c hn (l.getD t e0).1 (l.getD t e0).2.1 (by omega) x1 x2, Option.bind_some]
      by_cases h2 : (decP c (l.getD t e0).1 (l.getD t e0).2.1).2 = 0
      · rw [eqT h2, Bool.not_true, if_neg (by decide)]
        simp only [if_pos h2]
        refine (lastI_go K c b4 d l hl t (by omega) _ t 0 K (by omega) (by omega)).trans ?_
        have hb := lastI_lt l (l.getD t e0).1.1 t
        unfold lastU
        by_cases h3 : lastI l (l.getD t e0).1.1 t < 0
        · rw [leF h3, if_neg (by decide), inT (by omega) (by omega), if_pos rfl, nthD_ext, e1]
          simp only [if_pos h3, if_true]
          exact ih
        · obtain ⟨j, hj⟩ : ∃ j : Nat, lastI l (l.getD t e0).1.1 t = (j : Int) := ⟨(lastI l (l.getD t e0).1.1 t).toNat, by omega⟩
          simp only [if_neg h3]
          rw [hj] at hb ⊢
          rw [leT (by omega), if_pos rfl, inT (by omega) (by omega), if_pos rfl, inT (by omega) (by omega), if_pos rfl, nthD_ext, nthD_ext, e1, Int.toNat_natCast]
          by_cases h4 : (l.getD j e0).1.2.2.1 = (l.getD t e0).1.2.1
          · rw [eqT h4, Bool.not_true, if_neg (by decide)]
            simp only [if_pos h4, if_true]
            exact ih
          · rw [eqI_eq, decide_eq_false h4, Bool.not_false, if_pos rfl]
            simp only [if_neg h4]
            rw [if_neg (by decide)]
      · rw [eqI_eq, decide_eq_false h2, Bool.not_false, if_pos rfl]
        simp only [if_neg h2]
    · rw [decide_eq_false (show ¬ recD d (l.getD t e0).1 (l.getD t e0).2.1 = _ from h1), Bool.not_false, if_pos rfl]
      simp only [if_neg (fun e => h1 (Eq.symm e))]
      rw [if_neg (by decide)]

theorem Verify_ref (K : Nat) (hK : 200000 ≤ K) (c : Cou) (hn : c.1.length ≤ 100000) (l : List Ext) (hl : l.length ≤ 1000) (hx : ∀ x ∈ l, ExtI x) : F29 K c l = some (verP c l) := by
  unfold F29 verP
  rw [show F20 K (c.1, (c.2.1, (c.2.2.1, c.2.2.2))) = _ from check_ref K (by omega) c hn, Option.bind_some]
  by_cases hc : okC c = true
  · rw [chk_ok hc, nn0, if_neg (by decide), if_pos hc]
    exact rverify_go K hK c hn _ l hl hx _ (fun _ => rfl) l.length 0 K _ (by omega) (by omega) (by simp)
  · rw [chk_no hc, if_neg hc]; rfl

end Go.Proofs.YtkgampbboffhmaaDoor
