/- Record: both sides; pleas compared; few. -/
import Derived.Test.YtkgampbboffhmaaDoorX10
set_option linter.unusedVariables false
set_option linter.unusedSimpArgs false
set_option maxRecDepth 100000
namespace Go.Proofs.YtkgampbboffhmaaDoor
open Go Go.Q

def recV (v : Bal) : List ByteArray := [txt v.1, txt v.2.1, txt (flg v.2.2.1), mkStr v.2.2.2]
def recL (b : List Int) (m : Plea) (now : Int) : List ByteArray := (mkStr b :: [m.1, m.2.1, m.2.2.1, m.2.2.2.1, now, (m.2.2.2.2.length : Int)].map txt) ++ m.2.2.2.2.flatMap recV
def recD (b : List Int) (m : Plea) (now : Int) : List Int := dig 151 (recL b m now)
def SealW (l : List Bal) : Prop := ∀ v ∈ l, v.2.2.2.length = 16

theorem recV_len (l : List Bal) : (l.flatMap recV).length = 4 * l.length := by
  induction l with
  | nil => rfl
  | cons v l ih => rw [List.flatMap_cons, List.length_append, List.length_cons, ih]; simp [recV]; omega
theorem take16 {s : List Int} (h : s.length = 16) : List.take (Int.toNat (((16 : Nat) : Int) - (0 : Int))) (List.drop (Int.toNat (0 : Int)) s) = s :=
  List.take_of_length_le (Nat.le_of_eq (by simpa using h))
theorem recV_i64 {v : Bal} (h : BalI v) : ∀ n ∈ [v.1, v.2.1, flg v.2.2.1], I64 n := by
  intro n hn
  simp only [List.mem_cons, List.not_mem_nil, or_false] at hn
  rcases hn with rfl | rfl | rfl
  · exact h.1
  · exact h.2
  · exact flg_i64 _

theorem record_go (K : Nat) (hK : 20 ≤ K) (l : List Bal) (hl : l.length ≤ 100) (hb : BalsI l) (hs : SealW l) (base : List ByteArray) (hB : base.length ≤ 1000) (b6) (kx) : ∀ (r t n : Nat), t + r = l.length → r < n →
    F25l0 K n (base ++ (l.take t).flatMap recV) l (l.length : Int) (t : Int) b6 kx = kx (base ++ l.flatMap recV) b6
  | 0, t, n, hh, hn => by
    obtain ⟨n, rfl⟩ : ∃ m, n = m + 1 := ⟨n - 1, by omega⟩
    rw [F25l0, B25l0, ltF (by omega), if_neg (by decide), List.take_of_length_le (by omega)]
  | r + 1, t, n, hh, hn => by
    obtain ⟨n, rfl⟩ : ∃ m, n = m + 1 := ⟨n - 1, by omega⟩
    have e1 : IntKind.wrap .i64 ((t : Int) + 1) = ((t + 1 : Nat) : Int) := by rw [wi64 (by omega) (by omega)]; omega
    have hv := bal_getD hb (t := t) (by omega)
    have hw := hs _ (getD_mem (d := z0) (show t < l.length by omega))
    have h1 := recV_len (l.take t)
    rw [List.length_take] at h1
    have ht := texts_own K [(l.getD t z0).1, (l.getD t z0).2.1, flg (l.getD t z0).2.2.1] (by simp) (by simp; omega) (recV_i64 hv)
    have ih := record_go K hK l hl hb hs base hB b6 kx r (t + 1) n (by omega) (by omega)
    rw [F25l0, B25l0, ltT (by omega), if_pos rfl, inT (by omega) (by omega), if_pos rfl, nthD_bal, flag_own, Option.bind_some]
    refine (congrArg (fun o => Option.bind o _) ht).trans ?_
    rw [Option.bind_some, take16 hw, roomT (by simp only [List.length_append, List.length_map, List.length_cons, List.length_nil]; omega), if_pos rfl, roomT (by simp only [List.length_append, List.length_map, List.length_cons, List.length_nil, List.length_replicate]; omega), if_pos rfl, e1]
    rw [getD_take (d := z0) (by omega), List.flatMap_append] at ih
    refine Eq.trans ?_ ih
    congr 1
    simp [recV]
theorem recL_i64 {m : Plea} {now : Int} (hm : PleaI m) (hn : I64 now) (hl : m.2.2.2.2.length ≤ 100) : ∀ n ∈ [m.1, m.2.1, m.2.2.1, m.2.2.2.1, now, (m.2.2.2.2.length : Int)], I64 n := by
  intro n h
  simp only [List.mem_cons, List.not_mem_nil, or_false] at h
  rcases h with rfl | rfl | rfl | rfl | rfl | rfl
  · exact hm.1
  · exact hm.2.1
  · exact hm.2.2.1
  · exact hm.2.2.2
  · exact hn
  · exact I64.nat (by omega)
theorem recL_size {b : List Int} {m : Plea} {now : Int} (hb : b.length = 16) (hs : SealW m.2.2.2.2) : ∀ s ∈ recL b m now, s.size ≤ 16 := by
  intro s h
  have ht : ∀ n, (txt n).size ≤ 16 := fun n => by have := txt_size n; omega
  rw [recL, List.mem_append, List.mem_cons, List.mem_map, List.mem_flatMap] at h
  rcases h with (rfl | ⟨n, _, rfl⟩) | ⟨v, hv, h⟩
  · rw [mkStr_size, hb]; omega
  · exact ht n
  · simp only [recV, List.mem_cons, List.not_mem_nil, or_false] at h
    rcases h with rfl | rfl | rfl | rfl
    · exact ht _
    · exact ht _
    · exact ht _
    · rw [mkStr_size, hs v hv]; omega
theorem recL_len (b : List Int) (m : Plea) (now : Int) : (recL b m now).length = 7 + 4 * m.2.2.2.2.length := by
  rw [recL, List.length_append, recV_len]; simp

theorem record_own (K : Nat) (hK : 200000 ≤ K) (b : List Int) (m : Plea) (now : Int) (hb : b.length = 16) (hm : PleaI m) (hn : I64 now) (hl : m.2.2.2.2.length ≤ 100) (hv : BalsI m.2.2.2.2) (hs : SealW m.2.2.2.2) :
    F25 K b m now = some (recD b m now) := by
  unfold F25
  have ht := texts_own K [m.1, m.2.1, m.2.2.1, m.2.2.2.1, now, (m.2.2.2.2.length : Int)] (by simp) (by simp; omega) (recL_i64 hm hn hl)
  refine (congrArg (fun o => Option.bind o _) ht).trans ?_
  rw [Option.bind_some, roomT (by simp), if_pos rfl, take16 hb]
  refine (record_go K (by omega) m.2.2.2.2 hl hv hs (mkStr b :: [m.1, m.2.1, m.2.2.1, m.2.2.2.1, now, (m.2.2.2.2.length : Int)].map txt) (by simp) (List.replicate 16 0) _ m.2.2.2.2.length 0 K (by omega) (by omega)).trans ?_
  show ((F46 K 151 (recL b m now)).bind fun y3 => some y3) = _
  rw [of_own K hK 151 _ 16 (recL_size hb hs) (by rw [recL_len]; omega)]
  rfl

theorem rrecord_go (K : Nat) (hK : 200 ≤ K) (m : Plea) (hl : m.2.2.2.2.length ≤ 100) (hb : BalsI m.2.2.2.2) (hs : SealW m.2.2.2.2) (base : List ByteArray) (hB : base.length ≤ 1000) (b6) (kx) : ∀ (r t n : Nat), t + r = m.2.2.2.2.length → r < n →
    F26l0 K n (base ++ (m.2.2.2.2.take t).flatMap recV) (t : Int) m b6 kx = kx (base ++ m.2.2.2.2.flatMap recV) b6
  | 0, t, n, hh, hn => by
    obtain ⟨n, rfl⟩ : ∃ m, n = m + 1 := ⟨n - 1, by omega⟩
    rw [F26l0, B26l0, ltF (by omega), if_neg (by decide), List.take_of_length_le (by omega)]
  | r + 1, t, n, hh, hn => by
    obtain ⟨n, rfl⟩ : ∃ m, n = m + 1 := ⟨n - 1, by omega⟩
    have e1 : IntKind.wrap .i64 ((t : Int) + 1) = ((t + 1 : Nat) : Int) := by rw [wi64 (by omega) (by omega)]; omega
    have hv := bal_getD hb (t := t) (by omega)
    have hw := hs _ (getD_mem (d := z0) (show t < m.2.2.2.2.length by omega))
    have h1 := recV_len (m.2.2.2.2.take t)
    rw [List.length_take] at h1
    have ht := texts_ref K [(m.2.2.2.2.getD t z0).1, (m.2.2.2.2.getD t z0).2.1, flg (m.2.2.2.2.getD t z0).2.2.1] (by simp) (by simp; omega) (recV_i64 hv)
    have ih := rrecord_go K hK m hl hb hs base hB b6 kx r (t + 1) n (by omega) (by omega)
    rw [F26l0, B26l0, ltT (by omega), if_pos rfl, inT (by omega) (by omega), if_pos rfl, nthD_bal, flag_ref, Option.bind_some]
    refine (congrArg (fun o => Option.bind o _) ht).trans ?_
    rw [Option.bind_some, roomT (by simp only [List.length_append, List.length_map, List.length_cons, List.length_nil]; omega), if_pos rfl, text_ok K (by omega) _ hw, Option.bind_some, roomT (by simp only [List.length_append, List.length_map, List.length_cons, List.length_nil, List.length_replicate]; omega), if_pos rfl, e1]
    rw [getD_take (d := z0) (by omega), List.flatMap_append] at ih
    refine Eq.trans ?_ ih
    congr 1
    simp [recV]
theorem record_ref (K : Nat) (hK : 200000 ≤ K) (b : List Int) (m : Plea) (now : Int) (hb : b.length = 16) (hm : PleaI m) (hn : I64 now) (hl : m.2.2.2.2.length ≤ 100) (hv : BalsI m.2.2.2.2) (hs : SealW m.2.2.2.2) :
    F26 K b m now = some (recD b m now) := by
  unfold F26
  have ht := texts_ref K [m.1, m.2.1, m.2.2.1, m.2.2.2.1, now, (m.2.2.2.2.length : Int)] (by simp) (by simp; omega) (recL_i64 hm hn hl)
  rw [text_ok K (by omega) _ hb, Option.bind_some]
  refine (congrArg (fun o => Option.bind o _) ht).trans ?_
  rw [Option.bind_some, roomT (by simp), if_pos rfl]
  refine (rrecord_go K (by omega) m hl hv hs (mkStr b :: [m.1, m.2.1, m.2.2.1, m.2.2.2.1, now, (m.2.2.2.2.length : Int)].map txt) (by simp) (List.replicate 16 0) _ m.2.2.2.2.length 0 K (by omega) (by omega)).trans ?_
  show ((F48 K 151 (recL b m now)).bind fun y3 => some y3) = _
  rw [of_ref K hK 151 _ 16 (recL_size hb hs) (by rw [recL_len]; omega)]
  rfl

/-! ### Pleas compared -/
instance decBal : DecidableEq Bal := inferInstanceAs (DecidableEq (Int × (Int × (Bool × List Int))))
instance decPlea : DecidableEq Plea := @instDecidableEqProd _ _ _ (@instDecidableEqProd _ _ _ (@instDecidableEqProd _ _ _ (@instDecidableEqProd _ _ _ (@instDecidableEqList _ decBal))))
theorem beq_bal (a b : Bal) : Ty.beq (Ty.pair (Ty.int IntKind.i64) (Ty.pair (Ty.int IntKind.i64) (Ty.pair Ty.bool (Ty.arr 16 (Ty.int IntKind.u8))))) a b = decide (a = b) := by
  obtain ⟨a1, a2, a3, a4⟩ := a
  obtain ⟨b1, b2, b3, b4⟩ := b
  show (eqI a1 b1 && (eqI a2 b2 && (Ty.beq .bool a3 b3 && Ty.beq (.arr 16 (.int .u8)) a4 b4))) = _
  rw [eqI_eq, eqI_eq, beq_bool, beq_arr]
  simp only [Prod.mk.injEq, Bool.decide_and]
theorem same_bals (K : Nat) (a b : Plea) (hab : a.2.2.2.2.length = b.2.2.2.2.length) (hl : a.2.2.2.2.length ≤ 100000) : ∀ (r t n : Nat), t + r = a.2.2.2.2.length → r < n →
    F23l0 K n (t : Int) a b (some true) = some (decide (a.2.2.2.2.drop t = b.2.2.2.2.drop t))
  | 0, t, n, hh, hn => by
    obtain ⟨n, rfl⟩ : ∃ m, n = m + 1 := ⟨n - 1, by omega⟩
    rw [F23l0, B23l0, ltF (by omega), if_neg (by decide), List.drop_of_length_le (by omega), List.drop_of_length_le (by omega)]
    rfl
  | r + 1, t, n, hh, hn => by
    obtain ⟨n, rfl⟩ : ∃ m, n = m + 1 := ⟨n - 1, by omega⟩
    have e1 : IntKind.wrap .i64 ((t : Int) + 1) = ((t + 1 : Nat) : Int) := by rw [wi64 (by omega) (by omega)]; omega
    have d1 : a.2.2.2.2.drop t = a.2.2.2.2.getD t z0 :: a.2.2.2.2.drop (t + 1) := by
      rw [List.drop_eq_getElem_cons (by omega), List.getD_eq_getElem?_getD, List.getElem?_eq_getElem (by omega)]; rfl
    have d2 : b.2.2.2.2.drop t = b.2.2.2.2.getD t z0 :: b.2.2.2.2.drop (t + 1) := by
      rw [List.drop_eq_getElem_cons (by omega), List.getD_eq_getElem?_getD, List.getElem?_eq_getElem (by omega)]; rfl
    rw [F23l0, B23l0, ltT (by omega), if_pos rfl, inT (by omega) (by omega), if_pos rfl, inT (by omega) (by omega), if_pos rfl, nthD_bal, nthD_bal, beq_bal, e1, d1, d2]
    by_cases h : a.2.2.2.2.getD t z0 = b.2.2.2.2.getD t z0
    · rw [decide_eq_true (show a.2.2.2.2.getD t z0 = _ from h), Bool.not_true, if_neg (by decide)]
      refine (same_bals K a b hab hl r (t + 1) n (by omega) (by omega)).trans ?_
      rw [h]; simp
    · rw [decide_eq_false (show ¬ a.2.2.2.2.getD t z0 = _ from h), Bool.not_false, if_pos rfl, decide_eq_false (fun e => h (List.cons.inj e).1)]
theorem plea_same (K : Nat) (a b : Plea) (hl : a.2.2.2.2.length ≤ 100000) (hK : 100000 < K) : F23 K a b = some (decide (a = b)) := by
  obtain ⟨a1, a2, a3, a4, a5⟩ := a
  obtain ⟨b1, b2, b3, b4, b5⟩ := b
  unfold F23
  simp only [eqI_eq, Bool.not_eq_true', decide_eq_false_iff_not]
  by_cases h1 : a1 = b1
  · rw [if_neg (fun h => h h1)]
    by_cases h2 : a2 = b2
    · rw [if_neg (fun h => h h2)]
      by_cases h3 : a3 = b3
      · rw [if_neg (fun h => h h3)]
        by_cases h4 : a4 = b4
        · rw [if_neg (fun h => h h4)]
          by_cases h5 : a5.length = b5.length
          · rw [if_neg (by omega)]
            refine (same_bals K (a1, a2, a3, a4, a5) (b1, b2, b3, b4, b5) h5 hl a5.length 0 K (by simp) (by simp at hl; omega)).trans ?_
            subst h1; subst h2; subst h3; subst h4
            simp
          · rw [if_pos (by omega), decide_eq_false (fun e => h5 (by cases e; rfl))]
        · rw [if_pos h4, decide_eq_false (fun e => h4 (by cases e; rfl))]
      · rw [if_pos h3, decide_eq_false (fun e => h3 (by cases e; rfl))]
    · rw [if_pos h2, decide_eq_false (fun e => h2 (by cases e; rfl))]
  · rw [if_pos h1, decide_eq_false (fun e => h1 (by cases e; rfl))]

/-! ### Few -/
def fewC (c : Cou) : Bool := decide (c.1.length ≤ 20) && (decide (c.2.1.length ≤ 20) && c.2.1.all fun s => decide (s.size ≤ 80))
theorem few_c_go (K : Nat) (c : Cou) (hl : c.2.1.length ≤ 20) : ∀ (r t n : Nat), t + r = c.2.1.length → r < n →
    F27l0 K n (t : Int) c (some true) = some ((c.2.1.drop t).all fun s => decide (s.size ≤ 80))
  | 0, t, n, hh, hn => by
    obtain ⟨n, rfl⟩ : ∃ m, n = m + 1 := ⟨n - 1, by omega⟩
    rw [F27l0, B27l0, ltF (by omega), if_neg (by decide), List.drop_of_length_le (by omega)]
    rfl
  | r + 1, t, n, hh, hn => by
    obtain ⟨n, rfl⟩ : ∃ m, n = m + 1 := ⟨n - 1, by omega⟩
    have e1 : IntKind.wrap .i64 ((t : Int) + 1) = ((t + 1 : Nat) : Int) := by rw [wi64 (by omega) (by omega)]; omega
    have d1 : c.2.1.drop t = c.2.1.getD t ByteArray.empty :: c.2.1.drop (t + 1) := by
      rw [List.drop_eq_getElem_cons (by omega), List.getD_eq_getElem?_getD, List.getElem?_eq_getElem (by omega)]; rfl
    rw [F27l0, B27l0, ltT (by omega), if_pos rfl, inT (by omega) (by omega), if_pos rfl, nthD_str, Int.toNat_natCast, e1, d1, List.all_cons]
    by_cases h : (c.2.1.getD t ByteArray.empty).size ≤ 80
    · rw [ltF (by omega), if_neg (by decide), decide_eq_true h, Bool.true_and]
      exact few_c_go K c hl r (t + 1) n (by omega) (by omega)
    · rw [ltT (by omega), if_pos rfl, decide_eq_false h, Bool.false_and]
theorem few_c (K : Nat) (hK : 30 ≤ K) (c : Cou) : F27 K c = some (fewC c) := by
  unfold F27 fewC
  by_cases h1 : c.1.length ≤ 20
  · rw [ltF (by omega), if_neg (by decide), decide_eq_true h1, Bool.true_and]
    by_cases h2 : c.2.1.length ≤ 20
    · rw [ltF (by omega), if_neg (by decide), decide_eq_true h2, Bool.true_and]
      exact few_c_go K c h2 c.2.1.length 0 K (by omega) (by omega)
    · rw [ltT (by omega), if_pos rfl, decide_eq_false h2, Bool.false_and]
  · rw [ltT (by omega), if_pos rfl, decide_eq_false h1, Bool.false_and]
theorem few_cm (K : Nat) (hK : 30 ≤ K) (c : Cou) (m : Plea) : F8 K c m = some (fewC c && decide (m.2.2.2.2.length ≤ 14)) := by
  unfold F8
  rw [show F27 K (c.1, (c.2.1, (c.2.2.1, c.2.2.2))) = _ from few_c K hK c, Option.bind_some]
  cases fewC c with
  | false => rfl
  | true =>
    rw [if_pos rfl, leI_eq, Bool.true_and]
    congr 1
    exact decide_eq_decide.2 (by omega)
theorem fewC_len {c : Cou} (h : fewC c = true) : c.1.length ≤ 20 := by
  rw [fewC, Bool.and_eq_true, decide_eq_true_eq] at h
  exact h.1

end Go.Proofs.YtkgampbboffhmaaDoor
