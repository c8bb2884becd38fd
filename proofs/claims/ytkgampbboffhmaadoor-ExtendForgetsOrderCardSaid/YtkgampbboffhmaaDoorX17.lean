/- The law of the quorum. -/
import Derived.Test.YtkgampbboffhmaaDoorX16
set_option linter.unusedVariables false
set_option linter.unusedSimpArgs false
set_option maxRecDepth 100000
namespace Go.Proofs.YtkgampbboffhmaaDoor
open Go Go.Q

abbrev Tri := Int × (Int × (Bool × Int))
def t0 : Tri := (0, (0, (false, 0)))
theorem nthD_try (l : List Tri) (t : Nat) : nthD (Ty.pair (Ty.int IntKind.i64) (Ty.pair (Ty.int IntKind.u8) (Ty.pair Ty.bool (Ty.int IntKind.u8)))) l (t : Int) = l.getD t t0 := by
  simp only [nthD, Int.toNat_natCast]; rfl
def TriI (x : Tri) : Prop := I64 x.1 ∧ (0 ≤ x.2.1 ∧ x.2.1 ≤ 255) ∧ (0 ≤ x.2.2.2 ∧ x.2.2.2 ≤ 255)

theorem mac_len (k : List Int) (l : List ByteArray) : (mac k l).length = 16 := by rw [mac, List.length_take, hmac_len]; rfl
theorem mac_byt (k : List Int) (l : List ByteArray) : Byt (mac k l) := (hmac_byt _ _).take _
theorem sealV_len (c : Cou) (m : Plea) (h t : Int) (y : Bool) : (sealV c m h t y).length = 16 := mac_len _ _
theorem xor_ne : ∀ x : Nat, x < 256 → ∀ j : Nat, j < 8 → bitXor .u8 (x : Int) (shlI .u8 1 (j : Int)) ≠ (x : Int) := by decide +kernel
theorem flip_ne {s : List Int} (hs : s.length = 16) (hb : Byt s) {f : Int} (hf : 0 ≤ f ∧ f ≤ 255) :
    List.set s (Int.toNat (Int.tmod f 16)) (bitXor .u8 (nthD (Ty.int IntKind.u8) s (Int.tmod f 16)) (shlI .u8 1 (Int.tmod f 8))) ≠ s := by
  have e1 : Int.tmod f 16 = ((f.toNat % 16 : Nat) : Int) := by rw [Int.tmod_eq_emod_of_nonneg hf.1]; omega
  have e2 : Int.tmod f 8 = ((f.toNat % 8 : Nat) : Int) := by rw [Int.tmod_eq_emod_of_nonneg hf.1]; omega
  rw [e1, e2, nthD_int, Int.toNat_natCast]
  have hx := hb.getD (f.toNat % 16)
  intro e
  have := congrArg (fun l => List.getD l (f.toNat % 16) 0) e
  simp only [List.getD_eq_getElem?_getD, List.getElem?_set, if_true] at this
  rw [if_pos (by omega), Option.getD_some, ← List.getD_eq_getElem?_getD] at this
  refine xor_ne (s.getD (f.toNat % 16) 0).toNat (by omega) (f.toNat % 8) (by omega) ?_
  rw [show (((s.getD (f.toNat % 16) 0).toNat : Nat) : Int) = s.getD (f.toNat % 16) 0 by omega]
  exact this

structure QInv (c : Cou) (la un : Int) (t : Nat) (tick yes : Int) (m : Plea) (vs : List Bool) : Prop where
  right : rightB c m = true
  la : m.2.1 = la
  un : m.2.2.1 = un
  op : m.2.2.2.1 ≤ tick
  lv : lastV m ≤ tick
  tk : 0 ≤ tick ∧ tick ≤ 100000 + 300 * (t : Int)
  ye : yes = yesN m.2.2.2.2
  le : m.2.2.2.2.length ≤ t
  bi : BalsI m.2.2.2.2
  pi : PleaI m
  vl : vs.length = 12
  vo : ∀ h : Nat, h < 12 → (vs.getD h false = true ↔ 0 ≤ seat (houses m.2.2.2.2) (h : Int))

theorem QInv.no {c : Cou} {la un : Int} {t : Nat} {tick yes : Int} {m : Plea} {vs : List Bool} (q : QInv c la un t tick yes m vs) {d : Int} (hd : 0 ≤ d ∧ d ≤ 255) : QInv c la un (t + 1) (tick + d) yes m vs := by
  have h1 := q.op
  have h2 := q.lv
  have h3 := q.tk
  have h4 := q.le
  exact ⟨q.right, q.la, q.un, by omega, by omega, by omega, q.ye, by omega, q.bi, q.pi, q.vl, q.vo⟩

theorem QInv.yes {c : Cou} {la un : Int} {t : Nat} (ht : t ≤ 100) {tick yes : Int} {m : Plea} {vs : List Bool} (q : QInv c la un t tick yes m vs) {d : Int} (hd : 0 ≤ d ∧ d ≤ 255) {h : Int} {y : Bool} {s : List Int} (hh : 0 ≤ h ∧ h < 12) (hi : I64 h)
    (hv : votE c m (h, (tick + d, (y, s))) = 0) : QInv c la un (t + 1) (tick + d) (yes + flg y) (addV m (h, (tick + d, (y, s)))) (List.set vs (Int.toNat h) true) := by
  have h1 := q.op
  have h2 := q.lv
  have h3 := q.tk
  have h4 := q.le
  refine ⟨right_snoc q.right hv, q.la, q.un, Int.le_trans h1 (by omega), ?_, by omega, ?_, ?_, ?_, q.pi, by rw [List.length_set]; exact q.vl, ?_⟩
  · rw [lastV_snoc]; show max m.2.2.2.1 (tick + d) ≤ _; omega
  · show _ = yesN (m.2.2.2.2 ++ [_]); rw [yesN_snoc, q.ye]
  · show (m.2.2.2.2 ++ [_]).length ≤ _; rw [List.length_append, List.length_singleton]; omega
  · intro v hm
    rcases List.mem_append.1 hm with hm | hm
    · exact q.bi v hm
    · rw [List.mem_singleton] at hm; subst hm; exact ⟨hi, ⟨by show _ ≤ tick + d; omega, by show tick + d ≤ _; omega⟩⟩
  · intro j hj
    have e : (addV m (h, (tick + d, (y, s)))).2.2.2.2 = m.2.2.2.2 ++ [(h, (tick + d, (y, s)))] := rfl
    rw [e, houses_snoc, seat_iff, List.mem_append, List.mem_singleton, ← seat_iff, ← q.vo j hj, List.getD_eq_getElem?_getD, List.getElem?_set]
    by_cases hjh : h.toNat = j
    · rw [if_pos hjh, if_pos (by rw [q.vl]; omega)]
      simp only [Option.getD_some, true_iff]
      exact .inr (by show (j : Int) = h; omega)
    · rw [if_neg hjh, ← List.getD_eq_getElem?_getD]
      constructor
      · exact .inl
      · rintro (h | h)
        · exact h
        · exact absurd (show (j : Int) = _ from h) (by omega)

theorem quorum_go (K : Nat) (hK : 200000 ≤ K) (c : Cou) (hc : okC c = true) (hn : c.1.length ≤ 20) (l : List Tri) (hl : l.length ≤ 20) (hx : ∀ x ∈ l, TriI x) (la aft un : Int) (hla : 0 ≤ la ∧ la ≤ 65535) (kx) : ∀ (r t n : Nat) (tick yes : Int) (m : Plea) (vs : List Bool), t + r = l.length → r < n → QInv c la un t tick yes m vs →
    ∃ tick' yes' m' vs', QInv c la un l.length tick' yes' m' vs' ∧ F5l0 K n la l aft un tick yes (t : Int) c m vs kx = kx la aft un tick' yes' c m'
  | 0, t, n, tick, yes, m, vs, hh, hn', q => by
    obtain ⟨n, rfl⟩ : ∃ m, n = m + 1 := ⟨n - 1, by omega⟩
    obtain rfl : t = l.length := by omega
    refine ⟨tick, yes, m, vs, q, ?_⟩
    rw [F5l0, B5l0, ltF (by omega), if_neg (by decide)]
  | r + 1, t, n, tick, yes, m, vs, hh, hn', q => by
    obtain ⟨n, rfl⟩ : ∃ m, n = m + 1 := ⟨n - 1, by omega⟩
    have e1 : IntKind.wrap .i64 ((t : Int) + 1) = ((t + 1 : Nat) : Int) := by rw [wi64 (by omega) (by omega)]; omega
    obtain ⟨hi, hd, hf⟩ := hx _ (getD_mem (d := t0) (show t < l.length by omega))
    obtain ⟨x, ex⟩ : ∃ x, l.getD t t0 = x := ⟨_, rfl⟩
    rw [ex] at hi hd hf
    have h1 := q.op
    have h2 := q.lv
    have h3 := q.tk
    have h4 := q.le
    have hin : inR (t : Int) ((l.length : Nat) : Int) = true := inT (by omega) (by omega)
    have etk : IntKind.wrap .i64 (tick + IntKind.wrap .i64 x.2.1) = tick + x.2.1 := by rw [wi64 (x := x.2.1) (by omega) (by omega), wi64 (by omega) (by omega)]
    have ela : IntKind.wrap .i64 la = la := wi64 (by omega) (by omega)
    have hti : I64 (tick + x.2.1) := ⟨by omega, by omega⟩
    have hbl := ballot_own K hK c (by omega) m x.1 (tick + x.2.1) x.2.2.1 q.pi hi hti
    have hst := seat_ref K c x.1 (by omega) (by omega)
    have ey : ∀ b : Bool, yesN m.2.2.2.2 + flg b = IntKind.wrap .i64 (yesN m.2.2.2.2 + flg b) := fun b => by
      have := yesN_le m.2.2.2.2
      have := flg_le b
      rw [wi64 (by omega) (by omega)]
    have same : F23 K m m = some true := (plea_same K m m (by omega) (by omega)).trans (congrArg some (decide_eq_true rfl))
    -- what is done with a vote that is not accepted
    have no : ∀ v : Bal, BalI v → votE c m v ≠ 0 → F14 K c m v = some (m, votE c m v) := fun v hv he =>
      (Vote_own K hK c (by omega) m v (by omega) q.pi q.bi hv).trans (congrArg some (voteP_no q.right he))
    have fin : ∀ {G : Option Bool}, G = F5l0 K n la l aft un (tick + x.2.1) yes ((t + 1 : Nat) : Int) c m vs kx →
        ∃ tick' yes' m' vs', QInv c la un l.length tick' yes' m' vs' ∧ G = kx la aft un tick' yes' c m' := fun {G} hG => by
      obtain ⟨a1, a2, a3, a4, a5, a6⟩ := quorum_go K hK c hc hn l hl hx la aft un hla kx r (t + 1) n (tick + x.2.1) yes m vs (by omega) (by omega) (q.no hd)
      exact ⟨a1, a2, a3, a4, a5, hG.trans a6⟩
    rw [F5l0, B5l0]
    simp only [nthD_try, ex, hin, e1, etk, ela, if_true]
    rw [ltT (by omega), if_pos rfl]
    have hin12 : 0 ≤ seat c.1 x.1 → 0 ≤ x.1 ∧ x.1 < 12 := fun h => okC_range hc ((seat_iff _ _).1 h)
    have evo : 0 ≤ seat c.1 x.1 → nthD Ty.bool vs (maxI 0 (minI x.1 11)) = decide (0 ≤ seat (houses m.2.2.2.2) x.1) := fun h => by
      obtain ⟨a1, a2⟩ := hin12 h
      have e : maxI 0 (minI x.1 11) = x.1 := by simp only [maxI, minI]; split <;> split <;> omega
      rw [e]
      show vs.getD x.1.toNat false = _
      have := q.vo x.1.toNat (by omega)
      rw [show ((x.1.toNat : Nat) : Int) = x.1 by omega] at this
      rw [Bool.eq_iff_iff, this, decide_eq_true_eq]
    have emx : 0 ≤ seat c.1 x.1 → inR (maxI 0 (minI x.1 11)) ((12 : Nat) : Int) = true := fun h => by
      obtain ⟨a1, a2⟩ := hin12 h
      exact inT (by simp only [maxI, minI]; split <;> split <;> omega) (by simp only [maxI, minI]; split <;> split <;> omega)
    by_cases hfo : 0 < x.2.2.2
    · -- the seal is changed
      refine fin ?_
      refine bindS hbl ?_
      obtain ⟨s, es⟩ : ∃ s, (sealP c m x.1 (tick + x.2.1) x.2.2.1).1 = s := ⟨_, rfl⟩
      have i16 : inR (Int.tmod x.2.2.2 16) ((16 : Nat) : Int) = true := by
        rw [Int.tmod_eq_emod_of_nonneg hf.1]; exact inT (by omega) (by omega)
      have i8 : ltI (Int.tmod x.2.2.2 8) 0 = false := by
        rw [Int.tmod_eq_emod_of_nonneg hf.1]; exact ltF (by omega)
      rw [ltT hfo, if_pos rfl, i16, if_pos rfl, i8, if_neg (by decide), if_pos rfl]
      obtain ⟨v, ev⟩ : ∃ v : Bal, v = (x.1, (tick + x.2.1, (x.2.2.1, List.set (sealP c m x.1 (tick + x.2.1) x.2.2.1).1 (Int.toNat (Int.tmod x.2.2.2 16)) (bitXor .u8 (nthD (Ty.int IntKind.u8) (sealP c m x.1 (tick + x.2.1) x.2.2.1).1 (Int.tmod x.2.2.2 16)) (shlI .u8 1 (Int.tmod x.2.2.2 8)))))) := ⟨_, rfl⟩
      have hvi : BalI v := by rw [ev]; exact ⟨hi, hti⟩
      have hne : votE c m v ≠ 0 := by
        by_cases a1 : seat c.1 x.1 < 0
        · rw [votE_duty (by rw [ev]; exact a1)]; decide
        by_cases a2 : 0 ≤ seat (houses m.2.2.2.2) x.1
        · rw [votE_twice (by rw [ev]; show 0 ≤ seat c.1 x.1; omega) (by rw [ev]; exact a2)]; decide
        by_cases a3 : m.2.1 < tick + x.2.1
        · rw [votE_dead (by rw [ev]; show 0 ≤ seat c.1 x.1; omega) (by rw [ev]; show seat _ x.1 < 0; omega) (by rw [ev]; exact a3)]; decide
        rw [votE_last (by rw [ev]; show 0 ≤ seat c.1 x.1; omega) (by rw [ev]; show seat _ x.1 < 0; omega) (by rw [ev]; show tick + x.2.1 ≤ _; omega) (by rw [ev]; show _ ≤ tick + x.2.1; omega), if_neg]
        · decide
        · rw [ev, sealP_in hc (by omega)]
          exact flip_ne (sealV_len _ _ _ _ _) (mac_byt _ _) hf
      have hvo := no v hvi hne
      refine bindS hst ?_
      have tail : ∀ {G : Option Bool}, G = F5l0 K n la l aft un (tick + x.2.1) yes ((t + 1 : Nat) : Int) c m vs kx → ((F14 K c m v).bind fun y2 => (if (!(Ty.beq Ty.bool (eqI y2.2 0) false)) = true then (some false) else ((F23 K y2.1 m).bind fun y3 => if (!y3) = true then some false else F5l0 K n la l aft un (tick + x.2.1) yes ((t + 1 : Nat) : Int) c y2.1 vs kx))) = F5l0 K n la l aft un (tick + x.2.1) yes ((t + 1 : Nat) : Int) c m vs kx := fun {G} hG => by
        refine bindS hvo ?_
        rw [eqI_eq, decide_eq_false (show ¬ votE c m v = 0 from hne), if_neg (by decide)]
        refine bindS same ?_
        rw [if_neg (by decide)]
      subst ev
      by_cases a1 : seat c.1 x.1 < 0
      · rw [leF a1, if_neg (by decide)]
        exact tail rfl
      rw [leT (by omega), if_pos rfl, emx (by omega), if_pos rfl, evo (by omega)]
      by_cases a2 : 0 ≤ seat (houses m.2.2.2.2) x.1
      · rw [decide_eq_true a2, if_neg (by decide)]
        exact tail rfl
      rw [decide_eq_false a2, if_pos (by decide)]
      by_cases a3 : tick + x.2.1 ≤ la
      · rw [leT a3, if_pos rfl]
        have e0 : eqI x.2.2.2 0 = false := eqF (.inr hfo)
        rw [e0]
        refine bindS hvo ?_
        rw [eqI_eq, decide_eq_false (show ¬ votE c m _ = 0 from hne), if_neg (by decide)]
        refine bindS same ?_
        rw [if_neg (by decide), if_neg (by decide)]
      · rw [leF (by omega), if_neg (by decide)]
        exact tail rfl
    · -- the seal is as it was
      have hf0 : x.2.2.2 = 0 := by omega
      have e0 : eqI x.2.2.2 0 = true := eqT hf0
      obtain ⟨v, ev⟩ : ∃ v : Bal, v = (x.1, (tick + x.2.1, (x.2.2.1, (sealP c m x.1 (tick + x.2.1) x.2.2.1).1))) := ⟨_, rfl⟩
      have hvi : BalI v := by rw [ev]; exact ⟨hi, hti⟩
      have tail : votE c m v ≠ 0 → ((F14 K c m v).bind fun y2 => (if (!(Ty.beq Ty.bool (eqI y2.2 0) false)) = true then (some false) else ((F23 K y2.1 m).bind fun y3 => if (!y3) = true then some false else F5l0 K n la l aft un (tick + x.2.1) yes ((t + 1 : Nat) : Int) c y2.1 vs kx))) = F5l0 K n la l aft un (tick + x.2.1) yes ((t + 1 : Nat) : Int) c m vs kx := fun hne => by
        refine bindS (no v hvi hne) ?_
        rw [eqI_eq, decide_eq_false (show ¬ votE c m v = 0 from hne), if_neg (by decide)]
        refine bindS same ?_
        rw [if_neg (by decide)]
      have d1 : seat c.1 x.1 < 0 → votE c m v ≠ 0 := fun a1 => by rw [votE_duty (by rw [ev]; exact a1)]; decide
      have d2 : 0 ≤ seat c.1 x.1 → 0 ≤ seat (houses m.2.2.2.2) x.1 → votE c m v ≠ 0 := fun a1 a2 => by rw [votE_twice (by rw [ev]; exact a1) (by rw [ev]; exact a2)]; decide
      have d3 : 0 ≤ seat c.1 x.1 → seat (houses m.2.2.2.2) x.1 < 0 → m.2.1 < tick + x.2.1 → votE c m v ≠ 0 := fun a1 a2 a3 => by rw [votE_dead (by rw [ev]; exact a1) (by rw [ev]; exact a2) (by rw [ev]; exact a3)]; decide
      have d4 : 0 ≤ seat c.1 x.1 → seat (houses m.2.2.2.2) x.1 < 0 → tick + x.2.1 ≤ m.2.1 → votE c m v = 0 := fun a1 a2 a3 => by
        rw [votE_last (by rw [ev]; exact a1) (by rw [ev]; exact a2) (by rw [ev]; exact a3) (by rw [ev]; show _ ≤ tick + x.2.1; omega), if_pos]
        rw [ev, sealP_in hc a1]
      have hq := q.la
      rw [ltF (by omega)]
      by_cases a1 : seat c.1 x.1 < 0
      · refine fin ?_
        refine bindS hbl ?_
        rw [if_neg (by decide)]
        refine bindS hst ?_
        rw [leF a1, if_neg (by decide)]
        subst ev
        exact tail (d1 a1)
      by_cases a2 : 0 ≤ seat (houses m.2.2.2.2) x.1
      · refine fin ?_
        refine bindS hbl ?_
        rw [if_neg (by decide)]
        refine bindS hst ?_
        rw [leT (by omega), if_pos rfl, emx (by omega), if_pos rfl, evo (by omega), decide_eq_true a2, if_neg (by decide)]
        subst ev
        exact tail (d2 (by omega) a2)
      by_cases a3 : tick + x.2.1 ≤ la
      · have hv0 := d4 (by omega) (by omega) (by omega)
        have h12 := hin12 (by omega)
        have hvo : F14 K c m v = some (addV m v, 0) := (Vote_own K hK c (by omega) m v (by omega) q.pi q.bi hvi).trans (congrArg some (voteP_ok q.right hv0))
        subst ev
        obtain ⟨b1, b2, b3, b4, b5, b6⟩ := quorum_go K hK c hc hn l hl hx la aft un hla kx r (t + 1) n (tick + x.2.1) (yes + flg x.2.2.1) (addV m _) (List.set vs (Int.toNat x.1) true) (by omega) (by omega) (QInv.yes (by omega) q hd h12 hi hv0)
        refine ⟨b1, b2, b3, b4, b5, Eq.trans ?_ b6⟩
        refine bindS hbl ?_
        rw [if_neg (by decide)]
        refine bindS hst ?_
        rw [leT (by omega), if_pos rfl, emx (by omega), if_pos rfl, evo (by omega), decide_eq_false a2, if_pos (by decide), leT a3, if_pos rfl, e0]
        refine bindS hvo ?_
        rw [if_neg (by simp [beq_bool, eqI_eq]), if_neg (by decide), if_pos rfl, show inR x.1 ((12 : Nat) : Int) = true from inT h12.1 h12.2, if_pos rfl]
        have hye := q.ye
        cases hy : x.2.2.1 with
        | true =>
          rw [if_pos rfl]
          have := ey true
          rw [← hye] at this
          rw [show flg true = 1 from rfl] at this ⊢
          rw [← this]
        | false =>
          rw [if_neg (by decide), show flg false = 0 from rfl, Int.add_zero]
      · refine fin ?_
        refine bindS hbl ?_
        rw [if_neg (by decide)]
        refine bindS hst ?_
        rw [leT (by omega), if_pos rfl, emx (by omega), if_pos rfl, evo (by omega), decide_eq_false a2, if_pos (by decide), leF (by omega), if_neg (by decide)]
        subst ev
        exact tail (d3 (by omega) (by omega) (by omega))

theorem start_right {c : Cou} {m : Plea} (hc : okC c = true) (hf : framB c m) (hv : m.2.2.2.2 = []) : rightB c m = true :=
  (rightB_iff c m).2 ⟨hc, hf, fun j hj => by rw [hv] at hj; exact absurd hj (by simp)⟩

theorem pure_quorum (K : Nat) (hK : 200000 ≤ K) (c : Cou) (la mo : Int) (l : List Tri) (aft : Int) (hla : 0 ≤ la ∧ la ≤ 65535) (hmo : 0 ≤ mo ∧ mo ≤ 65535) (hx : ∀ x ∈ l, TriI x) (haft : 0 ≤ aft ∧ aft ≤ 255) : F5 K c la mo l aft = some true := by
  unfold F5
  refine bindS (sanity30 K hK) ?_
  rw [if_neg (by decide)]
  refine bindS (few_c K (by omega) c) ?_
  by_cases hf : fewC c = true
  · rw [hf, if_neg (by decide)]
    have hn := fewC_len hf
    refine bindS (check_own K (by omega) c (by omega)) ?_
    by_cases hc : okC c = true
    · rw [chk_ok hc, nn0, if_neg (by decide)]
      by_cases h20 : l.length ≤ 20
      · rw [ltF (by omega), if_neg (by decide)]
        obtain ⟨_, _, _, hb4, hb5, hb1, hb2⟩ := okC_b hc
        rw [eqF (.inr (by omega)), if_neg (by decide)]
        have htm : 0 ≤ Int.tmod mo c.2.2.2 ∧ Int.tmod mo c.2.2.2 < c.2.2.2 ∧ Int.tmod mo c.2.2.2 ≤ mo := by
          rw [Int.tmod_eq_emod_of_nonneg hmo.1]
          have p1 := Int.emod_add_mul_ediv mo c.2.2.2
          have p2 := Int.mul_nonneg (show 0 ≤ c.2.2.2 by omega) (Int.ediv_nonneg hmo.1 (show 0 ≤ c.2.2.2 by omega))
          exact ⟨Int.emod_nonneg _ (by omega), Int.emod_lt_of_pos _ (by omega), by omega⟩
        have etd : Int.tdiv la 2 = la / 2 := Int.tdiv_eq_ediv_of_nonneg hla.1
        obtain ⟨un, hun⟩ : ∃ un, la + 1 + Int.tmod mo c.2.2.2 = un := ⟨_, rfl⟩
        have eun : IntKind.wrap .i64 (IntKind.wrap .i64 (IntKind.wrap .i64 la + 1) + Int.tmod (IntKind.wrap .i64 mo) c.2.2.2) = un := by
          rw [wi64 (x := la) (by omega) (by omega), wi64 (x := la + 1) (by omega) (by omega), wi64 (x := mo) (by omega) (by omega), wi64 (by omega) (by omega), hun]
        have eop : IntKind.wrap .i64 (Int.tdiv (IntKind.wrap .i64 la) 2) = la / 2 := by
          rw [wi64 (x := la) (by omega) (by omega), etd, wi64 (by omega) (by omega)]
        rw [eun, eop, wi64 (x := la) (by omega) (by omega), ltF (by omega), if_neg (by decide)]
        have hfr : framB c (7, (la, (un, (la / 2, [])))) := ⟨by show (0 : Int) ≤ 7; decide, by show (7 : Int) ≤ 1099511627776; decide, by show 0 ≤ la / 2; omega, by show la / 2 ≤ la; omega, by show la < un; omega, by show un ≤ 1000000; omega, by show un - la ≤ c.2.2.2; omega⟩
        have hop : openP c 7 la un (la / 2) = ((7, (la, (un, (la / 2, [])))), 0) := by
          rw [openP, if_pos hc, if_neg (by omega), if_pos hfr]
        refine bindS ((Open_own K hK c (by omega) 7 la un (la / 2)).trans (congrArg some hop)) ?_
        rw [if_neg (by show ¬ (!(eqI (0 : Int) 0)) = true; decide)]
        have q0 : QInv c la un 0 (la / 2) 0 (7, (la, (un, (la / 2, [])))) (List.replicate 12 false) := by
          refine ⟨start_right hc hfr rfl, rfl, rfl, Int.le_refl _, ?_, ⟨by omega, by omega⟩, rfl, Nat.le_refl _, (fun v h => by cases h), ⟨⟨by show _ ≤ (7 : Int); decide, by show (7 : Int) ≤ _; decide⟩, ⟨by show _ ≤ la; omega, by show la ≤ _; omega⟩, ⟨by show _ ≤ un; omega, by show un ≤ _; omega⟩, ⟨by show _ ≤ la / 2; omega, by show la / 2 ≤ _; omega⟩⟩, rfl, fun h hh => ?_⟩
          · exact Int.le_of_eq (show lastV (7, (la, (un, (la / 2, [])))) = la / 2 from if_pos rfl)
          · have e : (List.replicate 12 false).getD h false = false := by
              rw [List.getD_eq_getElem?_getD, List.getElem?_replicate]; split <;> rfl
            rw [e]
            exact ⟨(fun h => by cases h), (fun h => absurd (show (0 : Int) ≤ -1 from h) (by decide))⟩
        obtain ⟨tick, yes, m, vs, q, hgo⟩ := quorum_go K hK c hc (by omega) l h20 hx la aft un hla _ l.length 0 K (la / 2) 0 _ _ (by omega) (by omega) q0
        refine hgo.trans ?_
        have h1 := q.op
        have h2 := q.lv
        have h3 := q.tk
        have h4 := q.le
        have h5 := q.la
        have h6 := q.un
        have h7 := q.ye
        have etk : IntKind.wrap .i64 (tick + IntKind.wrap .i64 aft) = tick + aft := by rw [wi64 (x := aft) (by omega) (by omega), wi64 (by omega) (by omega)]
        refine bindS ((Decide_own K hK c (by omega) m _ (by omega) q.pi q.bi).trans (congrArg some (decP_of q.right))) ?_
        rw [etk, wi64 (x := la) (by omega) (by omega), h5, h6, ← h7]
        by_cases a1 : la < tick + aft
        · rw [if_pos a1, leF a1]
          by_cases a2 : c.2.2.1 ≤ yes
          · rw [leT a2]; rfl
          · rw [leF (by omega)]; rfl
        · rw [if_neg a1, if_neg (show ¬ tick + aft < lastV m by omega), show leI (tick + aft) la = true from leT (by omega)]
          by_cases a2 : yes < c.2.2.1
          · rw [if_pos a2, leF a2]; rfl
          · rw [if_neg a2, leT (by omega), if_pos rfl, if_pos (show Ty.beq Ty.bool (eqI (0 : Int) 0) true = true by decide), if_neg (by decide), if_pos (eqT rfl), if_pos rfl]
      · rw [ltT (by omega), if_pos rfl]
    · rw [chk_no hc]; rfl
  · rw [Bool.eq_false_iff.2 hf]; rfl

end Go.Proofs.YtkgampbboffhmaaDoor
