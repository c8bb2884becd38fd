/- The law of two orders. -/
import Derived.Test.YtkgampbboffhmaaDoorX17
set_option linter.unusedVariables false
set_option linter.unusedSimpArgs false
set_option maxRecDepth 100000
namespace Go.Proofs.YtkgampbboffhmaaDoor
open Go Go.Q

theorem nthD_bool (l : List Bool) (t : Nat) : nthD Ty.bool l (t : Int) = l.getD t false := by
  simp only [nthD, Int.toNat_natCast]; rfl
def natsI (ks : List Nat) : List Int := ks.map fun (j : Nat) => (j : Int)
theorem natsI_getD {ks : List Nat} {t : Nat} (h : t < ks.length) : (natsI ks).getD t 0 = ((ks.getD t 0 : Nat) : Int) := by
  simp only [natsI, List.getD_eq_getElem?_getD, List.getElem?_map, List.getElem?_eq_getElem h]; rfl
theorem natsI_len (ks : List Nat) : (natsI ks).length = ks.length := by simp [natsI]

theorem put_perm {ks : List Nat} {k a : Nat} (h : ks.Perm (List.range k)) : ((ks.take a ++ [k]) ++ ks.drop a).Perm (List.range (k + 1)) := by
  rw [List.range_succ]
  have h1 : ((ks.take a ++ [k]) ++ ks.drop a).Perm ((ks.take a ++ ks.drop a) ++ [k]) := by
    rw [List.append_assoc, List.append_assoc]
    exact List.Perm.append_left _ List.perm_append_comm
  rw [List.take_append_drop] at h1
  exact h1.trans (h.append_right _)

theorem order_go (K : Nat) (c : Cou) (m : Plea) (ys : List Bool) (tu : List Int) (hu : ∀ x ∈ tu, 0 ≤ x ∧ x ≤ 255) (hul : tu.length ≤ 9223372036854775807) (N : Nat) (hN : N ≤ 20) (kx) : ∀ (r t n : Nat) (ks : List Nat), t + r = N → r < n → ks.Perm (List.range t) →
    ∃ ks', ks'.Perm (List.range N) ∧ F6l0 K n ys tu (N : Int) (natsI ks) (t : Int) c m kx = kx ys (N : Int) (natsI ks') c m
  | 0, t, n, ks, hh, hn, hp => by
    obtain ⟨n, rfl⟩ : ∃ m, n = m + 1 := ⟨n - 1, by omega⟩
    obtain rfl : t = N := by omega
    refine ⟨ks, hp, ?_⟩
    rw [F6l0, B6l0, ltF (by omega), if_neg (by decide)]
  | r + 1, t, n, ks, hh, hn, hp => by
    obtain ⟨n, rfl⟩ : ∃ m, n = m + 1 := ⟨n - 1, by omega⟩
    have e1 : IntKind.wrap .i64 ((t : Int) + 1) = ((t + 1 : Nat) : Int) := by rw [wi64 (by omega) (by omega)]; omega
    have hlen : ks.length = t := by rw [hp.length_eq, List.length_range]
    have step : ∀ a : Nat, a ≤ t → ∃ ks', ks'.Perm (List.range N) ∧ F6l0 K n ys tu (N : Int) ((([] ++ cut (natsI ks) 0 (a : Int)) ++ [(t : Int)]) ++ cut (natsI ks) (a : Int) ((natsI ks).length : Int)) ((t + 1 : Nat) : Int) c m kx = kx ys (N : Int) (natsI ks') c m := fun a ha => by
      have e : (([] ++ cut (natsI ks) 0 (a : Int)) ++ [(t : Int)]) ++ cut (natsI ks) (a : Int) ((natsI ks).length : Int) = natsI ((ks.take a ++ [t]) ++ ks.drop a) := by
        have e2 : ((natsI ks).length : Int).toNat = ks.length := by rw [natsI_len]; rfl
        have e3 : (((natsI ks).length : Int) - (a : Int)).toNat = ks.length - a := by rw [natsI_len]; omega
        simp only [cut, e3, List.nil_append, Int.toNat_natCast, Int.sub_zero, Int.toNat_zero, List.drop_zero]
        simp only [natsI, List.map_append, List.map_take, List.map_drop, List.map_cons, List.map_nil]
        rw [List.take_of_length_le (l := List.drop a _) (by simp)]
      rw [e]
      exact order_go K c m ys tu hu hul N hN kx r (t + 1) n _ (by omega) (by omega) (put_perm hp)
    have len1 : ∀ a : Nat, (cut (natsI ks) 0 (a : Int)).length ≤ t := fun a => by
      simp only [cut, List.length_take, List.length_drop, natsI_len]; omega
    have len2 : ∀ a b : Int, (cut (natsI ks) a b).length ≤ t := fun a b => by
      simp only [cut, List.length_take, List.length_drop, natsI_len]; omega
    rw [F6l0, B6l0, ltT (by omega), if_pos rfl]
    by_cases hb : (t : Int) < (tu.length : Int)
    · rw [ltT hb, if_pos rfl, inT (by omega) hb, if_pos rfl, nthD_int, Int.toNat_natCast]
      have hx := hu _ (getD_mem (d := 0) (show t < tu.length by omega))
      have ea : Int.tmod (IntKind.wrap .i64 (tu.getD t 0)) (IntKind.wrap .i64 ((t : Int) + 1)) = (((tu.getD t 0).toNat % (t + 1) : Nat) : Int) := by
        rw [e1, wi64 (by omega) (by omega), Int.tmod_eq_emod_of_nonneg hx.1, Int.natCast_emod, Int.toNat_of_nonneg hx.1]
      have ha : (tu.getD t 0).toNat % (t + 1) ≤ t := by have := Nat.mod_lt (tu.getD t 0).toNat (show 0 < t + 1 by omega); omega
      rw [ea, e1]
      generalize (tu.getD t 0).toNat % (t + 1) = a at ha
      obtain ⟨ks', h1, h2⟩ := step a ha
      refine ⟨ks', h1, Eq.trans ?_ h2⟩
      have l1 := len1 a
      have l2 := len2 (a : Int) ((natsI ks).length : Int)
      have hnl := natsI_len ks
      rw [eqF (.inr (by omega)), if_neg (by decide), inBT (by omega) (by omega) (by omega), if_pos rfl]
      rw [roomT (by simp only [List.length_append, List.length_cons, List.length_nil, List.length_replicate]; omega), if_pos rfl]
      rw [roomT (by simp only [List.length_append, List.length_cons, List.length_nil, List.length_replicate]; omega), if_pos rfl]
      rw [inBT (by omega) (by omega) (by omega), if_pos rfl]
      rw [roomT (by simp only [List.length_append, List.length_cons, List.length_nil, List.length_replicate]; omega), if_pos rfl]
      rfl
    · obtain ⟨ks', h1, h2⟩ := step 0 (by omega)
      refine ⟨ks', h1, Eq.trans ?_ h2⟩
      have l1 := len2 0 0
      have l2 := len2 (0 : Int) ((natsI ks).length : Int)
      have hnl := natsI_len ks
      rw [ltF (by omega), if_neg (by decide), inBT (by omega) (by omega) (by omega), if_pos rfl]
      rw [roomT (by simp only [List.length_append, List.length_cons, List.length_nil, List.length_replicate]; omega), if_pos rfl, e1]
      rfl

/-! ### The votes -/
def bal (c : Cou) (m : Plea) (tk : Int) (f : Nat → Bool) (j : Nat) : Bal := (c.1.getD j 0, (tk, (f j, sealV c m (c.1.getD j 0) tk (f j))))
def plOf (c : Cou) (m : Plea) (tk : Int) (f : Nat → Bool) (ks : List Nat) : Plea := (m.1, (m.2.1, (m.2.2.1, (m.2.2.2.1, ks.map (bal c m tk f)))))
theorem plOf_snoc (c : Cou) (m : Plea) (tk : Int) (f : Nat → Bool) (ks : List Nat) (j : Nat) : addV (plOf c m tk f ks) (bal c m tk f j) = plOf c m tk f (ks ++ [j]) := by
  simp [addV, plOf]
theorem plOf_last (c : Cou) (m : Plea) (tk : Int) (f : Nat → Bool) (ks : List Nat) (h : m.2.2.2.1 ≤ tk) : lastV (plOf c m tk f ks) ≤ tk := by
  unfold lastV
  split
  · exact h
  · rename_i hl
    have hl : ¬ (ks.map (bal c m tk f)).length = 0 := hl
    have hm := getD_mem (l := ks.map (bal c m tk f)) (t := (ks.map (bal c m tk f)).length - 1) (d := z0) (by omega)
    obtain ⟨j, _, e⟩ := List.mem_map.1 hm
    have e2 : ((plOf c m tk f ks).2.2.2.2.getD ((plOf c m tk f ks).2.2.2.2.length - 1) z0).2.1 = tk := by
      show ((ks.map (bal c m tk f)).getD ((ks.map (bal c m tk f)).length - 1) z0).2.1 = tk
      rw [← e]; rfl
    rw [e2]
    show max m.2.2.2.1 tk ≤ tk
    omega
theorem getD_inj {c : Cou} (hc : okC c = true) {i j : Nat} (hi : i < c.1.length) (hj : j < c.1.length) (h : c.1.getD i 0 = c.1.getD j 0) : i = j := by
  rcases Nat.lt_trichotomy i j with h' | h' | h'
  · have := okC_lt hc j i h' hj; omega
  · exact h'
  · have := okC_lt hc i j h' hi; omega
theorem bal_ok {c : Cou} (hc : okC c = true) {m : Plea} {tk : Int} (ho : m.2.2.2.1 ≤ tk) (hl : tk ≤ m.2.1) (f : Nat → Bool) {ks : List Nat} (hk : ∀ i ∈ ks, i < c.1.length) {j : Nat} (hj : j < c.1.length) (hjk : j ∉ ks) : votE c (plOf c m tk f ks) (bal c m tk f j) = 0 := by
  have hs : 0 ≤ seat c.1 (c.1.getD j 0) := (seat_iff _ _).2 (getD_mem hj)
  have hn : seat (houses (plOf c m tk f ks).2.2.2.2) (c.1.getD j 0) < 0 := by
    have : ¬ 0 ≤ seat (houses (plOf c m tk f ks).2.2.2.2) (c.1.getD j 0) := fun h => by
      rw [seat_iff] at h
      obtain ⟨v, hv, e⟩ := List.mem_map.1 h
      obtain ⟨i, hi, rfl⟩ := List.mem_map.1 (show v ∈ ks.map (bal c m tk f) from hv)
      exact hjk (getD_inj hc (hk i hi) hj e ▸ hi)
    omega
  rw [votE_last (v := bal c m tk f j) hs hn hl (plOf_last c m tk f ks ho)]
  exact if_pos rfl
theorem plOf_bi {c : Cou} (hc : okC c = true) (m : Plea) {tk : Int} (ht : I64 tk) (f : Nat → Bool) {ks : List Nat} (hk : ∀ i ∈ ks, i < c.1.length) : BalsI (plOf c m tk f ks).2.2.2.2 := fun v hv => by
  obtain ⟨i, hi, rfl⟩ := List.mem_map.1 (show v ∈ ks.map (bal c m tk f) from hv)
  have := okC_range hc (getD_mem (d := 0) (hk i hi))
  exact ⟨⟨by show _ ≤ c.1.getD i 0; omega, by show c.1.getD i 0 ≤ _; omega⟩, ht⟩
theorem take_getD {ks : List Nat} {t : Nat} (h : t < ks.length) : ks.take (t + 1) = ks.take t ++ [ks.getD t 0] := getD_take h
theorem not_mem_take {ks : List Nat} (hn : ks.Nodup) {t : Nat} (h : t < ks.length) : ks.getD t 0 ∉ ks.take t := by
  intro hm
  have h1 : (ks.take (t + 1)).Nodup := hn.sublist (List.take_sublist _ _)
  rw [take_getD h] at h1
  have := (List.nodup_append.1 h1).2.2 _ hm _ (List.mem_singleton.2 rfl)
  exact this rfl

theorem votes_go (K : Nat) (hK : 200000 ≤ K) (c : Cou) (hc : okC c = true) (hn : c.1.length ≤ 20) (m : Plea) (hm : PleaI m) (ho : m.2.2.2.1 ≤ 45) (hl : 45 ≤ m.2.1) (ys : List Bool) (ks : List Nat) (N : Nat) (hN : N ≤ c.1.length) (hys : N ≤ ys.length) (hp : ks.Perm (List.range N)) (kx) : ∀ (r t n : Nat), t + r = N → r < n →
    rightB c (plOf c m 45 (fun j => ys.getD j false) (List.range t)) = true → rightB c (plOf c m 45 (fun j => ys.getD j false) (ks.take t)) = true →
    (rightB c (plOf c m 45 (fun j => ys.getD j false) (List.range N)) = true ∧ rightB c (plOf c m 45 (fun j => ys.getD j false) ks) = true) ∧
    F6l2 K n ys (N : Int) (natsI ks) (t : Int) c m (plOf c m 45 (fun j => ys.getD j false) (List.range t)) (plOf c m 45 (fun j => ys.getD j false) (ks.take t)) kx = kx c (plOf c m 45 (fun j => ys.getD j false) (List.range N)) (plOf c m 45 (fun j => ys.getD j false) ks)
  | 0, t, n, hh, hn', ra, rb => by
    obtain ⟨n, rfl⟩ : ∃ m, n = m + 1 := ⟨n - 1, by omega⟩
    obtain rfl : t = N := by omega
    have hlen : ks.length = t := by rw [hp.length_eq, List.length_range]
    rw [List.take_of_length_le (by omega)] at rb ⊢
    refine ⟨⟨ra, rb⟩, ?_⟩
    rw [F6l2, B6l2, ltF (by omega), if_neg (by decide)]
  | r + 1, t, n, hh, hn', ra, rb => by
    obtain ⟨n, rfl⟩ : ∃ m, n = m + 1 := ⟨n - 1, by omega⟩
    have e1 : IntKind.wrap .i64 ((t : Int) + 1) = ((t + 1 : Nat) : Int) := by rw [wi64 (by omega) (by omega)]; omega
    have hlen : ks.length = N := by rw [hp.length_eq, List.length_range]
    have hkN : ∀ i ∈ ks, i < N := fun i hi => List.mem_range.1 (hp.mem_iff.1 hi)
    have hj := hkN _ (getD_mem (d := 0) (show t < ks.length by omega))
    have hnd : ks.Nodup := hp.nodup_iff.2 List.nodup_range
    have k1 : ∀ i ∈ List.range t, i < c.1.length := fun i hi => by have := List.mem_range.1 hi; omega
    have k2 : ∀ i ∈ ks.take t, i < c.1.length := fun i hi => by have := hkN i (List.mem_of_mem_take hi); omega
    have v1 := bal_ok hc ho hl (fun j => ys.getD j false) k1 (show t < c.1.length by omega) (by simp)
    have v2 := bal_ok hc ho hl (fun j => ys.getD j false) k2 (show ks.getD t 0 < c.1.length by omega) (not_mem_take hnd (by omega))
    have ra' := right_snoc ra v1
    have rb' := right_snoc rb v2
    rw [plOf_snoc, ← List.range_succ] at ra'
    rw [plOf_snoc, ← take_getD (by omega)] at rb'
    obtain ⟨q1, q2⟩ := votes_go K hK c hc hn m hm ho hl ys ks N hN hys hp kx r (t + 1) n (by omega) (by omega) ra' rb'
    refine ⟨q1, Eq.trans ?_ q2⟩
    have i45 : I64 45 := ⟨by decide, by decide⟩
    have rg : ∀ j : Nat, j < c.1.length → I64 (c.1.getD j 0) ∧ 0 ≤ seat c.1 (c.1.getD j 0) := fun j hj => by
      have := okC_range hc (getD_mem (d := 0) hj)
      exact ⟨⟨by omega, by omega⟩, (seat_iff _ _).2 (getD_mem hj)⟩
    have bl : ∀ j : Nat, j < c.1.length → F30 K c m (c.1.getD j 0) 45 (ys.getD j false) = some (bal c m 45 (fun j => ys.getD j false) j) := fun j hj =>
      (ballot_own K hK c (by omega) m _ 45 _ hm (rg j hj).1 i45).trans (by rw [sealP_in hc (rg j hj).2]; rfl)
    have vo : ∀ (ls : List Nat) (j : Nat), (∀ i ∈ ls, i < c.1.length) → ls.length ≤ 20 → j < c.1.length → rightB c (plOf c m 45 (fun j => ys.getD j false) ls) = true → votE c (plOf c m 45 (fun j => ys.getD j false) ls) (bal c m 45 (fun j => ys.getD j false) j) = 0 → F14 K c (plOf c m 45 (fun j => ys.getD j false) ls) (bal c m 45 (fun j => ys.getD j false) j) = some (plOf c m 45 (fun j => ys.getD j false) (ls ++ [j]), 0) := fun ls j h1 h2 h3 h4 h5 =>
      (Vote_own K hK c (by omega) (plOf c m 45 (fun j => ys.getD j false) ls) (bal c m 45 (fun j => ys.getD j false) j) (by simp [plOf]; omega) hm (plOf_bi hc m ⟨by decide, by decide⟩ (fun j => ys.getD j false) h1) ⟨(rg j h3).1, i45⟩).trans (by rw [voteP_ok h4 h5, plOf_snoc])
    have g1 := natsI_len ks
    rw [F6l2, B6l2, ltT (by omega), if_pos rfl, inT (by omega) (by omega), if_pos rfl, inT (by omega) (by omega), if_pos rfl, nthD_int, Int.toNat_natCast, nthD_bool]
    refine bindS (bl t (by omega)) ?_
    refine bindS (vo _ t k1 (by simp; omega) (by omega) ra v1) ?_
    rw [nthD_int, Int.toNat_natCast, natsI_getD (by omega), inT (by omega) (by omega), if_pos rfl, inT (by omega) (by omega), if_pos rfl, if_pos rfl, inT (by omega) (by omega), if_pos rfl, nthD_int, Int.toNat_natCast, nthD_bool]
    refine bindS (bl (ks.getD t 0) (by omega)) ?_
    refine bindS (vo _ (ks.getD t 0) k2 (by simp; omega) (by omega) rb v2) ?_
    rw [if_neg (by show ¬ (!(eqI (0 : Int) 0)) = true; decide), if_neg (by show ¬ (!(eqI (0 : Int) 0)) = true; decide), e1, List.range_succ, take_getD (by omega)]

theorem pure_order (K : Nat) (hK : 200000 ≤ K) (c : Cou) (ys : List Bool) (tu : List Int) (hu : ∀ x ∈ tu, 0 ≤ x ∧ x ≤ 255) (hul : tu.length ≤ 9223372036854775807) : F6 K c ys tu = some true := by
  unfold F6
  refine bindS (sanity30 K hK) ?_
  rw [if_neg (by decide)]
  refine bindS (few_c K (by omega) c) ?_
  by_cases hf : fewC c = true
  · rw [hf, if_neg (by decide)]
    have hn := fewC_len hf
    refine bindS (check_own K (by omega) c (by omega)) ?_
    by_cases hc : okC c = true
    · rw [chk_ok hc, nn0, if_neg (by decide)]
      obtain ⟨_, _, _, hb4, hb5, hb1, hb2⟩ := okC_b hc
      obtain ⟨m, em⟩ : ∃ m : Plea, m = (7, (50, (51, (40, [])))) := ⟨_, rfl⟩
      have hfr : framB c m := by
        rw [em]
        exact ⟨by show (0 : Int) ≤ 7; decide, by show (7 : Int) ≤ 1099511627776; decide, by show (0 : Int) ≤ 40; decide, by show (40 : Int) ≤ 50; decide, by show (50 : Int) < 51; decide, by show (51 : Int) ≤ 1000000; decide, by show (51 : Int) - 50 ≤ c.2.2.2; omega⟩
      have hmi : PleaI m := by
        rw [em]; exact ⟨⟨by show _ ≤ (7 : Int); decide, by show (7 : Int) ≤ _; decide⟩, ⟨by show _ ≤ (50 : Int); decide, by show (50 : Int) ≤ _; decide⟩, ⟨by show _ ≤ (51 : Int); decide, by show (51 : Int) ≤ _; decide⟩, ⟨by show _ ≤ (40 : Int); decide, by show (40 : Int) ≤ _; decide⟩⟩
      have hop : openP c 7 50 51 40 = (m, 0) := by
        rw [openP, if_pos hc, if_neg (by decide), if_pos (em ▸ hfr), em]
      refine bindS ((Open_own K hK c (by omega) 7 50 51 40).trans (congrArg some hop)) ?_
      rw [if_neg (by show ¬ (!(eqI (0 : Int) 0)) = true; decide)]
      obtain ⟨N, hN, hN1, hN2⟩ : ∃ N : Nat, minI (ys.length : Int) (c.1.length : Int) = (N : Int) ∧ N ≤ ys.length ∧ N ≤ c.1.length := by
        unfold minI
        split
        · exact ⟨_, rfl, by omega, by omega⟩
        · exact ⟨_, rfl, by omega, by omega⟩
      rw [hN]
      obtain ⟨ks, hp, h1⟩ := order_go K c m ys tu hu hul N (by omega) _ N 0 K [] (by omega) (by omega) (by simp)
      refine h1.trans ?_
      have e0 : m = plOf c m 45 (fun j => ys.getD j false) [] := by rw [em]; rfl
      have r0 : rightB c m = true := start_right hc hfr (by rw [em])
      have ho : m.2.2.2.1 ≤ 45 := by rw [em]; show (40 : Int) ≤ 45; decide
      have hl : 45 ≤ m.2.1 := by rw [em]; show (45 : Int) ≤ 50; decide
      obtain ⟨⟨ra, rb⟩, h2⟩ := votes_go K hK c hc (by omega) m hmi ho hl ys ks N hN2 hN1 hp _ N 0 K (by omega) (by omega) (by rw [List.range_zero, ← e0]; exact r0) (by rw [List.take_zero, ← e0]; exact r0)
      rw [List.range_zero, List.take_zero, ← e0] at h2
      refine h2.trans ?_
      have hlen : ks.length = N := by rw [hp.length_eq, List.length_range]
      have hkN : ∀ i ∈ ks, i < c.1.length := fun i hi => by have := List.mem_range.1 (hp.mem_iff.1 hi); omega
      have hrN : ∀ i ∈ List.range N, i < c.1.length := fun i hi => by have := List.mem_range.1 hi; omega
      have ey : yesN (plOf c m 45 (fun j => ys.getD j false) ks).2.2.2.2 = yesN (plOf c m 45 (fun j => ys.getD j false) (List.range N)).2.2.2.2 := perm_sum ((hp.map (bal c m 45 (fun j => ys.getD j false))).map _)
      have el : (plOf c m 45 (fun j => ys.getD j false) ks).2.2.2.2.length = (plOf c m 45 (fun j => ys.getD j false) (List.range N)).2.2.2.2.length := by simp [plOf, hlen]
      have la : (plOf c m 45 (fun j => ys.getD j false) (List.range N)).2.2.2.2.length ≤ 100000 := by simp [plOf]; omega
      have lb : (plOf c m 45 (fun j => ys.getD j false) ks).2.2.2.2.length ≤ 100000 := by rw [el]; exact la
      have dd : decP c (plOf c m 45 (fun j => ys.getD j false) ks) 46 = decP c (plOf c m 45 (fun j => ys.getD j false) (List.range N)) 46 := by
        have q1 := plOf_last c m 45 (fun j => ys.getD j false) ks ho
        have q2 := plOf_last c m 45 (fun j => ys.getD j false) (List.range N) ho
        rw [decP_of ra, decP_of rb, ey, if_neg (c := 46 < lastV (plOf c m 45 (fun j => ys.getD j false) ks)) (by omega), if_neg (c := 46 < lastV (plOf c m 45 (fun j => ys.getD j false) (List.range N))) (by omega)]
        rfl
      refine bindS (count_own K _ la (by omega)) ?_
      refine bindS ((count_own K _ lb (by omega)).trans (congrArg some (by rw [ey, el]))) ?_
      refine bindS (Decide_own K hK c (by omega) (plOf c m 45 (fun j => ys.getD j false) _) 46 la hmi (plOf_bi hc m ⟨by decide, by decide⟩ (fun j => ys.getD j false) hrN)) ?_
      refine bindS ((Decide_own K hK c (by omega) (plOf c m 45 (fun j => ys.getD j false) _) 46 lb hmi (plOf_bi hc m ⟨by decide, by decide⟩ (fun j => ys.getD j false) hkN)).trans (congrArg some dd)) ?_
      rw [if_pos (eqT rfl), if_pos (eqT rfl), if_pos (eqT rfl), eqT rfl]
    · rw [chk_no hc]; rfl
  · rw [Bool.eq_false_iff.2 hf]; rfl

end Go.Proofs.YtkgampbboffhmaaDoor
