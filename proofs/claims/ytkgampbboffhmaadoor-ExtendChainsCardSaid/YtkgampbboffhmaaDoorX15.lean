/- The examples of the extend chapter. -/
import Derived.Test.YtkgampbboffhmaaDoorX14
set_option linter.unusedVariables false
set_option linter.unusedSimpArgs false
set_option maxRecDepth 100000
namespace Go.Proofs.YtkgampbboffhmaaDoor
open Go Go.Q

theorem bindS {α β : Type} {o : Option α} {v : α} {f : α → Option β} {r : Option β} (h : o = some v) (k : f v = r) : o.bind f = r := by rw [h]; exact k

/-! ### The error of a vote -/
theorem votE_duty {c : Cou} {m : Plea} {v : Bal} (h1 : seat c.1 v.1 < 0) : votE c m v = 19 := by rw [votE, if_pos h1]
theorem votE_twice {c : Cou} {m : Plea} {v : Bal} (h1 : 0 ≤ seat c.1 v.1) (h2 : 0 ≤ seat (houses m.2.2.2.2) v.1) : votE c m v = 9 := by
  rw [votE, if_neg (by omega), if_pos h2]
theorem votE_dead {c : Cou} {m : Plea} {v : Bal} (h1 : 0 ≤ seat c.1 v.1) (h2 : seat (houses m.2.2.2.2) v.1 < 0) (h3 : m.2.1 < v.2.1) : votE c m v = 18 := by
  rw [votE, if_neg (by omega), if_neg (by omega), if_pos h3]
theorem votE_stale {c : Cou} {m : Plea} {v : Bal} (h1 : 0 ≤ seat c.1 v.1) (h2 : seat (houses m.2.2.2.2) v.1 < 0) (h3 : v.2.1 ≤ m.2.1) (h4 : v.2.1 < lastV m) : votE c m v = 15 := by
  rw [votE, if_neg (by omega), if_neg (by omega), if_neg (by omega), if_pos h4]
theorem votE_last {c : Cou} {m : Plea} {v : Bal} (h1 : 0 ≤ seat c.1 v.1) (h2 : seat (houses m.2.2.2.2) v.1 < 0) (h3 : v.2.1 ≤ m.2.1) (h4 : lastV m ≤ v.2.1) : votE c m v = if v.2.2.2 = sealV c m v.1 v.2.1 v.2.2.1 then 0 else 16 := by
  rw [votE, if_neg (by omega), if_neg (by omega), if_neg (by omega), if_neg (by omega)]

theorem ballot_own (K : Nat) (hK : 200000 ≤ K) (c : Cou) (hn : c.1.length ≤ 100000) (m : Plea) (h t : Int) (y : Bool) (hm : PleaI m) (h1 : I64 h) (h2 : I64 t) : F30 K c m h t y = some (h, (t, (y, (sealP c m h t y).1))) := by
  unfold F30
  exact bindS (Seal_own K hK c hn m h t y hm h1 h2) rfl
theorem sealP_in {c : Cou} {m : Plea} {h t : Int} {y : Bool} (hc : okC c = true) (hs : 0 ≤ seat c.1 h) : sealP c m h t y = (sealV c m h t y, 0) := by
  rw [sealP, if_pos hc, if_neg (by omega)]
theorem sealP_out {c : Cou} {m : Plea} {h t : Int} {y : Bool} (hc : okC c = true) (hs : seat c.1 h < 0) : sealP c m h t y = (List.replicate 16 0, 19) := by
  rw [sealP, if_pos hc, if_pos hs]
theorem decP_of {c : Cou} {m : Plea} {now : Int} (hr : rightB c m = true) : decP c m now = if m.2.1 < now then (0, 18) else if now < lastV m then (0, 15) else if yesN m.2.2.2.2 < c.2.2.1 then (0, 29) else (m.2.2.1, 0) := by
  rw [decP, if_pos ((rightB_iff c m).1 hr).1, if_pos hr]

/-! ### The pleas -/
def v1 : Bal := (0, (41, (true, s1)))
def v5 : Bal := (5, (44, (true, s5)))
def one : Plea := (7, (50, (150, (40, [v1]))))
def two : Plea := (7, (50, (150, (40, [v1, v5]))))
def z16 : List Int := List.replicate 16 0
def d45 : List Int := [231, 3, 67, 112, 216, 253, 108, 245, 178, 57, 120, 145, 85, 28, 210, 6]
def d46 : List Int := [99, 125, 60, 188, 205, 162, 70, 179, 198, 253, 88, 43, 168, 208, 110, 101]
theorem dig_45 : recD z16 two 45 = d45 := dig_is (by kernel_rfl)
theorem dig_46 : recD z16 two 46 = d46 := dig_is (by kernel_rfl)
theorem i64_small {x : Int} (h : -1000000000 ≤ x) (h' : x ≤ 1000000000) : I64 x := ⟨by omega, by omega⟩
theorem m0_i : PleaI m0 := ⟨⟨by decide, by decide⟩, ⟨by decide, by decide⟩, ⟨by decide, by decide⟩, ⟨by decide, by decide⟩⟩
theorem one_i : PleaI one := m0_i
theorem two_i : PleaI two := m0_i
theorem v1_i : BalI v1 := ⟨⟨by decide, by decide⟩, ⟨by decide, by decide⟩⟩
theorem v5_i : BalI v5 := ⟨⟨by decide, by decide⟩, ⟨by decide, by decide⟩⟩
theorem m0_b : BalsI m0.2.2.2.2 := fun v h => by cases h
theorem one_b : BalsI one.2.2.2.2 := fun v h => by
  cases h with
  | head => exact v1_i
  | tail _ h => cases h
theorem two_b : BalsI two.2.2.2.2 := fun v h => by
  cases h with
  | head => exact v1_i
  | tail _ h => cases h with
    | head => exact v5_i
    | tail _ h => cases h
theorem two_w : SealW two.2.2.2.2 := fun v h => by
  cases h with
  | head => rfl
  | tail _ h => cases h with
    | head => rfl
    | tail _ h => cases h
theorem e_v1 : votE c0 m0 v1 = 0 := by
  rw [votE_last (by decide) (by decide) (by decide) (by decide)]
  exact if_pos seal_s1.symm
theorem one_right : rightB c0 one = true := right_snoc m0_right e_v1
theorem e_v5 : votE c0 one v5 = 0 := by
  rw [votE_last (by decide) (by decide) (by decide) (by decide)]
  exact if_pos seal_s5.symm
theorem two_right : rightB c0 two = true := right_snoc one_right e_v5

theorem opens (K : Nat) (hK : 200000 ≤ K) (u now : Int) (r) (h : openP c0 7 50 u now = r) : F10 K c0 7 50 u now = some r := h ▸ Open_own K hK c0 (by decide) 7 50 u now
theorem ballots (K : Nat) (hK : 200000 ≤ K) (h t : Int) (y : Bool) (s : List Int) (h1 : I64 h) (h2 : I64 t) (hs : (sealP c0 m0 h t y).1 = s) : F30 K c0 m0 h t y = some (h, (t, (y, s))) := hs ▸ ballot_own K hK c0 (by decide) m0 h t y m0_i h1 h2
theorem votes1 (K : Nat) (hK : 200000 ≤ K) (v : Bal) (hv : BalI v) (e : Int) (he : votE c0 one v = e) (h0 : e ≠ 0) : F14 K c0 one v = some (one, e) :=
  (Vote_own K hK c0 (by decide) one v (by decide) one_i one_b hv).trans (by rw [voteP_no one_right (by rw [he]; exact h0), he])
theorem decides (K : Nat) (hK : 200000 ≤ K) (m : Plea) (now : Int) (hl : m.2.2.2.2.length ≤ 100000) (hm : PleaI m) (hb : BalsI m.2.2.2.2) (r) (h : decP c0 m now = r) : F16 K c0 m now = some r := h ▸ Decide_own K hK c0 (by decide) m now hl hm hb

theorem two_verified : verP c0 [(two, (45, d45))] = (1, 0) := by
  have h : extE c0 [(two, (45, d45))] 0 z16 = 0 := by
    unfold extE
    show (if d45 = recD z16 two 45 then _ else _) = _
    rw [if_pos dig_45.symm]
    show (if (decP c0 two 45).2 = 0 then _ else _) = _
    rw [decP_of two_right]
    rfl
  rw [verP, if_pos c0_ok]
  show (if extE c0 [(two, (45, d45))] 0 z16 = 0 then _ else _) = _
  rw [if_pos h]; rfl
theorem two_late : verP c0 [(two, (46, d45))] = (0, 23) := by
  have h : extE c0 [(two, (46, d45))] 0 z16 = 23 := by
    unfold extE
    show (if d45 = recD z16 two 46 then _ else _) = _
    rw [dig_46, if_neg (by decide)]
  rw [verP, if_pos c0_ok]
  show (if extE c0 [(two, (46, d45))] 0 z16 = 0 then _ else _) = _
  rw [h, if_neg (by decide)]
  show (_, extE c0 [(two, (46, d45))] 0 z16) = _
  rw [h]; rfl
theorem two_ext (now : Int) (hn : I64 now) : ∀ x ∈ [((two, (now, d45)) : Ext)], ExtI x := fun x h => by
  cases h with
  | head => exact ⟨two_i, two_b, two_w, (by decide : (2 : Nat) ≤ 100), hn, rfl⟩
  | tail _ h => cases h

theorem sanity30 (K : Nat) (hK : 200000 ≤ K) : F9 K = some true := by
  have i0 : ∀ x : Int, -1000000000 ≤ x → x ≤ 1000000000 → I64 x := fun x h h' => i64_small h h'
  have b1 := ballots K hK 0 41 true s1 (i0 _ (by decide) (by decide)) (i0 _ (by decide) (by decide)) (by rw [sealP_in c0_ok (by decide)]; exact seal_s1)
  have b5 := ballots K hK 5 44 true s5 (i0 _ (by decide) (by decide)) (i0 _ (by decide) (by decide)) (by rw [sealP_in c0_ok (by decide)]; exact seal_s5)
  have b2 := ballots K hK 2 44 false s2f (i0 _ (by decide) (by decide)) (i0 _ (by decide) (by decide)) (by rw [sealP_in c0_ok (by decide)]; exact seal_s2f)
  have bj := ballots K hK 1 42 true _ (i0 _ (by decide) (by decide)) (i0 _ (by decide) (by decide)) rfl
  have bk := ballots K hK 2 40 true _ (i0 _ (by decide) (by decide)) (i0 _ (by decide) (by decide)) rfl
  have bl := ballots K hK 2 51 true _ (i0 _ (by decide) (by decide)) (i0 _ (by decide) (by decide)) rfl
  have a1 : F14 K c0 m0 v1 = some (one, 0) := (Vote_own K hK c0 (by decide) m0 v1 (by decide) m0_i m0_b v1_i).trans (by rw [voteP_ok m0_right e_v1]; rfl)
  have a5 : F14 K c0 one v5 = some (two, 0) := (Vote_own K hK c0 (by decide) one v5 (by decide) one_i one_b v5_i).trans (by rw [voteP_ok one_right e_v5]; rfl)
  unfold F9
  refine bindS (v := c0) rfl ?_
  refine bindS (opens K hK 150 40 (m0, 0) (by kernel_rfl)) ?_
  refine bindS (opens K hK 151 40 (pl0, 3) (by kernel_rfl)) ?_
  refine bindS (opens K hK 150 51 (pl0, 18) (by kernel_rfl)) ?_
  refine bindS b1 ?_
  refine bindS a1 ?_
  refine bindS b1 ?_
  refine bindS (votes1 K hK v1 v1_i 9 (votE_twice (by decide) (by decide)) (by decide)) ?_
  refine bindS bj ?_
  refine bindS (votes1 K hK _ ⟨i0 _ (by decide) (by decide), i0 _ (by decide) (by decide)⟩ 19 (votE_duty (by decide)) (by decide)) ?_
  refine bindS bk ?_
  refine bindS (votes1 K hK _ ⟨i0 _ (by decide) (by decide), i0 _ (by decide) (by decide)⟩ 15 (votE_stale (by decide) (by decide) (by decide) (by decide)) (by decide)) ?_
  refine bindS bl ?_
  refine bindS (votes1 K hK _ ⟨i0 _ (by decide) (by decide), i0 _ (by decide) (by decide)⟩ 18 (votE_dead (by decide) (by decide) (by decide)) (by decide)) ?_
  refine bindS b2 ?_
  refine bindS (votes1 K hK (2, (44, (true, s2f))) ⟨i0 _ (by decide) (by decide), i0 _ (by decide) (by decide)⟩ 16 (by
    rw [votE_last (by decide) (by decide) (by decide) (by decide)]
    show (if s2f = sealV c0 m0 2 44 true then _ else _) = _
    rw [seal_s2t, if_neg (by decide)]) (by decide)) ?_
  refine bindS (decides K hK one 45 (by decide) one_i one_b (0, 29) (by rw [decP_of one_right]; rfl)) ?_
  refine bindS b5 ?_
  refine bindS a5 ?_
  refine bindS (decides K hK two 43 (by decide) two_i two_b (0, 15) (by rw [decP_of two_right]; rfl)) ?_
  refine bindS (decides K hK two 45 (by decide) two_i two_b (150, 0) (by rw [decP_of two_right]; rfl)) ?_
  refine bindS (decides K hK two 51 (by decide) two_i two_b (0, 18) (by rw [decP_of two_right]; rfl)) ?_
  iterate 14 rw [if_neg (by decide)]
  refine bindS (count_own K two (by decide) (by omega)) ?_
  refine bindS ((record_own K hK z16 two 45 rfl two_i (i0 _ (by decide) (by decide)) (by decide) two_b two_w).trans (congrArg some dig_45)) ?_
  refine bindS ((Verify_own K hK c0 (by decide) [(two, (45, d45))] (by decide) (two_ext 45 (i0 _ (by decide) (by decide)))).trans (congrArg some two_verified)) ?_
  refine bindS ((Verify_own K hK c0 (by decide) [(two, (46, d45))] (by decide) (two_ext 46 (i0 _ (by decide) (by decide)))).trans (congrArg some two_late)) ?_
  rw [if_pos (by decide), if_pos (by decide), if_pos (by decide)]
  refine bindS ((right_own K hK c0 (by decide) two (by decide) two_i two_b).trans (congrArg some two_right)) ?_
  rw [if_pos rfl, if_pos (by decide), if_pos (by decide), if_pos (by decide)]
  rfl

end Go.Proofs.YtkgampbboffhmaaDoor
