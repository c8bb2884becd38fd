/- Votes: the seal, the error of a vote; both sides. -/
import Derived.Test.YtkgampbboffhmaaDoorX1
set_option linter.unusedVariables false
set_option linter.unusedSimpArgs false
set_option maxRecDepth 100000
namespace Go.Proofs.YtkgampbboffhmaaDoor
open Go Go.Q

theorem seatFrom_lt (l : List Int) (h : Int) : ∀ (r t : Nat), t + r = l.length → -1 ≤ seatFrom l h r t ∧ seatFrom l h r t < (l.length : Int)
  | 0, t, hh => by simp only [seatFrom]; omega
  | r + 1, t, hh => by
    simp only [seatFrom]
    split
    · omega
    · exact seatFrom_lt l h r (t + 1) (by omega)
theorem seat_lt (l : List Int) (h : Int) : -1 ≤ seat l h ∧ seat l h < (l.length : Int) := seatFrom_lt l h l.length 0 (by omega)

def flg (b : Bool) : Int := if b = true then 1 else 0
theorem flag_own (K : Nat) (b : Bool) : F43 K b = some (flg b) := by cases b <;> rfl
theorem flag_ref (K : Nat) (b : Bool) : F38 K b = some (flg b) := by cases b <;> rfl
theorem flg_i64 (b : Bool) : I64 (flg b) := by cases b <;> exact ⟨by decide, by decide⟩

def sealL (m : Plea) (h t : Int) (y : Bool) : List Int := [150, m.1, m.2.1, m.2.2.1, m.2.2.2.1, h, t, flg y]
def sealV (c : Cou) (m : Plea) (h t : Int) (y : Bool) : List Int := mac (bytesOf (c.2.1.getD (seat c.1 h).toNat ByteArray.empty)) ((sealL m h t y).map txt)

def PleaI (m : Plea) : Prop := I64 m.1 ∧ I64 m.2.1 ∧ I64 m.2.2.1 ∧ I64 m.2.2.2.1

theorem sealL_i64 {m : Plea} {h t : Int} {y : Bool} (hm : PleaI m) (hh : I64 h) (ht : I64 t) : ∀ n ∈ sealL m h t y, I64 n := by
  intro n hn
  simp only [sealL, List.mem_cons, List.not_mem_nil, or_false] at hn
  rcases hn with rfl | rfl | rfl | rfl | rfl | rfl | rfl | rfl
  · exact ⟨by decide, by decide⟩
  · exact hm.1
  · exact hm.2.1
  · exact hm.2.2.1
  · exact hm.2.2.2
  · exact hh
  · exact ht
  · exact flg_i64 y

theorem okC_key {c : Cou} (h : okC c = true) {t : Nat} (ht : t < c.1.length) : okH c t := by
  simp only [okC, Bool.and_eq_true, okFrom, List.all_eq_true] at h
  exact of_decide_eq_true (h.2 t (by simp [List.mem_range']; omega))
theorem okC_b {c : Cou} (h : okC c = true) : okB c := by
  simp only [okC, Bool.and_eq_true] at h
  exact of_decide_eq_true h.1

theorem seal_own (K : Nat) (hK : 200000 ≤ K) (c : Cou) (m : Plea) (v : Bal) (hc : okC c = true) (hs : 0 ≤ seat c.1 v.1) (hm : PleaI m) (h1 : I64 v.1) (h2 : I64 v.2.1) :
    F35 K c m v = some (sealV c m v.1 v.2.1 v.2.2.1) := by
  have hb := okC_b hc
  have hl := seat_lt c.1 v.1
  have hk := okC_key hc (t := (seat c.1 v.1).toNat) (by omega)
  unfold F35
  rw [index_ok K c.1 v.1 (by have := hb.2.1; omega) (by have := hb.2.1; omega), Option.bind_some, inT hs (by have := hb.2.2.1; omega), if_pos rfl, flag_own, Option.bind_some]
  have ht := texts_own K (sealL m v.1 v.2.1 v.2.2.1) (by simp [sealL]) (by simp [sealL]; omega) (sealL_i64 hm h1 h2)
  rw [show ((150 : Int) :: m.1 :: m.2.1 :: m.2.2.1 :: m.2.2.2.1 :: v.1 :: v.2.1 :: flg v.2.2.1 :: List.replicate 0 (0 : Int)) = sealL m v.1 v.2.1 v.2.2.1 from rfl, ht, Option.bind_some]
  rw [nthD_str, mac_own K hK _ (by have := hk.2.2.2.2; omega) _ 11 (fun s hs => by
    obtain ⟨n, _, rfl⟩ := List.mem_map.1 hs
    exact txt_size n) (by simp [sealL])]
  rfl

def sealP (c : Cou) (m : Plea) (h t : Int) (y : Bool) : List Int × Int :=
  if okC c = true then (if seat c.1 h < 0 then (List.replicate 16 0, 19) else (sealV c m h t y, 0)) else (List.replicate 16 0, 1)

theorem chk_ok {c : Cou} (h : okC c = true) : chk c = 0 := by rw [chk, if_pos h]
theorem chk_no {c : Cou} (h : ¬ okC c = true) : chk c = 1 := by rw [chk, if_neg h]

theorem Seal_own (K : Nat) (hK : 200000 ≤ K) (c : Cou) (hn : c.1.length ≤ 100000) (m : Plea) (h t : Int) (y : Bool) (hm : PleaI m) (h1 : I64 h) (h2 : I64 t) : F12 K c m h t y = some (sealP c m h t y) := by
  unfold F12 sealP
  rw [check_own K (by omega) c hn, Option.bind_some]
  by_cases hc : okC c = true
  · have hb := okC_b hc
    rw [chk_ok hc, if_pos hc, show (!(eqI (0 : Int) 0)) = false from rfl, if_neg (by decide), contains_ok K c.1 h hn (by have := hb.2.1; omega), Option.bind_some]
    by_cases hs : seat c.1 h < 0
    · rw [decide_eq_false (by omega), if_pos hs]; rfl
    · rw [decide_eq_true (by omega), if_neg hs, if_neg (by decide)]
      have := seal_own K hK c m (h, t, y, List.replicate 16 0) hc (by show 0 ≤ seat c.1 h; omega) hm h1 h2
      refine (congrArg (fun o => Option.bind o fun y2 => some (y2, (0 : Int))) this).trans ?_
      rfl
  · rw [chk_no hc, if_neg hc]; rfl

theorem Seal_ref (K : Nat) (hK : 200000 ≤ K) (c : Cou) (hn : c.1.length ≤ 100000) (m : Plea) (h t : Int) (y : Bool) (hm : PleaI m) (h1 : I64 h) (h2 : I64 t) : F13 K c m h t y = some (sealP c m h t y) := by
  unfold F13 sealP
  rw [check_ref K (by omega) c hn, Option.bind_some]
  by_cases hc : okC c = true
  · have hb := okC_b hc
    rw [chk_ok hc, if_pos hc, show (!(eqI (0 : Int) 0)) = false from rfl, if_neg (by decide), seat_ref K c h hn (by have := hb.2.1; omega), Option.bind_some]
    by_cases hs : seat c.1 h < 0
    · rw [ltT hs, if_pos rfl, if_pos hs]
    · have hl := seat_lt c.1 h
      have hk := okC_key hc (t := (seat c.1 h).toNat) (by omega)
      rw [ltF (by omega), if_neg (by decide), if_neg hs, inT (by omega) (by have := hb.2.2.1; omega), if_pos rfl, flag_ref, Option.bind_some]
      have ht := texts_ref K (sealL m h t y) (by simp [sealL]) (by simp [sealL]; omega) (sealL_i64 hm h1 h2)
      rw [show ((150 : Int) :: m.1 :: m.2.1 :: m.2.2.1 :: m.2.2.2.1 :: h :: t :: flg y :: List.replicate 0 (0 : Int)) = sealL m h t y from rfl, ht, Option.bind_some]
      rw [nthD_str, mac_ref K hK _ (by have := hk.2.2.2.2; omega) _ 11 (fun s hs => by
        obtain ⟨n, _, rfl⟩ := List.mem_map.1 hs
        exact txt_size n) (by simp [sealL])]
      rfl
  · rw [chk_no hc, if_neg hc]; rfl

end Go.Proofs.YtkgampbboffhmaaDoor
