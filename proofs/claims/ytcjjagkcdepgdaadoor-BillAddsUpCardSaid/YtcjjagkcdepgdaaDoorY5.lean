/- The examples of the bill chapter. -/
import Derived.Test.YtcjjagkcdepgdaaDoorY4
set_option linter.unusedVariables false
set_option linter.unusedSimpArgs false
set_option maxRecDepth 100000
namespace Go.Proofs.YtcjjagkcdepgdaaDoor
open Go Go.Q

theorem bdig_is {tag : Int} {l : List ByteArray} {d : List Int} (h : shaE (inOf tag l) (fun s => eqL (s.take 16) d) = true) : dig tag l = d := by
  rw [shaE_eq] at h; exact eqL_eq h
def xp1 : Pst := (1, 0, 100, 5, 1, 0)
def xp2 : Pst := (2, 1, 30, 5, 2, 0)
def xp3 : Pst := (1, 0, 10, 7, 1, 0)
def xb : Bk := (3, [xp1, xp2, xp3])
def xt : Bk := (3, [xp1, xp2])
def xd0 : List Int := [194, 182, 55, 83, 214, 119, 128, 223, 0, 180, 63, 116, 68, 154, 78, 95]
def xd1 : List Int := [17, 228, 56, 90, 20, 204, 193, 98, 191, 5, 22, 79, 169, 253, 112, 173]
def xd2 : List Int := [90, 152, 131, 63, 34, 153, 133, 71, 126, 235, 147, 102, 170, 0, 113, 29]
theorem xe0 : dig0 3 = xd0 := bdig_is (by kernel_rfl)
theorem xe1 : digS xd0 xp1 = xd1 := bdig_is (by kernel_rfl)
theorem xe2 : digS xd1 xp2 = xd2 := bdig_is (by kernel_rfl)
theorem xdig (l : List Pst) : digL (dig0 3) [xp1, xp2] = xd2 := by rw [digL, digL, digL, xe0, xe1, xe2]
theorem i64_of {x : Int} (h : -1000000 ≤ x) (h' : x ≤ 1000000) : I64 x := ⟨by omega, by omega⟩

theorem sane_step (K m : Nat) (hK : 200000 ≤ K) (k : Int) (u v : Int) (kx) (hk : I64 k) (h0 : ltI k 3 = true) (h1 : balE xb k 5 = (u, 0)) (h2 : balE xb k 7 = (v, 0)) (h3 : inR k 3 = true)
    (h4 : nthD (.int .i64) [-100, 70, 30] k = u) (h5 : nthD (.int .i64) [-110, 80, 30] k = v) : F8l0 K (m + 1) k xb kx = F8l0 K m (IntKind.wrap .i64 (k + 1)) xb kx := by
  rw [F8l0, B8l0, if_pos h0]
  refine bindS ((Balance_own K (by omega) xb k 5 ⟨by omega, by omega⟩).trans (congrArg some h1)) (bindS ((Balance_own K (by omega) xb k 7 ⟨by omega, by omega⟩).trans (congrArg some h2)) ?_)
  refine (if_neg (show ¬ (!(eqI 0 0)) = true by decide)).trans ((if_neg (show ¬ (!(eqI 0 0)) = true by decide)).trans ?_)
  refine (if_pos (show inR k 3 = true from h3)).trans ?_
  refine (if_neg (show ¬ (!(eqI u (nthD (.int .i64) [-100, 70, 30] k))) = true by rw [h4, eqT rfl]; decide)).trans ?_
  refine (if_pos (show inR k 3 = true from h3)).trans ?_
  exact (if_neg (show ¬ (!(eqI v (nthD (.int .i64) [-110, 80, 30] k))) = true by rw [h5, eqT rfl]; decide))

theorem sanity_ok (K : Nat) (hK : 200000 ≤ K) : F8 K = some true := by
  unfold F8
  refine bindS (v := xb) (by unfold F28; rfl) ?_
  obtain ⟨m, hm⟩ : ∃ m, K = m + 1 + 1 + 1 + 1 := ⟨K - 4, by omega⟩
  conv => lhs; arg 2; rw [hm]
  rw [sane_step K _ hK 0 (-100) (-110) _ ⟨by omega, by omega⟩ (by decide) (by kernel_rfl) (by kernel_rfl) (by decide) (by kernel_rfl) (by kernel_rfl)]
  rw [show IntKind.wrap .i64 ((0 : Int) + 1) = 1 by decide]
  rw [sane_step K _ hK 1 70 80 _ ⟨by omega, by omega⟩ (by decide) (by kernel_rfl) (by kernel_rfl) (by decide) (by kernel_rfl) (by kernel_rfl)]
  rw [show IntKind.wrap .i64 ((1 : Int) + 1) = 2 by decide]
  rw [sane_step K _ hK 2 30 30 _ ⟨by omega, by omega⟩ (by decide) (by kernel_rfl) (by kernel_rfl) (by decide) (by kernel_rfl) (by kernel_rfl)]
  rw [show IntKind.wrap .i64 ((2 : Int) + 1) = 3 by decide]
  rw [F8l0, B8l0, if_neg (by decide)]
  have hK' : 20000 ≤ K := by omega
  refine bindS ((Owes_own K hK' xb 0 1 7).trans (show _ = some (110, 0) by kernel_rfl)) ?_
  refine bindS ((Owes_own K hK' xb 1 0 7).trans (show _ = some (-110, 0) by kernel_rfl)) ?_
  refine bindS ((Statement_own K hK' xb 1 6 8).trans (show _ = some ((70, ([2], 80)), 0) by kernel_rfl)) ?_
  refine bindS ((Totals_own K hK' xb 1 0 8).trans (show _ = some ([0, 110, -30, 0, 0, 0, 0, 0], 0) by kernel_rfl)) ?_
  refine bindS ((post_own K hK' xb (0, 1, 1, 6, 1, 0)).trans (show _ = some ((0, []), 15) by kernel_rfl)) ?_
  refine bindS ((post_own K hK' xb (0, 1, 0, 8, 1, 0)).trans (show _ = some ((0, []), 3) by kernel_rfl)) ?_
  refine (if_pos (show inB 0 2 3 = true by decide)).trans ?_
  refine bindS ((Fork_own K hK' xb xt).trans (show _ = some (2, 0) by kernel_rfl)) ?_
  refine bindS ((Fork_own K hK' xb xb).trans (show _ = some (0, 8) by kernel_rfl)) ?_
  refine (if_pos (show inR 2 3 = true by decide)).trans ?_
  refine bindS ((post_own K hK' xt xp3).trans (show _ = some (xb, 0) by kernel_rfl)) ?_
  have hd1 : digE xb 2 = (xd2, 0) := by
    rw [digE_ok (by kernel_rfl) (by decide) (by decide)]
    rw [show digL (dig0 xb.1) (xb.2.take (Int.toNat 2)) = xd2 from xdig []]
  have hd2 : digE xt 2 = (xd2, 0) := by
    rw [digE_ok (by kernel_rfl) (by decide) (by decide)]
    rw [show digL (dig0 xt.1) (xt.2.take (Int.toNat 2)) = xd2 from xdig []]
  refine bindS ((Digest_own K hK xb 2).trans (congrArg some hd1)) ?_
  refine bindS ((Digest_own K hK xt 2).trans (congrArg some hd2)) ?_
  refine (if_neg (by decide)).trans ((if_neg (by decide)).trans ((if_neg (by decide)).trans ((if_neg (by decide)).trans ((if_neg (by decide)).trans ((if_neg (by decide)).trans ((if_neg (by decide)).trans ((if_neg (by decide)).trans ((if_neg (by decide)).trans ((if_neg (by decide)).trans ((if_neg (by decide)).trans ((if_pos (by decide)).trans ((if_pos (by decide)).trans ((if_pos (by decide)).trans ((if_pos (by decide)).trans (?_)))))))))))))))
  refine bindS ((ints_ok K hK' [2] [2] (by decide)).trans (show _ = some true by kernel_rfl)) ((if_pos rfl).trans ?_)
  refine bindS ((ints_ok K hK' [0, 110, -30, 0, 0, 0, 0, 0] [0, 110, -30, 0, 0, 0, 0, 0] (by decide)).trans (show _ = some true by kernel_rfl)) ((if_pos rfl).trans ?_)
  refine (if_pos (by decide)).trans ?_
  refine bindS ((same_ok K hK' xb xb (by decide)).trans (show _ = some true by kernel_rfl)) ((if_pos rfl).trans ?_)
  kernel_rfl

end Go.Proofs.YtcjjagkcdepgdaaDoor
