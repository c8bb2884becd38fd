/- Arguments that come in are in range: the third to the fifth law. -/
import Derived.Test.YtcjjagkcdepgdaaDoorY9
import Derived.Test.YtcjjagkcdepgdaaDoorYA
set_option linter.unusedVariables false
set_option linter.unusedSimpArgs false
set_option maxRecDepth 100000
namespace Go.Proofs.YtcjjagkcdepgdaaDoor
open Go Go.Q

theorem umin8 : IntKind.min .u8 = 0 := by kernel_rfl
theorem umax8 : IntKind.max .u8 = 255 := by kernel_rfl
theorem okd8 {x : Int} (h : OKd (.int .u8) x) : 0 ≤ x ∧ x ≤ 255 := by
  have h : IntKind.min .u8 ≤ x ∧ x ≤ IntKind.max .u8 := h
  rw [umin8, umax8] at h; exact h
theorem arr_u8 {m : Nat} {l : List Int} (h : OKd (.arr m (.int .u8)) l) (i : Int) : ∃ v : Int, nthD (.int .u8) l i = v ∧ 0 ≤ v ∧ v ≤ 255 := by
  rw [nthD_int, List.getD_eq_getElem?_getD]
  cases e : l[i.toNat]? with
  | none => exact ⟨0, rfl, by decide, by decide⟩
  | some y => exact ⟨y, rfl, okd8 (h.2 y (List.mem_of_getElem? e))⟩
theorem door_adds (b : Bk) (l : List Int) (tk : Int) (h1 : OKd (.arr 2 (.int .u8)) l) (h2 : OKd (.int .i64) tk) : ∃ K, F5 K b l tk = some true := by
  obtain ⟨v0, e0, b0⟩ := arr_u8 h1 0
  obtain ⟨v1, e1, b1⟩ := arr_u8 h1 1
  exact ⟨200000, pure_adds _ (Nat.le_refl _) b l tk (okd64 h2) v0 v1 e0 e1 b0 b1⟩
theorem door_join (b : Bk) (ac : Int) (l : List Int) (h1 : OKd (.int .u8) ac) (h2 : OKd (.arr 3 (.int .i64)) l) : ∃ K, F6 K b ac l = some true :=
  ⟨200000, pure_join _ (Nat.le_refl _) b ac l (okd8 h1)⟩
theorem door_binds (a b : Bk) (nu : Int) (h : OKd (.int .u8) nu) : ∃ K, F7 K a b nu = some true :=
  ⟨200000, pure_binds _ (Nat.le_refl _) a b nu (okd8 h)⟩

end Go.Proofs.YtcjjagkcdepgdaaDoor
