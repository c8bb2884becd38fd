/- Arguments that come in are in range: writing and reading. -/
import Derived.Test.YtcjjagkcdepgdaaDoorY6
set_option linter.unusedVariables false
set_option linter.unusedSimpArgs false
set_option maxRecDepth 100000
namespace Go.Proofs.YtcjjagkcdepgdaaDoor
open Go Go.Q

theorem imin64 : IntKind.min .i64 = -9223372036854775808 := by kernel_rfl
theorem imax64 : IntKind.max .i64 = 9223372036854775807 := by kernel_rfl
theorem okd64 {x : Int} (h : OKd (.int .i64) x) : I64 x := by
  have h : IntKind.min .i64 ≤ x ∧ x ≤ IntKind.max .i64 := h
  rw [imin64, imax64] at h; exact h
theorem door_writes (a b : Bk) (p : Pst) (n : Int) : ∃ K, F3 K a b p n = some true :=
  ⟨200000, pure_writes _ (Nat.le_refl _) a b p n⟩
theorem arr_i64 {m : Nat} {l : List Int} (h : OKd (.arr m (.int .i64)) l) (i : Int) : I64 (nthD (.int .i64) l i) := by
  rw [nthD_int, List.getD_eq_getElem?_getD]
  cases e : l[i.toNat]? with
  | none => exact ⟨by decide, by decide⟩
  | some y => exact okd64 (h.2 y (List.mem_of_getElem? e))
theorem door_reads (b : Bk) (l : List Int) (h : OKd (.arr 4 (.int .i64)) l) : ∃ K, F4 K b l = some true :=
  ⟨200000, pure_reads _ (Nat.le_refl _) b l (arr_i64 h 2)⟩

end Go.Proofs.YtcjjagkcdepgdaaDoor
