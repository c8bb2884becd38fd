/- Arguments that come in are in range. -/
import Derived.Test.YtkgampbboffhmaaDoorX20
set_option linter.unusedVariables false
set_option linter.unusedSimpArgs false
set_option maxRecDepth 100000
namespace Go.Proofs.YtkgampbboffhmaaDoor
open Go Go.Q

theorem imin64 : IntKind.min .i64 = -9223372036854775808 := by kernel_rfl
theorem imax64 : IntKind.max .i64 = 9223372036854775807 := by kernel_rfl
theorem umin8 : IntKind.min .u8 = 0 := by kernel_rfl
theorem umax8 : IntKind.max .u8 = 255 := by kernel_rfl
theorem umin16 : IntKind.min .u16 = 0 := by kernel_rfl
theorem umax16 : IntKind.max .u16 = 65535 := by kernel_rfl
theorem okd64 {x : Int} (h : OKd (.int .i64) x) : I64 x := by
  have h : IntKind.min .i64 ≤ x ∧ x ≤ IntKind.max .i64 := h
  rw [imin64, imax64] at h; exact h
theorem okd8 {x : Int} (h : OKd (.int .u8) x) : 0 ≤ x ∧ x ≤ 255 := by
  have h : IntKind.min .u8 ≤ x ∧ x ≤ IntKind.max .u8 := h
  rw [umin8, umax8] at h; exact h
theorem okd16 {x : Int} (h : OKd (.int .u16) x) : 0 ≤ x ∧ x ≤ 65535 := by
  have h : IntKind.min .u16 ≤ x ∧ x ≤ IntKind.max .u16 := h
  rw [umin16, umax16] at h; exact h

abbrev tyBal : Ty := .pair (.int .i64) (.pair (.int .i64) (.pair .bool (.arr 16 (.int .u8))))
abbrev tyPlea : Ty := .pair (.int .i64) (.pair (.int .i64) (.pair (.int .i64) (.pair (.int .i64) (.list tyBal))))
abbrev tyExt : Ty := .pair tyPlea (.pair (.int .i64) (.arr 16 (.int .u8)))
abbrev tyTry : Ty := .pair (.int .i64) (.pair (.int .u8) (.pair .bool (.int .u8)))
theorem okd_bal {v : Bal} (h : OKd tyBal v) : BalI v ∧ v.2.2.2.length = 16 := ⟨⟨okd64 h.1, okd64 h.2.1⟩, h.2.2.2.1⟩
theorem okd_plea {m : Plea} (h : OKd tyPlea m) : PleaI m ∧ BalsI m.2.2.2.2 ∧ SealW m.2.2.2.2 :=
  ⟨⟨okd64 h.1, okd64 h.2.1, okd64 h.2.2.1, okd64 h.2.2.2.1⟩, fun v hv => (okd_bal (h.2.2.2.2.2 v hv)).1, fun v hv => (okd_bal (h.2.2.2.2.2 v hv)).2⟩
theorem okd_ext {x : Ext} (h : OKd tyExt x) : ExtJ x := ⟨(okd_plea h.1).1, (okd_plea h.1).2.1, (okd_plea h.1).2.2, okd64 h.2.1, h.2.2.1⟩
theorem okd_try {x : Tri} (h : OKd tyTry x) : TriI x := ⟨okd64 h.1, okd8 h.2.1, okd8 h.2.2.2⟩

theorem door_votes (c : Cou) (m : Plea) (v : Bal) (a : List Int) (h1 : OKd tyPlea m) (h2 : OKd tyBal v) (h3 : OKd (.arr 4 (.int .i64)) a) : ∃ K, F3 K c m v a = some true :=
  ⟨200000, pure_votes _ (Nat.le_refl _) c m v a (okd_plea h1).1 (okd_plea h1).2.1 (okd_bal h2).1 (fun n hn => okd64 (h3.2 n hn)) h3.1⟩
theorem door_records (c : Cou) (l : List Ext) (h : OKd (.list tyExt) l) : ∃ K, F4 K c l = some true :=
  ⟨200000, pure_records _ (Nat.le_refl _) c l (fun x hx => okd_ext (h.2 x hx))⟩
theorem door_quorum (c : Cou) (la mo : Int) (l : List Tri) (aft : Int) (h1 : OKd (.int .u16) la) (h2 : OKd (.int .u16) mo) (h3 : OKd (.list tyTry) l) (h4 : OKd (.int .u8) aft) : ∃ K, F5 K c la mo l aft = some true :=
  ⟨200000, pure_quorum _ (Nat.le_refl _) c la mo l aft (okd16 h1) (okd16 h2) (fun x hx => okd_try (h3.2 x hx)) (okd8 h4)⟩
theorem door_order (c : Cou) (ys : List Bool) (tu : List Int) (h : OKd (.list (.int .u8)) tu) : ∃ K, F6 K c ys tu = some true :=
  ⟨200000, pure_order _ (Nat.le_refl _) c ys tu (fun x hx => okd8 (h.2 x hx)) h.1⟩
theorem door_chains (c : Cou) (more : List Int) (sk : Int) (h1 : OKd (.list (.int .u16)) more) (h2 : OKd (.int .u8) sk) : ∃ K, F7 K c more sk = some true :=
  ⟨200000, pure_chains _ (Nat.le_refl _) c more sk (fun x hx => okd16 (h1.2 x hx)) (okd8 h2)⟩

end Go.Proofs.YtkgampbboffhmaaDoor
