/- for every two right books of at most 60 postings with as many accounts, and a number of postings that both have: equal postings have one digest; else the digests differ, or hash.Of has given one digest for two inputs. -/
import Derived.Test.YtcjjagkcdepgdaaDoorFr
import Derived.Test.YtcjjagkcdepgdaaDoorYB
import Derived.Test.YtcjjagkcdepgdaaDoorCards
import Derived.Test.YtcjjagkcdepgdaaDoorTie
set_option linter.unusedVariables false
set_option maxRecDepth 100000
namespace Go.Proofs.YtcjjagkcdepgdaaDoor.billBindsHistory
open Go Go.Q Go.RowKit Go.ChangeShapes Go.WideShapes Go.ChangeAt

theorem plain_law (x : PDen P7) (hx : OKp P7 x) : ∃ K, F7 K x.1 x.2.1 x.2.2.1 = some true := door_binds _ _ _ hx.2.2.1
theorem gls {W : World} (hL : laidMet Tryd.prog Rows.billBindsHistoryRow.laid W) : GlL W (All W) 0 G7 := ⟨tab_cells (tab_0 hL) gn_0 rfl, trivial⟩
theorem contract (H : Type) (enc : TypeId × Value → H) (W : World) (base : Nat) (args : Array Value) (ds gs : List (DataW H)) (before : List MemPlace)
    (hval : ∀ (j : Nat) t v, Tryd.f7.params[j]? = some t → args[j]? = some v → Value.okWide Tryd.prog W .any base t v)
    (hW : DataW.Whole enc Tryd.prog Tryd.f7.params.toList Rows.billBindsHistorySpec.vars false W args.toList ds gs before) (hL : laidMetH Tryd.prog Rows.billBindsHistoryRow.laid W) :
    Calls Tryd.prog 7 args W fun e W' => ∃ v, e = .returned v ∧ Rows.billBindsHistorySpec.post enc Tryd.prog Tryd.f7 false true false false W args v W' :=
  law_post (e := mkEnv tyTab nfTab mpTab [] []) (env_ok mixed envCheck mpCheck) (unit_ok units) laidOut (gl := G7) (ps := P7) (F := fun _ => none) (tb := 4)
    ⟨fun K x => F7 K x.1 x.2.1 x.2.2.1, fun K => ok7 K, fun x hx => plain_law x hx⟩ (par_ok (by kernel_rfl)) (rd_ok (by kernel_rfl)) (by kernel_rfl) (by kernel_rfl) rfl
    (fun ds h => by
      have h : ds.length = 3 := h
      match ds, h with
      | [d0, d1, d2], _ => exact ⟨rfl, rfl, rfl⟩)
    hval hW (gls hL)

theorem laid_met (os : Os) : laidMet Tryd.prog Rows.billBindsHistoryRow.laid ((laidWorld os).forCall (fun _ _ => 0) ⟨#[], #[.agg #[.int .i64 0, .slice none 0 0], .agg #[.int .i64 0, .slice none 0 0], .int .u8 0], []⟩).memory :=
  laidMet_of_run' 8 (by kernel_rfl) (by kernel_rfl)
theorem reads (os : Os) {H : Type} (enc : TypeId × Value → H) : ∃ places, DataW.whole enc Tryd.prog ((laidWorld os).forCall (fun _ _ => 0) ⟨#[], #[.agg #[.int .i64 0, .slice none 0 0], .agg #[.int .i64 0, .slice none 0 0], .int .u8 0], []⟩).memory Tryd.f7.params.toList Rows.billBindsHistorySpec.vars false #[(.agg #[.int .i64 0, .slice none 0 0] : Value), (.agg #[.int .i64 0, .slice none 0 0] : Value), (.int .u8 0 : Value)].toList 12 = some ([.agg [.lit (.int .i64 0), .nil], .agg [.lit (.int .i64 0), .nil], .lit (.int .u8 0)], [], places) :=
  ⟨[], by kernel_rfl⟩
theorem lifted (os : Os) (started : os.Started) (H : Type) (enc : TypeId × Value → H) (F : Stop.Interp) :
    ReturnsInHanded {} Tryd.checked os 7 .any ((OpenSpec.ofChange Rows.billBindsHistorySpec).preRow enc Tryd.prog Tryd.f7 Rows.billBindsHistoryRow.domain false Rows.billBindsHistoryRow.laid) (((OpenSpec.ofChange Rows.billBindsHistorySpec).at F).post enc Tryd.prog Tryd.f7 false true false false) := by
  obtain ⟨places, hx⟩ := reads os enc
  refine returnsInHanded_of_row (C := Tryd.checked) (s := OpenSpec.ofChange Rows.billBindsHistorySpec) own started (by kernel_rfl) Tryd.func7
    (witness_row_at (enc := enc) (C := Tryd.checked) false (laidWorld os) #[.agg #[.int .i64 0, .slice none 0 0], .agg #[.int .i64 0, .slice none 0 0], .int .u8 0] rfl (by kernel_rfl) (by kernel_rfl) (by kernel_rfl)
      (OpenSpec.preRow_of_cond 12 hx (by kernel_rfl) (fun k hk => by cases hk) (by kernel_rfl) (laid_met os))) ?_
  intro W base args ds gs before hval hW _ _ _ hL _ _
  exact contract H enc W base args ds gs before hval hW hL
theorem said : Rows.BillBindsHistorySaid :=
  OpenClaim.holds_of_cond 7 Tryd.f7 rfl rfl rfl rfl rfl rfl rfl ⟨rfl, rfl, rfl, rfl, rfl⟩ rfl rfl rfl rfl rfl (by kernel_rfl) Tryd.func7 (by kernel_rfl)
    (of_decide_eq_true (by kernel_rfl)) (by unfold Func.isWrapper; first | (rw [if_pos (by decide +kernel)]; kernel_rfl) | (rw [if_neg (by decide +kernel)]; exact ⟨rfl, rfl⟩))
    (fun os started H enc _ F => by rw [OpenClaim.pre_eq_preRow]; exact lifted os started H enc F)
theorem plain (f : FuncId) (fn : Func) (hf : Tryd.pinned.checked.prog.funcNamed "quietus/quietuslaw48.BillBindsHistory" = some f) (hfn : Tryd.pinned.checked.prog.funcs[f]? = some fn) :
    false = Tryd.pinned.checked.prog.looks [] ∧ ∀ (j : Nat) t, fn.params[j]? = some t → Tryd.pinned.checked.prog.wantsStandIn t = false := by
  obtain rfl : f = 7 := Option.some.inj ((show Tryd.prog.funcNamed "quietus/quietuslaw48.BillBindsHistory" = some 7 by kernel_rfl).symm.trans hf) |>.symm
  obtain rfl : fn = Tryd.f7 := (Option.some.inj (Tryd.func7.symm.trans hfn)).symm
  refine ⟨by kernel_rfl, fun j t ht => ?_⟩
  have hall : Tryd.f7.params.toList.all (fun t => !Tryd.prog.wantsStandIn t) = true := by kernel_rfl
  have := List.all_eq_true.1 hall t (Array.mem_toList_iff.2 (Array.mem_of_getElem? ht))
  exact (show Tryd.prog.wantsStandIn t = false by simpa using this)

theorem card : Rows.BillBindsHistoryCardSaid :=
  Claim7.holds_tied_plain_at .later [] _ _ _ _ said (fun _ h => by cases h) (by kernel_rfl) (fun _ h => by cases h) billBindsHistory_row_tie rfl ⟨rfl, rfl⟩ (by kernel_rfl) rfl plain (by kernel_rfl)
end Go.Proofs.YtcjjagkcdepgdaaDoor.billBindsHistory
