import Derived.Test.YtkgampbboffhmaaDoorEnv
set_option linter.unusedVariables false
set_option maxRecDepth 100000
namespace Go.Proofs.YtkgampbboffhmaaDoor
open Go Go.Q
/- quietus/quietusref30.Few -/
def T27l0 : LoopAnn := ⟨tm 28 [(1, (.ptr 1)), (1, (.data (.int .i64)))] [(1, (.pair (.list (.int .i64)) (.pair (.list .str) (.pair (.int .i64) (.int .i64)))))], tm 28 [] []⟩
def A27 : List (Nat × LoopAnn) := [(0, T27l0)]
noncomputable def E27 (K : Nat) : Env := mkEnv tyTab nfTab mpTab G27 []
def B27l0 (K : Nat) (t3 : Int) (b1 : ((List Int) × ((List ByteArray) × (Int × Int)))) (kn : (Int → ((List Int) × ((List ByteArray) × (Int × Int))) → Option (Bool))) (kx : Option (Bool)) : Option (Bool) := (if ((ltI t3 (((List.length b1.2.1) : Nat) : Int)) = true) then (if ((inR t3 (((List.length b1.2.1) : Nat) : Int)) = true) then (if ((ltI (80 : Int) (((ByteArray.size (nthD Ty.str b1.2.1 t3)) : Nat) : Int)) = true) then (some Bool.false) else (kn (IntKind.wrap IntKind.i64 (t3 + (1 : Int))) (b1.1, (b1.2.1, (b1.2.2.1, b1.2.2.2))))) else none) else kx)
def F27l0 (K : Nat) : Nat → Int → ((List Int) × ((List ByteArray) × (Int × Int))) → Option (Bool) → Option (Bool)
  | 0, _, _, _ => none
  | k + 1, t3, b1, kx => B27l0 K t3 b1 (fun t3 b1 => F27l0 K k t3 b1 kx) kx
noncomputable def S27l0 (K : Nat) := loopStep (E27 K) A27 (lpK (RDen R27) K) (codeAt [1, 1, 0, 1, 2, 2] (cd Tryd.f27)) 0 T27l0 (fun s => resOut (E27 K) s R27 Tryd.f27.results.toList)
noncomputable def L27l0 (K : Nat) (t3 : Int) (b1 : ((List Int) × ((List ByteArray) × (Int × Int)))) (kx : Option (Bool)) : Option (Bool) := evLoop (S27l0 K) (fun _ => kx) K ((t3, ()), (b1, ()))
theorem S27l0_eq (K : Nat) (t3 : Int) (b1 : ((List Int) × ((List ByteArray) × (Int × Int)))) (kn : _ → Option (Bool)) (kx : _ → Option (Bool)) : S27l0 K ((t3, ()), (b1, ())) kn kx = B27l0 K t3 b1 (fun t3 b1 => kn ((t3, ()), (b1, ()))) (kx ((), ())) := by
  unfold B27l0; kernel_rfl
theorem F27l0_go (K : Nat) (kx : Option (Bool)) : ∀ (n : Nat) (t3 : Int) (b1 : ((List Int) × ((List ByteArray) × (Int × Int)))), evLoop (S27l0 K) (fun _ => kx) n ((t3, ()), (b1, ())) = F27l0 K n t3 b1 kx := by
  intro n
  induction n with
  | zero => intros; rfl
  | succ n ih =>
    intros t3 b1
    refine (S27l0_eq K t3 b1 _ _).trans ?_
    have e : (fun t3 b1 => evLoop (S27l0 K) (fun _ => kx) n ((t3, ()), (b1, ()))) = fun t3 b1 => F27l0 K n t3 b1 kx := by
      funext t3 b1; exact ih t3 b1
    rw [e]; rfl
theorem F27l0_eq (K : Nat) : F27l0 K K = L27l0 K := by
  funext t3 b1 kx; exact (F27l0_go K kx K t3 b1).symm
def F27 (K : Nat) (x0 : ((List Int) × ((List ByteArray) × (Int × Int)))) : Option (Bool) := (if ((ltI (20 : Int) (((List.length x0.1) : Nat) : Int)) = true) then (some Bool.false) else (if ((ltI (20 : Int) (((List.length x0.2.1) : Nat) : Int)) = true) then (some Bool.false) else (F27l0 K K (0 : Int) (x0.1, (x0.2.1, (x0.2.2.1, x0.2.2.2))) (some true))))
theorem F27_eq (K : Nat) (x0 : ((List Int) × ((List ByteArray) × (Int × Int)))) : evFn (E27 K) A27 P27 R27 (lpK (RDen R27) K) 28 Tryd.f27.results.toList (cd Tryd.f27) (x0, ()) = F27 K x0 := by
  unfold F27; rw [F27l0_eq K]; kernel_rfl
/- quietus/quietuslaw30.few -/
def A8 : List (Nat × LoopAnn) := []
noncomputable def E8 (K : Nat) : Env := mkEnv tyTab nfTab mpTab G8 [(27, ⟨P27, R27, fun x => F27 K x.1⟩)]
def F8 (K : Nat) (x0 : ((List Int) × ((List ByteArray) × (Int × Int)))) (x1 : (Int × (Int × (Int × (Int × (List (Int × (Int × (Bool × (List Int)))))))))) : Option (Bool) := ((F27 K (x0.1, (x0.2.1, (x0.2.2.1, x0.2.2.2)))).bind fun y0 => (if (y0 = true) then (some (leI (((List.length x1.2.2.2.2) : Nat) : Int) (14 : Int))) else (some Bool.false)))
theorem F8_eq (K : Nat) (x0 : ((List Int) × ((List ByteArray) × (Int × Int)))) (x1 : (Int × (Int × (Int × (Int × (List (Int × (Int × (Bool × (List Int)))))))))) : evFn (E8 K) A8 P8 R8 (lpK (RDen R8) K) 13 Tryd.f8.results.toList (cd Tryd.f8) (x0, (x1, ())) = F8 K x0 x1 := by
  unfold F8; kernel_rfl
/- quietus/extend.Check -/
def T19l0 : LoopAnn := ⟨tm 92 [(1, (.ptr 1)), (44, (.data (.list (.int .i64)))), (0, (.data (.int .i64))), (0, (.data (.int .i64)))] [(1, (.pair (.list (.int .i64)) (.pair (.list .str) (.pair (.int .i64) (.int .i64)))))], tm 92 [] []⟩
def A19 : List (Nat × LoopAnn) := [(0, T19l0)]
noncomputable def E19 (K : Nat) : Env := mkEnv tyTab nfTab mpTab G19 []
def B19l0 (K : Nat) (t46 : (List Int)) (t47 : Int) (t48 : Int) (b1 : ((List Int) × ((List ByteArray) × (Int × Int)))) (kn : ((List Int) → Int → Int → ((List Int) × ((List ByteArray) × (Int × Int))) → Option (Int))) (kx : Option (Int)) : Option (Int) := (if ((ltI t48 t47) = true) then (if ((inR t48 (((List.length t46) : Nat) : Int)) = true) then (if ((ltI (nthD (Ty.int IntKind.i64) t46 t48) (0 : Int)) = true) then (some (1 : Int)) else (if ((leI (12 : Int) (nthD (Ty.int IntKind.i64) t46 t48)) = true) then (some (1 : Int)) else (if ((ltI (0 : Int) t48) = true) then (if ((inR (IntKind.wrap IntKind.i64 (t48 - (1 : Int))) (((List.length b1.1) : Nat) : Int)) = true) then (if ((leI (nthD (Ty.int IntKind.i64) t46 t48) (nthD (Ty.int IntKind.i64) b1.1 (IntKind.wrap IntKind.i64 (t48 - (1 : Int))))) = true) then (some (1 : Int)) else (if ((inR t48 (((List.length b1.2.1) : Nat) : Int)) = true) then (if ((ltI (((ByteArray.size (nthD Ty.str b1.2.1 t48)) : Nat) : Int) (1 : Int)) = true) then (some (1 : Int)) else (if ((inR t48 (((List.length b1.2.1) : Nat) : Int)) = true) then (if ((ltI (64 : Int) (((ByteArray.size (nthD Ty.str b1.2.1 t48)) : Nat) : Int)) = true) then (some (1 : Int)) else (kn t46 t47 (IntKind.wrap IntKind.i64 (t48 + (1 : Int))) (b1.1, (b1.2.1, (b1.2.2.1, b1.2.2.2))))) else none)) else none)) else none) else (if ((inR t48 (((List.length b1.2.1) : Nat) : Int)) = true) then (if ((ltI (((ByteArray.size (nthD Ty.str b1.2.1 t48)) : Nat) : Int) (1 : Int)) = true) then (some (1 : Int)) else (if ((inR t48 (((List.length b1.2.1) : Nat) : Int)) = true) then (if ((ltI (64 : Int) (((ByteArray.size (nthD Ty.str b1.2.1 t48)) : Nat) : Int)) = true) then (some (1 : Int)) else (kn t46 t47 (IntKind.wrap IntKind.i64 (t48 + (1 : Int))) (b1.1, (b1.2.1, (b1.2.2.1, b1.2.2.2))))) else none)) else none)))) else none) else kx)
def F19l0 (K : Nat) : Nat → (List Int) → Int → Int → ((List Int) × ((List ByteArray) × (Int × Int))) → Option (Int) → Option (Int)
  | 0, _, _, _, _, _ => none
  | k + 1, t46, t47, t48, b1, kx => B19l0 K t46 t47 t48 b1 (fun t46 t47 t48 b1 => F19l0 K k t46 t47 t48 b1 kx) kx
noncomputable def S19l0 (K : Nat) := loopStep (E19 K) A19 (lpK (RDen R19) K) (codeAt [1, 1, 1, 0, 1, 2, 2] (cd Tryd.f19)) 0 T19l0 (fun s => resOut (E19 K) s R19 Tryd.f19.results.toList)
noncomputable def L19l0 (K : Nat) (t46 : (List Int)) (t47 : Int) (t48 : Int) (b1 : ((List Int) × ((List ByteArray) × (Int × Int)))) (kx : Option (Int)) : Option (Int) := evLoop (S19l0 K) (fun _ => kx) K ((t46, (t47, (t48, ()))), (b1, ()))
theorem S19l0_eq (K : Nat) (t46 : (List Int)) (t47 : Int) (t48 : Int) (b1 : ((List Int) × ((List ByteArray) × (Int × Int)))) (kn : _ → Option (Int)) (kx : _ → Option (Int)) : S19l0 K ((t46, (t47, (t48, ()))), (b1, ())) kn kx = B19l0 K t46 t47 t48 b1 (fun t46 t47 t48 b1 => kn ((t46, (t47, (t48, ()))), (b1, ()))) (kx ((), ())) := by
  unfold B19l0; kernel_rfl
theorem F19l0_go (K : Nat) (kx : Option (Int)) : ∀ (n : Nat) (t46 : (List Int)) (t47 : Int) (t48 : Int) (b1 : ((List Int) × ((List ByteArray) × (Int × Int)))), evLoop (S19l0 K) (fun _ => kx) n ((t46, (t47, (t48, ()))), (b1, ())) = F19l0 K n t46 t47 t48 b1 kx := by
  intro n
  induction n with
  | zero => intros; rfl
  | succ n ih =>
    intros t46 t47 t48 b1
    refine (S19l0_eq K t46 t47 t48 b1 _ _).trans ?_
    have e : (fun t46 t47 t48 b1 => evLoop (S19l0 K) (fun _ => kx) n ((t46, (t47, (t48, ()))), (b1, ()))) = fun t46 t47 t48 b1 => F19l0 K n t46 t47 t48 b1 kx := by
      funext t46 t47 t48 b1; exact ih t46 t47 t48 b1
    rw [e]; rfl
theorem F19l0_eq (K : Nat) : F19l0 K K = L19l0 K := by
  funext t46 t47 t48 b1 kx; exact (F19l0_go K kx K t46 t47 t48 b1).symm
def F19 (K : Nat) (x0 : ((List Int) × ((List ByteArray) × (Int × Int)))) : Option (Int) := (if ((ltI (((List.length x0.1) : Nat) : Int) (1 : Int)) = true) then (some (1 : Int)) else (if ((ltI (12 : Int) (((List.length x0.1) : Nat) : Int)) = true) then (some (1 : Int)) else (if ((!(eqI (((List.length x0.2.1) : Nat) : Int) (((List.length x0.1) : Nat) : Int))) = true) then (some (1 : Int)) else (if ((leI x0.2.2.1 (IntKind.wrap IntKind.i64 (Int.tdiv (((List.length x0.1) : Nat) : Int) (2 : Int)))) = true) then (some (1 : Int)) else (if ((ltI (((List.length x0.1) : Nat) : Int) x0.2.2.1) = true) then (some (1 : Int)) else (if ((ltI x0.2.2.2 (1 : Int)) = true) then (some (1 : Int)) else (if ((ltI (1000000 : Int) x0.2.2.2) = true) then (some (1 : Int)) else (F19l0 K K x0.1 (((List.length x0.1) : Nat) : Int) (0 : Int) (x0.1, (x0.2.1, (x0.2.2.1, x0.2.2.2))) (some (0 : Int))))))))))
theorem F19_eq (K : Nat) (x0 : ((List Int) × ((List ByteArray) × (Int × Int)))) : evFn (E19 K) A19 P19 R19 (lpK (RDen R19) K) 92 Tryd.f19.results.toList (cd Tryd.f19) (x0, ()) = F19 K x0 := by
  unfold F19; rw [F19l0_eq K]; kernel_rfl
/- quietus/extend.framed -/
def A33 : List (Nat × LoopAnn) := []
noncomputable def E33 (K : Nat) : Env := mkEnv tyTab nfTab mpTab G33 []
def F33 (K : Nat) (x0 : ((List Int) × ((List ByteArray) × (Int × Int)))) (x1 : (Int × (Int × (Int × (Int × (List (Int × (Int × (Bool × (List Int)))))))))) : Option (Bool) := (if ((leI (0 : Int) x1.1) = true) then (if ((leI x1.1 (1099511627776 : Int)) = true) then (if ((leI (0 : Int) x1.2.2.2.1) = true) then (if ((leI x1.2.2.2.1 x1.2.1) = true) then (if ((ltI x1.2.1 x1.2.2.1) = true) then (if ((leI x1.2.2.1 (1000000 : Int)) = true) then (some (leI (IntKind.wrap IntKind.i64 (x1.2.2.1 - x1.2.1)) x0.2.2.2)) else (some Bool.false)) else (some Bool.false)) else (some Bool.false)) else (some Bool.false)) else (some Bool.false)) else (some Bool.false))
theorem F33_eq (K : Nat) (x0 : ((List Int) × ((List ByteArray) × (Int × Int)))) (x1 : (Int × (Int × (Int × (Int × (List (Int × (Int × (Bool × (List Int)))))))))) : evFn (E33 K) A33 P33 R33 (lpK (RDen R33) K) 47 Tryd.f33.results.toList (cd Tryd.f33) (x0, (x1, ())) = F33 K x0 x1 := by
  unfold F33; kernel_rfl
/- quietus/extend.Open -/
def A10 : List (Nat × LoopAnn) := []
noncomputable def E10 (K : Nat) : Env := mkEnv tyTab nfTab mpTab G10 [(19, ⟨P19, R19, fun x => F19 K x.1⟩), (33, ⟨P33, R33, fun x => F33 K x.1 x.2.1⟩)]
def F10 (K : Nat) (x0 : ((List Int) × ((List ByteArray) × (Int × Int)))) (x1 : Int) (x2 : Int) (x3 : Int) (x4 : Int) : Option ((Int × (Int × (Int × (Int × (List (Int × (Int × (Bool × (List Int))))))))) × Int) := ((F19 K (x0.1, (x0.2.1, (x0.2.2.1, x0.2.2.2)))).bind fun y0 => (if ((!(eqI y0 (0 : Int))) = true) then (some (((0 : Int), ((0 : Int), ((0 : Int), ((0 : Int), [])))), y0)) else (if ((ltI x2 x4) = true) then (some (((0 : Int), ((0 : Int), ((0 : Int), ((0 : Int), [])))), (18 : Int))) else ((F33 K (x0.1, (x0.2.1, (x0.2.2.1, x0.2.2.2))) (x1, (x2, (x3, (x4, []))))).bind fun y1 => (if ((!y1) = true) then (some (((0 : Int), ((0 : Int), ((0 : Int), ((0 : Int), [])))), (3 : Int))) else (some ((x1, (x2, (x3, (x4, [])))), (0 : Int))))))))
theorem F10_eq (K : Nat) (x0 : ((List Int) × ((List ByteArray) × (Int × Int)))) (x1 : Int) (x2 : Int) (x3 : Int) (x4 : Int) : evFn (E10 K) A10 P10 R10 (lpK (RDen R10) K) 35 Tryd.f10.results.toList (cd Tryd.f10) (x0, (x1, (x2, (x3, (x4, ()))))) = F10 K x0 x1 x2 x3 x4 := by
  unfold F10; kernel_rfl
/- slices.Index[[]int,int] -/
def T49l0 : LoopAnn := ⟨tm 19 [(0, (.data (.list (.int .i64)))), (0, (.data (.int .i64))), (5, (.data (.int .i64))), (0, (.data (.int .i64)))] [], tm 19 [] []⟩
def A49 : List (Nat × LoopAnn) := [(0, T49l0)]
noncomputable def E49 (K : Nat) : Env := mkEnv tyTab nfTab mpTab G49 []
def B49l0 (K : Nat) (t0 : (List Int)) (t1 : Int) (t7 : Int) (t8 : Int) (kn : ((List Int) → Int → Int → Int → Option (Int))) (kx : Option (Int)) : Option (Int) := (if ((ltI t8 t7) = true) then (if ((inR t8 (((List.length t0) : Nat) : Int)) = true) then (if ((eqI t1 (nthD (Ty.int IntKind.i64) t0 t8)) = true) then (some t8) else (kn t0 t1 t7 (IntKind.wrap IntKind.i64 (t8 + (1 : Int))))) else none) else kx)
def F49l0 (K : Nat) : Nat → (List Int) → Int → Int → Int → Option (Int) → Option (Int)
  | 0, _, _, _, _, _ => none
  | k + 1, t0, t1, t7, t8, kx => B49l0 K t0 t1 t7 t8 (fun t0 t1 t7 t8 => F49l0 K k t0 t1 t7 t8 kx) kx
noncomputable def S49l0 (K : Nat) := loopStep (E49 K) A49 (lpK (RDen R49) K) (codeAt [1, 0, 1, 2, 2] (cd Tryd.f49)) 0 T49l0 (fun s => resOut (E49 K) s R49 Tryd.f49.results.toList)
noncomputable def L49l0 (K : Nat) (t0 : (List Int)) (t1 : Int) (t7 : Int) (t8 : Int) (kx : Option (Int)) : Option (Int) := evLoop (S49l0 K) (fun _ => kx) K ((t0, (t1, (t7, (t8, ())))), ())
theorem S49l0_eq (K : Nat) (t0 : (List Int)) (t1 : Int) (t7 : Int) (t8 : Int) (kn : _ → Option (Int)) (kx : _ → Option (Int)) : S49l0 K ((t0, (t1, (t7, (t8, ())))), ()) kn kx = B49l0 K t0 t1 t7 t8 (fun t0 t1 t7 t8 => kn ((t0, (t1, (t7, (t8, ())))), ())) (kx ((), ())) := by
  unfold B49l0; kernel_rfl
theorem F49l0_go (K : Nat) (kx : Option (Int)) : ∀ (n : Nat) (t0 : (List Int)) (t1 : Int) (t7 : Int) (t8 : Int), evLoop (S49l0 K) (fun _ => kx) n ((t0, (t1, (t7, (t8, ())))), ()) = F49l0 K n t0 t1 t7 t8 kx := by
  intro n
  induction n with
  | zero => intros; rfl
  | succ n ih =>
    intros t0 t1 t7 t8
    refine (S49l0_eq K t0 t1 t7 t8 _ _).trans ?_
    have e : (fun t0 t1 t7 t8 => evLoop (S49l0 K) (fun _ => kx) n ((t0, (t1, (t7, (t8, ())))), ())) = fun t0 t1 t7 t8 => F49l0 K n t0 t1 t7 t8 kx := by
      funext t0 t1 t7 t8; exact ih t0 t1 t7 t8
    rw [e]; rfl
theorem F49l0_eq (K : Nat) : F49l0 K K = L49l0 K := by
  funext t0 t1 t7 t8 kx; exact (F49l0_go K kx K t0 t1 t7 t8).symm
def F49 (K : Nat) (x0 : (List Int)) (x1 : Int) : Option (Int) := (F49l0 K K x0 x1 (((List.length x0) : Nat) : Int) (0 : Int) (some (-(1 : Int))))
theorem F49_eq (K : Nat) (x0 : (List Int)) (x1 : Int) : evFn (E49 K) A49 P49 R49 (lpK (RDen R49) K) 19 Tryd.f49.results.toList (cd Tryd.f49) (x0, (x1, ())) = F49 K x0 x1 := by
  unfold F49; rw [F49l0_eq K]; kernel_rfl
/- slices.Contains[[]int,int] -/
def A34 : List (Nat × LoopAnn) := []
noncomputable def E34 (K : Nat) : Env := mkEnv tyTab nfTab mpTab G34 [(49, ⟨P49, R49, fun x => F49 K x.1 x.2.1⟩)]
def F34 (K : Nat) (x0 : (List Int)) (x1 : Int) : Option (Bool) := ((F49 K x0 x1).bind fun y0 => (some (leI (0 : Int) y0)))
theorem F34_eq (K : Nat) (x0 : (List Int)) (x1 : Int) : evFn (E34 K) A34 P34 R34 (lpK (RDen R34) K) 9 Tryd.f34.results.toList (cd Tryd.f34) (x0, (x1, ())) = F34 K x0 x1 := by
  unfold F34; kernel_rfl
/- quietus/extend.flag -/
def A43 : List (Nat × LoopAnn) := []
noncomputable def E43 (K : Nat) : Env := mkEnv tyTab nfTab mpTab G43 []
def F43 (K : Nat) (x0 : Bool) : Option (Int) := (if (x0 = true) then (some (1 : Int)) else (some (0 : Int)))
theorem F43_eq (K : Nat) (x0 : Bool) : evFn (E43 K) A43 P43 R43 (lpK (RDen R43) K) 4 Tryd.f43.results.toList (cd Tryd.f43) (x0, ()) = F43 K x0 := by
  unfold F43; kernel_rfl
/- quietus/wire.Int -/
def T56l0 : LoopAnn := ⟨tm 27 [(3, (.data (.int .u64))), (0, (.vec (.int .u8)))] [], tm 27 [(3, (.data (.int .u64))), (0, (.vec (.int .u8)))] []⟩
def A56 : List (Nat × LoopAnn) := [(0, T56l0)]
noncomputable def E56 (K : Nat) : Env := mkEnv tyTab nfTab mpTab G56 []
def B56l0 (K : Nat) (t3 : Int) (t4 : (List Int)) (kn : (Int → (List Int) → Option ((List Int)))) (kx : (Int → (List Int) → Option ((List Int)))) : Option ((List Int)) := (if ((ltI (127 : Int) t3) = true) then (if ((room ((List.length t4) + (List.length ((bitOr IntKind.u8 (IntKind.wrap IntKind.u8 t3) (128 : Int)) :: (List.replicate 0 (0 : Int)))))) = true) then (kn (shrI IntKind.u64 t3 (7 : Int)) (t4 ++ ((bitOr IntKind.u8 (IntKind.wrap IntKind.u8 t3) (128 : Int)) :: (List.replicate 0 (0 : Int))))) else none) else (kx t3 t4))
def F56l0 (K : Nat) : Nat → Int → (List Int) → (Int → (List Int) → Option ((List Int))) → Option ((List Int))
  | 0, _, _, _ => none
  | k + 1, t3, t4, kx => B56l0 K t3 t4 (fun t3 t4 => F56l0 K k t3 t4 kx) kx
noncomputable def S56l0 (K : Nat) := loopStep (E56 K) A56 (lpK (RDen R56) K) (codeAt [1, 1, 1, 0, 2, 2] (cd Tryd.f56)) 0 T56l0 (fun s => resOut (E56 K) s R56 Tryd.f56.results.toList)
noncomputable def L56l0 (K : Nat) (t3 : Int) (t4 : (List Int)) (kx : (Int → (List Int) → Option ((List Int)))) : Option ((List Int)) := evLoop (S56l0 K) (fun y => kx y.1.1 y.1.2.1) K ((t3, (t4, ())), ())
theorem S56l0_eq (K : Nat) (t3 : Int) (t4 : (List Int)) (kn : _ → Option ((List Int))) (kx : _ → Option ((List Int))) : S56l0 K ((t3, (t4, ())), ()) kn kx = B56l0 K t3 t4 (fun t3 t4 => kn ((t3, (t4, ())), ())) (fun y0 y1 => kx ((y0, (y1, ())), ())) := by
  unfold B56l0; kernel_rfl
theorem F56l0_go (K : Nat) (kx : (Int → (List Int) → Option ((List Int)))) : ∀ (n : Nat) (t3 : Int) (t4 : (List Int)), evLoop (S56l0 K) (fun y => kx y.1.1 y.1.2.1) n ((t3, (t4, ())), ()) = F56l0 K n t3 t4 kx := by
  intro n
  induction n with
  | zero => intros; rfl
  | succ n ih =>
    intros t3 t4
    refine (S56l0_eq K t3 t4 _ _).trans ?_
    have e : (fun t3 t4 => evLoop (S56l0 K) (fun y => kx y.1.1 y.1.2.1) n ((t3, (t4, ())), ())) = fun t3 t4 => F56l0 K n t3 t4 kx := by
      funext t3 t4; exact ih t3 t4
    rw [e]; rfl
theorem F56l0_eq (K : Nat) : F56l0 K K = L56l0 K := by
  funext t3 t4 kx; exact (F56l0_go K kx K t3 t4).symm
def F56 (K : Nat) (x0 : Int) : Option ((List Int)) := (F56l0 K K (bitXor IntKind.u64 (shlI IntKind.u64 (IntKind.wrap IntKind.u64 x0) (1 : Int)) (IntKind.wrap IntKind.u64 (shrI IntKind.i64 x0 (63 : Int)))) [] (fun y0 y1 => (if ((room ((List.length y1) + (List.length ((IntKind.wrap IntKind.u8 y0) :: (List.replicate 0 (0 : Int)))))) = true) then (some (y1 ++ ((IntKind.wrap IntKind.u8 y0) :: (List.replicate 0 (0 : Int))))) else none)))
theorem F56_eq (K : Nat) (x0 : Int) : evFn (E56 K) A56 P56 R56 (lpK (RDen R56) K) 27 Tryd.f56.results.toList (cd Tryd.f56) (x0, ()) = F56 K x0 := by
  unfold F56; rw [F56l0_eq K]; kernel_rfl
/- quietus/extend.texts -/
def T45l0 : LoopAnn := ⟨tm 20 [(3, (.vec .str)), (2, (.data (.list (.int .i64)))), (0, (.data (.int .i64))), (0, (.data (.int .i64)))] [], tm 20 [(3, (.vec .str))] []⟩
def A45 : List (Nat × LoopAnn) := [(0, T45l0)]
noncomputable def E45 (K : Nat) : Env := mkEnv tyTab nfTab mpTab G45 [(56, ⟨P56, R56, fun x => F56 K x.1⟩)]
def B45l0 (K : Nat) (t3 : (List ByteArray)) (t6 : (List Int)) (t7 : Int) (t8 : Int) (kn : ((List ByteArray) → (List Int) → Int → Int → Option ((List ByteArray)))) (kx : ((List ByteArray) → Option ((List ByteArray)))) : Option ((List ByteArray)) := (if ((ltI t8 t7) = true) then (if ((inR t8 (((List.length t6) : Nat) : Int)) = true) then ((F56 K (nthD (Ty.int IntKind.i64) t6 t8)).bind fun y0 => (if ((room ((List.length t3) + (List.length ((mkStr y0) :: (List.replicate 0 ByteArray.empty))))) = true) then (kn (t3 ++ ((mkStr y0) :: (List.replicate 0 ByteArray.empty))) t6 t7 (IntKind.wrap IntKind.i64 (t8 + (1 : Int)))) else none)) else none) else (kx t3))
def F45l0 (K : Nat) : Nat → (List ByteArray) → (List Int) → Int → Int → ((List ByteArray) → Option ((List ByteArray))) → Option ((List ByteArray))
  | 0, _, _, _, _, _ => none
  | k + 1, t3, t6, t7, t8, kx => B45l0 K t3 t6 t7 t8 (fun t3 t6 t7 t8 => F45l0 K k t3 t6 t7 t8 kx) kx
noncomputable def S45l0 (K : Nat) := loopStep (E45 K) A45 (lpK (RDen R45) K) (codeAt [1, 1, 0, 1, 2, 2] (cd Tryd.f45)) 0 T45l0 (fun s => resOut (E45 K) s R45 Tryd.f45.results.toList)
noncomputable def L45l0 (K : Nat) (t3 : (List ByteArray)) (t6 : (List Int)) (t7 : Int) (t8 : Int) (kx : ((List ByteArray) → Option ((List ByteArray)))) : Option ((List ByteArray)) := evLoop (S45l0 K) (fun y => kx y.1.1) K ((t3, (t6, (t7, (t8, ())))), ())
theorem S45l0_eq (K : Nat) (t3 : (List ByteArray)) (t6 : (List Int)) (t7 : Int) (t8 : Int) (kn : _ → Option ((List ByteArray))) (kx : _ → Option ((List ByteArray))) : S45l0 K ((t3, (t6, (t7, (t8, ())))), ()) kn kx = B45l0 K t3 t6 t7 t8 (fun t3 t6 t7 t8 => kn ((t3, (t6, (t7, (t8, ())))), ())) (fun y0 => kx ((y0, ()), ())) := by
  unfold B45l0; kernel_rfl
theorem F45l0_go (K : Nat) (kx : ((List ByteArray) → Option ((List ByteArray)))) : ∀ (n : Nat) (t3 : (List ByteArray)) (t6 : (List Int)) (t7 : Int) (t8 : Int), evLoop (S45l0 K) (fun y => kx y.1.1) n ((t3, (t6, (t7, (t8, ())))), ()) = F45l0 K n t3 t6 t7 t8 kx := by
  intro n
  induction n with
  | zero => intros; rfl
  | succ n ih =>
    intros t3 t6 t7 t8
    refine (S45l0_eq K t3 t6 t7 t8 _ _).trans ?_
    have e : (fun t3 t6 t7 t8 => evLoop (S45l0 K) (fun y => kx y.1.1) n ((t3, (t6, (t7, (t8, ())))), ())) = fun t3 t6 t7 t8 => F45l0 K n t3 t6 t7 t8 kx := by
      funext t3 t6 t7 t8; exact ih t3 t6 t7 t8
    rw [e]; rfl
theorem F45l0_eq (K : Nat) : F45l0 K K = L45l0 K := by
  funext t3 t6 t7 t8 kx; exact (F45l0_go K kx K t3 t6 t7 t8).symm
def F45 (K : Nat) (x0 : (List Int)) : Option ((List ByteArray)) := (F45l0 K K [] x0 (((List.length x0) : Nat) : Int) (0 : Int) (fun y0 => (some y0)))
theorem F45_eq (K : Nat) (x0 : (List Int)) : evFn (E45 K) A45 P45 R45 (lpK (RDen R45) K) 20 Tryd.f45.results.toList (cd Tryd.f45) (x0, ()) = F45 K x0 := by
  unfold F45; rw [F45l0_eq K]; kernel_rfl
/- quietus/wire.Bytes -/
def A59 : List (Nat × LoopAnn) := []
noncomputable def E59 (K : Nat) : Env := mkEnv tyTab nfTab mpTab G59 [(56, ⟨P56, R56, fun x => F56 K x.1⟩)]
def F59 (K : Nat) (x0 : ByteArray) : Option ((List Int)) := ((F56 K (((ByteArray.size x0) : Nat) : Int)).bind fun y0 => (if ((room ((List.length y0) + (List.length (bytesOf x0)))) = true) then (some (y0 ++ (bytesOf x0))) else none))
theorem F59_eq (K : Nat) (x0 : ByteArray) : evFn (E59 K) A59 P59 R59 (lpK (RDen R59) K) 8 Tryd.f59.results.toList (cd Tryd.f59) (x0, ()) = F59 K x0 := by
  unfold F59; kernel_rfl
/- quietus/hash.Begin -/
def A57 : List (Nat × LoopAnn) := []
noncomputable def E57 (K : Nat) : Env := mkEnv tyTab nfTab mpTab G57 []
def F57 (K : Nat) : Option (((List Int) × ((List Int) × Int))) := (some (((1779033703 : Int) :: (3144134277 : Int) :: (1013904242 : Int) :: (2773480762 : Int) :: (1359893119 : Int) :: (2600822924 : Int) :: (528734635 : Int) :: (1541459225 : Int) :: (List.replicate 0 (0 : Int))), ((List.replicate 64 (0 : Int)), (0 : Int))))
theorem F57_eq (K : Nat) : evFn (E57 K) A57 P57 R57 (lpK (RDen R57) K) 3 Tryd.f57.results.toList (cd Tryd.f57) () = F57 K := by
  unfold F57; kernel_rfl
/- math/bits.RotateLeft32 -/
def A78 : List (Nat × LoopAnn) := []
noncomputable def E78 (K : Nat) : Env := mkEnv tyTab nfTab mpTab G78 []
def F78 (K : Nat) (x0 : Int) (x1 : Int) : Option (Int) := (if ((ltI (IntKind.wrap IntKind.u64 ((32 : Int) - (bitAnd IntKind.u64 (IntKind.wrap IntKind.u64 x1) (31 : Int)))) (0 : Int)) = true) then none else (some (bitOr IntKind.u32 (shlI IntKind.u32 x0 (bitAnd IntKind.u64 (IntKind.wrap IntKind.u64 x1) (31 : Int))) (shrI IntKind.u32 x0 (IntKind.wrap IntKind.u64 ((32 : Int) - (bitAnd IntKind.u64 (IntKind.wrap IntKind.u64 x1) (31 : Int))))))))
theorem F78_eq (K : Nat) (x0 : Int) (x1 : Int) : evFn (E78 K) A78 P78 R78 (lpK (RDen R78) K) 17 Tryd.f78.results.toList (cd Tryd.f78) (x0, (x1, ())) = F78 K x0 x1 := by
  unfold F78; kernel_rfl
/- quietus/hash.schedule -/
def T75l2 : LoopAnn := ⟨tm 79 [(0, (.data (.list (.int .u8)))), (1, (.ptr 2)), (0, (.ptr 3)), (0, (.data (.int .i64))), (6, (.data (.int .i64))), (10, (.data (.list (.int .u8)))), (0, (.data (.int .i64))), (0, (.data (.int .i64)))] [(2, (.arr 64 (.int .u32))), (0, (.arr 64 (.int .u32)))], tm 79 [(0, (.data (.list (.int .u8)))), (1, (.ptr 2)), (0, (.ptr 3)), (7, (.data (.int .i64)))] [(2, (.arr 64 (.int .u32))), (0, (.arr 64 (.int .u32)))]⟩
def T75l0 : LoopAnn := ⟨tm 79 [(0, (.data (.list (.int .u8)))), (1, (.ptr 2)), (0, (.ptr 3)), (7, (.data (.int .i64)))] [(2, (.arr 64 (.int .u32))), (0, (.arr 64 (.int .u32)))], tm 79 [(2, (.ptr 2)), (0, (.ptr 3))] [(2, (.arr 64 (.int .u32))), (0, (.arr 64 (.int .u32)))]⟩
def A75 : List (Nat × LoopAnn) := [(2, T75l2), (0, T75l0)]
noncomputable def E75 (K : Nat) : Env := mkEnv tyTab nfTab mpTab G75 [(78, ⟨P78, R78, fun x => F78 K x.1 x.2.1⟩)]
def B75l2 (K : Nat) (t0 : (List Int)) (t4 : Int) (t11 : Int) (t22 : (List Int)) (t23 : Int) (t24 : Int) (b2 : (List Int)) (b3 : (List Int)) (kn : ((List Int) → Int → Int → (List Int) → Int → Int → (List Int) → (List Int) → Option ((List Int)))) (kx : ((List Int) → Int → (List Int) → (List Int) → Option ((List Int)))) : Option ((List Int)) := (if ((ltI t24 t23) = true) then (if ((inR t24 (((List.length t22) : Nat) : Int)) = true) then (if ((inR t4 ((64 : Nat) : Int)) = true) then (if ((inR t4 ((64 : Nat) : Int)) = true) then (kn t0 t4 t11 t22 t23 (IntKind.wrap IntKind.i64 (t24 + (1 : Int))) b2 (List.set b3 (Int.toNat t4) (bitOr IntKind.u32 (shlI IntKind.u32 (nthD (Ty.int IntKind.u32) b3 t4) (8 : Int)) (IntKind.wrap IntKind.u32 (nthD (Ty.int IntKind.u8) t22 t24))))) else none) else none) else none) else (kx t0 t11 b2 b3))
def F75l2 (K : Nat) : Nat → (List Int) → Int → Int → (List Int) → Int → Int → (List Int) → (List Int) → ((List Int) → Int → (List Int) → (List Int) → Option ((List Int))) → Option ((List Int))
  | 0, _, _, _, _, _, _, _, _, _ => none
  | k + 1, t0, t4, t11, t22, t23, t24, b2, b3, kx => B75l2 K t0 t4 t11 t22 t23 t24 b2 b3 (fun t0 t4 t11 t22 t23 t24 b2 b3 => F75l2 K k t0 t4 t11 t22 t23 t24 b2 b3 kx) kx
noncomputable def S75l2 (K : Nat) := loopStep (E75 K) A75 (lpK (RDen R75) K) (codeAt [1, 1, 0, 1, 2, 2, 1, 1, 0, 2, 1, 0, 1, 0, 0, 1, 2, 2] (cd Tryd.f75)) 2 T75l2 (fun s => resOut (E75 K) s R75 Tryd.f75.results.toList)
noncomputable def L75l2 (K : Nat) (t0 : (List Int)) (t4 : Int) (t11 : Int) (t22 : (List Int)) (t23 : Int) (t24 : Int) (b2 : (List Int)) (b3 : (List Int)) (kx : ((List Int) → Int → (List Int) → (List Int) → Option ((List Int)))) : Option ((List Int)) := evLoop (S75l2 K) (fun y => kx y.1.1 y.1.2.1 y.2.1 y.2.2.1) K ((t0, (t4, (t11, (t22, (t23, (t24, ())))))), (b2, (b3, ())))
theorem S75l2_eq (K : Nat) (t0 : (List Int)) (t4 : Int) (t11 : Int) (t22 : (List Int)) (t23 : Int) (t24 : Int) (b2 : (List Int)) (b3 : (List Int)) (kn : _ → Option ((List Int))) (kx : _ → Option ((List Int))) : S75l2 K ((t0, (t4, (t11, (t22, (t23, (t24, ())))))), (b2, (b3, ()))) kn kx = B75l2 K t0 t4 t11 t22 t23 t24 b2 b3 (fun t0 t4 t11 t22 t23 t24 b2 b3 => kn ((t0, (t4, (t11, (t22, (t23, (t24, ())))))), (b2, (b3, ())))) (fun y0 y1 y2 y3 => kx ((y0, (y1, ())), (y2, (y3, ())))) := by
  unfold B75l2; kernel_rfl
theorem F75l2_go (K : Nat) (kx : ((List Int) → Int → (List Int) → (List Int) → Option ((List Int)))) : ∀ (n : Nat) (t0 : (List Int)) (t4 : Int) (t11 : Int) (t22 : (List Int)) (t23 : Int) (t24 : Int) (b2 : (List Int)) (b3 : (List Int)), evLoop (S75l2 K) (fun y => kx y.1.1 y.1.2.1 y.2.1 y.2.2.1) n ((t0, (t4, (t11, (t22, (t23, (t24, ())))))), (b2, (b3, ()))) = F75l2 K n t0 t4 t11 t22 t23 t24 b2 b3 kx := by
  intro n
  induction n with
  | zero => intros; rfl
  | succ n ih =>
    intros t0 t4 t11 t22 t23 t24 b2 b3
    refine (S75l2_eq K t0 t4 t11 t22 t23 t24 b2 b3 _ _).trans ?_
    have e : (fun t0 t4 t11 t22 t23 t24 b2 b3 => evLoop (S75l2 K) (fun y => kx y.1.1 y.1.2.1 y.2.1 y.2.2.1) n ((t0, (t4, (t11, (t22, (t23, (t24, ())))))), (b2, (b3, ())))) = fun t0 t4 t11 t22 t23 t24 b2 b3 => F75l2 K n t0 t4 t11 t22 t23 t24 b2 b3 kx := by
      funext t0 t4 t11 t22 t23 t24 b2 b3; exact ih t0 t4 t11 t22 t23 t24 b2 b3
    rw [e]; rfl
theorem F75l2_eq (K : Nat) : F75l2 K K = L75l2 K := by
  funext t0 t4 t11 t22 t23 t24 b2 b3 kx; exact (F75l2_go K kx K t0 t4 t11 t22 t23 t24 b2 b3).symm
def B75l0 (K : Nat) (t0 : (List Int)) (t11 : Int) (b2 : (List Int)) (b3 : (List Int)) (kn : ((List Int) → Int → (List Int) → (List Int) → Option ((List Int)))) (kx : ((List Int) → (List Int) → Option ((List Int)))) : Option ((List Int)) := (if ((ltI t11 (64 : Int)) = true) then (if ((ltI t11 (16 : Int)) = true) then (if ((inB (IntKind.wrap IntKind.i64 ((4 : Int) * t11)) (IntKind.wrap IntKind.i64 ((IntKind.wrap IntKind.i64 ((4 : Int) * t11)) + (4 : Int))) (((List.length t0) : Nat) : Int)) = true) then (F75l2 K K t0 t11 t11 (cut t0 (IntKind.wrap IntKind.i64 ((4 : Int) * t11)) (IntKind.wrap IntKind.i64 ((IntKind.wrap IntKind.i64 ((4 : Int) * t11)) + (4 : Int)))) (((List.length (cut t0 (IntKind.wrap IntKind.i64 ((4 : Int) * t11)) (IntKind.wrap IntKind.i64 ((IntKind.wrap IntKind.i64 ((4 : Int) * t11)) + (4 : Int))))) : Nat) : Int) (0 : Int) b2 b3 (fun y0 y1 y2 y3 => (kn y0 (IntKind.wrap IntKind.i64 (y1 + (1 : Int))) y2 y3))) else none) else (if ((inR (IntKind.wrap IntKind.i64 (t11 - (15 : Int))) ((64 : Nat) : Int)) = true) then (if ((inR (IntKind.wrap IntKind.i64 (t11 - (2 : Int))) ((64 : Nat) : Int)) = true) then ((F78 K (nthD (Ty.int IntKind.u32) b3 (IntKind.wrap IntKind.i64 (t11 - (15 : Int)))) (-(7 : Int))).bind fun y0 => ((F78 K (nthD (Ty.int IntKind.u32) b3 (IntKind.wrap IntKind.i64 (t11 - (15 : Int)))) (-(18 : Int))).bind fun y1 => ((F78 K (nthD (Ty.int IntKind.u32) b3 (IntKind.wrap IntKind.i64 (t11 - (2 : Int)))) (-(17 : Int))).bind fun y2 => ((F78 K (nthD (Ty.int IntKind.u32) b3 (IntKind.wrap IntKind.i64 (t11 - (2 : Int)))) (-(19 : Int))).bind fun y3 => (if ((inR (IntKind.wrap IntKind.i64 (t11 - (16 : Int))) ((64 : Nat) : Int)) = true) then (if ((inR (IntKind.wrap IntKind.i64 (t11 - (7 : Int))) ((64 : Nat) : Int)) = true) then (if ((inR t11 ((64 : Nat) : Int)) = true) then (kn t0 (IntKind.wrap IntKind.i64 (t11 + (1 : Int))) b2 (List.set b3 (Int.toNat t11) (IntKind.wrap IntKind.u32 ((IntKind.wrap IntKind.u32 ((IntKind.wrap IntKind.u32 ((nthD (Ty.int IntKind.u32) b3 (IntKind.wrap IntKind.i64 (t11 - (16 : Int)))) + (bitXor IntKind.u32 (bitXor IntKind.u32 y0 y1) (shrI IntKind.u32 (nthD (Ty.int IntKind.u32) b3 (IntKind.wrap IntKind.i64 (t11 - (15 : Int)))) (3 : Int))))) + (nthD (Ty.int IntKind.u32) b3 (IntKind.wrap IntKind.i64 (t11 - (7 : Int)))))) + (bitXor IntKind.u32 (bitXor IntKind.u32 y2 y3) (shrI IntKind.u32 (nthD (Ty.int IntKind.u32) b3 (IntKind.wrap IntKind.i64 (t11 - (2 : Int)))) (10 : Int))))))) else none) else none) else none))))) else none) else none)) else (kx b2 b3))
def F75l0 (K : Nat) : Nat → (List Int) → Int → (List Int) → (List Int) → ((List Int) → (List Int) → Option ((List Int))) → Option ((List Int))
  | 0, _, _, _, _, _ => none
  | k + 1, t0, t11, b2, b3, kx => B75l0 K t0 t11 b2 b3 (fun t0 t11 b2 b3 => F75l0 K k t0 t11 b2 b3 kx) kx
noncomputable def S75l0 (K : Nat) := loopStep (E75 K) A75 (lpK (RDen R75) K) (codeAt [1, 1, 0, 1, 2, 2] (cd Tryd.f75)) 0 T75l0 (fun s => resOut (E75 K) s R75 Tryd.f75.results.toList)
noncomputable def L75l0 (K : Nat) (t0 : (List Int)) (t11 : Int) (b2 : (List Int)) (b3 : (List Int)) (kx : ((List Int) → (List Int) → Option ((List Int)))) : Option ((List Int)) := evLoop (S75l0 K) (fun y => kx y.2.1 y.2.2.1) K ((t0, (t11, ())), (b2, (b3, ())))
theorem S75l0_eq (K : Nat) (t0 : (List Int)) (t11 : Int) (b2 : (List Int)) (b3 : (List Int)) (kn : _ → Option ((List Int))) (kx : _ → Option ((List Int))) : S75l0 K ((t0, (t11, ())), (b2, (b3, ()))) kn kx = B75l0 K t0 t11 b2 b3 (fun t0 t11 b2 b3 => kn ((t0, (t11, ())), (b2, (b3, ())))) (fun y0 y1 => kx ((), (y0, (y1, ())))) := by
  unfold B75l0; rw [F75l2_eq K]; kernel_rfl
theorem F75l0_go (K : Nat) (kx : ((List Int) → (List Int) → Option ((List Int)))) : ∀ (n : Nat) (t0 : (List Int)) (t11 : Int) (b2 : (List Int)) (b3 : (List Int)), evLoop (S75l0 K) (fun y => kx y.2.1 y.2.2.1) n ((t0, (t11, ())), (b2, (b3, ()))) = F75l0 K n t0 t11 b2 b3 kx := by
  intro n
  induction n with
  | zero => intros; rfl
  | succ n ih =>
    intros t0 t11 b2 b3
    refine (S75l0_eq K t0 t11 b2 b3 _ _).trans ?_
    have e : (fun t0 t11 b2 b3 => evLoop (S75l0 K) (fun y => kx y.2.1 y.2.2.1) n ((t0, (t11, ())), (b2, (b3, ())))) = fun t0 t11 b2 b3 => F75l0 K n t0 t11 b2 b3 kx := by
      funext t0 t11 b2 b3; exact ih t0 t11 b2 b3
    rw [e]; rfl
theorem F75l0_eq (K : Nat) : F75l0 K K = L75l0 K := by
  funext t0 t11 b2 b3 kx; exact (F75l0_go K kx K t0 t11 b2 b3).symm
def F75 (K : Nat) (x0 : (List Int)) : Option ((List Int)) := (F75l0 K K x0 (0 : Int) (List.replicate 64 (0 : Int)) (List.replicate 64 (0 : Int)) (fun y0 y1 => (some y1)))
theorem F75_eq (K : Nat) (x0 : (List Int)) : evFn (E75 K) A75 P75 R75 (lpK (RDen R75) K) 79 Tryd.f75.results.toList (cd Tryd.f75) (x0, ()) = F75 K x0 := by
  unfold F75; rw [F75l0_eq K]; kernel_rfl
/- quietus/hash.mix -/
def A76 : List (Nat × LoopAnn) := []
noncomputable def E76 (K : Nat) : Env := mkEnv tyTab nfTab mpTab G76 [(78, ⟨P78, R78, fun x => F78 K x.1 x.2.1⟩)]
def F76 (K : Nat) (x0 : Int) (x1 : Int) (x2 : Int) (x3 : Int) : Option (Int) := ((F78 K x0 (IntKind.wrap IntKind.i64 ((0 : Int) - x1))).bind fun y0 => ((F78 K x0 (IntKind.wrap IntKind.i64 ((0 : Int) - x2))).bind fun y1 => ((F78 K x0 (IntKind.wrap IntKind.i64 ((0 : Int) - x3))).bind fun y2 => (some (bitXor IntKind.u32 (bitXor IntKind.u32 y0 y1) y2)))))
theorem F76_eq (K : Nat) (x0 : Int) (x1 : Int) (x2 : Int) (x3 : Int) : evFn (E76 K) A76 P76 R76 (lpK (RDen R76) K) 23 Tryd.f76.results.toList (cd Tryd.f76) (x0, (x1, (x2, (x3, ())))) = F76 K x0 x1 x2 x3 := by
  unfold F76; kernel_rfl
/- quietus/hash.compress -/
def T70l2 : LoopAnn := ⟨tm 116 [(2, (.ptr 2)), (1, (.ptr 4)), (1, (.ptr 6)), (0, (.ptr 7)), (86, (.data (.int .i64)))] [(2, (.arr 8 (.int .u32))), (1, (.arr 8 (.int .u32))), (1, (.arr 4 (.int .u32))), (0, (.arr 4 (.int .u32)))], tm 116 [(2, (.ptr 2)), (1, (.ptr 4))] [(2, (.arr 8 (.int .u32))), (1, (.arr 8 (.int .u32)))]⟩
def T70l0 : LoopAnn := ⟨tm 116 [(2, (.ptr 2)), (1, (.ptr 4)), (0, (.ptr 5)), (0, (.ptr 6)), (0, (.ptr 7)), (13, (.data (.arr 64 (.int .u32)))), (0, (.data (.int .i64)))] [(2, (.arr 8 (.int .u32))), (1, (.arr 8 (.int .u32))), (0, (.arr 64 (.int .u32))), (0, (.arr 4 (.int .u32))), (0, (.arr 4 (.int .u32)))], tm 116 [(2, (.ptr 2)), (1, (.ptr 4)), (1, (.ptr 6)), (0, (.ptr 7))] [(2, (.arr 8 (.int .u32))), (1, (.arr 8 (.int .u32))), (1, (.arr 4 (.int .u32))), (0, (.arr 4 (.int .u32)))]⟩
def A70 : List (Nat × LoopAnn) := [(2, T70l2), (0, T70l0)]
noncomputable def E70 (K : Nat) : Env := mkEnv tyTab nfTab mpTab G70 [(75, ⟨P75, R75, fun x => F75 K x.1⟩), (76, ⟨P76, R76, fun x => F76 K x.1 x.2.1 x.2.2.1 x.2.2.2.1⟩)]
def B70l2 (K : Nat) (t94 : Int) (b2 : (List Int)) (b4 : (List Int)) (b6 : (List Int)) (b7 : (List Int)) (kn : (Int → (List Int) → (List Int) → (List Int) → (List Int) → Option ((List Int)))) (kx : ((List Int) → (List Int) → Option ((List Int)))) : Option ((List Int)) := (if ((ltI t94 (4 : Int)) = true) then (if ((inR t94 ((8 : Nat) : Int)) = true) then (if ((inR t94 ((4 : Nat) : Int)) = true) then (if ((inR t94 ((8 : Nat) : Int)) = true) then (if ((inR (IntKind.wrap IntKind.i64 (t94 + (4 : Int))) ((8 : Nat) : Int)) = true) then (if ((inR t94 ((4 : Nat) : Int)) = true) then (if ((inR (IntKind.wrap IntKind.i64 (t94 + (4 : Int))) ((8 : Nat) : Int)) = true) then (kn (IntKind.wrap IntKind.i64 (t94 + (1 : Int))) (List.set (List.set b2 (Int.toNat t94) (IntKind.wrap IntKind.u32 ((nthD (Ty.int IntKind.u32) b2 t94) + (nthD (Ty.int IntKind.u32) b6 t94)))) (Int.toNat (IntKind.wrap IntKind.i64 (t94 + (4 : Int)))) (IntKind.wrap IntKind.u32 ((nthD (Ty.int IntKind.u32) (List.set b2 (Int.toNat t94) (IntKind.wrap IntKind.u32 ((nthD (Ty.int IntKind.u32) b2 t94) + (nthD (Ty.int IntKind.u32) b6 t94)))) (IntKind.wrap IntKind.i64 (t94 + (4 : Int)))) + (nthD (Ty.int IntKind.u32) b7 t94)))) b4 b6 b7) else none) else none) else none) else none) else none) else none) else (kx b2 b4))
def F70l2 (K : Nat) : Nat → Int → (List Int) → (List Int) → (List Int) → (List Int) → ((List Int) → (List Int) → Option ((List Int))) → Option ((List Int))
  | 0, _, _, _, _, _, _ => none
  | k + 1, t94, b2, b4, b6, b7, kx => B70l2 K t94 b2 b4 b6 b7 (fun t94 b2 b4 b6 b7 => F70l2 K k t94 b2 b4 b6 b7 kx) kx
noncomputable def S70l2 (K : Nat) := loopStep (E70 K) A70 (lpK (RDen R70) K) (codeAt [1, 1, 1, 1, 0, 1, 2, 2] (cd Tryd.f70)) 2 T70l2 (fun s => resOut (E70 K) s R70 Tryd.f70.results.toList)
noncomputable def L70l2 (K : Nat) (t94 : Int) (b2 : (List Int)) (b4 : (List Int)) (b6 : (List Int)) (b7 : (List Int)) (kx : ((List Int) → (List Int) → Option ((List Int)))) : Option ((List Int)) := evLoop (S70l2 K) (fun y => kx y.2.1 y.2.2.1) K ((t94, ()), (b2, (b4, (b6, (b7, ())))))
theorem S70l2_eq (K : Nat) (t94 : Int) (b2 : (List Int)) (b4 : (List Int)) (b6 : (List Int)) (b7 : (List Int)) (kn : _ → Option ((List Int))) (kx : _ → Option ((List Int))) : S70l2 K ((t94, ()), (b2, (b4, (b6, (b7, ()))))) kn kx = B70l2 K t94 b2 b4 b6 b7 (fun t94 b2 b4 b6 b7 => kn ((t94, ()), (b2, (b4, (b6, (b7, ())))))) (fun y0 y1 => kx ((), (y0, (y1, ())))) := by
  unfold B70l2; kernel_rfl
theorem F70l2_go (K : Nat) (kx : ((List Int) → (List Int) → Option ((List Int)))) : ∀ (n : Nat) (t94 : Int) (b2 : (List Int)) (b4 : (List Int)) (b6 : (List Int)) (b7 : (List Int)), evLoop (S70l2 K) (fun y => kx y.2.1 y.2.2.1) n ((t94, ()), (b2, (b4, (b6, (b7, ()))))) = F70l2 K n t94 b2 b4 b6 b7 kx := by
  intro n
  induction n with
  | zero => intros; rfl
  | succ n ih =>
    intros t94 b2 b4 b6 b7
    refine (S70l2_eq K t94 b2 b4 b6 b7 _ _).trans ?_
    have e : (fun t94 b2 b4 b6 b7 => evLoop (S70l2 K) (fun y => kx y.2.1 y.2.2.1) n ((t94, ()), (b2, (b4, (b6, (b7, ())))))) = fun t94 b2 b4 b6 b7 => F70l2 K n t94 b2 b4 b6 b7 kx := by
      funext t94 b2 b4 b6 b7; exact ih t94 b2 b4 b6 b7
    rw [e]; rfl
theorem F70l2_eq (K : Nat) : F70l2 K K = L70l2 K := by
  funext t94 b2 b4 b6 b7 kx; exact (F70l2_go K kx K t94 b2 b4 b6 b7).symm
def B70l0 (K : Nat) (t21 : (List Int)) (t22 : Int) (b2 : (List Int)) (b4 : (List Int)) (b5 : (List Int)) (b6 : (List Int)) (b7 : (List Int)) (kn : ((List Int) → Int → (List Int) → (List Int) → (List Int) → (List Int) → (List Int) → Option ((List Int)))) (kx : ((List Int) → (List Int) → (List Int) → (List Int) → Option ((List Int)))) : Option ((List Int)) := (if ((ltI t22 (64 : Int)) = true) then (if ((inR t22 ((64 : Nat) : Int)) = true) then ((F76 K (nthD (Ty.int IntKind.u32) b7 (0 : Int)) (6 : Int) (11 : Int) (25 : Int)).bind fun y0 => (if ((inR t22 ((64 : Nat) : Int)) = true) then ((F76 K (nthD (Ty.int IntKind.u32) b6 (0 : Int)) (2 : Int) (13 : Int) (22 : Int)).bind fun y1 => (kn t21 (IntKind.wrap IntKind.i64 (t22 + (1 : Int))) b2 b4 b5 ((IntKind.wrap IntKind.u32 ((IntKind.wrap IntKind.u32 ((IntKind.wrap IntKind.u32 ((IntKind.wrap IntKind.u32 ((IntKind.wrap IntKind.u32 ((nthD (Ty.int IntKind.u32) b7 (3 : Int)) + y0)) + (bitXor IntKind.u32 (bitAnd IntKind.u32 (nthD (Ty.int IntKind.u32) b7 (0 : Int)) (nthD (Ty.int IntKind.u32) b7 (1 : Int))) (bitAnd IntKind.u32 (bitXor IntKind.u32 (if (Bool.false = true) then (-(1 : Int)) else (IntKind.max IntKind.u32)) (nthD (Ty.int IntKind.u32) b7 (0 : Int))) (nthD (Ty.int IntKind.u32) b7 (2 : Int)))))) + (nthD (Ty.int IntKind.u32) t21 t22))) + (nthD (Ty.int IntKind.u32) b5 t22))) + (IntKind.wrap IntKind.u32 (y1 + (bitXor IntKind.u32 (bitXor IntKind.u32 (bitAnd IntKind.u32 (nthD (Ty.int IntKind.u32) b6 (0 : Int)) (nthD (Ty.int IntKind.u32) b6 (1 : Int))) (bitAnd IntKind.u32 (nthD (Ty.int IntKind.u32) b6 (0 : Int)) (nthD (Ty.int IntKind.u32) b6 (2 : Int)))) (bitAnd IntKind.u32 (nthD (Ty.int IntKind.u32) b6 (1 : Int)) (nthD (Ty.int IntKind.u32) b6 (2 : Int)))))))) :: (nthD (Ty.int IntKind.u32) b6 (0 : Int)) :: (nthD (Ty.int IntKind.u32) b6 (1 : Int)) :: (nthD (Ty.int IntKind.u32) b6 (2 : Int)) :: (List.replicate 0 (0 : Int))) ((IntKind.wrap IntKind.u32 ((nthD (Ty.int IntKind.u32) b6 (3 : Int)) + (IntKind.wrap IntKind.u32 ((IntKind.wrap IntKind.u32 ((IntKind.wrap IntKind.u32 ((IntKind.wrap IntKind.u32 ((nthD (Ty.int IntKind.u32) b7 (3 : Int)) + y0)) + (bitXor IntKind.u32 (bitAnd IntKind.u32 (nthD (Ty.int IntKind.u32) b7 (0 : Int)) (nthD (Ty.int IntKind.u32) b7 (1 : Int))) (bitAnd IntKind.u32 (bitXor IntKind.u32 (if (Bool.false = true) then (-(1 : Int)) else (IntKind.max IntKind.u32)) (nthD (Ty.int IntKind.u32) b7 (0 : Int))) (nthD (Ty.int IntKind.u32) b7 (2 : Int)))))) + (nthD (Ty.int IntKind.u32) t21 t22))) + (nthD (Ty.int IntKind.u32) b5 t22))))) :: (nthD (Ty.int IntKind.u32) b7 (0 : Int)) :: (nthD (Ty.int IntKind.u32) b7 (1 : Int)) :: (nthD (Ty.int IntKind.u32) b7 (2 : Int)) :: (List.replicate 0 (0 : Int))))) else none)) else none) else (kx b2 b4 b6 b7))
def F70l0 (K : Nat) : Nat → (List Int) → Int → (List Int) → (List Int) → (List Int) → (List Int) → (List Int) → ((List Int) → (List Int) → (List Int) → (List Int) → Option ((List Int))) → Option ((List Int))
  | 0, _, _, _, _, _, _, _, _ => none
  | k + 1, t21, t22, b2, b4, b5, b6, b7, kx => B70l0 K t21 t22 b2 b4 b5 b6 b7 (fun t21 t22 b2 b4 b5 b6 b7 => F70l0 K k t21 t22 b2 b4 b5 b6 b7 kx) kx
noncomputable def S70l0 (K : Nat) := loopStep (E70 K) A70 (lpK (RDen R70) K) (codeAt [1, 1, 1, 0, 1, 2, 2] (cd Tryd.f70)) 0 T70l0 (fun s => resOut (E70 K) s R70 Tryd.f70.results.toList)
noncomputable def L70l0 (K : Nat) (t21 : (List Int)) (t22 : Int) (b2 : (List Int)) (b4 : (List Int)) (b5 : (List Int)) (b6 : (List Int)) (b7 : (List Int)) (kx : ((List Int) → (List Int) → (List Int) → (List Int) → Option ((List Int)))) : Option ((List Int)) := evLoop (S70l0 K) (fun y => kx y.2.1 y.2.2.1 y.2.2.2.1 y.2.2.2.2.1) K ((t21, (t22, ())), (b2, (b4, (b5, (b6, (b7, ()))))))
theorem S70l0_eq (K : Nat) (t21 : (List Int)) (t22 : Int) (b2 : (List Int)) (b4 : (List Int)) (b5 : (List Int)) (b6 : (List Int)) (b7 : (List Int)) (kn : _ → Option ((List Int))) (kx : _ → Option ((List Int))) : S70l0 K ((t21, (t22, ())), (b2, (b4, (b5, (b6, (b7, ())))))) kn kx = B70l0 K t21 t22 b2 b4 b5 b6 b7 (fun t21 t22 b2 b4 b5 b6 b7 => kn ((t21, (t22, ())), (b2, (b4, (b5, (b6, (b7, ()))))))) (fun y0 y1 y2 y3 => kx ((), (y0, (y1, (y2, (y3, ())))))) := by
  unfold B70l0; kernel_rfl
theorem F70l0_go (K : Nat) (kx : ((List Int) → (List Int) → (List Int) → (List Int) → Option ((List Int)))) : ∀ (n : Nat) (t21 : (List Int)) (t22 : Int) (b2 : (List Int)) (b4 : (List Int)) (b5 : (List Int)) (b6 : (List Int)) (b7 : (List Int)), evLoop (S70l0 K) (fun y => kx y.2.1 y.2.2.1 y.2.2.2.1 y.2.2.2.2.1) n ((t21, (t22, ())), (b2, (b4, (b5, (b6, (b7, ())))))) = F70l0 K n t21 t22 b2 b4 b5 b6 b7 kx := by
  intro n
  induction n with
  | zero => intros; rfl
  | succ n ih =>
    intros t21 t22 b2 b4 b5 b6 b7
    refine (S70l0_eq K t21 t22 b2 b4 b5 b6 b7 _ _).trans ?_
    have e : (fun t21 t22 b2 b4 b5 b6 b7 => evLoop (S70l0 K) (fun y => kx y.2.1 y.2.2.1 y.2.2.2.1 y.2.2.2.2.1) n ((t21, (t22, ())), (b2, (b4, (b5, (b6, (b7, ()))))))) = fun t21 t22 b2 b4 b5 b6 b7 => F70l0 K n t21 t22 b2 b4 b5 b6 b7 kx := by
      funext t21 t22 b2 b4 b5 b6 b7; exact ih t21 t22 b2 b4 b5 b6 b7
    rw [e]; rfl
theorem F70l0_eq (K : Nat) : F70l0 K K = L70l0 K := by
  funext t21 t22 b2 b4 b5 b6 b7 kx; exact (F70l0_go K kx K t21 t22 b2 b4 b5 b6 b7).symm
def F70 (K : Nat) (x0 : (List Int)) (x1 : (List Int)) : Option ((List Int)) := ((F75 K x1).bind fun y0 => (F70l0 K K [(1116352408 : Int), (1899447441 : Int), (3049323471 : Int), (3921009573 : Int), (961987163 : Int), (1508970993 : Int), (2453635748 : Int), (2870763221 : Int), (3624381080 : Int), (310598401 : Int), (607225278 : Int), (1426881987 : Int), (1925078388 : Int), (2162078206 : Int), (2614888103 : Int), (3248222580 : Int), (3835390401 : Int), (4022224774 : Int), (264347078 : Int), (604807628 : Int), (770255983 : Int), (1249150122 : Int), (1555081692 : Int), (1996064986 : Int), (2554220882 : Int), (2821834349 : Int), (2952996808 : Int), (3210313671 : Int), (3336571891 : Int), (3584528711 : Int), (113926993 : Int), (338241895 : Int), (666307205 : Int), (773529912 : Int), (1294757372 : Int), (1396182291 : Int), (1695183700 : Int), (1986661051 : Int), (2177026350 : Int), (2456956037 : Int), (2730485921 : Int), (2820302411 : Int), (3259730800 : Int), (3345764771 : Int), (3516065817 : Int), (3600352804 : Int), (4094571909 : Int), (275423344 : Int), (430227734 : Int), (506948616 : Int), (659060556 : Int), (883997877 : Int), (958139571 : Int), (1322822218 : Int), (1537002063 : Int), (1747873779 : Int), (1955562222 : Int), (2024104815 : Int), (2227730452 : Int), (2361852424 : Int), (2428436474 : Int), (2756734187 : Int), (3204031479 : Int), (3329325298 : Int)] (0 : Int) x0 (List.replicate 8 (0 : Int)) y0 (List.take 4 (List.drop (Int.toNat (0 : Int)) x0)) (List.take 4 (List.drop (Int.toNat (4 : Int)) x0)) (fun y1 y2 y3 y4 => (F70l2 K K (0 : Int) y1 y2 y3 y4 (fun y5 y6 => (some y5))))))
theorem F70_eq (K : Nat) (x0 : (List Int)) (x1 : (List Int)) : evFn (E70 K) A70 P70 R70 (lpK (RDen R70) K) 116 Tryd.f70.results.toList (cd Tryd.f70) (x0, (x1, ())) = F70 K x0 x1 := by
  unfold F70; rw [F70l2_eq K]; rw [F70l0_eq K]; kernel_rfl
/- (quietus/hash.Stream).Add -/
def T58l0 : LoopAnn := ⟨tm 38 [(1, (.data .str)), (0, (.ptr 2)), (1, (.ptr 4))] [(2, (.pair (.arr 8 (.int .u32)) (.pair (.arr 64 (.int .u8)) (.int .u64)))), (1, (.pair (.arr 8 (.int .u32)) (.pair (.arr 64 (.int .u8)) (.int .u64))))], tm 38 [(2, (.ptr 2)), (1, (.ptr 4))] [(2, (.pair (.arr 8 (.int .u32)) (.pair (.arr 64 (.int .u8)) (.int .u64)))), (1, (.pair (.arr 8 (.int .u32)) (.pair (.arr 64 (.int .u8)) (.int .u64))))]⟩
def A58 : List (Nat × LoopAnn) := [(0, T58l0)]
noncomputable def E58 (K : Nat) : Env := mkEnv tyTab nfTab mpTab G58 [(70, ⟨P70, R70, fun x => F70 K x.1 x.2.1⟩)]
def B58l0 (K : Nat) (t1 : ByteArray) (b2 : ((List Int) × ((List Int) × Int))) (b4 : ((List Int) × ((List Int) × Int))) (kn : (ByteArray → ((List Int) × ((List Int) × Int)) → ((List Int) × ((List Int) × Int)) → Option (((List Int) × ((List Int) × Int))))) (kx : (((List Int) × ((List Int) × Int)) → ((List Int) × ((List Int) × Int)) → Option (((List Int) × ((List Int) × Int))))) : Option (((List Int) × ((List Int) × Int))) := (if ((!(strEq t1 (ByteArray.mk (Array.mk [])))) = true) then (if ((inB (IntKind.wrap IntKind.i64 (Int.tmod b2.2.2 (64 : Int))) ((64 : Nat) : Int) ((64 : Nat) : Int)) = true) then (if ((inB (min (((64 : Nat) : Int) - (IntKind.wrap IntKind.i64 (Int.tmod b2.2.2 (64 : Int)))) (((List.length (bytesOf t1)) : Nat) : Int)) (((ByteArray.size t1) : Nat) : Int) (((ByteArray.size t1) : Nat) : Int)) = true) then (if ((eqI (IntKind.wrap IntKind.i64 ((IntKind.wrap IntKind.i64 (Int.tmod b2.2.2 (64 : Int))) + (min (((64 : Nat) : Int) - (IntKind.wrap IntKind.i64 (Int.tmod b2.2.2 (64 : Int)))) (((List.length (bytesOf t1)) : Nat) : Int)))) (64 : Int)) = true) then ((F70 K b2.1 (List.take (Int.toNat (((64 : Nat) : Int) - (0 : Int))) (List.drop (Int.toNat (0 : Int)) ((List.take (Int.toNat (IntKind.wrap IntKind.i64 (Int.tmod b2.2.2 (64 : Int)))) b2.2.1) ++ ((List.take (Int.toNat (((64 : Nat) : Int) - (IntKind.wrap IntKind.i64 (Int.tmod b2.2.2 (64 : Int))))) (bytesOf t1)) ++ (List.drop ((Int.toNat (IntKind.wrap IntKind.i64 (Int.tmod b2.2.2 (64 : Int)))) + (min (Int.toNat (((64 : Nat) : Int) - (IntKind.wrap IntKind.i64 (Int.tmod b2.2.2 (64 : Int))))) (List.length (bytesOf t1)))) b2.2.1)))))).bind fun y0 => (kn (ByteArray.extract t1 (Int.toNat (min (((64 : Nat) : Int) - (IntKind.wrap IntKind.i64 (Int.tmod b2.2.2 (64 : Int)))) (((List.length (bytesOf t1)) : Nat) : Int))) (Int.toNat (((ByteArray.size t1) : Nat) : Int))) (y0, (((List.take (Int.toNat (IntKind.wrap IntKind.i64 (Int.tmod b2.2.2 (64 : Int)))) b2.2.1) ++ ((List.take (Int.toNat (((64 : Nat) : Int) - (IntKind.wrap IntKind.i64 (Int.tmod b2.2.2 (64 : Int))))) (bytesOf t1)) ++ (List.drop ((Int.toNat (IntKind.wrap IntKind.i64 (Int.tmod b2.2.2 (64 : Int)))) + (min (Int.toNat (((64 : Nat) : Int) - (IntKind.wrap IntKind.i64 (Int.tmod b2.2.2 (64 : Int))))) (List.length (bytesOf t1)))) b2.2.1))), (IntKind.wrap IntKind.u64 (b2.2.2 + (IntKind.wrap IntKind.u64 (min (((64 : Nat) : Int) - (IntKind.wrap IntKind.i64 (Int.tmod b2.2.2 (64 : Int)))) (((List.length (bytesOf t1)) : Nat) : Int))))))) (b4.1, (b4.2.1, b4.2.2)))) else (kn (ByteArray.extract t1 (Int.toNat (min (((64 : Nat) : Int) - (IntKind.wrap IntKind.i64 (Int.tmod b2.2.2 (64 : Int)))) (((List.length (bytesOf t1)) : Nat) : Int))) (Int.toNat (((ByteArray.size t1) : Nat) : Int))) (b2.1, (((List.take (Int.toNat (IntKind.wrap IntKind.i64 (Int.tmod b2.2.2 (64 : Int)))) b2.2.1) ++ ((List.take (Int.toNat (((64 : Nat) : Int) - (IntKind.wrap IntKind.i64 (Int.tmod b2.2.2 (64 : Int))))) (bytesOf t1)) ++ (List.drop ((Int.toNat (IntKind.wrap IntKind.i64 (Int.tmod b2.2.2 (64 : Int)))) + (min (Int.toNat (((64 : Nat) : Int) - (IntKind.wrap IntKind.i64 (Int.tmod b2.2.2 (64 : Int))))) (List.length (bytesOf t1)))) b2.2.1))), (IntKind.wrap IntKind.u64 (b2.2.2 + (IntKind.wrap IntKind.u64 (min (((64 : Nat) : Int) - (IntKind.wrap IntKind.i64 (Int.tmod b2.2.2 (64 : Int)))) (((List.length (bytesOf t1)) : Nat) : Int))))))) (b4.1, (b4.2.1, b4.2.2)))) else none) else none) else (kx (b2.1, (b2.2.1, b2.2.2)) (b4.1, (b4.2.1, b4.2.2))))
def F58l0 (K : Nat) : Nat → ByteArray → ((List Int) × ((List Int) × Int)) → ((List Int) × ((List Int) × Int)) → (((List Int) × ((List Int) × Int)) → ((List Int) × ((List Int) × Int)) → Option (((List Int) × ((List Int) × Int)))) → Option (((List Int) × ((List Int) × Int)))
  | 0, _, _, _, _ => none
  | k + 1, t1, b2, b4, kx => B58l0 K t1 b2 b4 (fun t1 b2 b4 => F58l0 K k t1 b2 b4 kx) kx
noncomputable def S58l0 (K : Nat) := loopStep (E58 K) A58 (lpK (RDen R58) K) (codeAt [1, 0, 2, 2] (cd Tryd.f58)) 0 T58l0 (fun s => resOut (E58 K) s R58 Tryd.f58.results.toList)
noncomputable def L58l0 (K : Nat) (t1 : ByteArray) (b2 : ((List Int) × ((List Int) × Int))) (b4 : ((List Int) × ((List Int) × Int))) (kx : (((List Int) × ((List Int) × Int)) → ((List Int) × ((List Int) × Int)) → Option (((List Int) × ((List Int) × Int))))) : Option (((List Int) × ((List Int) × Int))) := evLoop (S58l0 K) (fun y => kx y.2.1 y.2.2.1) K ((t1, ()), (b2, (b4, ())))
theorem S58l0_eq (K : Nat) (t1 : ByteArray) (b2 : ((List Int) × ((List Int) × Int))) (b4 : ((List Int) × ((List Int) × Int))) (kn : _ → Option (((List Int) × ((List Int) × Int)))) (kx : _ → Option (((List Int) × ((List Int) × Int)))) : S58l0 K ((t1, ()), (b2, (b4, ()))) kn kx = B58l0 K t1 b2 b4 (fun t1 b2 b4 => kn ((t1, ()), (b2, (b4, ())))) (fun y0 y1 => kx ((), (y0, (y1, ())))) := by
  unfold B58l0; kernel_rfl
theorem F58l0_go (K : Nat) (kx : (((List Int) × ((List Int) × Int)) → ((List Int) × ((List Int) × Int)) → Option (((List Int) × ((List Int) × Int))))) : ∀ (n : Nat) (t1 : ByteArray) (b2 : ((List Int) × ((List Int) × Int))) (b4 : ((List Int) × ((List Int) × Int))), evLoop (S58l0 K) (fun y => kx y.2.1 y.2.2.1) n ((t1, ()), (b2, (b4, ()))) = F58l0 K n t1 b2 b4 kx := by
  intro n
  induction n with
  | zero => intros; rfl
  | succ n ih =>
    intros t1 b2 b4
    refine (S58l0_eq K t1 b2 b4 _ _).trans ?_
    have e : (fun t1 b2 b4 => evLoop (S58l0 K) (fun y => kx y.2.1 y.2.2.1) n ((t1, ()), (b2, (b4, ())))) = fun t1 b2 b4 => F58l0 K n t1 b2 b4 kx := by
      funext t1 b2 b4; exact ih t1 b2 b4
    rw [e]; rfl
theorem F58l0_eq (K : Nat) : F58l0 K K = L58l0 K := by
  funext t1 b2 b4 kx; exact (F58l0_go K kx K t1 b2 b4).symm
def F58 (K : Nat) (x0 : ((List Int) × ((List Int) × Int))) (x1 : ByteArray) : Option (((List Int) × ((List Int) × Int))) := (F58l0 K K x1 (x0.1, (x0.2.1, x0.2.2)) ((List.replicate 8 (0 : Int)), ((List.replicate 64 (0 : Int)), (0 : Int))) (fun y0 y1 => (some (y0.1, (y0.2.1, y0.2.2)))))
theorem F58_eq (K : Nat) (x0 : ((List Int) × ((List Int) × Int))) (x1 : ByteArray) : evFn (E58 K) A58 P58 R58 (lpK (RDen R58) K) 38 Tryd.f58.results.toList (cd Tryd.f58) (x0, (x1, ())) = F58 K x0 x1 := by
  unfold F58; rw [F58l0_eq K]; kernel_rfl
/- (quietus/hash.Stream).Sum -/
def T60l4 : LoopAnn := ⟨tm 58 [(1, (.ptr 1)), (0, (.ptr 2)), (3, (.ptr 6)), (33, (.data (.int .i64)))] [(1, (.pair (.arr 8 (.int .u32)) (.pair (.arr 64 (.int .u8)) (.int .u64)))), (0, (.arr 32 (.int .u8))), (3, (.arr 32 (.int .u8)))], tm 58 [(2, (.ptr 2)), (3, (.ptr 6))] [(2, (.arr 32 (.int .u8))), (3, (.arr 32 (.int .u8)))]⟩
def T60l2 : LoopAnn := ⟨tm 58 [(1, (.ptr 1)), (0, (.ptr 2)), (0, (.data (.int .u64))), (0, (.vec (.int .u8))), (18, (.data (.int .i64)))] [(1, (.pair (.arr 8 (.int .u32)) (.pair (.arr 64 (.int .u8)) (.int .u64)))), (0, (.arr 32 (.int .u8)))], tm 58 [(1, (.ptr 1)), (0, (.ptr 2)), (1, (.vec (.int .u8)))] [(1, (.pair (.arr 8 (.int .u32)) (.pair (.arr 64 (.int .u8)) (.int .u64)))), (0, (.arr 32 (.int .u8)))]⟩
def T60l0 : LoopAnn := ⟨tm 58 [(1, (.ptr 1)), (0, (.ptr 2)), (0, (.data (.int .u64))), (0, (.vec (.int .u8)))] [(1, (.pair (.arr 8 (.int .u32)) (.pair (.arr 64 (.int .u8)) (.int .u64)))), (0, (.arr 32 (.int .u8)))], tm 58 [(1, (.ptr 1)), (0, (.ptr 2)), (0, (.data (.int .u64))), (0, (.vec (.int .u8)))] [(1, (.pair (.arr 8 (.int .u32)) (.pair (.arr 64 (.int .u8)) (.int .u64)))), (0, (.arr 32 (.int .u8)))]⟩
def A60 : List (Nat × LoopAnn) := [(4, T60l4), (2, T60l2), (0, T60l0)]
noncomputable def E60 (K : Nat) : Env := mkEnv tyTab nfTab mpTab G60 [(58, ⟨P58, R58, fun x => F58 K x.1 x.2.1⟩)]
def B60l4 (K : Nat) (t40 : Int) (b1 : ((List Int) × ((List Int) × Int))) (b2 : (List Int)) (b6 : (List Int)) (kn : (Int → ((List Int) × ((List Int) × Int)) → (List Int) → (List Int) → Option ((List Int)))) (kx : ((List Int) → (List Int) → Option ((List Int)))) : Option ((List Int)) := (if ((ltI t40 (32 : Int)) = true) then (if ((inR (IntKind.wrap IntKind.i64 (Int.tdiv t40 (4 : Int))) ((8 : Nat) : Int)) = true) then (if ((ltI (IntKind.wrap IntKind.i64 ((24 : Int) - (IntKind.wrap IntKind.i64 ((8 : Int) * (Int.tmod t40 (4 : Int)))))) (0 : Int)) = true) then none else (if ((inR t40 ((32 : Nat) : Int)) = true) then (kn (IntKind.wrap IntKind.i64 (t40 + (1 : Int))) (b1.1, (b1.2.1, b1.2.2)) b2 (List.set b6 (Int.toNat t40) (IntKind.wrap IntKind.u8 (shrI IntKind.u32 (nthD (Ty.int IntKind.u32) b1.1 (IntKind.wrap IntKind.i64 (Int.tdiv t40 (4 : Int)))) (IntKind.wrap IntKind.i64 ((24 : Int) - (IntKind.wrap IntKind.i64 ((8 : Int) * (Int.tmod t40 (4 : Int)))))))))) else none)) else none) else (kx b2 b6))
def F60l4 (K : Nat) : Nat → Int → ((List Int) × ((List Int) × Int)) → (List Int) → (List Int) → ((List Int) → (List Int) → Option ((List Int))) → Option ((List Int))
  | 0, _, _, _, _, _ => none
  | k + 1, t40, b1, b2, b6, kx => B60l4 K t40 b1 b2 b6 (fun t40 b1 b2 b6 => F60l4 K k t40 b1 b2 b6 kx) kx
noncomputable def S60l4 (K : Nat) := loopStep (E60 K) A60 (lpK (RDen R60) K) (codeAt [1, 1, 1, 1, 1, 1, 1, 0, 1, 2, 2] (cd Tryd.f60)) 4 T60l4 (fun s => resOut (E60 K) s R60 Tryd.f60.results.toList)
noncomputable def L60l4 (K : Nat) (t40 : Int) (b1 : ((List Int) × ((List Int) × Int))) (b2 : (List Int)) (b6 : (List Int)) (kx : ((List Int) → (List Int) → Option ((List Int)))) : Option ((List Int)) := evLoop (S60l4 K) (fun y => kx y.2.1 y.2.2.1) K ((t40, ()), (b1, (b2, (b6, ()))))
theorem S60l4_eq (K : Nat) (t40 : Int) (b1 : ((List Int) × ((List Int) × Int))) (b2 : (List Int)) (b6 : (List Int)) (kn : _ → Option ((List Int))) (kx : _ → Option ((List Int))) : S60l4 K ((t40, ()), (b1, (b2, (b6, ())))) kn kx = B60l4 K t40 b1 b2 b6 (fun t40 b1 b2 b6 => kn ((t40, ()), (b1, (b2, (b6, ()))))) (fun y0 y1 => kx ((), (y0, (y1, ())))) := by
  unfold B60l4; kernel_rfl
theorem F60l4_go (K : Nat) (kx : ((List Int) → (List Int) → Option ((List Int)))) : ∀ (n : Nat) (t40 : Int) (b1 : ((List Int) × ((List Int) × Int))) (b2 : (List Int)) (b6 : (List Int)), evLoop (S60l4 K) (fun y => kx y.2.1 y.2.2.1) n ((t40, ()), (b1, (b2, (b6, ())))) = F60l4 K n t40 b1 b2 b6 kx := by
  intro n
  induction n with
  | zero => intros; rfl
  | succ n ih =>
    intros t40 b1 b2 b6
    refine (S60l4_eq K t40 b1 b2 b6 _ _).trans ?_
    have e : (fun t40 b1 b2 b6 => evLoop (S60l4 K) (fun y => kx y.2.1 y.2.2.1) n ((t40, ()), (b1, (b2, (b6, ()))))) = fun t40 b1 b2 b6 => F60l4 K n t40 b1 b2 b6 kx := by
      funext t40 b1 b2 b6; exact ih t40 b1 b2 b6
    rw [e]; rfl
theorem F60l4_eq (K : Nat) : F60l4 K K = L60l4 K := by
  funext t40 b1 b2 b6 kx; exact (F60l4_go K kx K t40 b1 b2 b6).symm
def B60l2 (K : Nat) (t3 : Int) (t4 : (List Int)) (t23 : Int) (b1 : ((List Int) × ((List Int) × Int))) (b2 : (List Int)) (kn : (Int → (List Int) → Int → ((List Int) × ((List Int) × Int)) → (List Int) → Option ((List Int)))) (kx : ((List Int) → ((List Int) × ((List Int) × Int)) → (List Int) → Option ((List Int)))) : Option ((List Int)) := (if ((ltI t23 (8 : Int)) = true) then (if ((ltI (IntKind.wrap IntKind.i64 ((56 : Int) - (IntKind.wrap IntKind.i64 ((8 : Int) * t23)))) (0 : Int)) = true) then none else (if ((room ((List.length t4) + (List.length ((IntKind.wrap IntKind.u8 (shrI IntKind.u64 t3 (IntKind.wrap IntKind.i64 ((56 : Int) - (IntKind.wrap IntKind.i64 ((8 : Int) * t23)))))) :: (List.replicate 0 (0 : Int)))))) = true) then (kn t3 (t4 ++ ((IntKind.wrap IntKind.u8 (shrI IntKind.u64 t3 (IntKind.wrap IntKind.i64 ((56 : Int) - (IntKind.wrap IntKind.i64 ((8 : Int) * t23)))))) :: (List.replicate 0 (0 : Int)))) (IntKind.wrap IntKind.i64 (t23 + (1 : Int))) (b1.1, (b1.2.1, b1.2.2)) b2) else none)) else (kx t4 (b1.1, (b1.2.1, b1.2.2)) b2))
def F60l2 (K : Nat) : Nat → Int → (List Int) → Int → ((List Int) × ((List Int) × Int)) → (List Int) → ((List Int) → ((List Int) × ((List Int) × Int)) → (List Int) → Option ((List Int))) → Option ((List Int))
  | 0, _, _, _, _, _, _ => none
  | k + 1, t3, t4, t23, b1, b2, kx => B60l2 K t3 t4 t23 b1 b2 (fun t3 t4 t23 b1 b2 => F60l2 K k t3 t4 t23 b1 b2 kx) kx
noncomputable def S60l2 (K : Nat) := loopStep (E60 K) A60 (lpK (RDen R60) K) (codeAt [1, 1, 1, 1, 0, 1, 2, 2] (cd Tryd.f60)) 2 T60l2 (fun s => resOut (E60 K) s R60 Tryd.f60.results.toList)
noncomputable def L60l2 (K : Nat) (t3 : Int) (t4 : (List Int)) (t23 : Int) (b1 : ((List Int) × ((List Int) × Int))) (b2 : (List Int)) (kx : ((List Int) → ((List Int) × ((List Int) × Int)) → (List Int) → Option ((List Int)))) : Option ((List Int)) := evLoop (S60l2 K) (fun y => kx y.1.1 y.2.1 y.2.2.1) K ((t3, (t4, (t23, ()))), (b1, (b2, ())))
theorem S60l2_eq (K : Nat) (t3 : Int) (t4 : (List Int)) (t23 : Int) (b1 : ((List Int) × ((List Int) × Int))) (b2 : (List Int)) (kn : _ → Option ((List Int))) (kx : _ → Option ((List Int))) : S60l2 K ((t3, (t4, (t23, ()))), (b1, (b2, ()))) kn kx = B60l2 K t3 t4 t23 b1 b2 (fun t3 t4 t23 b1 b2 => kn ((t3, (t4, (t23, ()))), (b1, (b2, ())))) (fun y0 y1 y2 => kx ((y0, ()), (y1, (y2, ())))) := by
  unfold B60l2; kernel_rfl
theorem F60l2_go (K : Nat) (kx : ((List Int) → ((List Int) × ((List Int) × Int)) → (List Int) → Option ((List Int)))) : ∀ (n : Nat) (t3 : Int) (t4 : (List Int)) (t23 : Int) (b1 : ((List Int) × ((List Int) × Int))) (b2 : (List Int)), evLoop (S60l2 K) (fun y => kx y.1.1 y.2.1 y.2.2.1) n ((t3, (t4, (t23, ()))), (b1, (b2, ()))) = F60l2 K n t3 t4 t23 b1 b2 kx := by
  intro n
  induction n with
  | zero => intros; rfl
  | succ n ih =>
    intros t3 t4 t23 b1 b2
    refine (S60l2_eq K t3 t4 t23 b1 b2 _ _).trans ?_
    have e : (fun t3 t4 t23 b1 b2 => evLoop (S60l2 K) (fun y => kx y.1.1 y.2.1 y.2.2.1) n ((t3, (t4, (t23, ()))), (b1, (b2, ())))) = fun t3 t4 t23 b1 b2 => F60l2 K n t3 t4 t23 b1 b2 kx := by
      funext t3 t4 t23 b1 b2; exact ih t3 t4 t23 b1 b2
    rw [e]; rfl
theorem F60l2_eq (K : Nat) : F60l2 K K = L60l2 K := by
  funext t3 t4 t23 b1 b2 kx; exact (F60l2_go K kx K t3 t4 t23 b1 b2).symm
def B60l0 (K : Nat) (t3 : Int) (t4 : (List Int)) (b1 : ((List Int) × ((List Int) × Int))) (b2 : (List Int)) (kn : (Int → (List Int) → ((List Int) × ((List Int) × Int)) → (List Int) → Option ((List Int)))) (kx : (Int → (List Int) → ((List Int) × ((List Int) × Int)) → (List Int) → Option ((List Int)))) : Option ((List Int)) := (if ((!(eqI (Int.tmod (IntKind.wrap IntKind.i64 ((IntKind.wrap IntKind.i64 b1.2.2) + (((List.length t4) : Nat) : Int))) (64 : Int)) (56 : Int))) = true) then (if ((room ((List.length t4) + (List.length ((0 : Int) :: (List.replicate 0 (0 : Int)))))) = true) then (kn t3 (t4 ++ ((0 : Int) :: (List.replicate 0 (0 : Int)))) (b1.1, (b1.2.1, b1.2.2)) b2) else none) else (kx t3 t4 (b1.1, (b1.2.1, b1.2.2)) b2))
def F60l0 (K : Nat) : Nat → Int → (List Int) → ((List Int) × ((List Int) × Int)) → (List Int) → (Int → (List Int) → ((List Int) × ((List Int) × Int)) → (List Int) → Option ((List Int))) → Option ((List Int))
  | 0, _, _, _, _, _ => none
  | k + 1, t3, t4, b1, b2, kx => B60l0 K t3 t4 b1 b2 (fun t3 t4 b1 b2 => F60l0 K k t3 t4 b1 b2 kx) kx
noncomputable def S60l0 (K : Nat) := loopStep (E60 K) A60 (lpK (RDen R60) K) (codeAt [1, 1, 1, 0, 2, 2] (cd Tryd.f60)) 0 T60l0 (fun s => resOut (E60 K) s R60 Tryd.f60.results.toList)
noncomputable def L60l0 (K : Nat) (t3 : Int) (t4 : (List Int)) (b1 : ((List Int) × ((List Int) × Int))) (b2 : (List Int)) (kx : (Int → (List Int) → ((List Int) × ((List Int) × Int)) → (List Int) → Option ((List Int)))) : Option ((List Int)) := evLoop (S60l0 K) (fun y => kx y.1.1 y.1.2.1 y.2.1 y.2.2.1) K ((t3, (t4, ())), (b1, (b2, ())))
theorem S60l0_eq (K : Nat) (t3 : Int) (t4 : (List Int)) (b1 : ((List Int) × ((List Int) × Int))) (b2 : (List Int)) (kn : _ → Option ((List Int))) (kx : _ → Option ((List Int))) : S60l0 K ((t3, (t4, ())), (b1, (b2, ()))) kn kx = B60l0 K t3 t4 b1 b2 (fun t3 t4 b1 b2 => kn ((t3, (t4, ())), (b1, (b2, ())))) (fun y0 y1 y2 y3 => kx ((y0, (y1, ())), (y2, (y3, ())))) := by
  unfold B60l0; kernel_rfl
theorem F60l0_go (K : Nat) (kx : (Int → (List Int) → ((List Int) × ((List Int) × Int)) → (List Int) → Option ((List Int)))) : ∀ (n : Nat) (t3 : Int) (t4 : (List Int)) (b1 : ((List Int) × ((List Int) × Int))) (b2 : (List Int)), evLoop (S60l0 K) (fun y => kx y.1.1 y.1.2.1 y.2.1 y.2.2.1) n ((t3, (t4, ())), (b1, (b2, ()))) = F60l0 K n t3 t4 b1 b2 kx := by
  intro n
  induction n with
  | zero => intros; rfl
  | succ n ih =>
    intros t3 t4 b1 b2
    refine (S60l0_eq K t3 t4 b1 b2 _ _).trans ?_
    have e : (fun t3 t4 b1 b2 => evLoop (S60l0 K) (fun y => kx y.1.1 y.1.2.1 y.2.1 y.2.2.1) n ((t3, (t4, ())), (b1, (b2, ())))) = fun t3 t4 b1 b2 => F60l0 K n t3 t4 b1 b2 kx := by
      funext t3 t4 b1 b2; exact ih t3 t4 b1 b2
    rw [e]; rfl
theorem F60l0_eq (K : Nat) : F60l0 K K = L60l0 K := by
  funext t3 t4 b1 b2 kx; exact (F60l0_go K kx K t3 t4 b1 b2).symm
def F60 (K : Nat) (x0 : ((List Int) × ((List Int) × Int))) : Option ((List Int)) := (F60l0 K K (IntKind.wrap IntKind.u64 ((8 : Int) * x0.2.2)) ((128 : Int) :: (List.replicate 0 (0 : Int))) (x0.1, (x0.2.1, x0.2.2)) (List.replicate 32 (0 : Int)) (fun y0 y1 y2 y3 => (F60l2 K K y0 y1 (0 : Int) (y2.1, (y2.2.1, y2.2.2)) y3 (fun y4 y5 y6 => ((F58 K (y5.1, (y5.2.1, y5.2.2)) (mkStr y4)).bind fun y7 => (F60l4 K K (0 : Int) (y7.1, (y7.2.1, y7.2.2)) y6 (List.replicate 32 (0 : Int)) (fun y8 y9 => (some y9))))))))
theorem F60_eq (K : Nat) (x0 : ((List Int) × ((List Int) × Int))) : evFn (E60 K) A60 P60 R60 (lpK (RDen R60) K) 58 Tryd.f60.results.toList (cd Tryd.f60) (x0, ()) = F60 K x0 := by
  unfold F60; rw [F60l4_eq K]; rw [F60l2_eq K]; rw [F60l0_eq K]; kernel_rfl
/- quietus/hash.Sum -/
def A77 : List (Nat × LoopAnn) := []
noncomputable def E77 (K : Nat) : Env := mkEnv tyTab nfTab mpTab G77 [(57, ⟨P57, R57, fun x => F57 K⟩), (58, ⟨P58, R58, fun x => F58 K x.1 x.2.1⟩), (60, ⟨P60, R60, fun x => F60 K x.1⟩)]
def F77 (K : Nat) (x0 : (List Int)) : Option ((List Int)) := ((F57 K).bind fun y0 => ((F58 K (y0.1, (y0.2.1, y0.2.2)) (mkStr x0)).bind fun y1 => ((F60 K (y1.1, (y1.2.1, y1.2.2))).bind fun y2 => (some y2))))
theorem F77_eq (K : Nat) (x0 : (List Int)) : evFn (E77 K) A77 P77 R77 (lpK (RDen R77) K) 8 Tryd.f77.results.toList (cd Tryd.f77) (x0, ()) = F77 K x0 := by
  unfold F77; kernel_rfl
/- quietus/hash.pad -/
def T71l0 : LoopAnn := ⟨tm 31 [(1, (.data (.int .u8))), (4, (.ptr 6)), (12, (.data (.int .i64)))] [(6, (.arr 64 (.int .u8)))], tm 31 [(6, (.ptr 6))] [(6, (.arr 64 (.int .u8)))]⟩
def A71 : List (Nat × LoopAnn) := [(0, T71l0)]
noncomputable def E71 (K : Nat) : Env := mkEnv tyTab nfTab mpTab G71 [(77, ⟨P77, R77, fun x => F77 K x.1⟩)]
def B71l0 (K : Nat) (t1 : Int) (t19 : Int) (b6 : (List Int)) (kn : (Int → Int → (List Int) → Option (ByteArray))) (kx : ((List Int) → Option (ByteArray))) : Option (ByteArray) := (if ((ltI t19 (64 : Int)) = true) then (if ((inR t19 ((64 : Nat) : Int)) = true) then (if ((inR t19 ((64 : Nat) : Int)) = true) then (kn t1 (IntKind.wrap IntKind.i64 (t19 + (1 : Int))) (List.set b6 (Int.toNat t19) (bitXor IntKind.u8 (nthD (Ty.int IntKind.u8) b6 t19) t1))) else none) else none) else (kx b6))
def F71l0 (K : Nat) : Nat → Int → Int → (List Int) → ((List Int) → Option (ByteArray)) → Option (ByteArray)
  | 0, _, _, _, _ => none
  | k + 1, t1, t19, b6, kx => B71l0 K t1 t19 b6 (fun t1 t19 b6 => F71l0 K k t1 t19 b6 kx) kx
noncomputable def S71l0 (K : Nat) := loopStep (E71 K) A71 (lpK (RDen R71) K) (codeAt [1, 1, 1, 1, 0, 1, 2, 2] (cd Tryd.f71)) 0 T71l0 (fun s => resOut (E71 K) s R71 Tryd.f71.results.toList)
noncomputable def L71l0 (K : Nat) (t1 : Int) (t19 : Int) (b6 : (List Int)) (kx : ((List Int) → Option (ByteArray))) : Option (ByteArray) := evLoop (S71l0 K) (fun y => kx y.2.1) K ((t1, (t19, ())), (b6, ()))
theorem S71l0_eq (K : Nat) (t1 : Int) (t19 : Int) (b6 : (List Int)) (kn : _ → Option (ByteArray)) (kx : _ → Option (ByteArray)) : S71l0 K ((t1, (t19, ())), (b6, ())) kn kx = B71l0 K t1 t19 b6 (fun t1 t19 b6 => kn ((t1, (t19, ())), (b6, ()))) (fun y0 => kx ((), (y0, ()))) := by
  unfold B71l0; kernel_rfl
theorem F71l0_go (K : Nat) (kx : ((List Int) → Option (ByteArray))) : ∀ (n : Nat) (t1 : Int) (t19 : Int) (b6 : (List Int)), evLoop (S71l0 K) (fun y => kx y.2.1) n ((t1, (t19, ())), (b6, ())) = F71l0 K n t1 t19 b6 kx := by
  intro n
  induction n with
  | zero => intros; rfl
  | succ n ih =>
    intros t1 t19 b6
    refine (S71l0_eq K t1 t19 b6 _ _).trans ?_
    have e : (fun t1 t19 b6 => evLoop (S71l0 K) (fun y => kx y.2.1) n ((t1, (t19, ())), (b6, ()))) = fun t1 t19 b6 => F71l0 K n t1 t19 b6 kx := by
      funext t1 t19 b6; exact ih t1 t19 b6
    rw [e]; rfl
theorem F71l0_eq (K : Nat) : F71l0 K K = L71l0 K := by
  funext t1 t19 b6 kx; exact (F71l0_go K kx K t1 t19 b6).symm
def F71 (K : Nat) (x0 : ByteArray) (x1 : Int) : Option (ByteArray) := (if ((ltI (64 : Int) (((ByteArray.size x0) : Nat) : Int)) = true) then ((F77 K (bytesOf x0)).bind fun y0 => (F71l0 K K x1 (0 : Int) ((List.take (Int.toNat (0 : Int)) (List.replicate 64 (0 : Int))) ++ ((List.take (Int.toNat (((64 : Nat) : Int) - (0 : Int))) (bytesOf (mkStr (List.take (Int.toNat (((32 : Nat) : Int) - (0 : Int))) (List.drop (Int.toNat (0 : Int)) y0))))) ++ (List.drop ((Int.toNat (0 : Int)) + (min (Int.toNat (((64 : Nat) : Int) - (0 : Int))) (List.length (bytesOf (mkStr (List.take (Int.toNat (((32 : Nat) : Int) - (0 : Int))) (List.drop (Int.toNat (0 : Int)) y0))))))) (List.replicate 64 (0 : Int))))) (fun y1 => (some (mkStr (List.take (Int.toNat (((64 : Nat) : Int) - (0 : Int))) (List.drop (Int.toNat (0 : Int)) y1))))))) else (F71l0 K K x1 (0 : Int) ((List.take (Int.toNat (0 : Int)) (List.replicate 64 (0 : Int))) ++ ((List.take (Int.toNat (((64 : Nat) : Int) - (0 : Int))) (bytesOf x0)) ++ (List.drop ((Int.toNat (0 : Int)) + (min (Int.toNat (((64 : Nat) : Int) - (0 : Int))) (List.length (bytesOf x0)))) (List.replicate 64 (0 : Int))))) (fun y0 => (some (mkStr (List.take (Int.toNat (((64 : Nat) : Int) - (0 : Int))) (List.drop (Int.toNat (0 : Int)) y0)))))))
theorem F71_eq (K : Nat) (x0 : ByteArray) (x1 : Int) : evFn (E71 K) A71 P71 R71 (lpK (RDen R71) K) 31 Tryd.f71.results.toList (cd Tryd.f71) (x0, (x1, ())) = F71 K x0 x1 := by
  unfold F71; rw [F71l0_eq K]; kernel_rfl
/- quietus/hash.Hmac -/
def A63 : List (Nat × LoopAnn) := []
noncomputable def E63 (K : Nat) : Env := mkEnv tyTab nfTab mpTab G63 [(57, ⟨P57, R57, fun x => F57 K⟩), (71, ⟨P71, R71, fun x => F71 K x.1 x.2.1⟩), (58, ⟨P58, R58, fun x => F58 K x.1 x.2.1⟩), (60, ⟨P60, R60, fun x => F60 K x.1⟩)]
def F63 (K : Nat) (x0 : ByteArray) (x1 : ByteArray) : Option ((List Int)) := ((F57 K).bind fun y0 => ((F71 K x0 (54 : Int)).bind fun y1 => ((F58 K (y0.1, (y0.2.1, y0.2.2)) y1).bind fun y2 => ((F58 K (y2.1, (y2.2.1, y2.2.2)) x1).bind fun y3 => ((F60 K (y3.1, (y3.2.1, y3.2.2))).bind fun y4 => ((F57 K).bind fun y5 => ((F71 K x0 (92 : Int)).bind fun y6 => ((F58 K (y5.1, (y5.2.1, y5.2.2)) y6).bind fun y7 => ((F58 K (y7.1, (y7.2.1, y7.2.2)) (mkStr (List.take (Int.toNat (((32 : Nat) : Int) - (0 : Int))) (List.drop (Int.toNat (0 : Int)) y4)))).bind fun y8 => ((F60 K (y8.1, (y8.2.1, y8.2.2))).bind fun y9 => (some y9)))))))))))
theorem F63_eq (K : Nat) (x0 : ByteArray) (x1 : ByteArray) : evFn (E63 K) A63 P63 R63 (lpK (RDen R63) K) 21 Tryd.f63.results.toList (cd Tryd.f63) (x0, (x1, ())) = F63 K x0 x1 := by
  unfold F63; kernel_rfl
/- quietus/hash.Mac -/
def T50l0 : LoopAnn := ⟨tm 27 [(0, (.data .str)), (3, (.ptr 4)), (0, (.data .str)), (3, (.data (.list .str))), (0, (.data (.int .i64))), (0, (.data (.int .i64)))] [(4, (.arr 16 (.int .u8)))], tm 27 [(0, (.data .str)), (3, (.ptr 4)), (0, (.data .str))] [(4, (.arr 16 (.int .u8)))]⟩
def A50 : List (Nat × LoopAnn) := [(0, T50l0)]
noncomputable def E50 (K : Nat) : Env := mkEnv tyTab nfTab mpTab G50 [(59, ⟨P59, R59, fun x => F59 K x.1⟩), (63, ⟨P63, R63, fun x => F63 K x.1 x.2.1⟩)]
def B50l0 (K : Nat) (t0 : ByteArray) (t5 : ByteArray) (t9 : (List ByteArray)) (t10 : Int) (t11 : Int) (b4 : (List Int)) (kn : (ByteArray → ByteArray → (List ByteArray) → Int → Int → (List Int) → Option ((List Int)))) (kx : (ByteArray → ByteArray → (List Int) → Option ((List Int)))) : Option ((List Int)) := (if ((ltI t11 t10) = true) then (if ((inR t11 (((List.length t9) : Nat) : Int)) = true) then ((F59 K (nthD Ty.str t9 t11)).bind fun y0 => (if ((strRoom ((ByteArray.size t5) + (ByteArray.size (mkStr y0)))) = true) then (kn t0 (t5 ++ (mkStr y0)) t9 t10 (IntKind.wrap IntKind.i64 (t11 + (1 : Int))) b4) else none)) else none) else (kx t0 t5 b4))
def F50l0 (K : Nat) : Nat → ByteArray → ByteArray → (List ByteArray) → Int → Int → (List Int) → (ByteArray → ByteArray → (List Int) → Option ((List Int))) → Option ((List Int))
  | 0, _, _, _, _, _, _, _ => none
  | k + 1, t0, t5, t9, t10, t11, b4, kx => B50l0 K t0 t5 t9 t10 t11 b4 (fun t0 t5 t9 t10 t11 b4 => F50l0 K k t0 t5 t9 t10 t11 b4 kx) kx
noncomputable def S50l0 (K : Nat) := loopStep (E50 K) A50 (lpK (RDen R50) K) (codeAt [1, 1, 0, 1, 2, 2] (cd Tryd.f50)) 0 T50l0 (fun s => resOut (E50 K) s R50 Tryd.f50.results.toList)
noncomputable def L50l0 (K : Nat) (t0 : ByteArray) (t5 : ByteArray) (t9 : (List ByteArray)) (t10 : Int) (t11 : Int) (b4 : (List Int)) (kx : (ByteArray → ByteArray → (List Int) → Option ((List Int)))) : Option ((List Int)) := evLoop (S50l0 K) (fun y => kx y.1.1 y.1.2.1 y.2.1) K ((t0, (t5, (t9, (t10, (t11, ()))))), (b4, ()))
theorem S50l0_eq (K : Nat) (t0 : ByteArray) (t5 : ByteArray) (t9 : (List ByteArray)) (t10 : Int) (t11 : Int) (b4 : (List Int)) (kn : _ → Option ((List Int))) (kx : _ → Option ((List Int))) : S50l0 K ((t0, (t5, (t9, (t10, (t11, ()))))), (b4, ())) kn kx = B50l0 K t0 t5 t9 t10 t11 b4 (fun t0 t5 t9 t10 t11 b4 => kn ((t0, (t5, (t9, (t10, (t11, ()))))), (b4, ()))) (fun y0 y1 y2 => kx ((y0, (y1, ())), (y2, ()))) := by
  unfold B50l0; kernel_rfl
theorem F50l0_go (K : Nat) (kx : (ByteArray → ByteArray → (List Int) → Option ((List Int)))) : ∀ (n : Nat) (t0 : ByteArray) (t5 : ByteArray) (t9 : (List ByteArray)) (t10 : Int) (t11 : Int) (b4 : (List Int)), evLoop (S50l0 K) (fun y => kx y.1.1 y.1.2.1 y.2.1) n ((t0, (t5, (t9, (t10, (t11, ()))))), (b4, ())) = F50l0 K n t0 t5 t9 t10 t11 b4 kx := by
  intro n
  induction n with
  | zero => intros; rfl
  | succ n ih =>
    intros t0 t5 t9 t10 t11 b4
    refine (S50l0_eq K t0 t5 t9 t10 t11 b4 _ _).trans ?_
    have e : (fun t0 t5 t9 t10 t11 b4 => evLoop (S50l0 K) (fun y => kx y.1.1 y.1.2.1 y.2.1) n ((t0, (t5, (t9, (t10, (t11, ()))))), (b4, ()))) = fun t0 t5 t9 t10 t11 b4 => F50l0 K n t0 t5 t9 t10 t11 b4 kx := by
      funext t0 t5 t9 t10 t11 b4; exact ih t0 t5 t9 t10 t11 b4
    rw [e]; rfl
theorem F50l0_eq (K : Nat) : F50l0 K K = L50l0 K := by
  funext t0 t5 t9 t10 t11 b4 kx; exact (F50l0_go K kx K t0 t5 t9 t10 t11 b4).symm
def F50 (K : Nat) (x0 : ByteArray) (x1 : (List ByteArray)) : Option ((List Int)) := (F50l0 K K x0 (ByteArray.mk (Array.mk [])) x1 (((List.length x1) : Nat) : Int) (0 : Int) (List.replicate 16 (0 : Int)) (fun y0 y1 y2 => ((F63 K y0 y1).bind fun y3 => (some (List.take 16 (List.drop (Int.toNat (0 : Int)) y3))))))
theorem F50_eq (K : Nat) (x0 : ByteArray) (x1 : (List ByteArray)) : evFn (E50 K) A50 P50 R50 (lpK (RDen R50) K) 27 Tryd.f50.results.toList (cd Tryd.f50) (x0, (x1, ())) = F50 K x0 x1 := by
  unfold F50; rw [F50l0_eq K]; kernel_rfl
/- quietus/extend.seal -/
def A35 : List (Nat × LoopAnn) := []
noncomputable def E35 (K : Nat) : Env := mkEnv tyTab nfTab mpTab G35 [(49, ⟨P49, R49, fun x => F49 K x.1 x.2.1⟩), (43, ⟨P43, R43, fun x => F43 K x.1⟩), (45, ⟨P45, R45, fun x => F45 K x.1⟩), (50, ⟨P50, R50, fun x => F50 K x.1 x.2.1⟩)]
def F35 (K : Nat) (x0 : ((List Int) × ((List ByteArray) × (Int × Int)))) (x1 : (Int × (Int × (Int × (Int × (List (Int × (Int × (Bool × (List Int)))))))))) (x2 : (Int × (Int × (Bool × (List Int))))) : Option ((List Int)) := ((F49 K x0.1 x2.1).bind fun y0 => (if ((inR y0 (((List.length x0.2.1) : Nat) : Int)) = true) then ((F43 K x2.2.2.1).bind fun y1 => ((F45 K ((150 : Int) :: x1.1 :: x1.2.1 :: x1.2.2.1 :: x1.2.2.2.1 :: x2.1 :: x2.2.1 :: y1 :: (List.replicate 0 (0 : Int)))).bind fun y2 => ((F50 K (nthD Ty.str x0.2.1 y0) y2).bind fun y3 => (some y3)))) else none))
theorem F35_eq (K : Nat) (x0 : ((List Int) × ((List ByteArray) × (Int × Int)))) (x1 : (Int × (Int × (Int × (Int × (List (Int × (Int × (Bool × (List Int)))))))))) (x2 : (Int × (Int × (Bool × (List Int))))) : evFn (E35 K) A35 P35 R35 (lpK (RDen R35) K) 36 Tryd.f35.results.toList (cd Tryd.f35) (x0, (x1, (x2, ()))) = F35 K x0 x1 x2 := by
  unfold F35; kernel_rfl
/- quietus/extend.last -/
def A42 : List (Nat × LoopAnn) := []
noncomputable def E42 (K : Nat) : Env := mkEnv tyTab nfTab mpTab G42 []
def F42 (K : Nat) (x0 : (Int × (Int × (Int × (Int × (List (Int × (Int × (Bool × (List Int)))))))))) : Option (Int) := (if ((ltI (0 : Int) (((List.length x0.2.2.2.2) : Nat) : Int)) = true) then (if ((inR (IntKind.wrap IntKind.i64 ((((List.length x0.2.2.2.2) : Nat) : Int) - (1 : Int))) (((List.length x0.2.2.2.2) : Nat) : Int)) = true) then (some (maxI x0.2.2.2.1 (nthD (Ty.pair (Ty.int IntKind.i64) (Ty.pair (Ty.int IntKind.i64) (Ty.pair Ty.bool (Ty.arr 16 (Ty.int IntKind.u8))))) x0.2.2.2.2 (IntKind.wrap IntKind.i64 ((((List.length x0.2.2.2.2) : Nat) : Int) - (1 : Int)))).2.1)) else none) else (some x0.2.2.2.1))
theorem F42_eq (K : Nat) (x0 : (Int × (Int × (Int × (Int × (List (Int × (Int × (Bool × (List Int)))))))))) : evFn (E42 K) A42 P42 R42 (lpK (RDen R42) K) 21 Tryd.f42.results.toList (cd Tryd.f42) (x0, ()) = F42 K x0 := by
  unfold F42; kernel_rfl
/- quietus/extend.vote$1 -/
def A55 : List (Nat × LoopAnn) := []
noncomputable def E55 (K : Nat) : Env := mkEnv tyTab nfTab mpTab G55 []
def F55 (K : Nat) (x0 : (Int × (Int × (Bool × (List Int))))) (x1 : (Int × (Int × (Bool × (List Int))))) : Option (Bool) := (some (eqI x0.1 x1.1))
theorem F55_eq (K : Nat) (x0 : (Int × (Int × (Bool × (List Int))))) (x1 : (Int × (Int × (Bool × (List Int))))) : evFn (E55 K) A55 P55 R55 (lpK (RDen R55) K) 9 Tryd.f55.results.toList (cd Tryd.f55) (x0, (x1, ())) = F55 K x0 x1 := by
  unfold F55; kernel_rfl
/- slices.IndexFunc[[]quietus/api.Ballot,quietus/api.Ballot] -/
def T69l0 : LoopAnn := ⟨tm 19 [(0, (.data (.list (.pair (.int .i64) (.pair (.int .i64) (.pair .bool (.arr 16 (.int .u8)))))))), (0, (.fnd 55 [(.ref (.pair (.int .i64) (.pair (.int .i64) (.pair .bool (.arr 16 (.int .u8))))))])), (5, (.data (.int .i64))), (0, (.data (.int .i64)))] [], tm 19 [] []⟩
def A69 : List (Nat × LoopAnn) := [(0, T69l0)]
noncomputable def E69 (K : Nat) : Env := mkEnv tyTab nfTab mpTab G69 [(55, ⟨P55, R55, fun x => F55 K x.1 x.2.1⟩)]
def B69l0 (K : Nat) (t0 : (List (Int × (Int × (Bool × (List Int)))))) (t1_0 : (Int × (Int × (Bool × (List Int))))) (t7 : Int) (t8 : Int) (kn : ((List (Int × (Int × (Bool × (List Int))))) → (Int × (Int × (Bool × (List Int)))) → Int → Int → Option (Int))) (kx : Option (Int)) : Option (Int) := (if ((ltI t8 t7) = true) then (if ((inR t8 (((List.length t0) : Nat) : Int)) = true) then ((F55 K ((nthD (Ty.pair (Ty.int IntKind.i64) (Ty.pair (Ty.int IntKind.i64) (Ty.pair Ty.bool (Ty.arr 16 (Ty.int IntKind.u8))))) t0 t8).1, ((nthD (Ty.pair (Ty.int IntKind.i64) (Ty.pair (Ty.int IntKind.i64) (Ty.pair Ty.bool (Ty.arr 16 (Ty.int IntKind.u8))))) t0 t8).2.1, ((nthD (Ty.pair (Ty.int IntKind.i64) (Ty.pair (Ty.int IntKind.i64) (Ty.pair Ty.bool (Ty.arr 16 (Ty.int IntKind.u8))))) t0 t8).2.2.1, (nthD (Ty.pair (Ty.int IntKind.i64) (Ty.pair (Ty.int IntKind.i64) (Ty.pair Ty.bool (Ty.arr 16 (Ty.int IntKind.u8))))) t0 t8).2.2.2))) t1_0).bind fun y0 => (if (y0 = true) then (some t8) else (kn t0 t1_0 t7 (IntKind.wrap IntKind.i64 (t8 + (1 : Int)))))) else none) else kx)
def F69l0 (K : Nat) : Nat → (List (Int × (Int × (Bool × (List Int))))) → (Int × (Int × (Bool × (List Int)))) → Int → Int → Option (Int) → Option (Int)
  | 0, _, _, _, _, _ => none
  | k + 1, t0, t1_0, t7, t8, kx => B69l0 K t0 t1_0 t7 t8 (fun t0 t1_0 t7 t8 => F69l0 K k t0 t1_0 t7 t8 kx) kx
noncomputable def S69l0 (K : Nat) := loopStep (E69 K) A69 (lpK (RDen R69) K) (codeAt [1, 0, 1, 2, 2] (cd Tryd.f69)) 0 T69l0 (fun s => resOut (E69 K) s R69 Tryd.f69.results.toList)
noncomputable def L69l0 (K : Nat) (t0 : (List (Int × (Int × (Bool × (List Int)))))) (t1_0 : (Int × (Int × (Bool × (List Int))))) (t7 : Int) (t8 : Int) (kx : Option (Int)) : Option (Int) := evLoop (S69l0 K) (fun _ => kx) K ((t0, (t1_0, (t7, (t8, ())))), ())
theorem S69l0_eq (K : Nat) (t0 : (List (Int × (Int × (Bool × (List Int)))))) (t1_0 : (Int × (Int × (Bool × (List Int))))) (t7 : Int) (t8 : Int) (kn : _ → Option (Int)) (kx : _ → Option (Int)) : S69l0 K ((t0, (t1_0, (t7, (t8, ())))), ()) kn kx = B69l0 K t0 t1_0 t7 t8 (fun t0 t1_0 t7 t8 => kn ((t0, (t1_0, (t7, (t8, ())))), ())) (kx ((), ())) := by
  unfold B69l0; kernel_rfl
theorem F69l0_go (K : Nat) (kx : Option (Int)) : ∀ (n : Nat) (t0 : (List (Int × (Int × (Bool × (List Int)))))) (t1_0 : (Int × (Int × (Bool × (List Int))))) (t7 : Int) (t8 : Int), evLoop (S69l0 K) (fun _ => kx) n ((t0, (t1_0, (t7, (t8, ())))), ()) = F69l0 K n t0 t1_0 t7 t8 kx := by
  intro n
  induction n with
  | zero => intros; rfl
  | succ n ih =>
    intros t0 t1_0 t7 t8
    refine (S69l0_eq K t0 t1_0 t7 t8 _ _).trans ?_
    have e : (fun t0 t1_0 t7 t8 => evLoop (S69l0 K) (fun _ => kx) n ((t0, (t1_0, (t7, (t8, ())))), ())) = fun t0 t1_0 t7 t8 => F69l0 K n t0 t1_0 t7 t8 kx := by
      funext t0 t1_0 t7 t8; exact ih t0 t1_0 t7 t8
    rw [e]; rfl
theorem F69l0_eq (K : Nat) : F69l0 K K = L69l0 K := by
  funext t0 t1_0 t7 t8 kx; exact (F69l0_go K kx K t0 t1_0 t7 t8).symm
def F69 (K : Nat) (x0 : (List (Int × (Int × (Bool × (List Int)))))) (x1c0 : (Int × (Int × (Bool × (List Int))))) : Option (Int) := (F69l0 K K x0 x1c0 (((List.length x0) : Nat) : Int) (0 : Int) (some (-(1 : Int))))
theorem F69_eq (K : Nat) (x0 : (List (Int × (Int × (Bool × (List Int)))))) (x1c0 : (Int × (Int × (Bool × (List Int))))) : evFn (E69 K) A69 P69 R69 (lpK (RDen R69) K) 19 Tryd.f69.results.toList (cd Tryd.f69) (x0, ((x1c0, ()), ())) = F69 K x0 x1c0 := by
  unfold F69; rw [F69l0_eq K]; kernel_rfl
/- slices.ContainsFunc[[]quietus/api.Ballot,quietus/api.Ballot] -/
def A54 : List (Nat × LoopAnn) := []
noncomputable def E54 (K : Nat) : Env := mkEnv tyTab nfTab mpTab G54 [(69, ⟨P69, R69, fun x => F69 K x.1 x.2.1.1⟩), (55, ⟨P55, R55, fun x => F55 K x.1 x.2.1⟩)]
def F54 (K : Nat) (x0 : (List (Int × (Int × (Bool × (List Int)))))) (x1c0 : (Int × (Int × (Bool × (List Int))))) : Option (Bool) := ((F69 K x0 x1c0).bind fun y0 => (some (leI (0 : Int) y0)))
theorem F54_eq (K : Nat) (x0 : (List (Int × (Int × (Bool × (List Int)))))) (x1c0 : (Int × (Int × (Bool × (List Int))))) : evFn (E54 K) A54 P54 R54 (lpK (RDen R54) K) 9 Tryd.f54.results.toList (cd Tryd.f54) (x0, ((x1c0, ()), ())) = F54 K x0 x1c0 := by
  unfold F54; kernel_rfl
/- quietus/extend.vote -/
def A39 : List (Nat × LoopAnn) := []
noncomputable def E39 (K : Nat) : Env := mkEnv tyTab nfTab mpTab G39 [(34, ⟨P34, R34, fun x => F34 K x.1 x.2.1⟩), (55, ⟨P55, R55, fun x => F55 K x.1 x.2.1⟩), (54, ⟨P54, R54, fun x => F54 K x.1 x.2.1.1⟩), (42, ⟨P42, R42, fun x => F42 K x.1⟩), (35, ⟨P35, R35, fun x => F35 K x.1 x.2.1 x.2.2.1⟩)]
def F39 (K : Nat) (x0 : ((List Int) × ((List ByteArray) × (Int × Int)))) (x1 : (Int × (Int × (Int × (Int × (List (Int × (Int × (Bool × (List Int)))))))))) (x2 : (Int × (Int × (Bool × (List Int))))) : Option (Int) := ((F34 K x0.1 x2.1).bind fun y0 => (if ((!y0) = true) then (some (19 : Int)) else ((F54 K x1.2.2.2.2 (x2.1, (x2.2.1, (x2.2.2.1, x2.2.2.2)))).bind fun y1 => (if (y1 = true) then (some (9 : Int)) else (if ((ltI x1.2.1 x2.2.1) = true) then (some (18 : Int)) else ((F42 K (x1.1, (x1.2.1, (x1.2.2.1, (x1.2.2.2.1, x1.2.2.2.2))))).bind fun y2 => (if ((ltI x2.2.1 y2) = true) then (some (15 : Int)) else ((F35 K (x0.1, (x0.2.1, (x0.2.2.1, x0.2.2.2))) (x1.1, (x1.2.1, (x1.2.2.1, (x1.2.2.2.1, x1.2.2.2.2)))) (x2.1, (x2.2.1, (x2.2.2.1, x2.2.2.2)))).bind fun y3 => (if ((!(Ty.beq (Ty.arr 16 (Ty.int IntKind.u8)) x2.2.2.2 y3)) = true) then (some (16 : Int)) else (some (0 : Int)))))))))))
theorem F39_eq (K : Nat) (x0 : ((List Int) × ((List ByteArray) × (Int × Int)))) (x1 : (Int × (Int × (Int × (Int × (List (Int × (Int × (Bool × (List Int)))))))))) (x2 : (Int × (Int × (Bool × (List Int))))) : evFn (E39 K) A39 P39 R39 (lpK (RDen R39) K) 39 Tryd.f39.results.toList (cd Tryd.f39) (x0, (x1, (x2, ()))) = F39 K x0 x1 x2 := by
  unfold F39; kernel_rfl
/- quietus/extend.Right -/
def T21l0 : LoopAnn := ⟨tm 37 [(2, (.ptr 2)), (0, (.ptr 3)), (1, (.ptr 5)), (13, (.data (.list (.pair (.int .i64) (.pair (.int .i64) (.pair .bool (.arr 16 (.int .u8)))))))), (0, (.data (.int .i64))), (0, (.data (.int .i64)))] [(2, (.pair (.list (.int .i64)) (.pair (.list .str) (.pair (.int .i64) (.int .i64))))), (0, (.pair (.int .i64) (.pair (.int .i64) (.pair (.int .i64) (.pair (.int .i64) (.list (.pair (.int .i64) (.pair (.int .i64) (.pair .bool (.arr 16 (.int .u8))))))))))), (1, (.pair (.int .i64) (.pair (.int .i64) (.pair (.int .i64) (.pair (.int .i64) (.list (.pair (.int .i64) (.pair (.int .i64) (.pair .bool (.arr 16 (.int .u8)))))))))))], tm 37 [] []⟩
def A21 : List (Nat × LoopAnn) := [(0, T21l0)]
noncomputable def E21 (K : Nat) : Env := mkEnv tyTab nfTab mpTab G21 [(19, ⟨P19, R19, fun x => F19 K x.1⟩), (33, ⟨P33, R33, fun x => F33 K x.1 x.2.1⟩), (39, ⟨P39, R39, fun x => F39 K x.1 x.2.1 x.2.2.1⟩)]
def B21l0 (K : Nat) (t19 : (List (Int × (Int × (Bool × (List Int)))))) (t20 : Int) (t21 : Int) (b2 : ((List Int) × ((List ByteArray) × (Int × Int)))) (b3 : (Int × (Int × (Int × (Int × (List (Int × (Int × (Bool × (List Int)))))))))) (b5 : (Int × (Int × (Int × (Int × (List (Int × (Int × (Bool × (List Int)))))))))) (kn : ((List (Int × (Int × (Bool × (List Int))))) → Int → Int → ((List Int) × ((List ByteArray) × (Int × Int))) → (Int × (Int × (Int × (Int × (List (Int × (Int × (Bool × (List Int))))))))) → (Int × (Int × (Int × (Int × (List (Int × (Int × (Bool × (List Int))))))))) → Option (Bool))) (kx : Option (Bool)) : Option (Bool) := (if ((ltI t21 t20) = true) then (if ((inR t21 (((List.length t19) : Nat) : Int)) = true) then (if ((inB (0 : Int) t21 (((List.length b3.2.2.2.2) : Nat) : Int)) = true) then ((F39 K (b2.1, (b2.2.1, (b2.2.2.1, b2.2.2.2))) (b5.1, (b5.2.1, (b5.2.2.1, (b5.2.2.2.1, (cut b3.2.2.2.2 (0 : Int) t21))))) ((nthD (Ty.pair (Ty.int IntKind.i64) (Ty.pair (Ty.int IntKind.i64) (Ty.pair Ty.bool (Ty.arr 16 (Ty.int IntKind.u8))))) t19 t21).1, ((nthD (Ty.pair (Ty.int IntKind.i64) (Ty.pair (Ty.int IntKind.i64) (Ty.pair Ty.bool (Ty.arr 16 (Ty.int IntKind.u8))))) t19 t21).2.1, ((nthD (Ty.pair (Ty.int IntKind.i64) (Ty.pair (Ty.int IntKind.i64) (Ty.pair Ty.bool (Ty.arr 16 (Ty.int IntKind.u8))))) t19 t21).2.2.1, (nthD (Ty.pair (Ty.int IntKind.i64) (Ty.pair (Ty.int IntKind.i64) (Ty.pair Ty.bool (Ty.arr 16 (Ty.int IntKind.u8))))) t19 t21).2.2.2)))).bind fun y0 => (if ((!(eqI y0 (0 : Int))) = true) then (some Bool.false) else (kn t19 t20 (IntKind.wrap IntKind.i64 (t21 + (1 : Int))) (b2.1, (b2.2.1, (b2.2.2.1, b2.2.2.2))) (b3.1, (b3.2.1, (b3.2.2.1, (b3.2.2.2.1, b3.2.2.2.2)))) (b5.1, (b5.2.1, (b5.2.2.1, (b5.2.2.2.1, (cut b3.2.2.2.2 (0 : Int) t21)))))))) else none) else none) else kx)
def F21l0 (K : Nat) : Nat → (List (Int × (Int × (Bool × (List Int))))) → Int → Int → ((List Int) × ((List ByteArray) × (Int × Int))) → (Int × (Int × (Int × (Int × (List (Int × (Int × (Bool × (List Int))))))))) → (Int × (Int × (Int × (Int × (List (Int × (Int × (Bool × (List Int))))))))) → Option (Bool) → Option (Bool)
  | 0, _, _, _, _, _, _, _ => none
  | k + 1, t19, t20, t21, b2, b3, b5, kx => B21l0 K t19 t20 t21 b2 b3 b5 (fun t19 t20 t21 b2 b3 b5 => F21l0 K k t19 t20 t21 b2 b3 b5 kx) kx
noncomputable def S21l0 (K : Nat) := loopStep (E21 K) A21 (lpK (RDen R21) K) (codeAt [1, 1, 1, 0, 1, 2, 2] (cd Tryd.f21)) 0 T21l0 (fun s => resOut (E21 K) s R21 Tryd.f21.results.toList)
noncomputable def L21l0 (K : Nat) (t19 : (List (Int × (Int × (Bool × (List Int)))))) (t20 : Int) (t21 : Int) (b2 : ((List Int) × ((List ByteArray) × (Int × Int)))) (b3 : (Int × (Int × (Int × (Int × (List (Int × (Int × (Bool × (List Int)))))))))) (b5 : (Int × (Int × (Int × (Int × (List (Int × (Int × (Bool × (List Int)))))))))) (kx : Option (Bool)) : Option (Bool) := evLoop (S21l0 K) (fun _ => kx) K ((t19, (t20, (t21, ()))), (b2, (b3, (b5, ()))))
theorem S21l0_eq (K : Nat) (t19 : (List (Int × (Int × (Bool × (List Int)))))) (t20 : Int) (t21 : Int) (b2 : ((List Int) × ((List ByteArray) × (Int × Int)))) (b3 : (Int × (Int × (Int × (Int × (List (Int × (Int × (Bool × (List Int)))))))))) (b5 : (Int × (Int × (Int × (Int × (List (Int × (Int × (Bool × (List Int)))))))))) (kn : _ → Option (Bool)) (kx : _ → Option (Bool)) : S21l0 K ((t19, (t20, (t21, ()))), (b2, (b3, (b5, ())))) kn kx = B21l0 K t19 t20 t21 b2 b3 b5 (fun t19 t20 t21 b2 b3 b5 => kn ((t19, (t20, (t21, ()))), (b2, (b3, (b5, ()))))) (kx ((), ())) := by
  unfold B21l0; kernel_rfl
theorem F21l0_go (K : Nat) (kx : Option (Bool)) : ∀ (n : Nat) (t19 : (List (Int × (Int × (Bool × (List Int)))))) (t20 : Int) (t21 : Int) (b2 : ((List Int) × ((List ByteArray) × (Int × Int)))) (b3 : (Int × (Int × (Int × (Int × (List (Int × (Int × (Bool × (List Int)))))))))) (b5 : (Int × (Int × (Int × (Int × (List (Int × (Int × (Bool × (List Int)))))))))), evLoop (S21l0 K) (fun _ => kx) n ((t19, (t20, (t21, ()))), (b2, (b3, (b5, ())))) = F21l0 K n t19 t20 t21 b2 b3 b5 kx := by
  intro n
  induction n with
  | zero => intros; rfl
  | succ n ih =>
    intros t19 t20 t21 b2 b3 b5
    refine (S21l0_eq K t19 t20 t21 b2 b3 b5 _ _).trans ?_
    have e : (fun t19 t20 t21 b2 b3 b5 => evLoop (S21l0 K) (fun _ => kx) n ((t19, (t20, (t21, ()))), (b2, (b3, (b5, ()))))) = fun t19 t20 t21 b2 b3 b5 => F21l0 K n t19 t20 t21 b2 b3 b5 kx := by
      funext t19 t20 t21 b2 b3 b5; exact ih t19 t20 t21 b2 b3 b5
    rw [e]; rfl
theorem F21l0_eq (K : Nat) : F21l0 K K = L21l0 K := by
  funext t19 t20 t21 b2 b3 b5 kx; exact (F21l0_go K kx K t19 t20 t21 b2 b3 b5).symm
def F21 (K : Nat) (x0 : ((List Int) × ((List ByteArray) × (Int × Int)))) (x1 : (Int × (Int × (Int × (Int × (List (Int × (Int × (Bool × (List Int)))))))))) : Option (Bool) := ((F19 K (x0.1, (x0.2.1, (x0.2.2.1, x0.2.2.2)))).bind fun y0 => (if ((!(eqI y0 (0 : Int))) = true) then (some Bool.false) else ((F33 K (x0.1, (x0.2.1, (x0.2.2.1, x0.2.2.2))) (x1.1, (x1.2.1, (x1.2.2.1, (x1.2.2.2.1, x1.2.2.2.2))))).bind fun y1 => (if ((!y1) = true) then (some Bool.false) else (F21l0 K K x1.2.2.2.2 (((List.length x1.2.2.2.2) : Nat) : Int) (0 : Int) (x0.1, (x0.2.1, (x0.2.2.1, x0.2.2.2))) (x1.1, (x1.2.1, (x1.2.2.1, (x1.2.2.2.1, x1.2.2.2.2)))) (x1.1, (x1.2.1, (x1.2.2.1, (x1.2.2.2.1, x1.2.2.2.2)))) (some true))))))
theorem F21_eq (K : Nat) (x0 : ((List Int) × ((List ByteArray) × (Int × Int)))) (x1 : (Int × (Int × (Int × (Int × (List (Int × (Int × (Bool × (List Int)))))))))) : evFn (E21 K) A21 P21 R21 (lpK (RDen R21) K) 37 Tryd.f21.results.toList (cd Tryd.f21) (x0, (x1, ())) = F21 K x0 x1 := by
  unfold F21; rw [F21l0_eq K]; kernel_rfl
/- slices.Clone[[]quietus/api.Ballot,quietus/api.Ballot] -/
def A40 : List (Nat × LoopAnn) := []
noncomputable def E40 (K : Nat) : Env := mkEnv tyTab nfTab mpTab G40 []
def F40 (K : Nat) (x0 : (List (Int × (Int × (Bool × (List Int)))))) : Option ((List (Int × (Int × (Bool × (List Int)))))) := if room (List.length ([] : (List (Int × (Int × (Bool × (List Int)))))) + x0.length) = true then some ([] ++ x0) else none
/- quietus/extend.Vote -/
def A14 : List (Nat × LoopAnn) := []
noncomputable def E14 (K : Nat) : Env := mkEnv tyTab nfTab mpTab G14 [(19, ⟨P19, R19, fun x => F19 K x.1⟩), (21, ⟨P21, R21, fun x => F21 K x.1 x.2.1⟩), (39, ⟨P39, R39, fun x => F39 K x.1 x.2.1 x.2.2.1⟩), (40, ⟨P40, R40, fun x => F40 K x.1⟩)]
def F14 (K : Nat) (x0 : ((List Int) × ((List ByteArray) × (Int × Int)))) (x1 : (Int × (Int × (Int × (Int × (List (Int × (Int × (Bool × (List Int)))))))))) (x2 : (Int × (Int × (Bool × (List Int))))) : Option ((Int × (Int × (Int × (Int × (List (Int × (Int × (Bool × (List Int))))))))) × Int) := ((F19 K (x0.1, (x0.2.1, (x0.2.2.1, x0.2.2.2)))).bind fun y0 => (if ((!(eqI y0 (0 : Int))) = true) then (some ((x1.1, (x1.2.1, (x1.2.2.1, (x1.2.2.2.1, x1.2.2.2.2)))), y0)) else ((F21 K (x0.1, (x0.2.1, (x0.2.2.1, x0.2.2.2))) (x1.1, (x1.2.1, (x1.2.2.1, (x1.2.2.2.1, x1.2.2.2.2))))).bind fun y1 => (if ((!y1) = true) then (some ((x1.1, (x1.2.1, (x1.2.2.1, (x1.2.2.2.1, x1.2.2.2.2)))), (1 : Int))) else ((F39 K (x0.1, (x0.2.1, (x0.2.2.1, x0.2.2.2))) (x1.1, (x1.2.1, (x1.2.2.1, (x1.2.2.2.1, x1.2.2.2.2)))) (x2.1, (x2.2.1, (x2.2.2.1, x2.2.2.2)))).bind fun y2 => (if ((!(eqI y2 (0 : Int))) = true) then (some ((x1.1, (x1.2.1, (x1.2.2.1, (x1.2.2.2.1, x1.2.2.2.2)))), y2)) else ((F40 K x1.2.2.2.2).bind fun y3 => (if ((room ((List.length y3) + (List.length ((x2.1, (x2.2.1, (x2.2.2.1, x2.2.2.2))) :: (List.replicate 0 ((0 : Int), ((0 : Int), (Bool.false, (List.replicate 16 (0 : Int)))))))))) = true) then (some ((x1.1, (x1.2.1, (x1.2.2.1, (x1.2.2.2.1, (y3 ++ ((x2.1, (x2.2.1, (x2.2.2.1, x2.2.2.2))) :: (List.replicate 0 ((0 : Int), ((0 : Int), (Bool.false, (List.replicate 16 (0 : Int)))))))))))), (0 : Int))) else none))))))))
theorem F14_eq (K : Nat) (x0 : ((List Int) × ((List ByteArray) × (Int × Int)))) (x1 : (Int × (Int × (Int × (Int × (List (Int × (Int × (Bool × (List Int)))))))))) (x2 : (Int × (Int × (Bool × (List Int))))) : evFn (E14 K) A14 P14 R14 (lpK (RDen R14) K) 37 Tryd.f14.results.toList (cd Tryd.f14) (x0, (x1, (x2, ()))) = F14 K x0 x1 x2 := by
  unfold F14; kernel_rfl
/- quietus/extend.Count -/
def T18l0 : LoopAnn := ⟨tm 25 [(1, (.ptr 1)), (0, (.data (.int .i64))), (4, (.data (.list (.pair (.int .i64) (.pair (.int .i64) (.pair .bool (.arr 16 (.int .u8)))))))), (0, (.data (.int .i64))), (0, (.data (.int .i64)))] [(1, (.pair (.int .i64) (.pair (.int .i64) (.pair (.int .i64) (.pair (.int .i64) (.list (.pair (.int .i64) (.pair (.int .i64) (.pair .bool (.arr 16 (.int .u8)))))))))))], tm 25 [(1, (.ptr 1)), (0, (.data (.int .i64)))] [(1, (.pair (.int .i64) (.pair (.int .i64) (.pair (.int .i64) (.pair (.int .i64) (.list (.pair (.int .i64) (.pair (.int .i64) (.pair .bool (.arr 16 (.int .u8)))))))))))]⟩
def A18 : List (Nat × LoopAnn) := [(0, T18l0)]
noncomputable def E18 (K : Nat) : Env := mkEnv tyTab nfTab mpTab G18 [(43, ⟨P43, R43, fun x => F43 K x.1⟩)]
def B18l0 (K : Nat) (t2 : Int) (t7 : (List (Int × (Int × (Bool × (List Int)))))) (t8 : Int) (t9 : Int) (b1 : (Int × (Int × (Int × (Int × (List (Int × (Int × (Bool × (List Int)))))))))) (kn : (Int → (List (Int × (Int × (Bool × (List Int))))) → Int → Int → (Int × (Int × (Int × (Int × (List (Int × (Int × (Bool × (List Int))))))))) → Option (Int × Int))) (kx : (Int → (Int × (Int × (Int × (Int × (List (Int × (Int × (Bool × (List Int))))))))) → Option (Int × Int))) : Option (Int × Int) := (if ((ltI t9 t8) = true) then (if ((inR t9 (((List.length t7) : Nat) : Int)) = true) then ((F43 K (nthD (Ty.pair (Ty.int IntKind.i64) (Ty.pair (Ty.int IntKind.i64) (Ty.pair Ty.bool (Ty.arr 16 (Ty.int IntKind.u8))))) t7 t9).2.2.1).bind fun y0 => (kn (IntKind.wrap IntKind.i64 (t2 + y0)) t7 t8 (IntKind.wrap IntKind.i64 (t9 + (1 : Int))) (b1.1, (b1.2.1, (b1.2.2.1, (b1.2.2.2.1, b1.2.2.2.2)))))) else none) else (kx t2 (b1.1, (b1.2.1, (b1.2.2.1, (b1.2.2.2.1, b1.2.2.2.2))))))
def F18l0 (K : Nat) : Nat → Int → (List (Int × (Int × (Bool × (List Int))))) → Int → Int → (Int × (Int × (Int × (Int × (List (Int × (Int × (Bool × (List Int))))))))) → (Int → (Int × (Int × (Int × (Int × (List (Int × (Int × (Bool × (List Int))))))))) → Option (Int × Int)) → Option (Int × Int)
  | 0, _, _, _, _, _, _ => none
  | k + 1, t2, t7, t8, t9, b1, kx => B18l0 K t2 t7 t8 t9 b1 (fun t2 t7 t8 t9 b1 => F18l0 K k t2 t7 t8 t9 b1 kx) kx
noncomputable def S18l0 (K : Nat) := loopStep (E18 K) A18 (lpK (RDen R18) K) (codeAt [1, 0, 1, 2, 2] (cd Tryd.f18)) 0 T18l0 (fun s => resOut (E18 K) s R18 Tryd.f18.results.toList)
noncomputable def L18l0 (K : Nat) (t2 : Int) (t7 : (List (Int × (Int × (Bool × (List Int)))))) (t8 : Int) (t9 : Int) (b1 : (Int × (Int × (Int × (Int × (List (Int × (Int × (Bool × (List Int)))))))))) (kx : (Int → (Int × (Int × (Int × (Int × (List (Int × (Int × (Bool × (List Int))))))))) → Option (Int × Int))) : Option (Int × Int) := evLoop (S18l0 K) (fun y => kx y.1.1 y.2.1) K ((t2, (t7, (t8, (t9, ())))), (b1, ()))
theorem S18l0_eq (K : Nat) (t2 : Int) (t7 : (List (Int × (Int × (Bool × (List Int)))))) (t8 : Int) (t9 : Int) (b1 : (Int × (Int × (Int × (Int × (List (Int × (Int × (Bool × (List Int)))))))))) (kn : _ → Option (Int × Int)) (kx : _ → Option (Int × Int)) : S18l0 K ((t2, (t7, (t8, (t9, ())))), (b1, ())) kn kx = B18l0 K t2 t7 t8 t9 b1 (fun t2 t7 t8 t9 b1 => kn ((t2, (t7, (t8, (t9, ())))), (b1, ()))) (fun y0 y1 => kx ((y0, ()), (y1, ()))) := by
  unfold B18l0; kernel_rfl
theorem F18l0_go (K : Nat) (kx : (Int → (Int × (Int × (Int × (Int × (List (Int × (Int × (Bool × (List Int))))))))) → Option (Int × Int))) : ∀ (n : Nat) (t2 : Int) (t7 : (List (Int × (Int × (Bool × (List Int)))))) (t8 : Int) (t9 : Int) (b1 : (Int × (Int × (Int × (Int × (List (Int × (Int × (Bool × (List Int)))))))))), evLoop (S18l0 K) (fun y => kx y.1.1 y.2.1) n ((t2, (t7, (t8, (t9, ())))), (b1, ())) = F18l0 K n t2 t7 t8 t9 b1 kx := by
  intro n
  induction n with
  | zero => intros; rfl
  | succ n ih =>
    intros t2 t7 t8 t9 b1
    refine (S18l0_eq K t2 t7 t8 t9 b1 _ _).trans ?_
    have e : (fun t2 t7 t8 t9 b1 => evLoop (S18l0 K) (fun y => kx y.1.1 y.2.1) n ((t2, (t7, (t8, (t9, ())))), (b1, ()))) = fun t2 t7 t8 t9 b1 => F18l0 K n t2 t7 t8 t9 b1 kx := by
      funext t2 t7 t8 t9 b1; exact ih t2 t7 t8 t9 b1
    rw [e]; rfl
theorem F18l0_eq (K : Nat) : F18l0 K K = L18l0 K := by
  funext t2 t7 t8 t9 b1 kx; exact (F18l0_go K kx K t2 t7 t8 t9 b1).symm
def F18 (K : Nat) (x0 : (Int × (Int × (Int × (Int × (List (Int × (Int × (Bool × (List Int)))))))))) : Option (Int × Int) := (F18l0 K K (0 : Int) x0.2.2.2.2 (((List.length x0.2.2.2.2) : Nat) : Int) (0 : Int) (x0.1, (x0.2.1, (x0.2.2.1, (x0.2.2.2.1, x0.2.2.2.2)))) (fun y0 y1 => (some (y0, (IntKind.wrap IntKind.i64 ((((List.length y1.2.2.2.2) : Nat) : Int) - y0))))))
theorem F18_eq (K : Nat) (x0 : (Int × (Int × (Int × (Int × (List (Int × (Int × (Bool × (List Int)))))))))) : evFn (E18 K) A18 P18 R18 (lpK (RDen R18) K) 25 Tryd.f18.results.toList (cd Tryd.f18) (x0, ()) = F18 K x0 := by
  unfold F18; rw [F18l0_eq K]; kernel_rfl
/- quietus/extend.Decide -/
def A16 : List (Nat × LoopAnn) := []
noncomputable def E16 (K : Nat) : Env := mkEnv tyTab nfTab mpTab G16 [(19, ⟨P19, R19, fun x => F19 K x.1⟩), (18, ⟨P18, R18, fun x => F18 K x.1⟩), (21, ⟨P21, R21, fun x => F21 K x.1 x.2.1⟩), (42, ⟨P42, R42, fun x => F42 K x.1⟩)]
def F16 (K : Nat) (x0 : ((List Int) × ((List ByteArray) × (Int × Int)))) (x1 : (Int × (Int × (Int × (Int × (List (Int × (Int × (Bool × (List Int)))))))))) (x2 : Int) : Option (Int × Int) := ((F19 K (x0.1, (x0.2.1, (x0.2.2.1, x0.2.2.2)))).bind fun y0 => (if ((!(eqI y0 (0 : Int))) = true) then (some ((0 : Int), y0)) else ((F18 K (x1.1, (x1.2.1, (x1.2.2.1, (x1.2.2.2.1, x1.2.2.2.2))))).bind fun y1 => ((F21 K (x0.1, (x0.2.1, (x0.2.2.1, x0.2.2.2))) (x1.1, (x1.2.1, (x1.2.2.1, (x1.2.2.2.1, x1.2.2.2.2))))).bind fun y2 => (if ((!y2) = true) then (some ((0 : Int), (1 : Int))) else (if ((ltI x1.2.1 x2) = true) then (some ((0 : Int), (18 : Int))) else ((F42 K (x1.1, (x1.2.1, (x1.2.2.1, (x1.2.2.2.1, x1.2.2.2.2))))).bind fun y3 => (if ((ltI x2 y3) = true) then (some ((0 : Int), (15 : Int))) else (if ((ltI y1.1 x0.2.2.1) = true) then (some ((0 : Int), (29 : Int))) else (some (x1.2.2.1, (0 : Int))))))))))))
theorem F16_eq (K : Nat) (x0 : ((List Int) × ((List ByteArray) × (Int × Int)))) (x1 : (Int × (Int × (Int × (Int × (List (Int × (Int × (Bool × (List Int)))))))))) (x2 : Int) : evFn (E16 K) A16 P16 R16 (lpK (RDen R16) K) 43 Tryd.f16.results.toList (cd Tryd.f16) (x0, (x1, (x2, ()))) = F16 K x0 x1 x2 := by
  unfold F16; kernel_rfl
/- quietus/hash.Of -/
def T46l0 : LoopAnn := ⟨tm 32 [(4, (.ptr 4)), (0, (.ptr 5)), (9, (.data (.list .str))), (0, (.data (.int .i64))), (0, (.data (.int .i64)))] [(4, (.arr 16 (.int .u8))), (0, (.pair (.arr 8 (.int .u32)) (.pair (.arr 64 (.int .u8)) (.int .u64))))], tm 32 [(4, (.ptr 4)), (0, (.ptr 5))] [(4, (.arr 16 (.int .u8))), (0, (.pair (.arr 8 (.int .u32)) (.pair (.arr 64 (.int .u8)) (.int .u64))))]⟩
def A46 : List (Nat × LoopAnn) := [(0, T46l0)]
noncomputable def E46 (K : Nat) : Env := mkEnv tyTab nfTab mpTab G46 [(57, ⟨P57, R57, fun x => F57 K⟩), (58, ⟨P58, R58, fun x => F58 K x.1 x.2.1⟩), (59, ⟨P59, R59, fun x => F59 K x.1⟩), (60, ⟨P60, R60, fun x => F60 K x.1⟩)]
def B46l0 (K : Nat) (t15 : (List ByteArray)) (t16 : Int) (t17 : Int) (b4 : (List Int)) (b5 : ((List Int) × ((List Int) × Int))) (kn : ((List ByteArray) → Int → Int → (List Int) → ((List Int) × ((List Int) × Int)) → Option ((List Int)))) (kx : ((List Int) → ((List Int) × ((List Int) × Int)) → Option ((List Int)))) : Option ((List Int)) := (if ((ltI t17 t16) = true) then (if ((inR t17 (((List.length t15) : Nat) : Int)) = true) then ((F59 K (nthD Ty.str t15 t17)).bind fun y0 => ((F58 K (b5.1, (b5.2.1, b5.2.2)) (mkStr y0)).bind fun y1 => (kn t15 t16 (IntKind.wrap IntKind.i64 (t17 + (1 : Int))) b4 (y1.1, (y1.2.1, y1.2.2))))) else none) else (kx b4 (b5.1, (b5.2.1, b5.2.2))))
def F46l0 (K : Nat) : Nat → (List ByteArray) → Int → Int → (List Int) → ((List Int) × ((List Int) × Int)) → ((List Int) → ((List Int) × ((List Int) × Int)) → Option ((List Int))) → Option ((List Int))
  | 0, _, _, _, _, _, _ => none
  | k + 1, t15, t16, t17, b4, b5, kx => B46l0 K t15 t16 t17 b4 b5 (fun t15 t16 t17 b4 b5 => F46l0 K k t15 t16 t17 b4 b5 kx) kx
noncomputable def S46l0 (K : Nat) := loopStep (E46 K) A46 (lpK (RDen R46) K) (codeAt [1, 1, 0, 1, 2, 2] (cd Tryd.f46)) 0 T46l0 (fun s => resOut (E46 K) s R46 Tryd.f46.results.toList)
noncomputable def L46l0 (K : Nat) (t15 : (List ByteArray)) (t16 : Int) (t17 : Int) (b4 : (List Int)) (b5 : ((List Int) × ((List Int) × Int))) (kx : ((List Int) → ((List Int) × ((List Int) × Int)) → Option ((List Int)))) : Option ((List Int)) := evLoop (S46l0 K) (fun y => kx y.2.1 y.2.2.1) K ((t15, (t16, (t17, ()))), (b4, (b5, ())))
theorem S46l0_eq (K : Nat) (t15 : (List ByteArray)) (t16 : Int) (t17 : Int) (b4 : (List Int)) (b5 : ((List Int) × ((List Int) × Int))) (kn : _ → Option ((List Int))) (kx : _ → Option ((List Int))) : S46l0 K ((t15, (t16, (t17, ()))), (b4, (b5, ()))) kn kx = B46l0 K t15 t16 t17 b4 b5 (fun t15 t16 t17 b4 b5 => kn ((t15, (t16, (t17, ()))), (b4, (b5, ())))) (fun y0 y1 => kx ((), (y0, (y1, ())))) := by
  unfold B46l0; kernel_rfl
theorem F46l0_go (K : Nat) (kx : ((List Int) → ((List Int) × ((List Int) × Int)) → Option ((List Int)))) : ∀ (n : Nat) (t15 : (List ByteArray)) (t16 : Int) (t17 : Int) (b4 : (List Int)) (b5 : ((List Int) × ((List Int) × Int))), evLoop (S46l0 K) (fun y => kx y.2.1 y.2.2.1) n ((t15, (t16, (t17, ()))), (b4, (b5, ()))) = F46l0 K n t15 t16 t17 b4 b5 kx := by
  intro n
  induction n with
  | zero => intros; rfl
  | succ n ih =>
    intros t15 t16 t17 b4 b5
    refine (S46l0_eq K t15 t16 t17 b4 b5 _ _).trans ?_
    have e : (fun t15 t16 t17 b4 b5 => evLoop (S46l0 K) (fun y => kx y.2.1 y.2.2.1) n ((t15, (t16, (t17, ()))), (b4, (b5, ())))) = fun t15 t16 t17 b4 b5 => F46l0 K n t15 t16 t17 b4 b5 kx := by
      funext t15 t16 t17 b4 b5; exact ih t15 t16 t17 b4 b5
    rw [e]; rfl
theorem F46l0_eq (K : Nat) : F46l0 K K = L46l0 K := by
  funext t15 t16 t17 b4 b5 kx; exact (F46l0_go K kx K t15 t16 t17 b4 b5).symm
def F46 (K : Nat) (x0 : Int) (x1 : (List ByteArray)) : Option ((List Int)) := ((F57 K).bind fun y0 => ((F58 K (y0.1, (y0.2.1, y0.2.2)) (mkStr ((IntKind.wrap IntKind.u8 x0) :: (List.replicate 0 (0 : Int))))).bind fun y1 => (F46l0 K K x1 (((List.length x1) : Nat) : Int) (0 : Int) (List.replicate 16 (0 : Int)) (y1.1, (y1.2.1, y1.2.2)) (fun y2 y3 => ((F60 K (y3.1, (y3.2.1, y3.2.2))).bind fun y4 => (some (List.take 16 (List.drop (Int.toNat (0 : Int)) y4))))))))
theorem F46_eq (K : Nat) (x0 : Int) (x1 : (List ByteArray)) : evFn (E46 K) A46 P46 R46 (lpK (RDen R46) K) 32 Tryd.f46.results.toList (cd Tryd.f46) (x0, (x1, ())) = F46 K x0 x1 := by
  unfold F46; rw [F46l0_eq K]; kernel_rfl
/- quietus/extend.Record -/
def T25l0 : LoopAnn := ⟨tm 54 [(6, (.ptr 6)), (0, (.vec .str)), (21, (.data (.list (.pair (.int .i64) (.pair (.int .i64) (.pair .bool (.arr 16 (.int .u8)))))))), (0, (.data (.int .i64))), (0, (.data (.int .i64)))] [(6, (.arr 16 (.int .u8)))], tm 54 [(6, (.ptr 6)), (0, (.vec .str))] [(6, (.arr 16 (.int .u8)))]⟩
def A25 : List (Nat × LoopAnn) := [(0, T25l0)]
noncomputable def E25 (K : Nat) : Env := mkEnv tyTab nfTab mpTab G25 [(45, ⟨P45, R45, fun x => F45 K x.1⟩), (43, ⟨P43, R43, fun x => F43 K x.1⟩), (46, ⟨P46, R46, fun x => F46 K x.1 x.2.1⟩)]
def B25l0 (K : Nat) (t7 : (List ByteArray)) (t29 : (List (Int × (Int × (Bool × (List Int)))))) (t30 : Int) (t31 : Int) (b6 : (List Int)) (kn : ((List ByteArray) → (List (Int × (Int × (Bool × (List Int))))) → Int → Int → (List Int) → Option ((List Int)))) (kx : ((List ByteArray) → (List Int) → Option ((List Int)))) : Option ((List Int)) := (if ((ltI t31 t30) = true) then (if ((inR t31 (((List.length t29) : Nat) : Int)) = true) then ((F43 K (nthD (Ty.pair (Ty.int IntKind.i64) (Ty.pair (Ty.int IntKind.i64) (Ty.pair Ty.bool (Ty.arr 16 (Ty.int IntKind.u8))))) t29 t31).2.2.1).bind fun y0 => ((F45 K ((nthD (Ty.pair (Ty.int IntKind.i64) (Ty.pair (Ty.int IntKind.i64) (Ty.pair Ty.bool (Ty.arr 16 (Ty.int IntKind.u8))))) t29 t31).1 :: (nthD (Ty.pair (Ty.int IntKind.i64) (Ty.pair (Ty.int IntKind.i64) (Ty.pair Ty.bool (Ty.arr 16 (Ty.int IntKind.u8))))) t29 t31).2.1 :: y0 :: (List.replicate 0 (0 : Int)))).bind fun y1 => (if ((room ((List.length t7) + (List.length y1))) = true) then (if ((room ((List.length (t7 ++ y1)) + (List.length ((mkStr (List.take (Int.toNat (((16 : Nat) : Int) - (0 : Int))) (List.drop (Int.toNat (0 : Int)) (nthD (Ty.pair (Ty.int IntKind.i64) (Ty.pair (Ty.int IntKind.i64) (Ty.pair Ty.bool (Ty.arr 16 (Ty.int IntKind.u8))))) t29 t31).2.2.2))) :: (List.replicate 0 ByteArray.empty))))) = true) then (kn ((t7 ++ y1) ++ ((mkStr (List.take (Int.toNat (((16 : Nat) : Int) - (0 : Int))) (List.drop (Int.toNat (0 : Int)) (nthD (Ty.pair (Ty.int IntKind.i64) (Ty.pair (Ty.int IntKind.i64) (Ty.pair Ty.bool (Ty.arr 16 (Ty.int IntKind.u8))))) t29 t31).2.2.2))) :: (List.replicate 0 ByteArray.empty))) t29 t30 (IntKind.wrap IntKind.i64 (t31 + (1 : Int))) b6) else none) else none))) else none) else (kx t7 b6))
def F25l0 (K : Nat) : Nat → (List ByteArray) → (List (Int × (Int × (Bool × (List Int))))) → Int → Int → (List Int) → ((List ByteArray) → (List Int) → Option ((List Int))) → Option ((List Int))
  | 0, _, _, _, _, _, _ => none
  | k + 1, t7, t29, t30, t31, b6, kx => B25l0 K t7 t29 t30 t31 b6 (fun t7 t29 t30 t31 b6 => F25l0 K k t7 t29 t30 t31 b6 kx) kx
noncomputable def S25l0 (K : Nat) := loopStep (E25 K) A25 (lpK (RDen R25) K) (codeAt [1, 1, 0, 1, 2, 2] (cd Tryd.f25)) 0 T25l0 (fun s => resOut (E25 K) s R25 Tryd.f25.results.toList)
noncomputable def L25l0 (K : Nat) (t7 : (List ByteArray)) (t29 : (List (Int × (Int × (Bool × (List Int)))))) (t30 : Int) (t31 : Int) (b6 : (List Int)) (kx : ((List ByteArray) → (List Int) → Option ((List Int)))) : Option ((List Int)) := evLoop (S25l0 K) (fun y => kx y.1.1 y.2.1) K ((t7, (t29, (t30, (t31, ())))), (b6, ()))
theorem S25l0_eq (K : Nat) (t7 : (List ByteArray)) (t29 : (List (Int × (Int × (Bool × (List Int)))))) (t30 : Int) (t31 : Int) (b6 : (List Int)) (kn : _ → Option ((List Int))) (kx : _ → Option ((List Int))) : S25l0 K ((t7, (t29, (t30, (t31, ())))), (b6, ())) kn kx = B25l0 K t7 t29 t30 t31 b6 (fun t7 t29 t30 t31 b6 => kn ((t7, (t29, (t30, (t31, ())))), (b6, ()))) (fun y0 y1 => kx ((y0, ()), (y1, ()))) := by
  unfold B25l0; kernel_rfl
theorem F25l0_go (K : Nat) (kx : ((List ByteArray) → (List Int) → Option ((List Int)))) : ∀ (n : Nat) (t7 : (List ByteArray)) (t29 : (List (Int × (Int × (Bool × (List Int)))))) (t30 : Int) (t31 : Int) (b6 : (List Int)), evLoop (S25l0 K) (fun y => kx y.1.1 y.2.1) n ((t7, (t29, (t30, (t31, ())))), (b6, ())) = F25l0 K n t7 t29 t30 t31 b6 kx := by
  intro n
  induction n with
  | zero => intros; rfl
  | succ n ih =>
    intros t7 t29 t30 t31 b6
    refine (S25l0_eq K t7 t29 t30 t31 b6 _ _).trans ?_
    have e : (fun t7 t29 t30 t31 b6 => evLoop (S25l0 K) (fun y => kx y.1.1 y.2.1) n ((t7, (t29, (t30, (t31, ())))), (b6, ()))) = fun t7 t29 t30 t31 b6 => F25l0 K n t7 t29 t30 t31 b6 kx := by
      funext t7 t29 t30 t31 b6; exact ih t7 t29 t30 t31 b6
    rw [e]; rfl
theorem F25l0_eq (K : Nat) : F25l0 K K = L25l0 K := by
  funext t7 t29 t30 t31 b6 kx; exact (F25l0_go K kx K t7 t29 t30 t31 b6).symm
def F25 (K : Nat) (x0 : (List Int)) (x1 : (Int × (Int × (Int × (Int × (List (Int × (Int × (Bool × (List Int)))))))))) (x2 : Int) : Option ((List Int)) := ((F45 K (x1.1 :: x1.2.1 :: x1.2.2.1 :: x1.2.2.2.1 :: x2 :: (((List.length x1.2.2.2.2) : Nat) : Int) :: (List.replicate 0 (0 : Int)))).bind fun y0 => (if ((room ((List.length ((mkStr (List.take (Int.toNat (((16 : Nat) : Int) - (0 : Int))) (List.drop (Int.toNat (0 : Int)) x0))) :: (List.replicate 0 ByteArray.empty))) + (List.length y0))) = true) then (F25l0 K K (((mkStr (List.take (Int.toNat (((16 : Nat) : Int) - (0 : Int))) (List.drop (Int.toNat (0 : Int)) x0))) :: (List.replicate 0 ByteArray.empty)) ++ y0) x1.2.2.2.2 (((List.length x1.2.2.2.2) : Nat) : Int) (0 : Int) (List.replicate 16 (0 : Int)) (fun y1 y2 => ((F46 K (151 : Int) y1).bind fun y3 => (some y3)))) else none))
theorem F25_eq (K : Nat) (x0 : (List Int)) (x1 : (Int × (Int × (Int × (Int × (List (Int × (Int × (Bool × (List Int)))))))))) (x2 : Int) : evFn (E25 K) A25 P25 R25 (lpK (RDen R25) K) 54 Tryd.f25.results.toList (cd Tryd.f25) (x0, (x1, (x2, ()))) = F25 K x0 x1 x2 := by
  unfold F25; rw [F25l0_eq K]; kernel_rfl
/- quietus/extend.Verify -/
def T28l0 : LoopAnn := ⟨tm 80 [(1, (.data (.list (.pair (.pair (.int .i64) (.pair (.int .i64) (.pair (.int .i64) (.pair (.int .i64) (.list (.pair (.int .i64) (.pair (.int .i64) (.pair .bool (.arr 16 (.int .u8)))))))))) (.pair (.int .i64) (.arr 16 (.int .u8))))))), (0, (.ptr 2)), (4, (.ptr 7)), (0, (.mref 20)), (12, (.data (.list (.pair (.pair (.int .i64) (.pair (.int .i64) (.pair (.int .i64) (.pair (.int .i64) (.list (.pair (.int .i64) (.pair (.int .i64) (.pair .bool (.arr 16 (.int .u8)))))))))) (.pair (.int .i64) (.arr 16 (.int .u8))))))), (0, (.data (.int .i64))), (0, (.data (.int .i64)))] [(2, (.pair (.list (.int .i64)) (.pair (.list .str) (.pair (.int .i64) (.int .i64))))), (4, (.arr 16 (.int .u8))), (12, (.mp .i64 .i64))], tm 80 [(1, (.data (.list (.pair (.pair (.int .i64) (.pair (.int .i64) (.pair (.int .i64) (.pair (.int .i64) (.list (.pair (.int .i64) (.pair (.int .i64) (.pair .bool (.arr 16 (.int .u8)))))))))) (.pair (.int .i64) (.arr 16 (.int .u8)))))))] []⟩
def A28 : List (Nat × LoopAnn) := [(0, T28l0)]
noncomputable def E28 (K : Nat) : Env := mkEnv tyTab nfTab mpTab G28 [(19, ⟨P19, R19, fun x => F19 K x.1⟩), (25, ⟨P25, R25, fun x => F25 K x.1 x.2.1 x.2.2.1⟩), (16, ⟨P16, R16, fun x => F16 K x.1 x.2.1 x.2.2.1⟩)]
def B28l0 (K : Nat) (t1 : (List ((Int × (Int × (Int × (Int × (List (Int × (Int × (Bool × (List Int))))))))) × (Int × (List Int))))) (t21 : (List ((Int × (Int × (Int × (Int × (List (Int × (Int × (Bool × (List Int))))))))) × (Int × (List Int))))) (t22 : Int) (t23 : Int) (b2 : ((List Int) × ((List ByteArray) × (Int × Int)))) (b7 : (List Int)) (b20 : (List (Int × Int))) (kn : ((List ((Int × (Int × (Int × (Int × (List (Int × (Int × (Bool × (List Int))))))))) × (Int × (List Int)))) → (List ((Int × (Int × (Int × (Int × (List (Int × (Int × (Bool × (List Int))))))))) × (Int × (List Int)))) → Int → Int → ((List Int) × ((List ByteArray) × (Int × Int))) → (List Int) → (List (Int × Int)) → Option (Int × Int))) (kx : ((List ((Int × (Int × (Int × (Int × (List (Int × (Int × (Bool × (List Int))))))))) × (Int × (List Int)))) → Option (Int × Int))) : Option (Int × Int) := (if ((ltI t23 t22) = true) then (if ((inR t23 (((List.length t21) : Nat) : Int)) = true) then ((F25 K b7 ((nthD (Ty.pair (Ty.pair (Ty.int IntKind.i64) (Ty.pair (Ty.int IntKind.i64) (Ty.pair (Ty.int IntKind.i64) (Ty.pair (Ty.int IntKind.i64) (Ty.list (Ty.pair (Ty.int IntKind.i64) (Ty.pair (Ty.int IntKind.i64) (Ty.pair Ty.bool (Ty.arr 16 (Ty.int IntKind.u8)))))))))) (Ty.pair (Ty.int IntKind.i64) (Ty.arr 16 (Ty.int IntKind.u8)))) t21 t23).1.1, ((nthD (Ty.pair (Ty.pair (Ty.int IntKind.i64) (Ty.pair (Ty.int IntKind.i64) (Ty.pair (Ty.int IntKind.i64) (Ty.pair (Ty.int IntKind.i64) (Ty.list (Ty.pair (Ty.int IntKind.i64) (Ty.pair (Ty.int IntKind.i64) (Ty.pair Ty.bool (Ty.arr 16 (Ty.int IntKind.u8)))))))))) (Ty.pair (Ty.int IntKind.i64) (Ty.arr 16 (Ty.int IntKind.u8)))) t21 t23).1.2.1, ((nthD (Ty.pair (Ty.pair (Ty.int IntKind.i64) (Ty.pair (Ty.int IntKind.i64) (Ty.pair (Ty.int IntKind.i64) (Ty.pair (Ty.int IntKind.i64) (Ty.list (Ty.pair (Ty.int IntKind.i64) (Ty.pair (Ty.int IntKind.i64) (Ty.pair Ty.bool (Ty.arr 16 (Ty.int IntKind.u8)))))))))) (Ty.pair (Ty.int IntKind.i64) (Ty.arr 16 (Ty.int IntKind.u8)))) t21 t23).1.2.2.1, ((nthD (Ty.pair (Ty.pair (Ty.int IntKind.i64) (Ty.pair (Ty.int IntKind.i64) (Ty.pair (Ty.int IntKind.i64) (Ty.pair (Ty.int IntKind.i64) (Ty.list (Ty.pair (Ty.int IntKind.i64) (Ty.pair (Ty.int IntKind.i64) (Ty.pair Ty.bool (Ty.arr 16 (Ty.int IntKind.u8)))))))))) (Ty.pair (Ty.int IntKind.i64) (Ty.arr 16 (Ty.int IntKind.u8)))) t21 t23).1.2.2.2.1, (nthD (Ty.pair (Ty.pair (Ty.int IntKind.i64) (Ty.pair (Ty.int IntKind.i64) (Ty.pair (Ty.int IntKind.i64) (Ty.pair (Ty.int IntKind.i64) (Ty.list (Ty.pair (Ty.int IntKind.i64) (Ty.pair (Ty.int IntKind.i64) (Ty.pair Ty.bool (Ty.arr 16 (Ty.int IntKind.u8)))))))))) (Ty.pair (Ty.int IntKind.i64) (Ty.arr 16 (Ty.int IntKind.u8)))) t21 t23).1.2.2.2.2)))) (nthD (Ty.pair (Ty.pair (Ty.int IntKind.i64) (Ty.pair (Ty.int IntKind.i64) (Ty.pair (Ty.int IntKind.i64) (Ty.pair (Ty.int IntKind.i64) (Ty.list (Ty.pair (Ty.int IntKind.i64) (Ty.pair (Ty.int IntKind.i64) (Ty.pair Ty.bool (Ty.arr 16 (Ty.int IntKind.u8)))))))))) (Ty.pair (Ty.int IntKind.i64) (Ty.arr 16 (Ty.int IntKind.u8)))) t21 t23).2.1).bind fun y0 => (if ((!(Ty.beq (Ty.arr 16 (Ty.int IntKind.u8)) (nthD (Ty.pair (Ty.pair (Ty.int IntKind.i64) (Ty.pair (Ty.int IntKind.i64) (Ty.pair (Ty.int IntKind.i64) (Ty.pair (Ty.int IntKind.i64) (Ty.list (Ty.pair (Ty.int IntKind.i64) (Ty.pair (Ty.int IntKind.i64) (Ty.pair Ty.bool (Ty.arr 16 (Ty.int IntKind.u8)))))))))) (Ty.pair (Ty.int IntKind.i64) (Ty.arr 16 (Ty.int IntKind.u8)))) t21 t23).2.2 y0)) = true) then (some (t23, (23 : Int))) else ((F16 K (b2.1, (b2.2.1, (b2.2.2.1, b2.2.2.2))) ((nthD (Ty.pair (Ty.pair (Ty.int IntKind.i64) (Ty.pair (Ty.int IntKind.i64) (Ty.pair (Ty.int IntKind.i64) (Ty.pair (Ty.int IntKind.i64) (Ty.list (Ty.pair (Ty.int IntKind.i64) (Ty.pair (Ty.int IntKind.i64) (Ty.pair Ty.bool (Ty.arr 16 (Ty.int IntKind.u8)))))))))) (Ty.pair (Ty.int IntKind.i64) (Ty.arr 16 (Ty.int IntKind.u8)))) t21 t23).1.1, ((nthD (Ty.pair (Ty.pair (Ty.int IntKind.i64) (Ty.pair (Ty.int IntKind.i64) (Ty.pair (Ty.int IntKind.i64) (Ty.pair (Ty.int IntKind.i64) (Ty.list (Ty.pair (Ty.int IntKind.i64) (Ty.pair (Ty.int IntKind.i64) (Ty.pair Ty.bool (Ty.arr 16 (Ty.int IntKind.u8)))))))))) (Ty.pair (Ty.int IntKind.i64) (Ty.arr 16 (Ty.int IntKind.u8)))) t21 t23).1.2.1, ((nthD (Ty.pair (Ty.pair (Ty.int IntKind.i64) (Ty.pair (Ty.int IntKind.i64) (Ty.pair (Ty.int IntKind.i64) (Ty.pair (Ty.int IntKind.i64) (Ty.list (Ty.pair (Ty.int IntKind.i64) (Ty.pair (Ty.int IntKind.i64) (Ty.pair Ty.bool (Ty.arr 16 (Ty.int IntKind.u8)))))))))) (Ty.pair (Ty.int IntKind.i64) (Ty.arr 16 (Ty.int IntKind.u8)))) t21 t23).1.2.2.1, ((nthD (Ty.pair (Ty.pair (Ty.int IntKind.i64) (Ty.pair (Ty.int IntKind.i64) (Ty.pair (Ty.int IntKind.i64) (Ty.pair (Ty.int IntKind.i64) (Ty.list (Ty.pair (Ty.int IntKind.i64) (Ty.pair (Ty.int IntKind.i64) (Ty.pair Ty.bool (Ty.arr 16 (Ty.int IntKind.u8)))))))))) (Ty.pair (Ty.int IntKind.i64) (Ty.arr 16 (Ty.int IntKind.u8)))) t21 t23).1.2.2.2.1, (nthD (Ty.pair (Ty.pair (Ty.int IntKind.i64) (Ty.pair (Ty.int IntKind.i64) (Ty.pair (Ty.int IntKind.i64) (Ty.pair (Ty.int IntKind.i64) (Ty.list (Ty.pair (Ty.int IntKind.i64) (Ty.pair (Ty.int IntKind.i64) (Ty.pair Ty.bool (Ty.arr 16 (Ty.int IntKind.u8)))))))))) (Ty.pair (Ty.int IntKind.i64) (Ty.arr 16 (Ty.int IntKind.u8)))) t21 t23).1.2.2.2.2)))) (nthD (Ty.pair (Ty.pair (Ty.int IntKind.i64) (Ty.pair (Ty.int IntKind.i64) (Ty.pair (Ty.int IntKind.i64) (Ty.pair (Ty.int IntKind.i64) (Ty.list (Ty.pair (Ty.int IntKind.i64) (Ty.pair (Ty.int IntKind.i64) (Ty.pair Ty.bool (Ty.arr 16 (Ty.int IntKind.u8)))))))))) (Ty.pair (Ty.int IntKind.i64) (Ty.arr 16 (Ty.int IntKind.u8)))) t21 t23).2.1).bind fun y1 => (if ((!(eqI y1.2 (0 : Int))) = true) then (some (t23, y1.2)) else (if ((mhas b20 (nthD (Ty.pair (Ty.pair (Ty.int IntKind.i64) (Ty.pair (Ty.int IntKind.i64) (Ty.pair (Ty.int IntKind.i64) (Ty.pair (Ty.int IntKind.i64) (Ty.list (Ty.pair (Ty.int IntKind.i64) (Ty.pair (Ty.int IntKind.i64) (Ty.pair Ty.bool (Ty.arr 16 (Ty.int IntKind.u8)))))))))) (Ty.pair (Ty.int IntKind.i64) (Ty.arr 16 (Ty.int IntKind.u8)))) t21 t23).1.1) = true) then (if ((!(eqI (mgetD b20 (nthD (Ty.pair (Ty.pair (Ty.int IntKind.i64) (Ty.pair (Ty.int IntKind.i64) (Ty.pair (Ty.int IntKind.i64) (Ty.pair (Ty.int IntKind.i64) (Ty.list (Ty.pair (Ty.int IntKind.i64) (Ty.pair (Ty.int IntKind.i64) (Ty.pair Ty.bool (Ty.arr 16 (Ty.int IntKind.u8)))))))))) (Ty.pair (Ty.int IntKind.i64) (Ty.arr 16 (Ty.int IntKind.u8)))) t21 t23).1.1) (nthD (Ty.pair (Ty.pair (Ty.int IntKind.i64) (Ty.pair (Ty.int IntKind.i64) (Ty.pair (Ty.int IntKind.i64) (Ty.pair (Ty.int IntKind.i64) (Ty.list (Ty.pair (Ty.int IntKind.i64) (Ty.pair (Ty.int IntKind.i64) (Ty.pair Ty.bool (Ty.arr 16 (Ty.int IntKind.u8)))))))))) (Ty.pair (Ty.int IntKind.i64) (Ty.arr 16 (Ty.int IntKind.u8)))) t21 t23).1.2.1)) = true) then (some (t23, (4 : Int))) else (kn t1 t21 t22 (IntKind.wrap IntKind.i64 (t23 + (1 : Int))) (b2.1, (b2.2.1, (b2.2.2.1, b2.2.2.2))) (nthD (Ty.pair (Ty.pair (Ty.int IntKind.i64) (Ty.pair (Ty.int IntKind.i64) (Ty.pair (Ty.int IntKind.i64) (Ty.pair (Ty.int IntKind.i64) (Ty.list (Ty.pair (Ty.int IntKind.i64) (Ty.pair (Ty.int IntKind.i64) (Ty.pair Ty.bool (Ty.arr 16 (Ty.int IntKind.u8)))))))))) (Ty.pair (Ty.int IntKind.i64) (Ty.arr 16 (Ty.int IntKind.u8)))) t21 t23).2.2 (mput b20 (nthD (Ty.pair (Ty.pair (Ty.int IntKind.i64) (Ty.pair (Ty.int IntKind.i64) (Ty.pair (Ty.int IntKind.i64) (Ty.pair (Ty.int IntKind.i64) (Ty.list (Ty.pair (Ty.int IntKind.i64) (Ty.pair (Ty.int IntKind.i64) (Ty.pair Ty.bool (Ty.arr 16 (Ty.int IntKind.u8)))))))))) (Ty.pair (Ty.int IntKind.i64) (Ty.arr 16 (Ty.int IntKind.u8)))) t21 t23).1.1 (nthD (Ty.pair (Ty.pair (Ty.int IntKind.i64) (Ty.pair (Ty.int IntKind.i64) (Ty.pair (Ty.int IntKind.i64) (Ty.pair (Ty.int IntKind.i64) (Ty.list (Ty.pair (Ty.int IntKind.i64) (Ty.pair (Ty.int IntKind.i64) (Ty.pair Ty.bool (Ty.arr 16 (Ty.int IntKind.u8)))))))))) (Ty.pair (Ty.int IntKind.i64) (Ty.arr 16 (Ty.int IntKind.u8)))) t21 t23).1.2.2.1))) else (kn t1 t21 t22 (IntKind.wrap IntKind.i64 (t23 + (1 : Int))) (b2.1, (b2.2.1, (b2.2.2.1, b2.2.2.2))) (nthD (Ty.pair (Ty.pair (Ty.int IntKind.i64) (Ty.pair (Ty.int IntKind.i64) (Ty.pair (Ty.int IntKind.i64) (Ty.pair (Ty.int IntKind.i64) (Ty.list (Ty.pair (Ty.int IntKind.i64) (Ty.pair (Ty.int IntKind.i64) (Ty.pair Ty.bool (Ty.arr 16 (Ty.int IntKind.u8)))))))))) (Ty.pair (Ty.int IntKind.i64) (Ty.arr 16 (Ty.int IntKind.u8)))) t21 t23).2.2 (mput b20 (nthD (Ty.pair (Ty.pair (Ty.int IntKind.i64) (Ty.pair (Ty.int IntKind.i64) (Ty.pair (Ty.int IntKind.i64) (Ty.pair (Ty.int IntKind.i64) (Ty.list (Ty.pair (Ty.int IntKind.i64) (Ty.pair (Ty.int IntKind.i64) (Ty.pair Ty.bool (Ty.arr 16 (Ty.int IntKind.u8)))))))))) (Ty.pair (Ty.int IntKind.i64) (Ty.arr 16 (Ty.int IntKind.u8)))) t21 t23).1.1 (nthD (Ty.pair (Ty.pair (Ty.int IntKind.i64) (Ty.pair (Ty.int IntKind.i64) (Ty.pair (Ty.int IntKind.i64) (Ty.pair (Ty.int IntKind.i64) (Ty.list (Ty.pair (Ty.int IntKind.i64) (Ty.pair (Ty.int IntKind.i64) (Ty.pair Ty.bool (Ty.arr 16 (Ty.int IntKind.u8)))))))))) (Ty.pair (Ty.int IntKind.i64) (Ty.arr 16 (Ty.int IntKind.u8)))) t21 t23).1.2.2.1))))))) else none) else (kx t1))
def F28l0 (K : Nat) : Nat → (List ((Int × (Int × (Int × (Int × (List (Int × (Int × (Bool × (List Int))))))))) × (Int × (List Int)))) → (List ((Int × (Int × (Int × (Int × (List (Int × (Int × (Bool × (List Int))))))))) × (Int × (List Int)))) → Int → Int → ((List Int) × ((List ByteArray) × (Int × Int))) → (List Int) → (List (Int × Int)) → ((List ((Int × (Int × (Int × (Int × (List (Int × (Int × (Bool × (List Int))))))))) × (Int × (List Int)))) → Option (Int × Int)) → Option (Int × Int)
  | 0, _, _, _, _, _, _, _, _ => none
  | k + 1, t1, t21, t22, t23, b2, b7, b20, kx => B28l0 K t1 t21 t22 t23 b2 b7 b20 (fun t1 t21 t22 t23 b2 b7 b20 => F28l0 K k t1 t21 t22 t23 b2 b7 b20 kx) kx
noncomputable def S28l0 (K : Nat) := loopStep (E28 K) A28 (lpK (RDen R28) K) (codeAt [1, 1, 1, 1, 0, 1, 2, 2] (cd Tryd.f28)) 0 T28l0 (fun s => resOut (E28 K) s R28 Tryd.f28.results.toList)
noncomputable def L28l0 (K : Nat) (t1 : (List ((Int × (Int × (Int × (Int × (List (Int × (Int × (Bool × (List Int))))))))) × (Int × (List Int))))) (t21 : (List ((Int × (Int × (Int × (Int × (List (Int × (Int × (Bool × (List Int))))))))) × (Int × (List Int))))) (t22 : Int) (t23 : Int) (b2 : ((List Int) × ((List ByteArray) × (Int × Int)))) (b7 : (List Int)) (b20 : (List (Int × Int))) (kx : ((List ((Int × (Int × (Int × (Int × (List (Int × (Int × (Bool × (List Int))))))))) × (Int × (List Int)))) → Option (Int × Int))) : Option (Int × Int) := evLoop (S28l0 K) (fun y => kx y.1.1) K ((t1, (t21, (t22, (t23, ())))), (b2, (b7, (b20, ()))))
theorem S28l0_eq (K : Nat) (t1 : (List ((Int × (Int × (Int × (Int × (List (Int × (Int × (Bool × (List Int))))))))) × (Int × (List Int))))) (t21 : (List ((Int × (Int × (Int × (Int × (List (Int × (Int × (Bool × (List Int))))))))) × (Int × (List Int))))) (t22 : Int) (t23 : Int) (b2 : ((List Int) × ((List ByteArray) × (Int × Int)))) (b7 : (List Int)) (b20 : (List (Int × Int))) (kn : _ → Option (Int × Int)) (kx : _ → Option (Int × Int)) : S28l0 K ((t1, (t21, (t22, (t23, ())))), (b2, (b7, (b20, ())))) kn kx = B28l0 K t1 t21 t22 t23 b2 b7 b20 (fun t1 t21 t22 t23 b2 b7 b20 => kn ((t1, (t21, (t22, (t23, ())))), (b2, (b7, (b20, ()))))) (fun y0 => kx ((y0, ()), ())) := by
  unfold B28l0; kernel_rfl
theorem F28l0_go (K : Nat) (kx : ((List ((Int × (Int × (Int × (Int × (List (Int × (Int × (Bool × (List Int))))))))) × (Int × (List Int)))) → Option (Int × Int))) : ∀ (n : Nat) (t1 : (List ((Int × (Int × (Int × (Int × (List (Int × (Int × (Bool × (List Int))))))))) × (Int × (List Int))))) (t21 : (List ((Int × (Int × (Int × (Int × (List (Int × (Int × (Bool × (List Int))))))))) × (Int × (List Int))))) (t22 : Int) (t23 : Int) (b2 : ((List Int) × ((List ByteArray) × (Int × Int)))) (b7 : (List Int)) (b20 : (List (Int × Int))), evLoop (S28l0 K) (fun y => kx y.1.1) n ((t1, (t21, (t22, (t23, ())))), (b2, (b7, (b20, ())))) = F28l0 K n t1 t21 t22 t23 b2 b7 b20 kx := by
  intro n
  induction n with
  | zero => intros; rfl
  | succ n ih =>
    intros t1 t21 t22 t23 b2 b7 b20
    refine (S28l0_eq K t1 t21 t22 t23 b2 b7 b20 _ _).trans ?_
    have e : (fun t1 t21 t22 t23 b2 b7 b20 => evLoop (S28l0 K) (fun y => kx y.1.1) n ((t1, (t21, (t22, (t23, ())))), (b2, (b7, (b20, ()))))) = fun t1 t21 t22 t23 b2 b7 b20 => F28l0 K n t1 t21 t22 t23 b2 b7 b20 kx := by
      funext t1 t21 t22 t23 b2 b7 b20; exact ih t1 t21 t22 t23 b2 b7 b20
    rw [e]; rfl
theorem F28l0_eq (K : Nat) : F28l0 K K = L28l0 K := by
  funext t1 t21 t22 t23 b2 b7 b20 kx; exact (F28l0_go K kx K t1 t21 t22 t23 b2 b7 b20).symm
def F28 (K : Nat) (x0 : ((List Int) × ((List ByteArray) × (Int × Int)))) (x1 : (List ((Int × (Int × (Int × (Int × (List (Int × (Int × (Bool × (List Int))))))))) × (Int × (List Int))))) : Option (Int × Int) := ((F19 K (x0.1, (x0.2.1, (x0.2.2.1, x0.2.2.2)))).bind fun y0 => (if ((!(eqI y0 (0 : Int))) = true) then (some ((0 : Int), y0)) else (F28l0 K K x1 x1 (((List.length x1) : Nat) : Int) (0 : Int) (x0.1, (x0.2.1, (x0.2.2.1, x0.2.2.2))) (List.replicate 16 (0 : Int)) [] (fun y1 => (some ((((List.length y1) : Nat) : Int), (0 : Int)))))))
theorem F28_eq (K : Nat) (x0 : ((List Int) × ((List ByteArray) × (Int × Int)))) (x1 : (List ((Int × (Int × (Int × (Int × (List (Int × (Int × (Bool × (List Int))))))))) × (Int × (List Int))))) : evFn (E28 K) A28 P28 R28 (lpK (RDen R28) K) 80 Tryd.f28.results.toList (cd Tryd.f28) (x0, (x1, ())) = F28 K x0 x1 := by
  unfold F28; rw [F28l0_eq K]; kernel_rfl
/- quietus/extend.Seal -/
def A12 : List (Nat × LoopAnn) := []
noncomputable def E12 (K : Nat) : Env := mkEnv tyTab nfTab mpTab G12 [(19, ⟨P19, R19, fun x => F19 K x.1⟩), (34, ⟨P34, R34, fun x => F34 K x.1 x.2.1⟩), (35, ⟨P35, R35, fun x => F35 K x.1 x.2.1 x.2.2.1⟩)]
def F12 (K : Nat) (x0 : ((List Int) × ((List ByteArray) × (Int × Int)))) (x1 : (Int × (Int × (Int × (Int × (List (Int × (Int × (Bool × (List Int)))))))))) (x2 : Int) (x3 : Int) (x4 : Bool) : Option ((List Int) × Int) := ((F19 K (x0.1, (x0.2.1, (x0.2.2.1, x0.2.2.2)))).bind fun y0 => (if ((!(eqI y0 (0 : Int))) = true) then (some ((List.replicate 16 (0 : Int)), y0)) else ((F34 K x0.1 x2).bind fun y1 => (if ((!y1) = true) then (some ((List.replicate 16 (0 : Int)), (19 : Int))) else ((F35 K (x0.1, (x0.2.1, (x0.2.2.1, x0.2.2.2))) (x1.1, (x1.2.1, (x1.2.2.1, (x1.2.2.2.1, x1.2.2.2.2)))) (x2, (x3, (x4, (List.replicate 16 (0 : Int)))))).bind fun y2 => (some (y2, (0 : Int))))))))
theorem F12_eq (K : Nat) (x0 : ((List Int) × ((List ByteArray) × (Int × Int)))) (x1 : (Int × (Int × (Int × (Int × (List (Int × (Int × (Bool × (List Int)))))))))) (x2 : Int) (x3 : Int) (x4 : Bool) : evFn (E12 K) A12 P12 R12 (lpK (RDen R12) K) 32 Tryd.f12.results.toList (cd Tryd.f12) (x0, (x1, (x2, (x3, (x4, ()))))) = F12 K x0 x1 x2 x3 x4 := by
  unfold F12; kernel_rfl
/- quietus/quietuslaw30.ballot -/
def A30 : List (Nat × LoopAnn) := []
noncomputable def E30 (K : Nat) : Env := mkEnv tyTab nfTab mpTab G30 [(12, ⟨P12, R12, fun x => F12 K x.1 x.2.1 x.2.2.1 x.2.2.2.1 x.2.2.2.2.1⟩)]
def F30 (K : Nat) (x0 : ((List Int) × ((List ByteArray) × (Int × Int)))) (x1 : (Int × (Int × (Int × (Int × (List (Int × (Int × (Bool × (List Int)))))))))) (x2 : Int) (x3 : Int) (x4 : Bool) : Option ((Int × (Int × (Bool × (List Int))))) := ((F12 K (x0.1, (x0.2.1, (x0.2.2.1, x0.2.2.2))) (x1.1, (x1.2.1, (x1.2.2.1, (x1.2.2.2.1, x1.2.2.2.2)))) x2 x3 x4).bind fun y0 => (some (x2, (x3, (x4, y0.1)))))
theorem F30_eq (K : Nat) (x0 : ((List Int) × ((List ByteArray) × (Int × Int)))) (x1 : (Int × (Int × (Int × (Int × (List (Int × (Int × (Bool × (List Int)))))))))) (x2 : Int) (x3 : Int) (x4 : Bool) : evFn (E30 K) A30 P30 R30 (lpK (RDen R30) K) 27 Tryd.f30.results.toList (cd Tryd.f30) (x0, (x1, (x2, (x3, (x4, ()))))) = F30 K x0 x1 x2 x3 x4 := by
  unfold F30; kernel_rfl
/- quietus/quietuslaw30.example -/
def A32 : List (Nat × LoopAnn) := []
noncomputable def E32 (K : Nat) : Env := mkEnv tyTab nfTab mpTab G32 []
def F32 (K : Nat) : Option (((List Int) × ((List ByteArray) × (Int × Int)))) := (some (((0 : Int) :: (2 : Int) :: (5 : Int) :: (List.replicate 0 (0 : Int))), (((ByteArray.mk (Array.mk [(97 : UInt8)])) :: (ByteArray.mk (Array.mk [(98 : UInt8)])) :: (ByteArray.mk (Array.mk [(99 : UInt8)])) :: (List.replicate 0 ByteArray.empty)), ((2 : Int), (100 : Int)))))
theorem F32_eq (K : Nat) : evFn (E32 K) A32 P32 R32 (lpK (RDen R32) K) 4 Tryd.f32.results.toList (cd Tryd.f32) () = F32 K := by
  unfold F32; kernel_rfl
/- quietus/quietuslaw30.sanity -/
def A9 : List (Nat × LoopAnn) := []
noncomputable def E9 (K : Nat) : Env := mkEnv tyTab nfTab mpTab G9 [(32, ⟨P32, R32, fun x => F32 K⟩), (10, ⟨P10, R10, fun x => F10 K x.1 x.2.1 x.2.2.1 x.2.2.2.1 x.2.2.2.2.1⟩), (30, ⟨P30, R30, fun x => F30 K x.1 x.2.1 x.2.2.1 x.2.2.2.1 x.2.2.2.2.1⟩), (14, ⟨P14, R14, fun x => F14 K x.1 x.2.1 x.2.2.1⟩), (16, ⟨P16, R16, fun x => F16 K x.1 x.2.1 x.2.2.1⟩), (18, ⟨P18, R18, fun x => F18 K x.1⟩), (25, ⟨P25, R25, fun x => F25 K x.1 x.2.1 x.2.2.1⟩), (28, ⟨P28, R28, fun x => F28 K x.1 x.2.1⟩), (21, ⟨P21, R21, fun x => F21 K x.1 x.2.1⟩)]
def F9 (K : Nat) : Option (Bool) := ((F32 K).bind fun y0 => ((F10 K (y0.1, (y0.2.1, (y0.2.2.1, y0.2.2.2))) (7 : Int) (50 : Int) (150 : Int) (40 : Int)).bind fun y1 => ((F10 K (y0.1, (y0.2.1, (y0.2.2.1, y0.2.2.2))) (7 : Int) (50 : Int) (151 : Int) (40 : Int)).bind fun y2 => ((F10 K (y0.1, (y0.2.1, (y0.2.2.1, y0.2.2.2))) (7 : Int) (50 : Int) (150 : Int) (51 : Int)).bind fun y3 => ((F30 K (y0.1, (y0.2.1, (y0.2.2.1, y0.2.2.2))) (y1.1.1, (y1.1.2.1, (y1.1.2.2.1, (y1.1.2.2.2.1, y1.1.2.2.2.2)))) (0 : Int) (41 : Int) true).bind fun y4 => ((F14 K (y0.1, (y0.2.1, (y0.2.2.1, y0.2.2.2))) (y1.1.1, (y1.1.2.1, (y1.1.2.2.1, (y1.1.2.2.2.1, y1.1.2.2.2.2)))) (y4.1, (y4.2.1, (y4.2.2.1, y4.2.2.2)))).bind fun y5 => ((F30 K (y0.1, (y0.2.1, (y0.2.2.1, y0.2.2.2))) (y1.1.1, (y1.1.2.1, (y1.1.2.2.1, (y1.1.2.2.2.1, y1.1.2.2.2.2)))) (0 : Int) (41 : Int) true).bind fun y6 => ((F14 K (y0.1, (y0.2.1, (y0.2.2.1, y0.2.2.2))) (y5.1.1, (y5.1.2.1, (y5.1.2.2.1, (y5.1.2.2.2.1, y5.1.2.2.2.2)))) (y6.1, (y6.2.1, (y6.2.2.1, y6.2.2.2)))).bind fun y7 => ((F30 K (y0.1, (y0.2.1, (y0.2.2.1, y0.2.2.2))) (y1.1.1, (y1.1.2.1, (y1.1.2.2.1, (y1.1.2.2.2.1, y1.1.2.2.2.2)))) (1 : Int) (42 : Int) true).bind fun y8 => ((F14 K (y0.1, (y0.2.1, (y0.2.2.1, y0.2.2.2))) (y5.1.1, (y5.1.2.1, (y5.1.2.2.1, (y5.1.2.2.2.1, y5.1.2.2.2.2)))) (y8.1, (y8.2.1, (y8.2.2.1, y8.2.2.2)))).bind fun y9 => ((F30 K (y0.1, (y0.2.1, (y0.2.2.1, y0.2.2.2))) (y1.1.1, (y1.1.2.1, (y1.1.2.2.1, (y1.1.2.2.2.1, y1.1.2.2.2.2)))) (2 : Int) (40 : Int) true).bind fun y10 => ((F14 K (y0.1, (y0.2.1, (y0.2.2.1, y0.2.2.2))) (y5.1.1, (y5.1.2.1, (y5.1.2.2.1, (y5.1.2.2.2.1, y5.1.2.2.2.2)))) (y10.1, (y10.2.1, (y10.2.2.1, y10.2.2.2)))).bind fun y11 => ((F30 K (y0.1, (y0.2.1, (y0.2.2.1, y0.2.2.2))) (y1.1.1, (y1.1.2.1, (y1.1.2.2.1, (y1.1.2.2.2.1, y1.1.2.2.2.2)))) (2 : Int) (51 : Int) true).bind fun y12 => ((F14 K (y0.1, (y0.2.1, (y0.2.2.1, y0.2.2.2))) (y5.1.1, (y5.1.2.1, (y5.1.2.2.1, (y5.1.2.2.2.1, y5.1.2.2.2.2)))) (y12.1, (y12.2.1, (y12.2.2.1, y12.2.2.2)))).bind fun y13 => ((F30 K (y0.1, (y0.2.1, (y0.2.2.1, y0.2.2.2))) (y1.1.1, (y1.1.2.1, (y1.1.2.2.1, (y1.1.2.2.2.1, y1.1.2.2.2.2)))) (2 : Int) (44 : Int) Bool.false).bind fun y14 => ((F14 K (y0.1, (y0.2.1, (y0.2.2.1, y0.2.2.2))) (y5.1.1, (y5.1.2.1, (y5.1.2.2.1, (y5.1.2.2.2.1, y5.1.2.2.2.2)))) (y14.1, (y14.2.1, (true, y14.2.2.2)))).bind fun y15 => ((F16 K (y0.1, (y0.2.1, (y0.2.2.1, y0.2.2.2))) (y5.1.1, (y5.1.2.1, (y5.1.2.2.1, (y5.1.2.2.2.1, y5.1.2.2.2.2)))) (45 : Int)).bind fun y16 => ((F30 K (y0.1, (y0.2.1, (y0.2.2.1, y0.2.2.2))) (y1.1.1, (y1.1.2.1, (y1.1.2.2.1, (y1.1.2.2.2.1, y1.1.2.2.2.2)))) (5 : Int) (44 : Int) true).bind fun y17 => ((F14 K (y0.1, (y0.2.1, (y0.2.2.1, y0.2.2.2))) (y5.1.1, (y5.1.2.1, (y5.1.2.2.1, (y5.1.2.2.2.1, y5.1.2.2.2.2)))) (y17.1, (y17.2.1, (y17.2.2.1, y17.2.2.2)))).bind fun y18 => ((F16 K (y0.1, (y0.2.1, (y0.2.2.1, y0.2.2.2))) (y18.1.1, (y18.1.2.1, (y18.1.2.2.1, (y18.1.2.2.2.1, y18.1.2.2.2.2)))) (43 : Int)).bind fun y19 => ((F16 K (y0.1, (y0.2.1, (y0.2.2.1, y0.2.2.2))) (y18.1.1, (y18.1.2.1, (y18.1.2.2.1, (y18.1.2.2.2.1, y18.1.2.2.2.2)))) (45 : Int)).bind fun y20 => ((F16 K (y0.1, (y0.2.1, (y0.2.2.1, y0.2.2.2))) (y18.1.1, (y18.1.2.1, (y18.1.2.2.1, (y18.1.2.2.2.1, y18.1.2.2.2.2)))) (51 : Int)).bind fun y21 => (if ((!(eqI y1.2 (0 : Int))) = true) then (some Bool.false) else (if ((!(eqI y2.2 (3 : Int))) = true) then (some Bool.false) else (if ((!(eqI y3.2 (18 : Int))) = true) then (some Bool.false) else (if ((!(eqI y5.2 (0 : Int))) = true) then (some Bool.false) else (if ((!(eqI y7.2 (9 : Int))) = true) then (some Bool.false) else (if ((!(eqI y9.2 (19 : Int))) = true) then (some Bool.false) else (if ((!(eqI y11.2 (15 : Int))) = true) then (some Bool.false) else (if ((!(eqI y13.2 (18 : Int))) = true) then (some Bool.false) else (if ((!(eqI y15.2 (16 : Int))) = true) then (some Bool.false) else (if ((!(eqI y16.2 (29 : Int))) = true) then (some Bool.false) else (if ((!(eqI y18.2 (0 : Int))) = true) then (some Bool.false) else (if ((!(eqI y19.2 (15 : Int))) = true) then (some Bool.false) else (if ((!(eqI y20.2 (0 : Int))) = true) then (some Bool.false) else (if ((!(eqI y21.2 (18 : Int))) = true) then (some Bool.false) else ((F18 K (y18.1.1, (y18.1.2.1, (y18.1.2.2.1, (y18.1.2.2.2.1, y18.1.2.2.2.2))))).bind fun y22 => ((F25 K (List.replicate 16 (0 : Int)) (y18.1.1, (y18.1.2.1, (y18.1.2.2.1, (y18.1.2.2.2.1, y18.1.2.2.2.2)))) (45 : Int)).bind fun y23 => ((F28 K (y0.1, (y0.2.1, (y0.2.2.1, y0.2.2.2))) (((y18.1.1, (y18.1.2.1, (y18.1.2.2.1, (y18.1.2.2.2.1, y18.1.2.2.2.2)))), ((45 : Int), y23)) :: (List.replicate 0 (((0 : Int), ((0 : Int), ((0 : Int), ((0 : Int), [])))), ((0 : Int), (List.replicate 16 (0 : Int))))))).bind fun y24 => ((F28 K (y0.1, (y0.2.1, (y0.2.2.1, y0.2.2.2))) (((y18.1.1, (y18.1.2.1, (y18.1.2.2.1, (y18.1.2.2.2.1, y18.1.2.2.2.2)))), ((46 : Int), y23)) :: (List.replicate 0 (((0 : Int), ((0 : Int), ((0 : Int), ((0 : Int), [])))), ((0 : Int), (List.replicate 16 (0 : Int))))))).bind fun y25 => (if ((eqI y20.1 (150 : Int)) = true) then (if ((eqI y22.1 (2 : Int)) = true) then (if ((eqI y22.2 (0 : Int)) = true) then ((F21 K (y0.1, (y0.2.1, (y0.2.2.1, y0.2.2.2))) (y18.1.1, (y18.1.2.1, (y18.1.2.2.1, (y18.1.2.2.2.1, y18.1.2.2.2.2))))).bind fun y26 => (if (y26 = true) then (if ((eqI y24.1 (1 : Int)) = true) then (if ((eqI y24.2 (0 : Int)) = true) then (if ((eqI y25.1 (0 : Int)) = true) then (some (eqI y25.2 (23 : Int))) else (some Bool.false)) else (some Bool.false)) else (some Bool.false)) else (some Bool.false))) else (some Bool.false)) else (some Bool.false)) else (some Bool.false))))))))))))))))))))))))))))))))))))))))))
theorem F9_eq (K : Nat) : evFn (E9 K) A9 P9 R9 (lpK (RDen R9) K) 255 Tryd.f9.results.toList (cd Tryd.f9) () = F9 K := by
  unfold F9; kernel_rfl
/- quietus/quietusref30.Check -/
def T20l0 : LoopAnn := ⟨tm 104 [(1, (.ptr 1)), (1, (.data (.int .i64))), (0, (.data (.int .i64)))] [(1, (.pair (.list (.int .i64)) (.pair (.list .str) (.pair (.int .i64) (.int .i64)))))], tm 104 [] []⟩
def A20 : List (Nat × LoopAnn) := [(0, T20l0)]
noncomputable def E20 (K : Nat) : Env := mkEnv tyTab nfTab mpTab G20 []
def B20l0 (K : Nat) (t3 : Int) (t4 : Int) (b1 : ((List Int) × ((List ByteArray) × (Int × Int)))) (kn : (Int → Int → ((List Int) × ((List ByteArray) × (Int × Int))) → Option (Int))) (kx : Option (Int)) : Option (Int) := (if ((ltI t4 t3) = true) then (if ((inR t4 (((List.length b1.1) : Nat) : Int)) = true) then (if ((ltI (nthD (Ty.int IntKind.i64) b1.1 t4) (0 : Int)) = true) then (some (1 : Int)) else (if ((inR t4 (((List.length b1.1) : Nat) : Int)) = true) then (if ((ltI (11 : Int) (nthD (Ty.int IntKind.i64) b1.1 t4)) = true) then (some (1 : Int)) else (if ((ltI (0 : Int) t4) = true) then (if ((inR t4 (((List.length b1.1) : Nat) : Int)) = true) then (if ((inR (IntKind.wrap IntKind.i64 (t4 - (1 : Int))) (((List.length b1.1) : Nat) : Int)) = true) then (if ((leI (nthD (Ty.int IntKind.i64) b1.1 t4) (nthD (Ty.int IntKind.i64) b1.1 (IntKind.wrap IntKind.i64 (t4 - (1 : Int))))) = true) then (some (1 : Int)) else (if ((inR t4 (((List.length b1.2.1) : Nat) : Int)) = true) then (if ((ltI (((ByteArray.size (nthD Ty.str b1.2.1 t4)) : Nat) : Int) (1 : Int)) = true) then (some (1 : Int)) else (if ((inR t4 (((List.length b1.2.1) : Nat) : Int)) = true) then (if ((ltI (64 : Int) (((ByteArray.size (nthD Ty.str b1.2.1 t4)) : Nat) : Int)) = true) then (some (1 : Int)) else (kn t3 (IntKind.wrap IntKind.i64 (t4 + (1 : Int))) (b1.1, (b1.2.1, (b1.2.2.1, b1.2.2.2))))) else none)) else none)) else none) else none) else (if ((inR t4 (((List.length b1.2.1) : Nat) : Int)) = true) then (if ((ltI (((ByteArray.size (nthD Ty.str b1.2.1 t4)) : Nat) : Int) (1 : Int)) = true) then (some (1 : Int)) else (if ((inR t4 (((List.length b1.2.1) : Nat) : Int)) = true) then (if ((ltI (64 : Int) (((ByteArray.size (nthD Ty.str b1.2.1 t4)) : Nat) : Int)) = true) then (some (1 : Int)) else (kn t3 (IntKind.wrap IntKind.i64 (t4 + (1 : Int))) (b1.1, (b1.2.1, (b1.2.2.1, b1.2.2.2))))) else none)) else none))) else none)) else none) else kx)
def F20l0 (K : Nat) : Nat → Int → Int → ((List Int) × ((List ByteArray) × (Int × Int))) → Option (Int) → Option (Int)
  | 0, _, _, _, _ => none
  | k + 1, t3, t4, b1, kx => B20l0 K t3 t4 b1 (fun t3 t4 b1 => F20l0 K k t3 t4 b1 kx) kx
noncomputable def S20l0 (K : Nat) := loopStep (E20 K) A20 (lpK (RDen R20) K) (codeAt [1, 1, 1, 0, 1, 2, 2] (cd Tryd.f20)) 0 T20l0 (fun s => resOut (E20 K) s R20 Tryd.f20.results.toList)
noncomputable def L20l0 (K : Nat) (t3 : Int) (t4 : Int) (b1 : ((List Int) × ((List ByteArray) × (Int × Int)))) (kx : Option (Int)) : Option (Int) := evLoop (S20l0 K) (fun _ => kx) K ((t3, (t4, ())), (b1, ()))
theorem S20l0_eq (K : Nat) (t3 : Int) (t4 : Int) (b1 : ((List Int) × ((List ByteArray) × (Int × Int)))) (kn : _ → Option (Int)) (kx : _ → Option (Int)) : S20l0 K ((t3, (t4, ())), (b1, ())) kn kx = B20l0 K t3 t4 b1 (fun t3 t4 b1 => kn ((t3, (t4, ())), (b1, ()))) (kx ((), ())) := by
  unfold B20l0; kernel_rfl
theorem F20l0_go (K : Nat) (kx : Option (Int)) : ∀ (n : Nat) (t3 : Int) (t4 : Int) (b1 : ((List Int) × ((List ByteArray) × (Int × Int)))), evLoop (S20l0 K) (fun _ => kx) n ((t3, (t4, ())), (b1, ())) = F20l0 K n t3 t4 b1 kx := by
  intro n
  induction n with
  | zero => intros; rfl
  | succ n ih =>
    intros t3 t4 b1
    refine (S20l0_eq K t3 t4 b1 _ _).trans ?_
    have e : (fun t3 t4 b1 => evLoop (S20l0 K) (fun _ => kx) n ((t3, (t4, ())), (b1, ()))) = fun t3 t4 b1 => F20l0 K n t3 t4 b1 kx := by
      funext t3 t4 b1; exact ih t3 t4 b1
    rw [e]; rfl
theorem F20l0_eq (K : Nat) : F20l0 K K = L20l0 K := by
  funext t3 t4 b1 kx; exact (F20l0_go K kx K t3 t4 b1).symm
def F20 (K : Nat) (x0 : ((List Int) × ((List ByteArray) × (Int × Int)))) : Option (Int) := (if ((ltI (((List.length x0.1) : Nat) : Int) (1 : Int)) = true) then (some (1 : Int)) else (if ((ltI (12 : Int) (((List.length x0.1) : Nat) : Int)) = true) then (some (1 : Int)) else (if ((!(eqI (((List.length x0.2.1) : Nat) : Int) (((List.length x0.1) : Nat) : Int))) = true) then (some (1 : Int)) else (if ((ltI x0.2.2.1 (1 : Int)) = true) then (some (1 : Int)) else (if ((ltI (((List.length x0.1) : Nat) : Int) x0.2.2.1) = true) then (some (1 : Int)) else (if ((leI (IntKind.wrap IntKind.i64 ((2 : Int) * x0.2.2.1)) (((List.length x0.1) : Nat) : Int)) = true) then (some (1 : Int)) else (if ((ltI x0.2.2.2 (1 : Int)) = true) then (some (1 : Int)) else (if ((ltI (1000000 : Int) x0.2.2.2) = true) then (some (1 : Int)) else (F20l0 K K (((List.length x0.1) : Nat) : Int) (0 : Int) (x0.1, (x0.2.1, (x0.2.2.1, x0.2.2.2))) (some (0 : Int)))))))))))
theorem F20_eq (K : Nat) (x0 : ((List Int) × ((List ByteArray) × (Int × Int)))) : evFn (E20 K) A20 P20 R20 (lpK (RDen R20) K) 104 Tryd.f20.results.toList (cd Tryd.f20) (x0, ()) = F20 K x0 := by
  unfold F20; rw [F20l0_eq K]; kernel_rfl
/- quietus/quietusref30.Seat -/
def T31l0 : LoopAnn := ⟨tm 21 [(1, (.data (.int .i64))), (0, (.ptr 2)), (2, (.data (.int .i64)))] [(2, (.pair (.list (.int .i64)) (.pair (.list .str) (.pair (.int .i64) (.int .i64)))))], tm 21 [] []⟩
def A31 : List (Nat × LoopAnn) := [(0, T31l0)]
noncomputable def E31 (K : Nat) : Env := mkEnv tyTab nfTab mpTab G31 []
def B31l0 (K : Nat) (t1 : Int) (t5 : Int) (b2 : ((List Int) × ((List ByteArray) × (Int × Int)))) (kn : (Int → Int → ((List Int) × ((List ByteArray) × (Int × Int))) → Option (Int))) (kx : Option (Int)) : Option (Int) := (if ((ltI t5 (((List.length b2.1) : Nat) : Int)) = true) then (if ((inR t5 (((List.length b2.1) : Nat) : Int)) = true) then (if ((eqI (nthD (Ty.int IntKind.i64) b2.1 t5) t1) = true) then (some t5) else (kn t1 (IntKind.wrap IntKind.i64 (t5 + (1 : Int))) (b2.1, (b2.2.1, (b2.2.2.1, b2.2.2.2))))) else none) else kx)
def F31l0 (K : Nat) : Nat → Int → Int → ((List Int) × ((List ByteArray) × (Int × Int))) → Option (Int) → Option (Int)
  | 0, _, _, _, _ => none
  | k + 1, t1, t5, b2, kx => B31l0 K t1 t5 b2 (fun t1 t5 b2 => F31l0 K k t1 t5 b2 kx) kx
noncomputable def S31l0 (K : Nat) := loopStep (E31 K) A31 (lpK (RDen R31) K) (codeAt [1, 0, 1, 2, 2] (cd Tryd.f31)) 0 T31l0 (fun s => resOut (E31 K) s R31 Tryd.f31.results.toList)
noncomputable def L31l0 (K : Nat) (t1 : Int) (t5 : Int) (b2 : ((List Int) × ((List ByteArray) × (Int × Int)))) (kx : Option (Int)) : Option (Int) := evLoop (S31l0 K) (fun _ => kx) K ((t1, (t5, ())), (b2, ()))
theorem S31l0_eq (K : Nat) (t1 : Int) (t5 : Int) (b2 : ((List Int) × ((List ByteArray) × (Int × Int)))) (kn : _ → Option (Int)) (kx : _ → Option (Int)) : S31l0 K ((t1, (t5, ())), (b2, ())) kn kx = B31l0 K t1 t5 b2 (fun t1 t5 b2 => kn ((t1, (t5, ())), (b2, ()))) (kx ((), ())) := by
  unfold B31l0; kernel_rfl
theorem F31l0_go (K : Nat) (kx : Option (Int)) : ∀ (n : Nat) (t1 : Int) (t5 : Int) (b2 : ((List Int) × ((List ByteArray) × (Int × Int)))), evLoop (S31l0 K) (fun _ => kx) n ((t1, (t5, ())), (b2, ())) = F31l0 K n t1 t5 b2 kx := by
  intro n
  induction n with
  | zero => intros; rfl
  | succ n ih =>
    intros t1 t5 b2
    refine (S31l0_eq K t1 t5 b2 _ _).trans ?_
    have e : (fun t1 t5 b2 => evLoop (S31l0 K) (fun _ => kx) n ((t1, (t5, ())), (b2, ()))) = fun t1 t5 b2 => F31l0 K n t1 t5 b2 kx := by
      funext t1 t5 b2; exact ih t1 t5 b2
    rw [e]; rfl
theorem F31l0_eq (K : Nat) : F31l0 K K = L31l0 K := by
  funext t1 t5 b2 kx; exact (F31l0_go K kx K t1 t5 b2).symm
def F31 (K : Nat) (x0 : ((List Int) × ((List ByteArray) × (Int × Int)))) (x1 : Int) : Option (Int) := (F31l0 K K x1 (0 : Int) (x0.1, (x0.2.1, (x0.2.2.1, x0.2.2.2))) (some (-(1 : Int))))
theorem F31_eq (K : Nat) (x0 : ((List Int) × ((List ByteArray) × (Int × Int)))) (x1 : Int) : evFn (E31 K) A31 P31 R31 (lpK (RDen R31) K) 21 Tryd.f31.results.toList (cd Tryd.f31) (x0, (x1, ())) = F31 K x0 x1 := by
  unfold F31; rw [F31l0_eq K]; kernel_rfl
/- quietus/quietusref02.padded -/
def T72l2 : LoopAnn := ⟨tm 37 [(3, (.vec (.int .u8))), (0, (.data (.int .u64))), (0, (.data (.int .i64)))] [], tm 37 [(3, (.vec (.int .u8)))] []⟩
def T72l0 : LoopAnn := ⟨tm 37 [(0, (.data (.list (.int .u8)))), (2, (.vec (.int .u8)))] [], tm 37 [(0, (.data (.list (.int .u8)))), (2, (.vec (.int .u8)))] []⟩
def A72 : List (Nat × LoopAnn) := [(2, T72l2), (0, T72l0)]
noncomputable def E72 (K : Nat) : Env := mkEnv tyTab nfTab mpTab G72 []
def B72l2 (K : Nat) (t3 : (List Int)) (t4 : Int) (t5 : Int) (kn : ((List Int) → Int → Int → Option ((List Int)))) (kx : ((List Int) → Option ((List Int)))) : Option ((List Int)) := (if ((ltI t5 (8 : Int)) = true) then (if ((ltI (IntKind.wrap IntKind.i64 ((56 : Int) - (IntKind.wrap IntKind.i64 ((8 : Int) * t5)))) (0 : Int)) = true) then none else (if ((room ((List.length t3) + (List.length ((IntKind.wrap IntKind.u8 (shrI IntKind.u64 t4 (IntKind.wrap IntKind.i64 ((56 : Int) - (IntKind.wrap IntKind.i64 ((8 : Int) * t5)))))) :: (List.replicate 0 (0 : Int)))))) = true) then (kn (t3 ++ ((IntKind.wrap IntKind.u8 (shrI IntKind.u64 t4 (IntKind.wrap IntKind.i64 ((56 : Int) - (IntKind.wrap IntKind.i64 ((8 : Int) * t5)))))) :: (List.replicate 0 (0 : Int)))) t4 (IntKind.wrap IntKind.i64 (t5 + (1 : Int)))) else none)) else (kx t3))
def F72l2 (K : Nat) : Nat → (List Int) → Int → Int → ((List Int) → Option ((List Int))) → Option ((List Int))
  | 0, _, _, _, _ => none
  | k + 1, t3, t4, t5, kx => B72l2 K t3 t4 t5 (fun t3 t4 t5 => F72l2 K k t3 t4 t5 kx) kx
noncomputable def S72l2 (K : Nat) := loopStep (E72 K) A72 (lpK (RDen R72) K) (codeAt [1, 1, 1, 1, 1, 0, 1, 2, 2] (cd Tryd.f72)) 2 T72l2 (fun s => resOut (E72 K) s R72 Tryd.f72.results.toList)
noncomputable def L72l2 (K : Nat) (t3 : (List Int)) (t4 : Int) (t5 : Int) (kx : ((List Int) → Option ((List Int)))) : Option ((List Int)) := evLoop (S72l2 K) (fun y => kx y.1.1) K ((t3, (t4, (t5, ()))), ())
theorem S72l2_eq (K : Nat) (t3 : (List Int)) (t4 : Int) (t5 : Int) (kn : _ → Option ((List Int))) (kx : _ → Option ((List Int))) : S72l2 K ((t3, (t4, (t5, ()))), ()) kn kx = B72l2 K t3 t4 t5 (fun t3 t4 t5 => kn ((t3, (t4, (t5, ()))), ())) (fun y0 => kx ((y0, ()), ())) := by
  unfold B72l2; kernel_rfl
theorem F72l2_go (K : Nat) (kx : ((List Int) → Option ((List Int)))) : ∀ (n : Nat) (t3 : (List Int)) (t4 : Int) (t5 : Int), evLoop (S72l2 K) (fun y => kx y.1.1) n ((t3, (t4, (t5, ()))), ()) = F72l2 K n t3 t4 t5 kx := by
  intro n
  induction n with
  | zero => intros; rfl
  | succ n ih =>
    intros t3 t4 t5
    refine (S72l2_eq K t3 t4 t5 _ _).trans ?_
    have e : (fun t3 t4 t5 => evLoop (S72l2 K) (fun y => kx y.1.1) n ((t3, (t4, (t5, ()))), ())) = fun t3 t4 t5 => F72l2 K n t3 t4 t5 kx := by
      funext t3 t4 t5; exact ih t3 t4 t5
    rw [e]; rfl
theorem F72l2_eq (K : Nat) : F72l2 K K = L72l2 K := by
  funext t3 t4 t5 kx; exact (F72l2_go K kx K t3 t4 t5).symm
def B72l0 (K : Nat) (t0 : (List Int)) (t3 : (List Int)) (kn : ((List Int) → (List Int) → Option ((List Int)))) (kx : ((List Int) → (List Int) → Option ((List Int)))) : Option ((List Int)) := (if ((!(eqI (Int.tmod (((List.length t3) : Nat) : Int) (64 : Int)) (56 : Int))) = true) then (if ((room ((List.length t3) + (List.length ((0 : Int) :: (List.replicate 0 (0 : Int)))))) = true) then (kn t0 (t3 ++ ((0 : Int) :: (List.replicate 0 (0 : Int))))) else none) else (kx t0 t3))
def F72l0 (K : Nat) : Nat → (List Int) → (List Int) → ((List Int) → (List Int) → Option ((List Int))) → Option ((List Int))
  | 0, _, _, _ => none
  | k + 1, t0, t3, kx => B72l0 K t0 t3 (fun t0 t3 => F72l0 K k t0 t3 kx) kx
noncomputable def S72l0 (K : Nat) := loopStep (E72 K) A72 (lpK (RDen R72) K) (codeAt [1, 1, 1, 0, 2, 2] (cd Tryd.f72)) 0 T72l0 (fun s => resOut (E72 K) s R72 Tryd.f72.results.toList)
noncomputable def L72l0 (K : Nat) (t0 : (List Int)) (t3 : (List Int)) (kx : ((List Int) → (List Int) → Option ((List Int)))) : Option ((List Int)) := evLoop (S72l0 K) (fun y => kx y.1.1 y.1.2.1) K ((t0, (t3, ())), ())
theorem S72l0_eq (K : Nat) (t0 : (List Int)) (t3 : (List Int)) (kn : _ → Option ((List Int))) (kx : _ → Option ((List Int))) : S72l0 K ((t0, (t3, ())), ()) kn kx = B72l0 K t0 t3 (fun t0 t3 => kn ((t0, (t3, ())), ())) (fun y0 y1 => kx ((y0, (y1, ())), ())) := by
  unfold B72l0; kernel_rfl
theorem F72l0_go (K : Nat) (kx : ((List Int) → (List Int) → Option ((List Int)))) : ∀ (n : Nat) (t0 : (List Int)) (t3 : (List Int)), evLoop (S72l0 K) (fun y => kx y.1.1 y.1.2.1) n ((t0, (t3, ())), ()) = F72l0 K n t0 t3 kx := by
  intro n
  induction n with
  | zero => intros; rfl
  | succ n ih =>
    intros t0 t3
    refine (S72l0_eq K t0 t3 _ _).trans ?_
    have e : (fun t0 t3 => evLoop (S72l0 K) (fun y => kx y.1.1 y.1.2.1) n ((t0, (t3, ())), ())) = fun t0 t3 => F72l0 K n t0 t3 kx := by
      funext t0 t3; exact ih t0 t3
    rw [e]; rfl
theorem F72l0_eq (K : Nat) : F72l0 K K = L72l0 K := by
  funext t0 t3 kx; exact (F72l0_go K kx K t0 t3).symm
def F72 (K : Nat) (x0 : (List Int)) : Option ((List Int)) := (if ((room ((List.length (List.replicate 0 (0 : Int))) + (List.length x0))) = true) then (if ((room ((List.length ((List.replicate 0 (0 : Int)) ++ x0)) + (List.length ((128 : Int) :: (List.replicate 0 (0 : Int)))))) = true) then (F72l0 K K x0 (((List.replicate 0 (0 : Int)) ++ x0) ++ ((128 : Int) :: (List.replicate 0 (0 : Int)))) (fun y0 y1 => (F72l2 K K y1 (IntKind.wrap IntKind.u64 ((8 : Int) * (IntKind.wrap IntKind.u64 (((List.length y0) : Nat) : Int)))) (0 : Int) (fun y2 => (some y2))))) else none) else none)
theorem F72_eq (K : Nat) (x0 : (List Int)) : evFn (E72 K) A72 P72 R72 (lpK (RDen R72) K) 37 Tryd.f72.results.toList (cd Tryd.f72) (x0, ()) = F72 K x0 := by
  unfold F72; rw [F72l2_eq K]; rw [F72l0_eq K]; kernel_rfl
/- quietus/quietusref02.rotr -/
def A74 : List (Nat × LoopAnn) := []
noncomputable def E74 (K : Nat) : Env := mkEnv tyTab nfTab mpTab G74 []
def F74 (K : Nat) (x0 : Int) (x1 : Int) : Option (Int) := (if ((ltI x1 (0 : Int)) = true) then none else (if ((ltI (IntKind.wrap IntKind.i64 ((32 : Int) - x1)) (0 : Int)) = true) then none else (some (bitOr IntKind.u32 (shrI IntKind.u32 x0 x1) (shlI IntKind.u32 x0 (IntKind.wrap IntKind.i64 ((32 : Int) - x1)))))))
theorem F74_eq (K : Nat) (x0 : Int) (x1 : Int) : evFn (E74 K) A74 P74 R74 (lpK (RDen R74) K) 13 Tryd.f74.results.toList (cd Tryd.f74) (x0, (x1, ())) = F74 K x0 x1 := by
  unfold F74; kernel_rfl
/- quietus/quietusref02.words -/
def T73l2 : LoopAnn := ⟨tm 101 [(2, (.ptr 2)), (0, (.ptr 3)), (1, (.data (.int .i64)))] [(2, (.arr 64 (.int .u32))), (0, (.arr 64 (.int .u32)))], tm 101 [(2, (.ptr 2)), (0, (.ptr 3))] [(2, (.arr 64 (.int .u32))), (0, (.arr 64 (.int .u32)))]⟩
def T73l0 : LoopAnn := ⟨tm 101 [(0, (.data (.list (.int .u8)))), (1, (.ptr 2)), (0, (.ptr 3)), (0, (.data (.int .i64)))] [(2, (.arr 64 (.int .u32))), (0, (.arr 64 (.int .u32)))], tm 101 [(2, (.ptr 2)), (0, (.ptr 3))] [(2, (.arr 64 (.int .u32))), (0, (.arr 64 (.int .u32)))]⟩
def A73 : List (Nat × LoopAnn) := [(2, T73l2), (0, T73l0)]
noncomputable def E73 (K : Nat) : Env := mkEnv tyTab nfTab mpTab G73 [(74, ⟨P74, R74, fun x => F74 K x.1 x.2.1⟩)]
def B73l2 (K : Nat) (t5 : Int) (b2 : (List Int)) (b3 : (List Int)) (kn : (Int → (List Int) → (List Int) → Option ((List Int)))) (kx : ((List Int) → (List Int) → Option ((List Int)))) : Option ((List Int)) := (if ((ltI t5 (64 : Int)) = true) then (if ((inR (IntKind.wrap IntKind.i64 (t5 - (15 : Int))) ((64 : Nat) : Int)) = true) then ((F74 K (nthD (Ty.int IntKind.u32) b3 (IntKind.wrap IntKind.i64 (t5 - (15 : Int)))) (7 : Int)).bind fun y0 => (if ((inR (IntKind.wrap IntKind.i64 (t5 - (15 : Int))) ((64 : Nat) : Int)) = true) then ((F74 K (nthD (Ty.int IntKind.u32) b3 (IntKind.wrap IntKind.i64 (t5 - (15 : Int)))) (18 : Int)).bind fun y1 => (if ((inR (IntKind.wrap IntKind.i64 (t5 - (15 : Int))) ((64 : Nat) : Int)) = true) then (if ((inR (IntKind.wrap IntKind.i64 (t5 - (2 : Int))) ((64 : Nat) : Int)) = true) then ((F74 K (nthD (Ty.int IntKind.u32) b3 (IntKind.wrap IntKind.i64 (t5 - (2 : Int)))) (17 : Int)).bind fun y2 => (if ((inR (IntKind.wrap IntKind.i64 (t5 - (2 : Int))) ((64 : Nat) : Int)) = true) then ((F74 K (nthD (Ty.int IntKind.u32) b3 (IntKind.wrap IntKind.i64 (t5 - (2 : Int)))) (19 : Int)).bind fun y3 => (if ((inR (IntKind.wrap IntKind.i64 (t5 - (2 : Int))) ((64 : Nat) : Int)) = true) then (if ((inR (IntKind.wrap IntKind.i64 (t5 - (16 : Int))) ((64 : Nat) : Int)) = true) then (if ((inR (IntKind.wrap IntKind.i64 (t5 - (7 : Int))) ((64 : Nat) : Int)) = true) then (if ((inR t5 ((64 : Nat) : Int)) = true) then (kn (IntKind.wrap IntKind.i64 (t5 + (1 : Int))) b2 (List.set b3 (Int.toNat t5) (IntKind.wrap IntKind.u32 ((IntKind.wrap IntKind.u32 ((IntKind.wrap IntKind.u32 ((nthD (Ty.int IntKind.u32) b3 (IntKind.wrap IntKind.i64 (t5 - (16 : Int)))) + (bitXor IntKind.u32 (bitXor IntKind.u32 y0 y1) (shrI IntKind.u32 (nthD (Ty.int IntKind.u32) b3 (IntKind.wrap IntKind.i64 (t5 - (15 : Int)))) (3 : Int))))) + (nthD (Ty.int IntKind.u32) b3 (IntKind.wrap IntKind.i64 (t5 - (7 : Int)))))) + (bitXor IntKind.u32 (bitXor IntKind.u32 y2 y3) (shrI IntKind.u32 (nthD (Ty.int IntKind.u32) b3 (IntKind.wrap IntKind.i64 (t5 - (2 : Int)))) (10 : Int))))))) else none) else none) else none) else none)) else none)) else none) else none)) else none)) else none) else (kx b2 b3))
def F73l2 (K : Nat) : Nat → Int → (List Int) → (List Int) → ((List Int) → (List Int) → Option ((List Int))) → Option ((List Int))
  | 0, _, _, _, _ => none
  | k + 1, t5, b2, b3, kx => B73l2 K t5 b2 b3 (fun t5 b2 b3 => F73l2 K k t5 b2 b3 kx) kx
noncomputable def S73l2 (K : Nat) := loopStep (E73 K) A73 (lpK (RDen R73) K) (codeAt [1, 1, 1, 0, 1, 2, 2] (cd Tryd.f73)) 2 T73l2 (fun s => resOut (E73 K) s R73 Tryd.f73.results.toList)
noncomputable def L73l2 (K : Nat) (t5 : Int) (b2 : (List Int)) (b3 : (List Int)) (kx : ((List Int) → (List Int) → Option ((List Int)))) : Option ((List Int)) := evLoop (S73l2 K) (fun y => kx y.2.1 y.2.2.1) K ((t5, ()), (b2, (b3, ())))
theorem S73l2_eq (K : Nat) (t5 : Int) (b2 : (List Int)) (b3 : (List Int)) (kn : _ → Option ((List Int))) (kx : _ → Option ((List Int))) : S73l2 K ((t5, ()), (b2, (b3, ()))) kn kx = B73l2 K t5 b2 b3 (fun t5 b2 b3 => kn ((t5, ()), (b2, (b3, ())))) (fun y0 y1 => kx ((), (y0, (y1, ())))) := by
  unfold B73l2; kernel_rfl
theorem F73l2_go (K : Nat) (kx : ((List Int) → (List Int) → Option ((List Int)))) : ∀ (n : Nat) (t5 : Int) (b2 : (List Int)) (b3 : (List Int)), evLoop (S73l2 K) (fun y => kx y.2.1 y.2.2.1) n ((t5, ()), (b2, (b3, ()))) = F73l2 K n t5 b2 b3 kx := by
  intro n
  induction n with
  | zero => intros; rfl
  | succ n ih =>
    intros t5 b2 b3
    refine (S73l2_eq K t5 b2 b3 _ _).trans ?_
    have e : (fun t5 b2 b3 => evLoop (S73l2 K) (fun y => kx y.2.1 y.2.2.1) n ((t5, ()), (b2, (b3, ())))) = fun t5 b2 b3 => F73l2 K n t5 b2 b3 kx := by
      funext t5 b2 b3; exact ih t5 b2 b3
    rw [e]; rfl
theorem F73l2_eq (K : Nat) : F73l2 K K = L73l2 K := by
  funext t5 b2 b3 kx; exact (F73l2_go K kx K t5 b2 b3).symm
def B73l0 (K : Nat) (t0 : (List Int)) (t4 : Int) (b2 : (List Int)) (b3 : (List Int)) (kn : ((List Int) → Int → (List Int) → (List Int) → Option ((List Int)))) (kx : ((List Int) → (List Int) → Option ((List Int)))) : Option ((List Int)) := (if ((ltI t4 (16 : Int)) = true) then (if ((inR (IntKind.wrap IntKind.i64 ((4 : Int) * t4)) (((List.length t0) : Nat) : Int)) = true) then (if ((inR (IntKind.wrap IntKind.i64 ((IntKind.wrap IntKind.i64 ((4 : Int) * t4)) + (1 : Int))) (((List.length t0) : Nat) : Int)) = true) then (if ((inR (IntKind.wrap IntKind.i64 ((IntKind.wrap IntKind.i64 ((4 : Int) * t4)) + (2 : Int))) (((List.length t0) : Nat) : Int)) = true) then (if ((inR (IntKind.wrap IntKind.i64 ((IntKind.wrap IntKind.i64 ((4 : Int) * t4)) + (3 : Int))) (((List.length t0) : Nat) : Int)) = true) then (if ((inR t4 ((64 : Nat) : Int)) = true) then (kn t0 (IntKind.wrap IntKind.i64 (t4 + (1 : Int))) b2 (List.set b3 (Int.toNat t4) (bitOr IntKind.u32 (bitOr IntKind.u32 (bitOr IntKind.u32 (shlI IntKind.u32 (IntKind.wrap IntKind.u32 (nthD (Ty.int IntKind.u8) t0 (IntKind.wrap IntKind.i64 ((4 : Int) * t4)))) (24 : Int)) (shlI IntKind.u32 (IntKind.wrap IntKind.u32 (nthD (Ty.int IntKind.u8) t0 (IntKind.wrap IntKind.i64 ((IntKind.wrap IntKind.i64 ((4 : Int) * t4)) + (1 : Int))))) (16 : Int))) (shlI IntKind.u32 (IntKind.wrap IntKind.u32 (nthD (Ty.int IntKind.u8) t0 (IntKind.wrap IntKind.i64 ((IntKind.wrap IntKind.i64 ((4 : Int) * t4)) + (2 : Int))))) (8 : Int))) (IntKind.wrap IntKind.u32 (nthD (Ty.int IntKind.u8) t0 (IntKind.wrap IntKind.i64 ((IntKind.wrap IntKind.i64 ((4 : Int) * t4)) + (3 : Int)))))))) else none) else none) else none) else none) else none) else (kx b2 b3))
def F73l0 (K : Nat) : Nat → (List Int) → Int → (List Int) → (List Int) → ((List Int) → (List Int) → Option ((List Int))) → Option ((List Int))
  | 0, _, _, _, _, _ => none
  | k + 1, t0, t4, b2, b3, kx => B73l0 K t0 t4 b2 b3 (fun t0 t4 b2 b3 => F73l0 K k t0 t4 b2 b3 kx) kx
noncomputable def S73l0 (K : Nat) := loopStep (E73 K) A73 (lpK (RDen R73) K) (codeAt [1, 1, 0, 1, 2, 2] (cd Tryd.f73)) 0 T73l0 (fun s => resOut (E73 K) s R73 Tryd.f73.results.toList)
noncomputable def L73l0 (K : Nat) (t0 : (List Int)) (t4 : Int) (b2 : (List Int)) (b3 : (List Int)) (kx : ((List Int) → (List Int) → Option ((List Int)))) : Option ((List Int)) := evLoop (S73l0 K) (fun y => kx y.2.1 y.2.2.1) K ((t0, (t4, ())), (b2, (b3, ())))
theorem S73l0_eq (K : Nat) (t0 : (List Int)) (t4 : Int) (b2 : (List Int)) (b3 : (List Int)) (kn : _ → Option ((List Int))) (kx : _ → Option ((List Int))) : S73l0 K ((t0, (t4, ())), (b2, (b3, ()))) kn kx = B73l0 K t0 t4 b2 b3 (fun t0 t4 b2 b3 => kn ((t0, (t4, ())), (b2, (b3, ())))) (fun y0 y1 => kx ((), (y0, (y1, ())))) := by
  unfold B73l0; kernel_rfl
theorem F73l0_go (K : Nat) (kx : ((List Int) → (List Int) → Option ((List Int)))) : ∀ (n : Nat) (t0 : (List Int)) (t4 : Int) (b2 : (List Int)) (b3 : (List Int)), evLoop (S73l0 K) (fun y => kx y.2.1 y.2.2.1) n ((t0, (t4, ())), (b2, (b3, ()))) = F73l0 K n t0 t4 b2 b3 kx := by
  intro n
  induction n with
  | zero => intros; rfl
  | succ n ih =>
    intros t0 t4 b2 b3
    refine (S73l0_eq K t0 t4 b2 b3 _ _).trans ?_
    have e : (fun t0 t4 b2 b3 => evLoop (S73l0 K) (fun y => kx y.2.1 y.2.2.1) n ((t0, (t4, ())), (b2, (b3, ())))) = fun t0 t4 b2 b3 => F73l0 K n t0 t4 b2 b3 kx := by
      funext t0 t4 b2 b3; exact ih t0 t4 b2 b3
    rw [e]; rfl
theorem F73l0_eq (K : Nat) : F73l0 K K = L73l0 K := by
  funext t0 t4 b2 b3 kx; exact (F73l0_go K kx K t0 t4 b2 b3).symm
def F73 (K : Nat) (x0 : (List Int)) : Option ((List Int)) := (F73l0 K K x0 (0 : Int) (List.replicate 64 (0 : Int)) (List.replicate 64 (0 : Int)) (fun y0 y1 => (F73l2 K K (16 : Int) y0 y1 (fun y2 y3 => (some y3)))))
theorem F73_eq (K : Nat) (x0 : (List Int)) : evFn (E73 K) A73 P73 R73 (lpK (RDen R73) K) 101 Tryd.f73.results.toList (cd Tryd.f73) (x0, ()) = F73 K x0 := by
  unfold F73; rw [F73l2_eq K]; rw [F73l0_eq K]; kernel_rfl
/- quietus/quietusref02.Sum -/
def T65l2 : LoopAnn := ⟨tm 148 [(2, (.ptr 2)), (0, (.ptr 3)), (0, (.data (.list (.int .u8)))), (0, (.data (.int .i64))), (0, (.ptr 6)), (0, (.ptr 7)), (0, (.data (.int .i64)))] [(2, (.arr 32 (.int .u8))), (0, (.arr 8 (.int .u32))), (2, (.arr 64 (.int .u32))), (0, (.arr 8 (.int .u32)))], tm 148 [(2, (.ptr 2)), (0, (.ptr 3)), (0, (.data (.list (.int .u8)))), (0, (.data (.int .i64))), (1, (.ptr 7))] [(2, (.arr 32 (.int .u8))), (0, (.arr 8 (.int .u32))), (3, (.arr 8 (.int .u32)))]⟩
def T65l4 : LoopAnn := ⟨tm 148 [(2, (.ptr 2)), (0, (.ptr 3)), (0, (.data (.list (.int .u8)))), (0, (.data (.int .i64))), (1, (.ptr 7)), (3, (.data (.int .i64)))] [(2, (.arr 32 (.int .u8))), (0, (.arr 8 (.int .u32))), (3, (.arr 8 (.int .u32)))], tm 148 [(2, (.ptr 2)), (0, (.ptr 3)), (0, (.data (.list (.int .u8)))), (0, (.data (.int .i64)))] [(2, (.arr 32 (.int .u8))), (0, (.arr 8 (.int .u32)))]⟩
def T65l6 : LoopAnn := ⟨tm 148 [(2, (.ptr 2)), (0, (.ptr 3)), (8, (.ptr 12)), (0, (.data (.int .i64)))] [(2, (.arr 32 (.int .u8))), (0, (.arr 8 (.int .u32))), (8, (.arr 32 (.int .u8)))], tm 148 [(2, (.ptr 2)), (9, (.ptr 12))] [(2, (.arr 32 (.int .u8))), (9, (.arr 32 (.int .u8)))]⟩
def T65l0 : LoopAnn := ⟨tm 148 [(2, (.ptr 2)), (0, (.ptr 3)), (0, (.data (.list (.int .u8)))), (0, (.data (.int .i64)))] [(2, (.arr 32 (.int .u8))), (0, (.arr 8 (.int .u32)))], tm 148 [(2, (.ptr 2)), (0, (.ptr 3))] [(2, (.arr 32 (.int .u8))), (0, (.arr 8 (.int .u32)))]⟩
def A65 : List (Nat × LoopAnn) := [(2, T65l2), (4, T65l4), (6, T65l6), (0, T65l0)]
noncomputable def E65 (K : Nat) : Env := mkEnv tyTab nfTab mpTab G65 [(72, ⟨P72, R72, fun x => F72 K x.1⟩), (73, ⟨P73, R73, fun x => F73 K x.1⟩), (74, ⟨P74, R74, fun x => F74 K x.1 x.2.1⟩)]
def B65l2 (K : Nat) (t4 : (List Int)) (t5 : Int) (t8 : Int) (b2 : (List Int)) (b3 : (List Int)) (b6 : (List Int)) (b7 : (List Int)) (kn : ((List Int) → Int → Int → (List Int) → (List Int) → (List Int) → (List Int) → Option ((List Int)))) (kx : ((List Int) → Int → (List Int) → (List Int) → (List Int) → Option ((List Int)))) : Option ((List Int)) := (if ((ltI t8 (64 : Int)) = true) then ((F74 K (nthD (Ty.int IntKind.u32) b7 (4 : Int)) (6 : Int)).bind fun y0 => ((F74 K (nthD (Ty.int IntKind.u32) b7 (4 : Int)) (11 : Int)).bind fun y1 => ((F74 K (nthD (Ty.int IntKind.u32) b7 (4 : Int)) (25 : Int)).bind fun y2 => (if ((inR t8 ((64 : Nat) : Int)) = true) then (if ((inR t8 ((64 : Nat) : Int)) = true) then ((F74 K (nthD (Ty.int IntKind.u32) b7 (0 : Int)) (2 : Int)).bind fun y3 => ((F74 K (nthD (Ty.int IntKind.u32) b7 (0 : Int)) (13 : Int)).bind fun y4 => ((F74 K (nthD (Ty.int IntKind.u32) b7 (0 : Int)) (22 : Int)).bind fun y5 => (kn t4 t5 (IntKind.wrap IntKind.i64 (t8 + (1 : Int))) b2 b3 b6 ((IntKind.wrap IntKind.u32 ((IntKind.wrap IntKind.u32 ((IntKind.wrap IntKind.u32 ((IntKind.wrap IntKind.u32 ((IntKind.wrap IntKind.u32 ((nthD (Ty.int IntKind.u32) b7 (7 : Int)) + (bitXor IntKind.u32 (bitXor IntKind.u32 y0 y1) y2))) + (bitXor IntKind.u32 (bitAnd IntKind.u32 (nthD (Ty.int IntKind.u32) b7 (4 : Int)) (nthD (Ty.int IntKind.u32) b7 (5 : Int))) (bitAnd IntKind.u32 (bitXor IntKind.u32 (nthD (Ty.int IntKind.u32) b7 (4 : Int)) (4294967295 : Int)) (nthD (Ty.int IntKind.u32) b7 (6 : Int)))))) + (nthD (Ty.int IntKind.u32) [(1116352408 : Int), (1899447441 : Int), (3049323471 : Int), (3921009573 : Int), (961987163 : Int), (1508970993 : Int), (2453635748 : Int), (2870763221 : Int), (3624381080 : Int), (310598401 : Int), (607225278 : Int), (1426881987 : Int), (1925078388 : Int), (2162078206 : Int), (2614888103 : Int), (3248222580 : Int), (3835390401 : Int), (4022224774 : Int), (264347078 : Int), (604807628 : Int), (770255983 : Int), (1249150122 : Int), (1555081692 : Int), (1996064986 : Int), (2554220882 : Int), (2821834349 : Int), (2952996808 : Int), (3210313671 : Int), (3336571891 : Int), (3584528711 : Int), (113926993 : Int), (338241895 : Int), (666307205 : Int), (773529912 : Int), (1294757372 : Int), (1396182291 : Int), (1695183700 : Int), (1986661051 : Int), (2177026350 : Int), (2456956037 : Int), (2730485921 : Int), (2820302411 : Int), (3259730800 : Int), (3345764771 : Int), (3516065817 : Int), (3600352804 : Int), (4094571909 : Int), (275423344 : Int), (430227734 : Int), (506948616 : Int), (659060556 : Int), (883997877 : Int), (958139571 : Int), (1322822218 : Int), (1537002063 : Int), (1747873779 : Int), (1955562222 : Int), (2024104815 : Int), (2227730452 : Int), (2361852424 : Int), (2428436474 : Int), (2756734187 : Int), (3204031479 : Int), (3329325298 : Int)] t8))) + (nthD (Ty.int IntKind.u32) b6 t8))) + (IntKind.wrap IntKind.u32 ((bitXor IntKind.u32 (bitXor IntKind.u32 y3 y4) y5) + (bitXor IntKind.u32 (bitXor IntKind.u32 (bitAnd IntKind.u32 (nthD (Ty.int IntKind.u32) b7 (0 : Int)) (nthD (Ty.int IntKind.u32) b7 (1 : Int))) (bitAnd IntKind.u32 (nthD (Ty.int IntKind.u32) b7 (0 : Int)) (nthD (Ty.int IntKind.u32) b7 (2 : Int)))) (bitAnd IntKind.u32 (nthD (Ty.int IntKind.u32) b7 (1 : Int)) (nthD (Ty.int IntKind.u32) b7 (2 : Int)))))))) :: (nthD (Ty.int IntKind.u32) b7 (0 : Int)) :: (nthD (Ty.int IntKind.u32) b7 (1 : Int)) :: (nthD (Ty.int IntKind.u32) b7 (2 : Int)) :: (IntKind.wrap IntKind.u32 ((nthD (Ty.int IntKind.u32) b7 (3 : Int)) + (IntKind.wrap IntKind.u32 ((IntKind.wrap IntKind.u32 ((IntKind.wrap IntKind.u32 ((IntKind.wrap IntKind.u32 ((nthD (Ty.int IntKind.u32) b7 (7 : Int)) + (bitXor IntKind.u32 (bitXor IntKind.u32 y0 y1) y2))) + (bitXor IntKind.u32 (bitAnd IntKind.u32 (nthD (Ty.int IntKind.u32) b7 (4 : Int)) (nthD (Ty.int IntKind.u32) b7 (5 : Int))) (bitAnd IntKind.u32 (bitXor IntKind.u32 (nthD (Ty.int IntKind.u32) b7 (4 : Int)) (4294967295 : Int)) (nthD (Ty.int IntKind.u32) b7 (6 : Int)))))) + (nthD (Ty.int IntKind.u32) [(1116352408 : Int), (1899447441 : Int), (3049323471 : Int), (3921009573 : Int), (961987163 : Int), (1508970993 : Int), (2453635748 : Int), (2870763221 : Int), (3624381080 : Int), (310598401 : Int), (607225278 : Int), (1426881987 : Int), (1925078388 : Int), (2162078206 : Int), (2614888103 : Int), (3248222580 : Int), (3835390401 : Int), (4022224774 : Int), (264347078 : Int), (604807628 : Int), (770255983 : Int), (1249150122 : Int), (1555081692 : Int), (1996064986 : Int), (2554220882 : Int), (2821834349 : Int), (2952996808 : Int), (3210313671 : Int), (3336571891 : Int), (3584528711 : Int), (113926993 : Int), (338241895 : Int), (666307205 : Int), (773529912 : Int), (1294757372 : Int), (1396182291 : Int), (1695183700 : Int), (1986661051 : Int), (2177026350 : Int), (2456956037 : Int), (2730485921 : Int), (2820302411 : Int), (3259730800 : Int), (3345764771 : Int), (3516065817 : Int), (3600352804 : Int), (4094571909 : Int), (275423344 : Int), (430227734 : Int), (506948616 : Int), (659060556 : Int), (883997877 : Int), (958139571 : Int), (1322822218 : Int), (1537002063 : Int), (1747873779 : Int), (1955562222 : Int), (2024104815 : Int), (2227730452 : Int), (2361852424 : Int), (2428436474 : Int), (2756734187 : Int), (3204031479 : Int), (3329325298 : Int)] t8))) + (nthD (Ty.int IntKind.u32) b6 t8))))) :: (nthD (Ty.int IntKind.u32) b7 (4 : Int)) :: (nthD (Ty.int IntKind.u32) b7 (5 : Int)) :: (nthD (Ty.int IntKind.u32) b7 (6 : Int)) :: (List.replicate 0 (0 : Int))))))) else none) else none)))) else (kx t4 t5 b2 b3 b7))
def F65l2 (K : Nat) : Nat → (List Int) → Int → Int → (List Int) → (List Int) → (List Int) → (List Int) → ((List Int) → Int → (List Int) → (List Int) → (List Int) → Option ((List Int))) → Option ((List Int))
  | 0, _, _, _, _, _, _, _, _ => none
  | k + 1, t4, t5, t8, b2, b3, b6, b7, kx => B65l2 K t4 t5 t8 b2 b3 b6 b7 (fun t4 t5 t8 b2 b3 b6 b7 => F65l2 K k t4 t5 t8 b2 b3 b6 b7 kx) kx
noncomputable def S65l2 (K : Nat) := loopStep (E65 K) A65 (lpK (RDen R65) K) (codeAt [1, 1, 1, 0, 1, 2, 2, 1, 0, 2, 1, 1, 0, 1, 2, 2] (cd Tryd.f65)) 2 T65l2 (fun s => resOut (E65 K) s R65 Tryd.f65.results.toList)
noncomputable def L65l2 (K : Nat) (t4 : (List Int)) (t5 : Int) (t8 : Int) (b2 : (List Int)) (b3 : (List Int)) (b6 : (List Int)) (b7 : (List Int)) (kx : ((List Int) → Int → (List Int) → (List Int) → (List Int) → Option ((List Int)))) : Option ((List Int)) := evLoop (S65l2 K) (fun y => kx y.1.1 y.1.2.1 y.2.1 y.2.2.1 y.2.2.2.1) K ((t4, (t5, (t8, ()))), (b2, (b3, (b6, (b7, ())))))
theorem S65l2_eq (K : Nat) (t4 : (List Int)) (t5 : Int) (t8 : Int) (b2 : (List Int)) (b3 : (List Int)) (b6 : (List Int)) (b7 : (List Int)) (kn : _ → Option ((List Int))) (kx : _ → Option ((List Int))) : S65l2 K ((t4, (t5, (t8, ()))), (b2, (b3, (b6, (b7, ()))))) kn kx = B65l2 K t4 t5 t8 b2 b3 b6 b7 (fun t4 t5 t8 b2 b3 b6 b7 => kn ((t4, (t5, (t8, ()))), (b2, (b3, (b6, (b7, ())))))) (fun y0 y1 y2 y3 y4 => kx ((y0, (y1, ())), (y2, (y3, (y4, ()))))) := by
  unfold B65l2; kernel_rfl
theorem F65l2_go (K : Nat) (kx : ((List Int) → Int → (List Int) → (List Int) → (List Int) → Option ((List Int)))) : ∀ (n : Nat) (t4 : (List Int)) (t5 : Int) (t8 : Int) (b2 : (List Int)) (b3 : (List Int)) (b6 : (List Int)) (b7 : (List Int)), evLoop (S65l2 K) (fun y => kx y.1.1 y.1.2.1 y.2.1 y.2.2.1 y.2.2.2.1) n ((t4, (t5, (t8, ()))), (b2, (b3, (b6, (b7, ()))))) = F65l2 K n t4 t5 t8 b2 b3 b6 b7 kx := by
  intro n
  induction n with
  | zero => intros; rfl
  | succ n ih =>
    intros t4 t5 t8 b2 b3 b6 b7
    refine (S65l2_eq K t4 t5 t8 b2 b3 b6 b7 _ _).trans ?_
    have e : (fun t4 t5 t8 b2 b3 b6 b7 => evLoop (S65l2 K) (fun y => kx y.1.1 y.1.2.1 y.2.1 y.2.2.1 y.2.2.2.1) n ((t4, (t5, (t8, ()))), (b2, (b3, (b6, (b7, ())))))) = fun t4 t5 t8 b2 b3 b6 b7 => F65l2 K n t4 t5 t8 b2 b3 b6 b7 kx := by
      funext t4 t5 t8 b2 b3 b6 b7; exact ih t4 t5 t8 b2 b3 b6 b7
    rw [e]; rfl
theorem F65l2_eq (K : Nat) : F65l2 K K = L65l2 K := by
  funext t4 t5 t8 b2 b3 b6 b7 kx; exact (F65l2_go K kx K t4 t5 t8 b2 b3 b6 b7).symm
def B65l4 (K : Nat) (t4 : (List Int)) (t5 : Int) (t11 : Int) (b2 : (List Int)) (b3 : (List Int)) (b7 : (List Int)) (kn : ((List Int) → Int → Int → (List Int) → (List Int) → (List Int) → Option ((List Int)))) (kx : ((List Int) → Int → (List Int) → (List Int) → Option ((List Int)))) : Option ((List Int)) := (if ((ltI t11 (8 : Int)) = true) then (if ((inR t11 ((8 : Nat) : Int)) = true) then (if ((inR t11 ((8 : Nat) : Int)) = true) then (if ((inR t11 ((8 : Nat) : Int)) = true) then (kn t4 t5 (IntKind.wrap IntKind.i64 (t11 + (1 : Int))) b2 (List.set b3 (Int.toNat t11) (IntKind.wrap IntKind.u32 ((nthD (Ty.int IntKind.u32) b3 t11) + (nthD (Ty.int IntKind.u32) b7 t11)))) b7) else none) else none) else none) else (kx t4 t5 b2 b3))
def F65l4 (K : Nat) : Nat → (List Int) → Int → Int → (List Int) → (List Int) → (List Int) → ((List Int) → Int → (List Int) → (List Int) → Option ((List Int))) → Option ((List Int))
  | 0, _, _, _, _, _, _, _ => none
  | k + 1, t4, t5, t11, b2, b3, b7, kx => B65l4 K t4 t5 t11 b2 b3 b7 (fun t4 t5 t11 b2 b3 b7 => F65l4 K k t4 t5 t11 b2 b3 b7 kx) kx
noncomputable def S65l4 (K : Nat) := loopStep (E65 K) A65 (lpK (RDen R65) K) (codeAt [1, 1, 1, 0, 1, 2, 2, 1, 0, 2, 1, 1, 1, 1, 2, 2] (cd Tryd.f65)) 4 T65l4 (fun s => resOut (E65 K) s R65 Tryd.f65.results.toList)
noncomputable def L65l4 (K : Nat) (t4 : (List Int)) (t5 : Int) (t11 : Int) (b2 : (List Int)) (b3 : (List Int)) (b7 : (List Int)) (kx : ((List Int) → Int → (List Int) → (List Int) → Option ((List Int)))) : Option ((List Int)) := evLoop (S65l4 K) (fun y => kx y.1.1 y.1.2.1 y.2.1 y.2.2.1) K ((t4, (t5, (t11, ()))), (b2, (b3, (b7, ()))))
theorem S65l4_eq (K : Nat) (t4 : (List Int)) (t5 : Int) (t11 : Int) (b2 : (List Int)) (b3 : (List Int)) (b7 : (List Int)) (kn : _ → Option ((List Int))) (kx : _ → Option ((List Int))) : S65l4 K ((t4, (t5, (t11, ()))), (b2, (b3, (b7, ())))) kn kx = B65l4 K t4 t5 t11 b2 b3 b7 (fun t4 t5 t11 b2 b3 b7 => kn ((t4, (t5, (t11, ()))), (b2, (b3, (b7, ()))))) (fun y0 y1 y2 y3 => kx ((y0, (y1, ())), (y2, (y3, ())))) := by
  unfold B65l4; kernel_rfl
theorem F65l4_go (K : Nat) (kx : ((List Int) → Int → (List Int) → (List Int) → Option ((List Int)))) : ∀ (n : Nat) (t4 : (List Int)) (t5 : Int) (t11 : Int) (b2 : (List Int)) (b3 : (List Int)) (b7 : (List Int)), evLoop (S65l4 K) (fun y => kx y.1.1 y.1.2.1 y.2.1 y.2.2.1) n ((t4, (t5, (t11, ()))), (b2, (b3, (b7, ())))) = F65l4 K n t4 t5 t11 b2 b3 b7 kx := by
  intro n
  induction n with
  | zero => intros; rfl
  | succ n ih =>
    intros t4 t5 t11 b2 b3 b7
    refine (S65l4_eq K t4 t5 t11 b2 b3 b7 _ _).trans ?_
    have e : (fun t4 t5 t11 b2 b3 b7 => evLoop (S65l4 K) (fun y => kx y.1.1 y.1.2.1 y.2.1 y.2.2.1) n ((t4, (t5, (t11, ()))), (b2, (b3, (b7, ()))))) = fun t4 t5 t11 b2 b3 b7 => F65l4 K n t4 t5 t11 b2 b3 b7 kx := by
      funext t4 t5 t11 b2 b3 b7; exact ih t4 t5 t11 b2 b3 b7
    rw [e]; rfl
theorem F65l4_eq (K : Nat) : F65l4 K K = L65l4 K := by
  funext t4 t5 t11 b2 b3 b7 kx; exact (F65l4_go K kx K t4 t5 t11 b2 b3 b7).symm
def B65l6 (K : Nat) (t13 : Int) (b2 : (List Int)) (b3 : (List Int)) (b12 : (List Int)) (kn : (Int → (List Int) → (List Int) → (List Int) → Option ((List Int)))) (kx : ((List Int) → (List Int) → Option ((List Int)))) : Option ((List Int)) := (if ((ltI t13 (32 : Int)) = true) then (if ((inR (IntKind.wrap IntKind.i64 (Int.tdiv t13 (4 : Int))) ((8 : Nat) : Int)) = true) then (if ((ltI (IntKind.wrap IntKind.i64 ((24 : Int) - (IntKind.wrap IntKind.i64 ((8 : Int) * (Int.tmod t13 (4 : Int)))))) (0 : Int)) = true) then none else (if ((inR t13 ((32 : Nat) : Int)) = true) then (kn (IntKind.wrap IntKind.i64 (t13 + (1 : Int))) b2 b3 (List.set b12 (Int.toNat t13) (IntKind.wrap IntKind.u8 (shrI IntKind.u32 (nthD (Ty.int IntKind.u32) b3 (IntKind.wrap IntKind.i64 (Int.tdiv t13 (4 : Int)))) (IntKind.wrap IntKind.i64 ((24 : Int) - (IntKind.wrap IntKind.i64 ((8 : Int) * (Int.tmod t13 (4 : Int)))))))))) else none)) else none) else (kx b2 b12))
def F65l6 (K : Nat) : Nat → Int → (List Int) → (List Int) → (List Int) → ((List Int) → (List Int) → Option ((List Int))) → Option ((List Int))
  | 0, _, _, _, _, _ => none
  | k + 1, t13, b2, b3, b12, kx => B65l6 K t13 b2 b3 b12 (fun t13 b2 b3 b12 => F65l6 K k t13 b2 b3 b12 kx) kx
noncomputable def S65l6 (K : Nat) := loopStep (E65 K) A65 (lpK (RDen R65) K) (codeAt [1, 1, 1, 1, 1, 0, 1, 2, 2] (cd Tryd.f65)) 6 T65l6 (fun s => resOut (E65 K) s R65 Tryd.f65.results.toList)
noncomputable def L65l6 (K : Nat) (t13 : Int) (b2 : (List Int)) (b3 : (List Int)) (b12 : (List Int)) (kx : ((List Int) → (List Int) → Option ((List Int)))) : Option ((List Int)) := evLoop (S65l6 K) (fun y => kx y.2.1 y.2.2.1) K ((t13, ()), (b2, (b3, (b12, ()))))
theorem S65l6_eq (K : Nat) (t13 : Int) (b2 : (List Int)) (b3 : (List Int)) (b12 : (List Int)) (kn : _ → Option ((List Int))) (kx : _ → Option ((List Int))) : S65l6 K ((t13, ()), (b2, (b3, (b12, ())))) kn kx = B65l6 K t13 b2 b3 b12 (fun t13 b2 b3 b12 => kn ((t13, ()), (b2, (b3, (b12, ()))))) (fun y0 y1 => kx ((), (y0, (y1, ())))) := by
  unfold B65l6; kernel_rfl
theorem F65l6_go (K : Nat) (kx : ((List Int) → (List Int) → Option ((List Int)))) : ∀ (n : Nat) (t13 : Int) (b2 : (List Int)) (b3 : (List Int)) (b12 : (List Int)), evLoop (S65l6 K) (fun y => kx y.2.1 y.2.2.1) n ((t13, ()), (b2, (b3, (b12, ())))) = F65l6 K n t13 b2 b3 b12 kx := by
  intro n
  induction n with
  | zero => intros; rfl
  | succ n ih =>
    intros t13 b2 b3 b12
    refine (S65l6_eq K t13 b2 b3 b12 _ _).trans ?_
    have e : (fun t13 b2 b3 b12 => evLoop (S65l6 K) (fun y => kx y.2.1 y.2.2.1) n ((t13, ()), (b2, (b3, (b12, ()))))) = fun t13 b2 b3 b12 => F65l6 K n t13 b2 b3 b12 kx := by
      funext t13 b2 b3 b12; exact ih t13 b2 b3 b12
    rw [e]; rfl
theorem F65l6_eq (K : Nat) : F65l6 K K = L65l6 K := by
  funext t13 b2 b3 b12 kx; exact (F65l6_go K kx K t13 b2 b3 b12).symm
def B65l0 (K : Nat) (t4 : (List Int)) (t5 : Int) (b2 : (List Int)) (b3 : (List Int)) (kn : ((List Int) → Int → (List Int) → (List Int) → Option ((List Int)))) (kx : ((List Int) → (List Int) → Option ((List Int)))) : Option ((List Int)) := (if ((ltI t5 (((List.length t4) : Nat) : Int)) = true) then (if ((inB t5 (IntKind.wrap IntKind.i64 (t5 + (64 : Int))) (((List.length t4) : Nat) : Int)) = true) then ((F73 K (cut t4 t5 (IntKind.wrap IntKind.i64 (t5 + (64 : Int))))).bind fun y0 => (F65l2 K K t4 t5 (0 : Int) b2 b3 y0 b3 (fun y1 y2 y3 y4 y5 => (F65l4 K K y1 y2 (0 : Int) y3 y4 y5 (fun y6 y7 y8 y9 => (kn y6 (IntKind.wrap IntKind.i64 (y7 + (64 : Int))) y8 y9)))))) else none) else (kx b2 b3))
def F65l0 (K : Nat) : Nat → (List Int) → Int → (List Int) → (List Int) → ((List Int) → (List Int) → Option ((List Int))) → Option ((List Int))
  | 0, _, _, _, _, _ => none
  | k + 1, t4, t5, b2, b3, kx => B65l0 K t4 t5 b2 b3 (fun t4 t5 b2 b3 => F65l0 K k t4 t5 b2 b3 kx) kx
noncomputable def S65l0 (K : Nat) := loopStep (E65 K) A65 (lpK (RDen R65) K) (codeAt [1, 1, 1, 0, 1, 2, 2] (cd Tryd.f65)) 0 T65l0 (fun s => resOut (E65 K) s R65 Tryd.f65.results.toList)
noncomputable def L65l0 (K : Nat) (t4 : (List Int)) (t5 : Int) (b2 : (List Int)) (b3 : (List Int)) (kx : ((List Int) → (List Int) → Option ((List Int)))) : Option ((List Int)) := evLoop (S65l0 K) (fun y => kx y.2.1 y.2.2.1) K ((t4, (t5, ())), (b2, (b3, ())))
theorem S65l0_eq (K : Nat) (t4 : (List Int)) (t5 : Int) (b2 : (List Int)) (b3 : (List Int)) (kn : _ → Option ((List Int))) (kx : _ → Option ((List Int))) : S65l0 K ((t4, (t5, ())), (b2, (b3, ()))) kn kx = B65l0 K t4 t5 b2 b3 (fun t4 t5 b2 b3 => kn ((t4, (t5, ())), (b2, (b3, ())))) (fun y0 y1 => kx ((), (y0, (y1, ())))) := by
  unfold B65l0; rw [F65l2_eq K]; rw [F65l4_eq K]; kernel_rfl
theorem F65l0_go (K : Nat) (kx : ((List Int) → (List Int) → Option ((List Int)))) : ∀ (n : Nat) (t4 : (List Int)) (t5 : Int) (b2 : (List Int)) (b3 : (List Int)), evLoop (S65l0 K) (fun y => kx y.2.1 y.2.2.1) n ((t4, (t5, ())), (b2, (b3, ()))) = F65l0 K n t4 t5 b2 b3 kx := by
  intro n
  induction n with
  | zero => intros; rfl
  | succ n ih =>
    intros t4 t5 b2 b3
    refine (S65l0_eq K t4 t5 b2 b3 _ _).trans ?_
    have e : (fun t4 t5 b2 b3 => evLoop (S65l0 K) (fun y => kx y.2.1 y.2.2.1) n ((t4, (t5, ())), (b2, (b3, ())))) = fun t4 t5 b2 b3 => F65l0 K n t4 t5 b2 b3 kx := by
      funext t4 t5 b2 b3; exact ih t4 t5 b2 b3
    rw [e]; rfl
theorem F65l0_eq (K : Nat) : F65l0 K K = L65l0 K := by
  funext t4 t5 b2 b3 kx; exact (F65l0_go K kx K t4 t5 b2 b3).symm
def F65 (K : Nat) (x0 : (List Int)) : Option ((List Int)) := ((F72 K x0).bind fun y0 => (F65l0 K K y0 (0 : Int) (List.replicate 32 (0 : Int)) ((1779033703 : Int) :: (3144134277 : Int) :: (1013904242 : Int) :: (2773480762 : Int) :: (1359893119 : Int) :: (2600822924 : Int) :: (528734635 : Int) :: (1541459225 : Int) :: (List.replicate 0 (0 : Int))) (fun y1 y2 => (F65l6 K K (0 : Int) y1 y2 (List.replicate 32 (0 : Int)) (fun y3 y4 => (some y4))))))
theorem F65_eq (K : Nat) (x0 : (List Int)) : evFn (E65 K) A65 P65 R65 (lpK (RDen R65) K) 148 Tryd.f65.results.toList (cd Tryd.f65) (x0, ()) = F65 K x0 := by
  unfold F65; rw [F65l6_eq K]; rw [F65l0_eq K]; kernel_rfl
/- quietus/quietusref02.Bytes32 -/
def T67l0 : LoopAnn := ⟨tm 17 [(1, (.ptr 1)), (1, (.vec (.int .u8))), (0, (.data (.int .i64)))] [(1, (.arr 32 (.int .u8)))], tm 17 [(3, (.vec (.int .u8)))] []⟩
def A67 : List (Nat × LoopAnn) := [(0, T67l0)]
noncomputable def E67 (K : Nat) : Env := mkEnv tyTab nfTab mpTab G67 []
def B67l0 (K : Nat) (t3 : (List Int)) (t4 : Int) (b1 : (List Int)) (kn : ((List Int) → Int → (List Int) → Option (ByteArray))) (kx : ((List Int) → Option (ByteArray))) : Option (ByteArray) := (if ((ltI t4 (32 : Int)) = true) then (if ((inR t4 ((32 : Nat) : Int)) = true) then (if ((room ((List.length t3) + (List.length ((nthD (Ty.int IntKind.u8) b1 t4) :: (List.replicate 0 (0 : Int)))))) = true) then (kn (t3 ++ ((nthD (Ty.int IntKind.u8) b1 t4) :: (List.replicate 0 (0 : Int)))) (IntKind.wrap IntKind.i64 (t4 + (1 : Int))) b1) else none) else none) else (kx t3))
def F67l0 (K : Nat) : Nat → (List Int) → Int → (List Int) → ((List Int) → Option (ByteArray)) → Option (ByteArray)
  | 0, _, _, _, _ => none
  | k + 1, t3, t4, b1, kx => B67l0 K t3 t4 b1 (fun t3 t4 b1 => F67l0 K k t3 t4 b1 kx) kx
noncomputable def S67l0 (K : Nat) := loopStep (E67 K) A67 (lpK (RDen R67) K) (codeAt [1, 1, 0, 1, 2, 2] (cd Tryd.f67)) 0 T67l0 (fun s => resOut (E67 K) s R67 Tryd.f67.results.toList)
noncomputable def L67l0 (K : Nat) (t3 : (List Int)) (t4 : Int) (b1 : (List Int)) (kx : ((List Int) → Option (ByteArray))) : Option (ByteArray) := evLoop (S67l0 K) (fun y => kx y.1.1) K ((t3, (t4, ())), (b1, ()))
theorem S67l0_eq (K : Nat) (t3 : (List Int)) (t4 : Int) (b1 : (List Int)) (kn : _ → Option (ByteArray)) (kx : _ → Option (ByteArray)) : S67l0 K ((t3, (t4, ())), (b1, ())) kn kx = B67l0 K t3 t4 b1 (fun t3 t4 b1 => kn ((t3, (t4, ())), (b1, ()))) (fun y0 => kx ((y0, ()), ())) := by
  unfold B67l0; kernel_rfl
theorem F67l0_go (K : Nat) (kx : ((List Int) → Option (ByteArray))) : ∀ (n : Nat) (t3 : (List Int)) (t4 : Int) (b1 : (List Int)), evLoop (S67l0 K) (fun y => kx y.1.1) n ((t3, (t4, ())), (b1, ())) = F67l0 K n t3 t4 b1 kx := by
  intro n
  induction n with
  | zero => intros; rfl
  | succ n ih =>
    intros t3 t4 b1
    refine (S67l0_eq K t3 t4 b1 _ _).trans ?_
    have e : (fun t3 t4 b1 => evLoop (S67l0 K) (fun y => kx y.1.1) n ((t3, (t4, ())), (b1, ()))) = fun t3 t4 b1 => F67l0 K n t3 t4 b1 kx := by
      funext t3 t4 b1; exact ih t3 t4 b1
    rw [e]; rfl
theorem F67l0_eq (K : Nat) : F67l0 K K = L67l0 K := by
  funext t3 t4 b1 kx; exact (F67l0_go K kx K t3 t4 b1).symm
def F67 (K : Nat) (x0 : (List Int)) : Option (ByteArray) := (F67l0 K K [] (0 : Int) x0 (fun y0 => (some (mkStr y0))))
theorem F67_eq (K : Nat) (x0 : (List Int)) : evFn (E67 K) A67 P67 R67 (lpK (RDen R67) K) 17 Tryd.f67.results.toList (cd Tryd.f67) (x0, ()) = F67 K x0 := by
  unfold F67; rw [F67l0_eq K]; kernel_rfl
/- quietus/quietusref02.block -/
def T64l0 : LoopAnn := ⟨tm 23 [(3, (.vec (.int .u8)))] [], tm 23 [(3, (.vec (.int .u8)))] []⟩
def A64 : List (Nat × LoopAnn) := [(0, T64l0)]
noncomputable def E64 (K : Nat) : Env := mkEnv tyTab nfTab mpTab G64 [(65, ⟨P65, R65, fun x => F65 K x.1⟩), (67, ⟨P67, R67, fun x => F67 K x.1⟩)]
def B64l0 (K : Nat) (t3 : (List Int)) (kn : ((List Int) → Option ((List Int)))) (kx : ((List Int) → Option ((List Int)))) : Option ((List Int)) := (if ((ltI (((List.length t3) : Nat) : Int) (64 : Int)) = true) then (if ((room ((List.length t3) + (List.length ((0 : Int) :: (List.replicate 0 (0 : Int)))))) = true) then (kn (t3 ++ ((0 : Int) :: (List.replicate 0 (0 : Int))))) else none) else (kx t3))
def F64l0 (K : Nat) : Nat → (List Int) → ((List Int) → Option ((List Int))) → Option ((List Int))
  | 0, _, _ => none
  | k + 1, t3, kx => B64l0 K t3 (fun t3 => F64l0 K k t3 kx) kx
noncomputable def S64l0 (K : Nat) := loopStep (E64 K) A64 (lpK (RDen R64) K) (codeAt [1, 1, 1, 0, 2, 2] (cd Tryd.f64)) 0 T64l0 (fun s => resOut (E64 K) s R64 Tryd.f64.results.toList)
noncomputable def L64l0 (K : Nat) (t3 : (List Int)) (kx : ((List Int) → Option ((List Int)))) : Option ((List Int)) := evLoop (S64l0 K) (fun y => kx y.1.1) K ((t3, ()), ())
theorem S64l0_eq (K : Nat) (t3 : (List Int)) (kn : _ → Option ((List Int))) (kx : _ → Option ((List Int))) : S64l0 K ((t3, ()), ()) kn kx = B64l0 K t3 (fun t3 => kn ((t3, ()), ())) (fun y0 => kx ((y0, ()), ())) := by
  unfold B64l0; kernel_rfl
theorem F64l0_go (K : Nat) (kx : ((List Int) → Option ((List Int)))) : ∀ (n : Nat) (t3 : (List Int)), evLoop (S64l0 K) (fun y => kx y.1.1) n ((t3, ()), ()) = F64l0 K n t3 kx := by
  intro n
  induction n with
  | zero => intros; rfl
  | succ n ih =>
    intros t3
    refine (S64l0_eq K t3 _ _).trans ?_
    have e : (fun t3 => evLoop (S64l0 K) (fun y => kx y.1.1) n ((t3, ()), ())) = fun t3 => F64l0 K n t3 kx := by
      funext t3; exact ih t3
    rw [e]; rfl
theorem F64l0_eq (K : Nat) : F64l0 K K = L64l0 K := by
  funext t3 kx; exact (F64l0_go K kx K t3).symm
def F64 (K : Nat) (x0 : ByteArray) : Option ((List Int)) := (if ((ltI (64 : Int) (((ByteArray.size x0) : Nat) : Int)) = true) then ((F65 K (bytesOf x0)).bind fun y0 => ((F67 K y0).bind fun y1 => (F64l0 K K (bytesOf y1) (fun y2 => (some y2))))) else (F64l0 K K (bytesOf x0) (fun y0 => (some y0))))
theorem F64_eq (K : Nat) (x0 : ByteArray) : evFn (E64 K) A64 P64 R64 (lpK (RDen R64) K) 23 Tryd.f64.results.toList (cd Tryd.f64) (x0, ()) = F64 K x0 := by
  unfold F64; rw [F64l0_eq K]; kernel_rfl
/- quietus/quietusref02.with -/
def T66l0 : LoopAnn := ⟨tm 28 [(0, (.data (.list (.int .u8)))), (0, (.data (.int .u8))), (0, (.data .str)), (4, (.vec (.int .u8))), (0, (.data (.int .i64)))] [], tm 28 [(2, (.data .str)), (4, (.vec (.int .u8)))] []⟩
def A66 : List (Nat × LoopAnn) := [(0, T66l0)]
noncomputable def E66 (K : Nat) : Env := mkEnv tyTab nfTab mpTab G66 []
def B66l0 (K : Nat) (t0 : (List Int)) (t1 : Int) (t2 : ByteArray) (t7 : (List Int)) (t8 : Int) (kn : ((List Int) → Int → ByteArray → (List Int) → Int → Option ((List Int)))) (kx : (ByteArray → (List Int) → Option ((List Int)))) : Option ((List Int)) := (if ((ltI t8 (((List.length t0) : Nat) : Int)) = true) then (if ((inR t8 (((List.length t0) : Nat) : Int)) = true) then (if ((room ((List.length t7) + (List.length ((bitXor IntKind.u8 (nthD (Ty.int IntKind.u8) t0 t8) t1) :: (List.replicate 0 (0 : Int)))))) = true) then (kn t0 t1 t2 (t7 ++ ((bitXor IntKind.u8 (nthD (Ty.int IntKind.u8) t0 t8) t1) :: (List.replicate 0 (0 : Int)))) (IntKind.wrap IntKind.i64 (t8 + (1 : Int)))) else none) else none) else (kx t2 t7))
def F66l0 (K : Nat) : Nat → (List Int) → Int → ByteArray → (List Int) → Int → (ByteArray → (List Int) → Option ((List Int))) → Option ((List Int))
  | 0, _, _, _, _, _, _ => none
  | k + 1, t0, t1, t2, t7, t8, kx => B66l0 K t0 t1 t2 t7 t8 (fun t0 t1 t2 t7 t8 => F66l0 K k t0 t1 t2 t7 t8 kx) kx
noncomputable def S66l0 (K : Nat) := loopStep (E66 K) A66 (lpK (RDen R66) K) (codeAt [1, 1, 0, 1, 2, 2] (cd Tryd.f66)) 0 T66l0 (fun s => resOut (E66 K) s R66 Tryd.f66.results.toList)
noncomputable def L66l0 (K : Nat) (t0 : (List Int)) (t1 : Int) (t2 : ByteArray) (t7 : (List Int)) (t8 : Int) (kx : (ByteArray → (List Int) → Option ((List Int)))) : Option ((List Int)) := evLoop (S66l0 K) (fun y => kx y.1.1 y.1.2.1) K ((t0, (t1, (t2, (t7, (t8, ()))))), ())
theorem S66l0_eq (K : Nat) (t0 : (List Int)) (t1 : Int) (t2 : ByteArray) (t7 : (List Int)) (t8 : Int) (kn : _ → Option ((List Int))) (kx : _ → Option ((List Int))) : S66l0 K ((t0, (t1, (t2, (t7, (t8, ()))))), ()) kn kx = B66l0 K t0 t1 t2 t7 t8 (fun t0 t1 t2 t7 t8 => kn ((t0, (t1, (t2, (t7, (t8, ()))))), ())) (fun y0 y1 => kx ((y0, (y1, ())), ())) := by
  unfold B66l0; kernel_rfl
theorem F66l0_go (K : Nat) (kx : (ByteArray → (List Int) → Option ((List Int)))) : ∀ (n : Nat) (t0 : (List Int)) (t1 : Int) (t2 : ByteArray) (t7 : (List Int)) (t8 : Int), evLoop (S66l0 K) (fun y => kx y.1.1 y.1.2.1) n ((t0, (t1, (t2, (t7, (t8, ()))))), ()) = F66l0 K n t0 t1 t2 t7 t8 kx := by
  intro n
  induction n with
  | zero => intros; rfl
  | succ n ih =>
    intros t0 t1 t2 t7 t8
    refine (S66l0_eq K t0 t1 t2 t7 t8 _ _).trans ?_
    have e : (fun t0 t1 t2 t7 t8 => evLoop (S66l0 K) (fun y => kx y.1.1 y.1.2.1) n ((t0, (t1, (t2, (t7, (t8, ()))))), ())) = fun t0 t1 t2 t7 t8 => F66l0 K n t0 t1 t2 t7 t8 kx := by
      funext t0 t1 t2 t7 t8; exact ih t0 t1 t2 t7 t8
    rw [e]; rfl
theorem F66l0_eq (K : Nat) : F66l0 K K = L66l0 K := by
  funext t0 t1 t2 t7 t8 kx; exact (F66l0_go K kx K t0 t1 t2 t7 t8).symm
def F66 (K : Nat) (x0 : (List Int)) (x1 : Int) (x2 : ByteArray) : Option ((List Int)) := (F66l0 K K x0 x1 x2 [] (0 : Int) (fun y0 y1 => (if ((room ((List.length y1) + (List.length (bytesOf y0)))) = true) then (some (y1 ++ (bytesOf y0))) else none)))
theorem F66_eq (K : Nat) (x0 : (List Int)) (x1 : Int) (x2 : ByteArray) : evFn (E66 K) A66 P66 R66 (lpK (RDen R66) K) 28 Tryd.f66.results.toList (cd Tryd.f66) (x0, (x1, (x2, ()))) = F66 K x0 x1 x2 := by
  unfold F66; rw [F66l0_eq K]; kernel_rfl
/- quietus/quietusref02.Hmac -/
def A51 : List (Nat × LoopAnn) := []
noncomputable def E51 (K : Nat) : Env := mkEnv tyTab nfTab mpTab G51 [(64, ⟨P64, R64, fun x => F64 K x.1⟩), (66, ⟨P66, R66, fun x => F66 K x.1 x.2.1 x.2.2.1⟩), (65, ⟨P65, R65, fun x => F65 K x.1⟩), (67, ⟨P67, R67, fun x => F67 K x.1⟩)]
def F51 (K : Nat) (x0 : ByteArray) (x1 : ByteArray) : Option ((List Int)) := ((F64 K x0).bind fun y0 => ((F66 K y0 (54 : Int) x1).bind fun y1 => ((F65 K y1).bind fun y2 => ((F67 K y2).bind fun y3 => ((F66 K y0 (92 : Int) y3).bind fun y4 => ((F65 K y4).bind fun y5 => (some y5)))))))
theorem F51_eq (K : Nat) (x0 : ByteArray) (x1 : ByteArray) : evFn (E51 K) A51 P51 R51 (lpK (RDen R51) K) 18 Tryd.f51.results.toList (cd Tryd.f51) (x0, (x1, ())) = F51 K x0 x1 := by
  unfold F51; kernel_rfl
/- quietus/quietusref01.Int -/
def T53l0 : LoopAnn := ⟨tm 31 [(3, (.data (.int .u64))), (0, (.vec (.int .u8)))] [], tm 31 [(3, (.data (.int .u64))), (0, (.vec (.int .u8)))] []⟩
def A53 : List (Nat × LoopAnn) := [(0, T53l0)]
noncomputable def E53 (K : Nat) : Env := mkEnv tyTab nfTab mpTab G53 []
def B53l0 (K : Nat) (t3 : Int) (t4 : (List Int)) (kn : (Int → (List Int) → Option ((List Int)))) (kx : (Int → (List Int) → Option ((List Int)))) : Option ((List Int)) := (if ((leI (128 : Int) t3) = true) then (if ((room ((List.length t4) + (List.length ((IntKind.wrap IntKind.u8 ((IntKind.wrap IntKind.u8 (Int.tmod t3 (128 : Int))) + (128 : Int))) :: (List.replicate 0 (0 : Int)))))) = true) then (kn (IntKind.wrap IntKind.u64 (Int.tdiv t3 (128 : Int))) (t4 ++ ((IntKind.wrap IntKind.u8 ((IntKind.wrap IntKind.u8 (Int.tmod t3 (128 : Int))) + (128 : Int))) :: (List.replicate 0 (0 : Int))))) else none) else (kx t3 t4))
def F53l0 (K : Nat) : Nat → Int → (List Int) → (Int → (List Int) → Option ((List Int))) → Option ((List Int))
  | 0, _, _, _ => none
  | k + 1, t3, t4, kx => B53l0 K t3 t4 (fun t3 t4 => F53l0 K k t3 t4 kx) kx
noncomputable def S53l0 (K : Nat) := loopStep (E53 K) A53 (lpK (RDen R53) K) (codeAt [1, 1, 1, 1, 0, 2, 2] (cd Tryd.f53)) 0 T53l0 (fun s => resOut (E53 K) s R53 Tryd.f53.results.toList)
noncomputable def L53l0 (K : Nat) (t3 : Int) (t4 : (List Int)) (kx : (Int → (List Int) → Option ((List Int)))) : Option ((List Int)) := evLoop (S53l0 K) (fun y => kx y.1.1 y.1.2.1) K ((t3, (t4, ())), ())
theorem S53l0_eq (K : Nat) (t3 : Int) (t4 : (List Int)) (kn : _ → Option ((List Int))) (kx : _ → Option ((List Int))) : S53l0 K ((t3, (t4, ())), ()) kn kx = B53l0 K t3 t4 (fun t3 t4 => kn ((t3, (t4, ())), ())) (fun y0 y1 => kx ((y0, (y1, ())), ())) := by
  unfold B53l0; kernel_rfl
theorem F53l0_go (K : Nat) (kx : (Int → (List Int) → Option ((List Int)))) : ∀ (n : Nat) (t3 : Int) (t4 : (List Int)), evLoop (S53l0 K) (fun y => kx y.1.1 y.1.2.1) n ((t3, (t4, ())), ()) = F53l0 K n t3 t4 kx := by
  intro n
  induction n with
  | zero => intros; rfl
  | succ n ih =>
    intros t3 t4
    refine (S53l0_eq K t3 t4 _ _).trans ?_
    have e : (fun t3 t4 => evLoop (S53l0 K) (fun y => kx y.1.1 y.1.2.1) n ((t3, (t4, ())), ())) = fun t3 t4 => F53l0 K n t3 t4 kx := by
      funext t3 t4; exact ih t3 t4
    rw [e]; rfl
theorem F53l0_eq (K : Nat) : F53l0 K K = L53l0 K := by
  funext t3 t4 kx; exact (F53l0_go K kx K t3 t4).symm
def F53 (K : Nat) (x0 : Int) : Option ((List Int)) := (if ((ltI x0 (0 : Int)) = true) then (F53l0 K K (IntKind.wrap IntKind.u64 ((IntKind.wrap IntKind.u64 ((IntKind.wrap IntKind.u64 (IntKind.wrap IntKind.i64 ((-(1 : Int)) - x0))) * (2 : Int))) + (1 : Int))) [] (fun y0 y1 => (if ((room ((List.length y1) + (List.length ((IntKind.wrap IntKind.u8 y0) :: (List.replicate 0 (0 : Int)))))) = true) then (some (y1 ++ ((IntKind.wrap IntKind.u8 y0) :: (List.replicate 0 (0 : Int))))) else none))) else (F53l0 K K (IntKind.wrap IntKind.u64 ((IntKind.wrap IntKind.u64 x0) * (2 : Int))) [] (fun y0 y1 => (if ((room ((List.length y1) + (List.length ((IntKind.wrap IntKind.u8 y0) :: (List.replicate 0 (0 : Int)))))) = true) then (some (y1 ++ ((IntKind.wrap IntKind.u8 y0) :: (List.replicate 0 (0 : Int))))) else none))))
theorem F53_eq (K : Nat) (x0 : Int) : evFn (E53 K) A53 P53 R53 (lpK (RDen R53) K) 31 Tryd.f53.results.toList (cd Tryd.f53) (x0, ()) = F53 K x0 := by
  unfold F53; rw [F53l0_eq K]; kernel_rfl
/- quietus/quietusref01.Bytes -/
def A68 : List (Nat × LoopAnn) := []
noncomputable def E68 (K : Nat) : Env := mkEnv tyTab nfTab mpTab G68 [(53, ⟨P53, R53, fun x => F53 K x.1⟩)]
def F68 (K : Nat) (x0 : ByteArray) : Option ((List Int)) := ((F53 K (((ByteArray.size x0) : Nat) : Int)).bind fun y0 => (if ((room ((List.length y0) + (List.length (bytesOf x0)))) = true) then (some (y0 ++ (bytesOf x0))) else none))
theorem F68_eq (K : Nat) (x0 : ByteArray) : evFn (E68 K) A68 P68 R68 (lpK (RDen R68) K) 8 Tryd.f68.results.toList (cd Tryd.f68) (x0, ()) = F68 K x0 := by
  unfold F68; kernel_rfl
/- quietus/quietusref02.Message -/
def T52l0 : LoopAnn := ⟨tm 20 [(0, (.data (.list .str))), (2, (.vec (.int .u8))), (0, (.data (.int .i64)))] [], tm 20 [(3, (.vec (.int .u8)))] []⟩
def A52 : List (Nat × LoopAnn) := [(0, T52l0)]
noncomputable def E52 (K : Nat) : Env := mkEnv tyTab nfTab mpTab G52 [(68, ⟨P68, R68, fun x => F68 K x.1⟩)]
def B52l0 (K : Nat) (t0 : (List ByteArray)) (t3 : (List Int)) (t4 : Int) (kn : ((List ByteArray) → (List Int) → Int → Option (ByteArray))) (kx : ((List Int) → Option (ByteArray))) : Option (ByteArray) := (if ((ltI t4 (((List.length t0) : Nat) : Int)) = true) then (if ((inR t4 (((List.length t0) : Nat) : Int)) = true) then ((F68 K (nthD Ty.str t0 t4)).bind fun y0 => (if ((room ((List.length t3) + (List.length y0))) = true) then (kn t0 (t3 ++ y0) (IntKind.wrap IntKind.i64 (t4 + (1 : Int)))) else none)) else none) else (kx t3))
def F52l0 (K : Nat) : Nat → (List ByteArray) → (List Int) → Int → ((List Int) → Option (ByteArray)) → Option (ByteArray)
  | 0, _, _, _, _ => none
  | k + 1, t0, t3, t4, kx => B52l0 K t0 t3 t4 (fun t0 t3 t4 => F52l0 K k t0 t3 t4 kx) kx
noncomputable def S52l0 (K : Nat) := loopStep (E52 K) A52 (lpK (RDen R52) K) (codeAt [1, 1, 0, 1, 2, 2] (cd Tryd.f52)) 0 T52l0 (fun s => resOut (E52 K) s R52 Tryd.f52.results.toList)
noncomputable def L52l0 (K : Nat) (t0 : (List ByteArray)) (t3 : (List Int)) (t4 : Int) (kx : ((List Int) → Option (ByteArray))) : Option (ByteArray) := evLoop (S52l0 K) (fun y => kx y.1.1) K ((t0, (t3, (t4, ()))), ())
theorem S52l0_eq (K : Nat) (t0 : (List ByteArray)) (t3 : (List Int)) (t4 : Int) (kn : _ → Option (ByteArray)) (kx : _ → Option (ByteArray)) : S52l0 K ((t0, (t3, (t4, ()))), ()) kn kx = B52l0 K t0 t3 t4 (fun t0 t3 t4 => kn ((t0, (t3, (t4, ()))), ())) (fun y0 => kx ((y0, ()), ())) := by
  unfold B52l0; kernel_rfl
theorem F52l0_go (K : Nat) (kx : ((List Int) → Option (ByteArray))) : ∀ (n : Nat) (t0 : (List ByteArray)) (t3 : (List Int)) (t4 : Int), evLoop (S52l0 K) (fun y => kx y.1.1) n ((t0, (t3, (t4, ()))), ()) = F52l0 K n t0 t3 t4 kx := by
  intro n
  induction n with
  | zero => intros; rfl
  | succ n ih =>
    intros t0 t3 t4
    refine (S52l0_eq K t0 t3 t4 _ _).trans ?_
    have e : (fun t0 t3 t4 => evLoop (S52l0 K) (fun y => kx y.1.1) n ((t0, (t3, (t4, ()))), ())) = fun t0 t3 t4 => F52l0 K n t0 t3 t4 kx := by
      funext t0 t3 t4; exact ih t0 t3 t4
    rw [e]; rfl
theorem F52l0_eq (K : Nat) : F52l0 K K = L52l0 K := by
  funext t0 t3 t4 kx; exact (F52l0_go K kx K t0 t3 t4).symm
def F52 (K : Nat) (x0 : (List ByteArray)) : Option (ByteArray) := (F52l0 K K x0 [] (0 : Int) (fun y0 => (some (mkStr y0))))
theorem F52_eq (K : Nat) (x0 : (List ByteArray)) : evFn (E52 K) A52 P52 R52 (lpK (RDen R52) K) 20 Tryd.f52.results.toList (cd Tryd.f52) (x0, ()) = F52 K x0 := by
  unfold F52; rw [F52l0_eq K]; kernel_rfl
/- quietus/quietusref02.Mac -/
def T36l0 : LoopAnn := ⟨tm 23 [(4, (.ptr 4)), (0, (.ptr 5)), (0, (.ptr 6)), (0, (.data (.int .i64)))] [(4, (.arr 16 (.int .u8))), (0, (.arr 32 (.int .u8))), (0, (.arr 16 (.int .u8)))], tm 23 [(4, (.ptr 4)), (1, (.ptr 6))] [(4, (.arr 16 (.int .u8))), (1, (.arr 16 (.int .u8)))]⟩
def A36 : List (Nat × LoopAnn) := [(0, T36l0)]
noncomputable def E36 (K : Nat) : Env := mkEnv tyTab nfTab mpTab G36 [(52, ⟨P52, R52, fun x => F52 K x.1⟩), (51, ⟨P51, R51, fun x => F51 K x.1 x.2.1⟩)]
def B36l0 (K : Nat) (t7 : Int) (b4 : (List Int)) (b5 : (List Int)) (b6 : (List Int)) (kn : (Int → (List Int) → (List Int) → (List Int) → Option ((List Int)))) (kx : ((List Int) → (List Int) → Option ((List Int)))) : Option ((List Int)) := (if ((ltI t7 (16 : Int)) = true) then (if ((inR t7 ((32 : Nat) : Int)) = true) then (if ((inR t7 ((16 : Nat) : Int)) = true) then (kn (IntKind.wrap IntKind.i64 (t7 + (1 : Int))) b4 b5 (List.set b6 (Int.toNat t7) (nthD (Ty.int IntKind.u8) b5 t7))) else none) else none) else (kx b4 b6))
def F36l0 (K : Nat) : Nat → Int → (List Int) → (List Int) → (List Int) → ((List Int) → (List Int) → Option ((List Int))) → Option ((List Int))
  | 0, _, _, _, _, _ => none
  | k + 1, t7, b4, b5, b6, kx => B36l0 K t7 b4 b5 b6 (fun t7 b4 b5 b6 => F36l0 K k t7 b4 b5 b6 kx) kx
noncomputable def S36l0 (K : Nat) := loopStep (E36 K) A36 (lpK (RDen R36) K) (codeAt [1, 1, 1, 0, 1, 2, 2] (cd Tryd.f36)) 0 T36l0 (fun s => resOut (E36 K) s R36 Tryd.f36.results.toList)
noncomputable def L36l0 (K : Nat) (t7 : Int) (b4 : (List Int)) (b5 : (List Int)) (b6 : (List Int)) (kx : ((List Int) → (List Int) → Option ((List Int)))) : Option ((List Int)) := evLoop (S36l0 K) (fun y => kx y.2.1 y.2.2.1) K ((t7, ()), (b4, (b5, (b6, ()))))
theorem S36l0_eq (K : Nat) (t7 : Int) (b4 : (List Int)) (b5 : (List Int)) (b6 : (List Int)) (kn : _ → Option ((List Int))) (kx : _ → Option ((List Int))) : S36l0 K ((t7, ()), (b4, (b5, (b6, ())))) kn kx = B36l0 K t7 b4 b5 b6 (fun t7 b4 b5 b6 => kn ((t7, ()), (b4, (b5, (b6, ()))))) (fun y0 y1 => kx ((), (y0, (y1, ())))) := by
  unfold B36l0; kernel_rfl
theorem F36l0_go (K : Nat) (kx : ((List Int) → (List Int) → Option ((List Int)))) : ∀ (n : Nat) (t7 : Int) (b4 : (List Int)) (b5 : (List Int)) (b6 : (List Int)), evLoop (S36l0 K) (fun y => kx y.2.1 y.2.2.1) n ((t7, ()), (b4, (b5, (b6, ())))) = F36l0 K n t7 b4 b5 b6 kx := by
  intro n
  induction n with
  | zero => intros; rfl
  | succ n ih =>
    intros t7 b4 b5 b6
    refine (S36l0_eq K t7 b4 b5 b6 _ _).trans ?_
    have e : (fun t7 b4 b5 b6 => evLoop (S36l0 K) (fun y => kx y.2.1 y.2.2.1) n ((t7, ()), (b4, (b5, (b6, ()))))) = fun t7 b4 b5 b6 => F36l0 K n t7 b4 b5 b6 kx := by
      funext t7 b4 b5 b6; exact ih t7 b4 b5 b6
    rw [e]; rfl
theorem F36l0_eq (K : Nat) : F36l0 K K = L36l0 K := by
  funext t7 b4 b5 b6 kx; exact (F36l0_go K kx K t7 b4 b5 b6).symm
def F36 (K : Nat) (x0 : ByteArray) (x1 : (List ByteArray)) : Option ((List Int)) := ((F52 K x1).bind fun y0 => ((F51 K x0 y0).bind fun y1 => (F36l0 K K (0 : Int) (List.replicate 16 (0 : Int)) y1 (List.replicate 16 (0 : Int)) (fun y2 y3 => (some y3)))))
theorem F36_eq (K : Nat) (x0 : ByteArray) (x1 : (List ByteArray)) : evFn (E36 K) A36 P36 R36 (lpK (RDen R36) K) 23 Tryd.f36.results.toList (cd Tryd.f36) (x0, (x1, ())) = F36 K x0 x1 := by
  unfold F36; rw [F36l0_eq K]; kernel_rfl
/- quietus/quietusref30.texts -/
def T37l0 : LoopAnn := ⟨tm 21 [(0, (.data (.list (.int .i64)))), (2, (.vec .str)), (0, (.data (.int .i64)))] [], tm 21 [(3, (.vec .str))] []⟩
def A37 : List (Nat × LoopAnn) := [(0, T37l0)]
noncomputable def E37 (K : Nat) : Env := mkEnv tyTab nfTab mpTab G37 [(53, ⟨P53, R53, fun x => F53 K x.1⟩)]
def B37l0 (K : Nat) (t0 : (List Int)) (t3 : (List ByteArray)) (t4 : Int) (kn : ((List Int) → (List ByteArray) → Int → Option ((List ByteArray)))) (kx : ((List ByteArray) → Option ((List ByteArray)))) : Option ((List ByteArray)) := (if ((ltI t4 (((List.length t0) : Nat) : Int)) = true) then (if ((inR t4 (((List.length t0) : Nat) : Int)) = true) then ((F53 K (nthD (Ty.int IntKind.i64) t0 t4)).bind fun y0 => (if ((room ((List.length t3) + (List.length ((mkStr y0) :: (List.replicate 0 ByteArray.empty))))) = true) then (kn t0 (t3 ++ ((mkStr y0) :: (List.replicate 0 ByteArray.empty))) (IntKind.wrap IntKind.i64 (t4 + (1 : Int)))) else none)) else none) else (kx t3))
def F37l0 (K : Nat) : Nat → (List Int) → (List ByteArray) → Int → ((List ByteArray) → Option ((List ByteArray))) → Option ((List ByteArray))
  | 0, _, _, _, _ => none
  | k + 1, t0, t3, t4, kx => B37l0 K t0 t3 t4 (fun t0 t3 t4 => F37l0 K k t0 t3 t4 kx) kx
noncomputable def S37l0 (K : Nat) := loopStep (E37 K) A37 (lpK (RDen R37) K) (codeAt [1, 1, 0, 1, 2, 2] (cd Tryd.f37)) 0 T37l0 (fun s => resOut (E37 K) s R37 Tryd.f37.results.toList)
noncomputable def L37l0 (K : Nat) (t0 : (List Int)) (t3 : (List ByteArray)) (t4 : Int) (kx : ((List ByteArray) → Option ((List ByteArray)))) : Option ((List ByteArray)) := evLoop (S37l0 K) (fun y => kx y.1.1) K ((t0, (t3, (t4, ()))), ())
theorem S37l0_eq (K : Nat) (t0 : (List Int)) (t3 : (List ByteArray)) (t4 : Int) (kn : _ → Option ((List ByteArray))) (kx : _ → Option ((List ByteArray))) : S37l0 K ((t0, (t3, (t4, ()))), ()) kn kx = B37l0 K t0 t3 t4 (fun t0 t3 t4 => kn ((t0, (t3, (t4, ()))), ())) (fun y0 => kx ((y0, ()), ())) := by
  unfold B37l0; kernel_rfl
theorem F37l0_go (K : Nat) (kx : ((List ByteArray) → Option ((List ByteArray)))) : ∀ (n : Nat) (t0 : (List Int)) (t3 : (List ByteArray)) (t4 : Int), evLoop (S37l0 K) (fun y => kx y.1.1) n ((t0, (t3, (t4, ()))), ()) = F37l0 K n t0 t3 t4 kx := by
  intro n
  induction n with
  | zero => intros; rfl
  | succ n ih =>
    intros t0 t3 t4
    refine (S37l0_eq K t0 t3 t4 _ _).trans ?_
    have e : (fun t0 t3 t4 => evLoop (S37l0 K) (fun y => kx y.1.1) n ((t0, (t3, (t4, ()))), ())) = fun t0 t3 t4 => F37l0 K n t0 t3 t4 kx := by
      funext t0 t3 t4; exact ih t0 t3 t4
    rw [e]; rfl
theorem F37l0_eq (K : Nat) : F37l0 K K = L37l0 K := by
  funext t0 t3 t4 kx; exact (F37l0_go K kx K t0 t3 t4).symm
def F37 (K : Nat) (x0 : (List Int)) : Option ((List ByteArray)) := (F37l0 K K x0 [] (0 : Int) (fun y0 => (some y0)))
theorem F37_eq (K : Nat) (x0 : (List Int)) : evFn (E37 K) A37 P37 R37 (lpK (RDen R37) K) 21 Tryd.f37.results.toList (cd Tryd.f37) (x0, ()) = F37 K x0 := by
  unfold F37; rw [F37l0_eq K]; kernel_rfl
/- quietus/quietusref30.flag -/
def A38 : List (Nat × LoopAnn) := []
noncomputable def E38 (K : Nat) : Env := mkEnv tyTab nfTab mpTab G38 []
def F38 (K : Nat) (x0 : Bool) : Option (Int) := (if (x0 = true) then (some (1 : Int)) else (some (0 : Int)))
theorem F38_eq (K : Nat) (x0 : Bool) : evFn (E38 K) A38 P38 R38 (lpK (RDen R38) K) 4 Tryd.f38.results.toList (cd Tryd.f38) (x0, ()) = F38 K x0 := by
  unfold F38; kernel_rfl
/- quietus/quietusref30.Seal -/
def A13 : List (Nat × LoopAnn) := []
noncomputable def E13 (K : Nat) : Env := mkEnv tyTab nfTab mpTab G13 [(20, ⟨P20, R20, fun x => F20 K x.1⟩), (31, ⟨P31, R31, fun x => F31 K x.1 x.2.1⟩), (38, ⟨P38, R38, fun x => F38 K x.1⟩), (37, ⟨P37, R37, fun x => F37 K x.1⟩), (36, ⟨P36, R36, fun x => F36 K x.1 x.2.1⟩)]
def F13 (K : Nat) (x0 : ((List Int) × ((List ByteArray) × (Int × Int)))) (x1 : (Int × (Int × (Int × (Int × (List (Int × (Int × (Bool × (List Int)))))))))) (x2 : Int) (x3 : Int) (x4 : Bool) : Option (((List Int) × Int)) := ((F20 K (x0.1, (x0.2.1, (x0.2.2.1, x0.2.2.2)))).bind fun y0 => (if ((!(eqI y0 (0 : Int))) = true) then (some ((List.replicate 16 (0 : Int)), y0)) else ((F31 K (x0.1, (x0.2.1, (x0.2.2.1, x0.2.2.2))) x2).bind fun y1 => (if ((ltI y1 (0 : Int)) = true) then (some ((List.replicate 16 (0 : Int)), (19 : Int))) else (if ((inR y1 (((List.length x0.2.1) : Nat) : Int)) = true) then ((F38 K x4).bind fun y2 => ((F37 K ((150 : Int) :: x1.1 :: x1.2.1 :: x1.2.2.1 :: x1.2.2.2.1 :: x2 :: x3 :: y2 :: (List.replicate 0 (0 : Int)))).bind fun y3 => ((F36 K (nthD Ty.str x0.2.1 y1) y3).bind fun y4 => (some (y4, (0 : Int)))))) else none)))))
theorem F13_eq (K : Nat) (x0 : ((List Int) × ((List ByteArray) × (Int × Int)))) (x1 : (Int × (Int × (Int × (Int × (List (Int × (Int × (Bool × (List Int)))))))))) (x2 : Int) (x3 : Int) (x4 : Bool) : evFn (E13 K) A13 P13 R13 (lpK (RDen R13) K) 46 Tryd.f13.results.toList (cd Tryd.f13) (x0, (x1, (x2, (x3, (x4, ()))))) = F13 K x0 x1 x2 x3 x4 := by
  unfold F13; kernel_rfl
/- quietus/quietusref30.wrong -/
def T41l0 : LoopAnn := ⟨tm 74 [(3, (.ptr 3)), (0, (.ptr 4)), (0, (.ptr 5)), (1, (.data (.int .i64)))] [(3, (.pair (.list (.int .i64)) (.pair (.list .str) (.pair (.int .i64) (.int .i64))))), (0, (.pair (.int .i64) (.pair (.int .i64) (.pair (.int .i64) (.pair (.int .i64) (.list (.pair (.int .i64) (.pair (.int .i64) (.pair .bool (.arr 16 (.int .u8))))))))))), (0, (.pair (.int .i64) (.pair (.int .i64) (.pair .bool (.arr 16 (.int .u8))))))], tm 74 [(3, (.ptr 3)), (0, (.ptr 4)), (0, (.ptr 5))] [(3, (.pair (.list (.int .i64)) (.pair (.list .str) (.pair (.int .i64) (.int .i64))))), (0, (.pair (.int .i64) (.pair (.int .i64) (.pair (.int .i64) (.pair (.int .i64) (.list (.pair (.int .i64) (.pair (.int .i64) (.pair .bool (.arr 16 (.int .u8))))))))))), (0, (.pair (.int .i64) (.pair (.int .i64) (.pair .bool (.arr 16 (.int .u8))))))]⟩
def A41 : List (Nat × LoopAnn) := [(0, T41l0)]
noncomputable def E41 (K : Nat) : Env := mkEnv tyTab nfTab mpTab G41 [(31, ⟨P31, R31, fun x => F31 K x.1 x.2.1⟩), (13, ⟨P13, R13, fun x => F13 K x.1 x.2.1 x.2.2.1 x.2.2.2.1 x.2.2.2.2.1⟩)]
def B41l0 (K : Nat) (t7 : Int) (b3 : ((List Int) × ((List ByteArray) × (Int × Int)))) (b4 : (Int × (Int × (Int × (Int × (List (Int × (Int × (Bool × (List Int)))))))))) (b5 : (Int × (Int × (Bool × (List Int))))) (kn : (Int → ((List Int) × ((List ByteArray) × (Int × Int))) → (Int × (Int × (Int × (Int × (List (Int × (Int × (Bool × (List Int))))))))) → (Int × (Int × (Bool × (List Int)))) → Option (Int))) (kx : (((List Int) × ((List ByteArray) × (Int × Int))) → (Int × (Int × (Int × (Int × (List (Int × (Int × (Bool × (List Int))))))))) → (Int × (Int × (Bool × (List Int)))) → Option (Int))) : Option (Int) := (if ((ltI t7 (((List.length b4.2.2.2.2) : Nat) : Int)) = true) then (if ((inR t7 (((List.length b4.2.2.2.2) : Nat) : Int)) = true) then (if ((eqI (nthD (Ty.pair (Ty.int IntKind.i64) (Ty.pair (Ty.int IntKind.i64) (Ty.pair Ty.bool (Ty.arr 16 (Ty.int IntKind.u8))))) b4.2.2.2.2 t7).1 b5.1) = true) then (some (9 : Int)) else (kn (IntKind.wrap IntKind.i64 (t7 + (1 : Int))) (b3.1, (b3.2.1, (b3.2.2.1, b3.2.2.2))) (b4.1, (b4.2.1, (b4.2.2.1, (b4.2.2.2.1, b4.2.2.2.2)))) (b5.1, (b5.2.1, (b5.2.2.1, b5.2.2.2))))) else none) else (kx (b3.1, (b3.2.1, (b3.2.2.1, b3.2.2.2))) (b4.1, (b4.2.1, (b4.2.2.1, (b4.2.2.2.1, b4.2.2.2.2)))) (b5.1, (b5.2.1, (b5.2.2.1, b5.2.2.2)))))
def F41l0 (K : Nat) : Nat → Int → ((List Int) × ((List ByteArray) × (Int × Int))) → (Int × (Int × (Int × (Int × (List (Int × (Int × (Bool × (List Int))))))))) → (Int × (Int × (Bool × (List Int)))) → (((List Int) × ((List ByteArray) × (Int × Int))) → (Int × (Int × (Int × (Int × (List (Int × (Int × (Bool × (List Int))))))))) → (Int × (Int × (Bool × (List Int)))) → Option (Int)) → Option (Int)
  | 0, _, _, _, _, _ => none
  | k + 1, t7, b3, b4, b5, kx => B41l0 K t7 b3 b4 b5 (fun t7 b3 b4 b5 => F41l0 K k t7 b3 b4 b5 kx) kx
noncomputable def S41l0 (K : Nat) := loopStep (E41 K) A41 (lpK (RDen R41) K) (codeAt [1, 1, 0, 1, 2, 2] (cd Tryd.f41)) 0 T41l0 (fun s => resOut (E41 K) s R41 Tryd.f41.results.toList)
noncomputable def L41l0 (K : Nat) (t7 : Int) (b3 : ((List Int) × ((List ByteArray) × (Int × Int)))) (b4 : (Int × (Int × (Int × (Int × (List (Int × (Int × (Bool × (List Int)))))))))) (b5 : (Int × (Int × (Bool × (List Int))))) (kx : (((List Int) × ((List ByteArray) × (Int × Int))) → (Int × (Int × (Int × (Int × (List (Int × (Int × (Bool × (List Int))))))))) → (Int × (Int × (Bool × (List Int)))) → Option (Int))) : Option (Int) := evLoop (S41l0 K) (fun y => kx y.2.1 y.2.2.1 y.2.2.2.1) K ((t7, ()), (b3, (b4, (b5, ()))))
theorem S41l0_eq (K : Nat) (t7 : Int) (b3 : ((List Int) × ((List ByteArray) × (Int × Int)))) (b4 : (Int × (Int × (Int × (Int × (List (Int × (Int × (Bool × (List Int)))))))))) (b5 : (Int × (Int × (Bool × (List Int))))) (kn : _ → Option (Int)) (kx : _ → Option (Int)) : S41l0 K ((t7, ()), (b3, (b4, (b5, ())))) kn kx = B41l0 K t7 b3 b4 b5 (fun t7 b3 b4 b5 => kn ((t7, ()), (b3, (b4, (b5, ()))))) (fun y0 y1 y2 => kx ((), (y0, (y1, (y2, ()))))) := by
  unfold B41l0; kernel_rfl
theorem F41l0_go (K : Nat) (kx : (((List Int) × ((List ByteArray) × (Int × Int))) → (Int × (Int × (Int × (Int × (List (Int × (Int × (Bool × (List Int))))))))) → (Int × (Int × (Bool × (List Int)))) → Option (Int))) : ∀ (n : Nat) (t7 : Int) (b3 : ((List Int) × ((List ByteArray) × (Int × Int)))) (b4 : (Int × (Int × (Int × (Int × (List (Int × (Int × (Bool × (List Int)))))))))) (b5 : (Int × (Int × (Bool × (List Int))))), evLoop (S41l0 K) (fun y => kx y.2.1 y.2.2.1 y.2.2.2.1) n ((t7, ()), (b3, (b4, (b5, ())))) = F41l0 K n t7 b3 b4 b5 kx := by
  intro n
  induction n with
  | zero => intros; rfl
  | succ n ih =>
    intros t7 b3 b4 b5
    refine (S41l0_eq K t7 b3 b4 b5 _ _).trans ?_
    have e : (fun t7 b3 b4 b5 => evLoop (S41l0 K) (fun y => kx y.2.1 y.2.2.1 y.2.2.2.1) n ((t7, ()), (b3, (b4, (b5, ()))))) = fun t7 b3 b4 b5 => F41l0 K n t7 b3 b4 b5 kx := by
      funext t7 b3 b4 b5; exact ih t7 b3 b4 b5
    rw [e]; rfl
theorem F41l0_eq (K : Nat) : F41l0 K K = L41l0 K := by
  funext t7 b3 b4 b5 kx; exact (F41l0_go K kx K t7 b3 b4 b5).symm
def F41 (K : Nat) (x0 : ((List Int) × ((List ByteArray) × (Int × Int)))) (x1 : (Int × (Int × (Int × (Int × (List (Int × (Int × (Bool × (List Int)))))))))) (x2 : (Int × (Int × (Bool × (List Int))))) : Option (Int) := ((F31 K (x0.1, (x0.2.1, (x0.2.2.1, x0.2.2.2))) x2.1).bind fun y0 => (if ((ltI y0 (0 : Int)) = true) then (some (19 : Int)) else (F41l0 K K (0 : Int) (x0.1, (x0.2.1, (x0.2.2.1, x0.2.2.2))) (x1.1, (x1.2.1, (x1.2.2.1, (x1.2.2.2.1, x1.2.2.2.2)))) (x2.1, (x2.2.1, (x2.2.2.1, x2.2.2.2))) (fun y1 y2 y3 => (if ((ltI y2.2.1 y3.2.1) = true) then (some (18 : Int)) else (if ((ltI y3.2.1 y2.2.2.2.1) = true) then (some (15 : Int)) else (if ((ltI (0 : Int) (((List.length y2.2.2.2.2) : Nat) : Int)) = true) then (if ((inR (IntKind.wrap IntKind.i64 ((((List.length y2.2.2.2.2) : Nat) : Int) - (1 : Int))) (((List.length y2.2.2.2.2) : Nat) : Int)) = true) then (if ((ltI y3.2.1 (nthD (Ty.pair (Ty.int IntKind.i64) (Ty.pair (Ty.int IntKind.i64) (Ty.pair Ty.bool (Ty.arr 16 (Ty.int IntKind.u8))))) y2.2.2.2.2 (IntKind.wrap IntKind.i64 ((((List.length y2.2.2.2.2) : Nat) : Int) - (1 : Int)))).2.1) = true) then (some (15 : Int)) else ((F13 K (y1.1, (y1.2.1, (y1.2.2.1, y1.2.2.2))) (y2.1, (y2.2.1, (y2.2.2.1, (y2.2.2.2.1, y2.2.2.2.2)))) y3.1 y3.2.1 y3.2.2.1).bind fun y4 => (if ((!(Ty.beq (Ty.arr 16 (Ty.int IntKind.u8)) y3.2.2.2 y4.1)) = true) then (some (16 : Int)) else (some (0 : Int))))) else none) else ((F13 K (y1.1, (y1.2.1, (y1.2.2.1, y1.2.2.2))) (y2.1, (y2.2.1, (y2.2.2.1, (y2.2.2.2.1, y2.2.2.2.2)))) y3.1 y3.2.1 y3.2.2.1).bind fun y4 => (if ((!(Ty.beq (Ty.arr 16 (Ty.int IntKind.u8)) y3.2.2.2 y4.1)) = true) then (some (16 : Int)) else (some (0 : Int)))))))))))
theorem F41_eq (K : Nat) (x0 : ((List Int) × ((List ByteArray) × (Int × Int)))) (x1 : (Int × (Int × (Int × (Int × (List (Int × (Int × (Bool × (List Int)))))))))) (x2 : (Int × (Int × (Bool × (List Int))))) : evFn (E41 K) A41 P41 R41 (lpK (RDen R41) K) 74 Tryd.f41.results.toList (cd Tryd.f41) (x0, (x1, (x2, ()))) = F41 K x0 x1 x2 := by
  unfold F41; rw [F41l0_eq K]; kernel_rfl
/- quietus/quietusref30.framed -/
def A44 : List (Nat × LoopAnn) := []
noncomputable def E44 (K : Nat) : Env := mkEnv tyTab nfTab mpTab G44 []
def F44 (K : Nat) (x0 : ((List Int) × ((List ByteArray) × (Int × Int)))) (x1 : (Int × (Int × (Int × (Int × (List (Int × (Int × (Bool × (List Int)))))))))) : Option (Bool) := (if ((ltI x1.1 (0 : Int)) = true) then (some Bool.false) else (if ((ltI (1099511627776 : Int) x1.1) = true) then (some Bool.false) else (if ((ltI x1.2.2.2.1 (0 : Int)) = true) then (some Bool.false) else (if ((ltI x1.2.1 x1.2.2.2.1) = true) then (some Bool.false) else (if ((leI x1.2.2.1 x1.2.1) = true) then (some Bool.false) else (if ((ltI (1000000 : Int) x1.2.2.1) = true) then (some Bool.false) else (some (leI x1.2.2.1 (IntKind.wrap IntKind.i64 (x1.2.1 + x0.2.2.2))))))))))
theorem F44_eq (K : Nat) (x0 : ((List Int) × ((List ByteArray) × (Int × Int)))) (x1 : (Int × (Int × (Int × (Int × (List (Int × (Int × (Bool × (List Int)))))))))) : evFn (E44 K) A44 P44 R44 (lpK (RDen R44) K) 45 Tryd.f44.results.toList (cd Tryd.f44) (x0, (x1, ())) = F44 K x0 x1 := by
  unfold F44; kernel_rfl
/- quietus/quietusref30.Right -/
def T22l0 : LoopAnn := ⟨tm 43 [(2, (.ptr 2)), (0, (.ptr 3)), (3, (.data (.int .i64)))] [(2, (.pair (.list (.int .i64)) (.pair (.list .str) (.pair (.int .i64) (.int .i64))))), (0, (.pair (.int .i64) (.pair (.int .i64) (.pair (.int .i64) (.pair (.int .i64) (.list (.pair (.int .i64) (.pair (.int .i64) (.pair .bool (.arr 16 (.int .u8)))))))))))], tm 43 [] []⟩
def A22 : List (Nat × LoopAnn) := [(0, T22l0)]
noncomputable def E22 (K : Nat) : Env := mkEnv tyTab nfTab mpTab G22 [(20, ⟨P20, R20, fun x => F20 K x.1⟩), (44, ⟨P44, R44, fun x => F44 K x.1 x.2.1⟩), (41, ⟨P41, R41, fun x => F41 K x.1 x.2.1 x.2.2.1⟩)]
def B22l0 (K : Nat) (t7 : Int) (b2 : ((List Int) × ((List ByteArray) × (Int × Int)))) (b3 : (Int × (Int × (Int × (Int × (List (Int × (Int × (Bool × (List Int)))))))))) (kn : (Int → ((List Int) × ((List ByteArray) × (Int × Int))) → (Int × (Int × (Int × (Int × (List (Int × (Int × (Bool × (List Int))))))))) → Option (Bool))) (kx : Option (Bool)) : Option (Bool) := (if ((ltI t7 (((List.length b3.2.2.2.2) : Nat) : Int)) = true) then (if ((inB (0 : Int) t7 (((List.length b3.2.2.2.2) : Nat) : Int)) = true) then (if ((inR t7 (((List.length b3.2.2.2.2) : Nat) : Int)) = true) then ((F41 K (b2.1, (b2.2.1, (b2.2.2.1, b2.2.2.2))) (b3.1, (b3.2.1, (b3.2.2.1, (b3.2.2.2.1, (cut b3.2.2.2.2 (0 : Int) t7))))) ((nthD (Ty.pair (Ty.int IntKind.i64) (Ty.pair (Ty.int IntKind.i64) (Ty.pair Ty.bool (Ty.arr 16 (Ty.int IntKind.u8))))) b3.2.2.2.2 t7).1, ((nthD (Ty.pair (Ty.int IntKind.i64) (Ty.pair (Ty.int IntKind.i64) (Ty.pair Ty.bool (Ty.arr 16 (Ty.int IntKind.u8))))) b3.2.2.2.2 t7).2.1, ((nthD (Ty.pair (Ty.int IntKind.i64) (Ty.pair (Ty.int IntKind.i64) (Ty.pair Ty.bool (Ty.arr 16 (Ty.int IntKind.u8))))) b3.2.2.2.2 t7).2.2.1, (nthD (Ty.pair (Ty.int IntKind.i64) (Ty.pair (Ty.int IntKind.i64) (Ty.pair Ty.bool (Ty.arr 16 (Ty.int IntKind.u8))))) b3.2.2.2.2 t7).2.2.2)))).bind fun y0 => (if ((!(eqI y0 (0 : Int))) = true) then (some Bool.false) else (kn (IntKind.wrap IntKind.i64 (t7 + (1 : Int))) (b2.1, (b2.2.1, (b2.2.2.1, b2.2.2.2))) (b3.1, (b3.2.1, (b3.2.2.1, (b3.2.2.2.1, b3.2.2.2.2))))))) else none) else none) else kx)
def F22l0 (K : Nat) : Nat → Int → ((List Int) × ((List ByteArray) × (Int × Int))) → (Int × (Int × (Int × (Int × (List (Int × (Int × (Bool × (List Int))))))))) → Option (Bool) → Option (Bool)
  | 0, _, _, _, _ => none
  | k + 1, t7, b2, b3, kx => B22l0 K t7 b2 b3 (fun t7 b2 b3 => F22l0 K k t7 b2 b3 kx) kx
noncomputable def S22l0 (K : Nat) := loopStep (E22 K) A22 (lpK (RDen R22) K) (codeAt [1, 1, 1, 1, 0, 1, 2, 2] (cd Tryd.f22)) 0 T22l0 (fun s => resOut (E22 K) s R22 Tryd.f22.results.toList)
noncomputable def L22l0 (K : Nat) (t7 : Int) (b2 : ((List Int) × ((List ByteArray) × (Int × Int)))) (b3 : (Int × (Int × (Int × (Int × (List (Int × (Int × (Bool × (List Int)))))))))) (kx : Option (Bool)) : Option (Bool) := evLoop (S22l0 K) (fun _ => kx) K ((t7, ()), (b2, (b3, ())))
theorem S22l0_eq (K : Nat) (t7 : Int) (b2 : ((List Int) × ((List ByteArray) × (Int × Int)))) (b3 : (Int × (Int × (Int × (Int × (List (Int × (Int × (Bool × (List Int)))))))))) (kn : _ → Option (Bool)) (kx : _ → Option (Bool)) : S22l0 K ((t7, ()), (b2, (b3, ()))) kn kx = B22l0 K t7 b2 b3 (fun t7 b2 b3 => kn ((t7, ()), (b2, (b3, ())))) (kx ((), ())) := by
  unfold B22l0; kernel_rfl
theorem F22l0_go (K : Nat) (kx : Option (Bool)) : ∀ (n : Nat) (t7 : Int) (b2 : ((List Int) × ((List ByteArray) × (Int × Int)))) (b3 : (Int × (Int × (Int × (Int × (List (Int × (Int × (Bool × (List Int)))))))))), evLoop (S22l0 K) (fun _ => kx) n ((t7, ()), (b2, (b3, ()))) = F22l0 K n t7 b2 b3 kx := by
  intro n
  induction n with
  | zero => intros; rfl
  | succ n ih =>
    intros t7 b2 b3
    refine (S22l0_eq K t7 b2 b3 _ _).trans ?_
    have e : (fun t7 b2 b3 => evLoop (S22l0 K) (fun _ => kx) n ((t7, ()), (b2, (b3, ())))) = fun t7 b2 b3 => F22l0 K n t7 b2 b3 kx := by
      funext t7 b2 b3; exact ih t7 b2 b3
    rw [e]; rfl
theorem F22l0_eq (K : Nat) : F22l0 K K = L22l0 K := by
  funext t7 b2 b3 kx; exact (F22l0_go K kx K t7 b2 b3).symm
def F22 (K : Nat) (x0 : ((List Int) × ((List ByteArray) × (Int × Int)))) (x1 : (Int × (Int × (Int × (Int × (List (Int × (Int × (Bool × (List Int)))))))))) : Option (Bool) := ((F20 K (x0.1, (x0.2.1, (x0.2.2.1, x0.2.2.2)))).bind fun y0 => ((F44 K (x0.1, (x0.2.1, (x0.2.2.1, x0.2.2.2))) (x1.1, (x1.2.1, (x1.2.2.1, (x1.2.2.2.1, x1.2.2.2.2))))).bind fun y1 => (if ((!(eqI y0 (0 : Int))) = true) then (some Bool.false) else (if ((!y1) = true) then (some Bool.false) else (F22l0 K K (0 : Int) (x0.1, (x0.2.1, (x0.2.2.1, x0.2.2.2))) (x1.1, (x1.2.1, (x1.2.2.1, (x1.2.2.2.1, x1.2.2.2.2)))) (some true))))))
theorem F22_eq (K : Nat) (x0 : ((List Int) × ((List ByteArray) × (Int × Int)))) (x1 : (Int × (Int × (Int × (Int × (List (Int × (Int × (Bool × (List Int)))))))))) : evFn (E22 K) A22 P22 R22 (lpK (RDen R22) K) 43 Tryd.f22.results.toList (cd Tryd.f22) (x0, (x1, ())) = F22 K x0 x1 := by
  unfold F22; rw [F22l0_eq K]; kernel_rfl
/- quietus/quietusref30.Open -/
def A11 : List (Nat × LoopAnn) := []
noncomputable def E11 (K : Nat) : Env := mkEnv tyTab nfTab mpTab G11 [(20, ⟨P20, R20, fun x => F20 K x.1⟩), (22, ⟨P22, R22, fun x => F22 K x.1 x.2.1⟩)]
def F11 (K : Nat) (x0 : ((List Int) × ((List ByteArray) × (Int × Int)))) (x1 : Int) (x2 : Int) (x3 : Int) (x4 : Int) : Option (((Int × (Int × (Int × (Int × (List (Int × (Int × (Bool × (List Int))))))))) × Int)) := ((F20 K (x0.1, (x0.2.1, (x0.2.2.1, x0.2.2.2)))).bind fun y0 => (if ((!(eqI y0 (0 : Int))) = true) then (some (((0 : Int), ((0 : Int), ((0 : Int), ((0 : Int), [])))), y0)) else (if ((ltI x2 x4) = true) then (some (((0 : Int), ((0 : Int), ((0 : Int), ((0 : Int), [])))), (18 : Int))) else ((F22 K (x0.1, (x0.2.1, (x0.2.2.1, x0.2.2.2))) (x1, (x2, (x3, (x4, []))))).bind fun y1 => (if ((!y1) = true) then (some (((0 : Int), ((0 : Int), ((0 : Int), ((0 : Int), [])))), (3 : Int))) else (some ((x1, (x2, (x3, (x4, [])))), (0 : Int))))))))
theorem F11_eq (K : Nat) (x0 : ((List Int) × ((List ByteArray) × (Int × Int)))) (x1 : Int) (x2 : Int) (x3 : Int) (x4 : Int) : evFn (E11 K) A11 P11 R11 (lpK (RDen R11) K) 37 Tryd.f11.results.toList (cd Tryd.f11) (x0, (x1, (x2, (x3, (x4, ()))))) = F11 K x0 x1 x2 x3 x4 := by
  unfold F11; kernel_rfl
/- quietus/quietusref30.Vote -/
def A15 : List (Nat × LoopAnn) := []
noncomputable def E15 (K : Nat) : Env := mkEnv tyTab nfTab mpTab G15 [(20, ⟨P20, R20, fun x => F20 K x.1⟩), (22, ⟨P22, R22, fun x => F22 K x.1 x.2.1⟩), (41, ⟨P41, R41, fun x => F41 K x.1 x.2.1 x.2.2.1⟩)]
def F15 (K : Nat) (x0 : ((List Int) × ((List ByteArray) × (Int × Int)))) (x1 : (Int × (Int × (Int × (Int × (List (Int × (Int × (Bool × (List Int)))))))))) (x2 : (Int × (Int × (Bool × (List Int))))) : Option (((Int × (Int × (Int × (Int × (List (Int × (Int × (Bool × (List Int))))))))) × Int)) := ((F20 K (x0.1, (x0.2.1, (x0.2.2.1, x0.2.2.2)))).bind fun y0 => (if ((!(eqI y0 (0 : Int))) = true) then (some ((x1.1, (x1.2.1, (x1.2.2.1, (x1.2.2.2.1, x1.2.2.2.2)))), y0)) else ((F22 K (x0.1, (x0.2.1, (x0.2.2.1, x0.2.2.2))) (x1.1, (x1.2.1, (x1.2.2.1, (x1.2.2.2.1, x1.2.2.2.2))))).bind fun y1 => (if ((!y1) = true) then (some ((x1.1, (x1.2.1, (x1.2.2.1, (x1.2.2.2.1, x1.2.2.2.2)))), (1 : Int))) else ((F41 K (x0.1, (x0.2.1, (x0.2.2.1, x0.2.2.2))) (x1.1, (x1.2.1, (x1.2.2.1, (x1.2.2.2.1, x1.2.2.2.2)))) (x2.1, (x2.2.1, (x2.2.2.1, x2.2.2.2)))).bind fun y2 => (if ((!(eqI y2 (0 : Int))) = true) then (some ((x1.1, (x1.2.1, (x1.2.2.1, (x1.2.2.2.1, x1.2.2.2.2)))), y2)) else (if ((room ((List.length (List.replicate 0 ((0 : Int), ((0 : Int), (Bool.false, (List.replicate 16 (0 : Int))))))) + (List.length x1.2.2.2.2))) = true) then (if ((room ((List.length ((List.replicate 0 ((0 : Int), ((0 : Int), (Bool.false, (List.replicate 16 (0 : Int)))))) ++ x1.2.2.2.2)) + (List.length ((x2.1, (x2.2.1, (x2.2.2.1, x2.2.2.2))) :: (List.replicate 0 ((0 : Int), ((0 : Int), (Bool.false, (List.replicate 16 (0 : Int)))))))))) = true) then (some ((x1.1, (x1.2.1, (x1.2.2.1, (x1.2.2.2.1, (((List.replicate 0 ((0 : Int), ((0 : Int), (Bool.false, (List.replicate 16 (0 : Int)))))) ++ x1.2.2.2.2) ++ ((x2.1, (x2.2.1, (x2.2.2.1, x2.2.2.2))) :: (List.replicate 0 ((0 : Int), ((0 : Int), (Bool.false, (List.replicate 16 (0 : Int)))))))))))), (0 : Int))) else none) else none)))))))
theorem F15_eq (K : Nat) (x0 : ((List Int) × ((List ByteArray) × (Int × Int)))) (x1 : (Int × (Int × (Int × (Int × (List (Int × (Int × (Bool × (List Int)))))))))) (x2 : (Int × (Int × (Bool × (List Int))))) : evFn (E15 K) A15 P15 R15 (lpK (RDen R15) K) 44 Tryd.f15.results.toList (cd Tryd.f15) (x0, (x1, (x2, ()))) = F15 K x0 x1 x2 := by
  unfold F15; kernel_rfl
/- quietus/quietusref30.Yes -/
def T24l0 : LoopAnn := ⟨tm 22 [(1, (.ptr 1)), (1, (.data (.int .i64))), (0, (.data (.int .i64)))] [(1, (.pair (.int .i64) (.pair (.int .i64) (.pair (.int .i64) (.pair (.int .i64) (.list (.pair (.int .i64) (.pair (.int .i64) (.pair .bool (.arr 16 (.int .u8)))))))))))], tm 22 [(3, (.data (.int .i64)))] []⟩
def A24 : List (Nat × LoopAnn) := [(0, T24l0)]
noncomputable def E24 (K : Nat) : Env := mkEnv tyTab nfTab mpTab G24 [(38, ⟨P38, R38, fun x => F38 K x.1⟩)]
def B24l0 (K : Nat) (t3 : Int) (t4 : Int) (b1 : (Int × (Int × (Int × (Int × (List (Int × (Int × (Bool × (List Int)))))))))) (kn : (Int → Int → (Int × (Int × (Int × (Int × (List (Int × (Int × (Bool × (List Int))))))))) → Option (Int))) (kx : (Int → Option (Int))) : Option (Int) := (if ((ltI t4 (((List.length b1.2.2.2.2) : Nat) : Int)) = true) then (if ((inR t4 (((List.length b1.2.2.2.2) : Nat) : Int)) = true) then ((F38 K (nthD (Ty.pair (Ty.int IntKind.i64) (Ty.pair (Ty.int IntKind.i64) (Ty.pair Ty.bool (Ty.arr 16 (Ty.int IntKind.u8))))) b1.2.2.2.2 t4).2.2.1).bind fun y0 => (kn (IntKind.wrap IntKind.i64 (t3 + y0)) (IntKind.wrap IntKind.i64 (t4 + (1 : Int))) (b1.1, (b1.2.1, (b1.2.2.1, (b1.2.2.2.1, b1.2.2.2.2)))))) else none) else (kx t3))
def F24l0 (K : Nat) : Nat → Int → Int → (Int × (Int × (Int × (Int × (List (Int × (Int × (Bool × (List Int))))))))) → (Int → Option (Int)) → Option (Int)
  | 0, _, _, _, _ => none
  | k + 1, t3, t4, b1, kx => B24l0 K t3 t4 b1 (fun t3 t4 b1 => F24l0 K k t3 t4 b1 kx) kx
noncomputable def S24l0 (K : Nat) := loopStep (E24 K) A24 (lpK (RDen R24) K) (codeAt [1, 1, 0, 1, 2, 2] (cd Tryd.f24)) 0 T24l0 (fun s => resOut (E24 K) s R24 Tryd.f24.results.toList)
noncomputable def L24l0 (K : Nat) (t3 : Int) (t4 : Int) (b1 : (Int × (Int × (Int × (Int × (List (Int × (Int × (Bool × (List Int)))))))))) (kx : (Int → Option (Int))) : Option (Int) := evLoop (S24l0 K) (fun y => kx y.1.1) K ((t3, (t4, ())), (b1, ()))
theorem S24l0_eq (K : Nat) (t3 : Int) (t4 : Int) (b1 : (Int × (Int × (Int × (Int × (List (Int × (Int × (Bool × (List Int)))))))))) (kn : _ → Option (Int)) (kx : _ → Option (Int)) : S24l0 K ((t3, (t4, ())), (b1, ())) kn kx = B24l0 K t3 t4 b1 (fun t3 t4 b1 => kn ((t3, (t4, ())), (b1, ()))) (fun y0 => kx ((y0, ()), ())) := by
  unfold B24l0; kernel_rfl
theorem F24l0_go (K : Nat) (kx : (Int → Option (Int))) : ∀ (n : Nat) (t3 : Int) (t4 : Int) (b1 : (Int × (Int × (Int × (Int × (List (Int × (Int × (Bool × (List Int)))))))))), evLoop (S24l0 K) (fun y => kx y.1.1) n ((t3, (t4, ())), (b1, ())) = F24l0 K n t3 t4 b1 kx := by
  intro n
  induction n with
  | zero => intros; rfl
  | succ n ih =>
    intros t3 t4 b1
    refine (S24l0_eq K t3 t4 b1 _ _).trans ?_
    have e : (fun t3 t4 b1 => evLoop (S24l0 K) (fun y => kx y.1.1) n ((t3, (t4, ())), (b1, ()))) = fun t3 t4 b1 => F24l0 K n t3 t4 b1 kx := by
      funext t3 t4 b1; exact ih t3 t4 b1
    rw [e]; rfl
theorem F24l0_eq (K : Nat) : F24l0 K K = L24l0 K := by
  funext t3 t4 b1 kx; exact (F24l0_go K kx K t3 t4 b1).symm
def F24 (K : Nat) (x0 : (Int × (Int × (Int × (Int × (List (Int × (Int × (Bool × (List Int)))))))))) : Option (Int) := (F24l0 K K (0 : Int) (0 : Int) (x0.1, (x0.2.1, (x0.2.2.1, (x0.2.2.2.1, x0.2.2.2.2)))) (fun y0 => (some y0)))
theorem F24_eq (K : Nat) (x0 : (Int × (Int × (Int × (Int × (List (Int × (Int × (Bool × (List Int)))))))))) : evFn (E24 K) A24 P24 R24 (lpK (RDen R24) K) 22 Tryd.f24.results.toList (cd Tryd.f24) (x0, ()) = F24 K x0 := by
  unfold F24; rw [F24l0_eq K]; kernel_rfl
/- quietus/quietusref30.Decide -/
def A17 : List (Nat × LoopAnn) := []
noncomputable def E17 (K : Nat) : Env := mkEnv tyTab nfTab mpTab G17 [(20, ⟨P20, R20, fun x => F20 K x.1⟩), (22, ⟨P22, R22, fun x => F22 K x.1 x.2.1⟩), (24, ⟨P24, R24, fun x => F24 K x.1⟩)]
def F17 (K : Nat) (x0 : ((List Int) × ((List ByteArray) × (Int × Int)))) (x1 : (Int × (Int × (Int × (Int × (List (Int × (Int × (Bool × (List Int)))))))))) (x2 : Int) : Option ((Int × Int)) := ((F20 K (x0.1, (x0.2.1, (x0.2.2.1, x0.2.2.2)))).bind fun y0 => (if ((!(eqI y0 (0 : Int))) = true) then (some ((0 : Int), y0)) else ((F22 K (x0.1, (x0.2.1, (x0.2.2.1, x0.2.2.2))) (x1.1, (x1.2.1, (x1.2.2.1, (x1.2.2.2.1, x1.2.2.2.2))))).bind fun y1 => (if ((!y1) = true) then (some ((0 : Int), (1 : Int))) else (if ((ltI x1.2.1 x2) = true) then (some ((0 : Int), (18 : Int))) else (if ((ltI x2 x1.2.2.2.1) = true) then (some ((0 : Int), (15 : Int))) else (if ((ltI (0 : Int) (((List.length x1.2.2.2.2) : Nat) : Int)) = true) then (if ((inR (IntKind.wrap IntKind.i64 ((((List.length x1.2.2.2.2) : Nat) : Int) - (1 : Int))) (((List.length x1.2.2.2.2) : Nat) : Int)) = true) then (if ((ltI x2 (nthD (Ty.pair (Ty.int IntKind.i64) (Ty.pair (Ty.int IntKind.i64) (Ty.pair Ty.bool (Ty.arr 16 (Ty.int IntKind.u8))))) x1.2.2.2.2 (IntKind.wrap IntKind.i64 ((((List.length x1.2.2.2.2) : Nat) : Int) - (1 : Int)))).2.1) = true) then (some ((0 : Int), (15 : Int))) else ((F24 K (x1.1, (x1.2.1, (x1.2.2.1, (x1.2.2.2.1, x1.2.2.2.2))))).bind fun y2 => (if ((ltI y2 x0.2.2.1) = true) then (some ((0 : Int), (29 : Int))) else (some (x1.2.2.1, (0 : Int)))))) else none) else ((F24 K (x1.1, (x1.2.1, (x1.2.2.1, (x1.2.2.2.1, x1.2.2.2.2))))).bind fun y2 => (if ((ltI y2 x0.2.2.1) = true) then (some ((0 : Int), (29 : Int))) else (some (x1.2.2.1, (0 : Int))))))))))))
theorem F17_eq (K : Nat) (x0 : ((List Int) × ((List ByteArray) × (Int × Int)))) (x1 : (Int × (Int × (Int × (Int × (List (Int × (Int × (Bool × (List Int)))))))))) (x2 : Int) : evFn (E17 K) A17 P17 R17 (lpK (RDen R17) K) 59 Tryd.f17.results.toList (cd Tryd.f17) (x0, (x1, (x2, ()))) = F17 K x0 x1 x2 := by
  unfold F17; kernel_rfl
/- quietus/quietusref30.Same -/
def T23l0 : LoopAnn := ⟨tm 59 [(2, (.ptr 2)), (0, (.ptr 3)), (1, (.data (.int .i64)))] [(2, (.pair (.int .i64) (.pair (.int .i64) (.pair (.int .i64) (.pair (.int .i64) (.list (.pair (.int .i64) (.pair (.int .i64) (.pair .bool (.arr 16 (.int .u8))))))))))), (0, (.pair (.int .i64) (.pair (.int .i64) (.pair (.int .i64) (.pair (.int .i64) (.list (.pair (.int .i64) (.pair (.int .i64) (.pair .bool (.arr 16 (.int .u8)))))))))))], tm 59 [] []⟩
def A23 : List (Nat × LoopAnn) := [(0, T23l0)]
noncomputable def E23 (K : Nat) : Env := mkEnv tyTab nfTab mpTab G23 []
def B23l0 (K : Nat) (t5 : Int) (b2 : (Int × (Int × (Int × (Int × (List (Int × (Int × (Bool × (List Int)))))))))) (b3 : (Int × (Int × (Int × (Int × (List (Int × (Int × (Bool × (List Int)))))))))) (kn : (Int → (Int × (Int × (Int × (Int × (List (Int × (Int × (Bool × (List Int))))))))) → (Int × (Int × (Int × (Int × (List (Int × (Int × (Bool × (List Int))))))))) → Option (Bool))) (kx : Option (Bool)) : Option (Bool) := (if ((ltI t5 (((List.length b2.2.2.2.2) : Nat) : Int)) = true) then (if ((inR t5 (((List.length b2.2.2.2.2) : Nat) : Int)) = true) then (if ((inR t5 (((List.length b3.2.2.2.2) : Nat) : Int)) = true) then (if ((!(Ty.beq (Ty.pair (Ty.int IntKind.i64) (Ty.pair (Ty.int IntKind.i64) (Ty.pair Ty.bool (Ty.arr 16 (Ty.int IntKind.u8))))) (nthD (Ty.pair (Ty.int IntKind.i64) (Ty.pair (Ty.int IntKind.i64) (Ty.pair Ty.bool (Ty.arr 16 (Ty.int IntKind.u8))))) b2.2.2.2.2 t5) ((nthD (Ty.pair (Ty.int IntKind.i64) (Ty.pair (Ty.int IntKind.i64) (Ty.pair Ty.bool (Ty.arr 16 (Ty.int IntKind.u8))))) b3.2.2.2.2 t5).1, ((nthD (Ty.pair (Ty.int IntKind.i64) (Ty.pair (Ty.int IntKind.i64) (Ty.pair Ty.bool (Ty.arr 16 (Ty.int IntKind.u8))))) b3.2.2.2.2 t5).2.1, ((nthD (Ty.pair (Ty.int IntKind.i64) (Ty.pair (Ty.int IntKind.i64) (Ty.pair Ty.bool (Ty.arr 16 (Ty.int IntKind.u8))))) b3.2.2.2.2 t5).2.2.1, (nthD (Ty.pair (Ty.int IntKind.i64) (Ty.pair (Ty.int IntKind.i64) (Ty.pair Ty.bool (Ty.arr 16 (Ty.int IntKind.u8))))) b3.2.2.2.2 t5).2.2.2))))) = true) then (some Bool.false) else (kn (IntKind.wrap IntKind.i64 (t5 + (1 : Int))) (b2.1, (b2.2.1, (b2.2.2.1, (b2.2.2.2.1, b2.2.2.2.2)))) (b3.1, (b3.2.1, (b3.2.2.1, (b3.2.2.2.1, b3.2.2.2.2)))))) else none) else none) else kx)
def F23l0 (K : Nat) : Nat → Int → (Int × (Int × (Int × (Int × (List (Int × (Int × (Bool × (List Int))))))))) → (Int × (Int × (Int × (Int × (List (Int × (Int × (Bool × (List Int))))))))) → Option (Bool) → Option (Bool)
  | 0, _, _, _, _ => none
  | k + 1, t5, b2, b3, kx => B23l0 K t5 b2 b3 (fun t5 b2 b3 => F23l0 K k t5 b2 b3 kx) kx
noncomputable def S23l0 (K : Nat) := loopStep (E23 K) A23 (lpK (RDen R23) K) (codeAt [1, 1, 0, 1, 2, 2] (cd Tryd.f23)) 0 T23l0 (fun s => resOut (E23 K) s R23 Tryd.f23.results.toList)
noncomputable def L23l0 (K : Nat) (t5 : Int) (b2 : (Int × (Int × (Int × (Int × (List (Int × (Int × (Bool × (List Int)))))))))) (b3 : (Int × (Int × (Int × (Int × (List (Int × (Int × (Bool × (List Int)))))))))) (kx : Option (Bool)) : Option (Bool) := evLoop (S23l0 K) (fun _ => kx) K ((t5, ()), (b2, (b3, ())))
theorem S23l0_eq (K : Nat) (t5 : Int) (b2 : (Int × (Int × (Int × (Int × (List (Int × (Int × (Bool × (List Int)))))))))) (b3 : (Int × (Int × (Int × (Int × (List (Int × (Int × (Bool × (List Int)))))))))) (kn : _ → Option (Bool)) (kx : _ → Option (Bool)) : S23l0 K ((t5, ()), (b2, (b3, ()))) kn kx = B23l0 K t5 b2 b3 (fun t5 b2 b3 => kn ((t5, ()), (b2, (b3, ())))) (kx ((), ())) := by
  unfold B23l0; kernel_rfl
theorem F23l0_go (K : Nat) (kx : Option (Bool)) : ∀ (n : Nat) (t5 : Int) (b2 : (Int × (Int × (Int × (Int × (List (Int × (Int × (Bool × (List Int)))))))))) (b3 : (Int × (Int × (Int × (Int × (List (Int × (Int × (Bool × (List Int)))))))))), evLoop (S23l0 K) (fun _ => kx) n ((t5, ()), (b2, (b3, ()))) = F23l0 K n t5 b2 b3 kx := by
  intro n
  induction n with
  | zero => intros; rfl
  | succ n ih =>
    intros t5 b2 b3
    refine (S23l0_eq K t5 b2 b3 _ _).trans ?_
    have e : (fun t5 b2 b3 => evLoop (S23l0 K) (fun _ => kx) n ((t5, ()), (b2, (b3, ())))) = fun t5 b2 b3 => F23l0 K n t5 b2 b3 kx := by
      funext t5 b2 b3; exact ih t5 b2 b3
    rw [e]; rfl
theorem F23l0_eq (K : Nat) : F23l0 K K = L23l0 K := by
  funext t5 b2 b3 kx; exact (F23l0_go K kx K t5 b2 b3).symm
def F23 (K : Nat) (x0 : (Int × (Int × (Int × (Int × (List (Int × (Int × (Bool × (List Int)))))))))) (x1 : (Int × (Int × (Int × (Int × (List (Int × (Int × (Bool × (List Int)))))))))) : Option (Bool) := (if ((!(eqI x0.1 x1.1)) = true) then (some Bool.false) else (if ((!(eqI x0.2.1 x1.2.1)) = true) then (some Bool.false) else (if ((!(eqI x0.2.2.1 x1.2.2.1)) = true) then (some Bool.false) else (if ((!(eqI x0.2.2.2.1 x1.2.2.2.1)) = true) then (some Bool.false) else (if ((!(eqI (((List.length x0.2.2.2.2) : Nat) : Int) (((List.length x1.2.2.2.2) : Nat) : Int))) = true) then (some Bool.false) else (F23l0 K K (0 : Int) (x0.1, (x0.2.1, (x0.2.2.1, (x0.2.2.2.1, x0.2.2.2.2)))) (x1.1, (x1.2.1, (x1.2.2.1, (x1.2.2.2.1, x1.2.2.2.2)))) (some true)))))))
theorem F23_eq (K : Nat) (x0 : (Int × (Int × (Int × (Int × (List (Int × (Int × (Bool × (List Int)))))))))) (x1 : (Int × (Int × (Int × (Int × (List (Int × (Int × (Bool × (List Int)))))))))) : evFn (E23 K) A23 P23 R23 (lpK (RDen R23) K) 59 Tryd.f23.results.toList (cd Tryd.f23) (x0, (x1, ())) = F23 K x0 x1 := by
  unfold F23; rw [F23l0_eq K]; kernel_rfl
/- quietus/quietuslaw30.ExtendVotesAsSpecified -/
def A3 : List (Nat × LoopAnn) := []
noncomputable def E3 (K : Nat) : Env := mkEnv tyTab nfTab mpTab G3 [(8, ⟨P8, R8, fun x => F8 K x.1 x.2.1⟩), (9, ⟨P9, R9, fun x => F9 K⟩), (10, ⟨P10, R10, fun x => F10 K x.1 x.2.1 x.2.2.1 x.2.2.2.1 x.2.2.2.2.1⟩), (11, ⟨P11, R11, fun x => F11 K x.1 x.2.1 x.2.2.1 x.2.2.2.1 x.2.2.2.2.1⟩), (12, ⟨P12, R12, fun x => F12 K x.1 x.2.1 x.2.2.1 x.2.2.2.1 x.2.2.2.2.1⟩), (13, ⟨P13, R13, fun x => F13 K x.1 x.2.1 x.2.2.1 x.2.2.2.1 x.2.2.2.2.1⟩), (14, ⟨P14, R14, fun x => F14 K x.1 x.2.1 x.2.2.1⟩), (15, ⟨P15, R15, fun x => F15 K x.1 x.2.1 x.2.2.1⟩), (16, ⟨P16, R16, fun x => F16 K x.1 x.2.1 x.2.2.1⟩), (17, ⟨P17, R17, fun x => F17 K x.1 x.2.1 x.2.2.1⟩), (18, ⟨P18, R18, fun x => F18 K x.1⟩), (19, ⟨P19, R19, fun x => F19 K x.1⟩), (20, ⟨P20, R20, fun x => F20 K x.1⟩), (21, ⟨P21, R21, fun x => F21 K x.1 x.2.1⟩), (22, ⟨P22, R22, fun x => F22 K x.1 x.2.1⟩), (23, ⟨P23, R23, fun x => F23 K x.1 x.2.1⟩), (24, ⟨P24, R24, fun x => F24 K x.1⟩)]
def F3 (K : Nat) (x0 : ((List Int) × ((List ByteArray) × (Int × Int)))) (x1 : (Int × (Int × (Int × (Int × (List (Int × (Int × (Bool × (List Int)))))))))) (x2 : (Int × (Int × (Bool × (List Int))))) (x3 : (List Int)) : Option (Bool) := ((F8 K (x0.1, (x0.2.1, (x0.2.2.1, x0.2.2.2))) (x1.1, (x1.2.1, (x1.2.2.1, (x1.2.2.2.1, x1.2.2.2.2))))).bind fun y0 => (if ((!y0) = true) then ((F9 K).bind fun y1 => (some y1)) else ((F10 K (x0.1, (x0.2.1, (x0.2.2.1, x0.2.2.2))) (nthD (Ty.int IntKind.i64) x3 (0 : Int)) (nthD (Ty.int IntKind.i64) x3 (1 : Int)) (nthD (Ty.int IntKind.i64) x3 (2 : Int)) (nthD (Ty.int IntKind.i64) x3 (3 : Int))).bind fun y1 => ((F11 K (x0.1, (x0.2.1, (x0.2.2.1, x0.2.2.2))) (nthD (Ty.int IntKind.i64) x3 (0 : Int)) (nthD (Ty.int IntKind.i64) x3 (1 : Int)) (nthD (Ty.int IntKind.i64) x3 (2 : Int)) (nthD (Ty.int IntKind.i64) x3 (3 : Int))).bind fun y2 => ((F12 K (x0.1, (x0.2.1, (x0.2.2.1, x0.2.2.2))) (x1.1, (x1.2.1, (x1.2.2.1, (x1.2.2.2.1, x1.2.2.2.2)))) x2.1 x2.2.1 x2.2.2.1).bind fun y3 => ((F13 K (x0.1, (x0.2.1, (x0.2.2.1, x0.2.2.2))) (x1.1, (x1.2.1, (x1.2.2.1, (x1.2.2.2.1, x1.2.2.2.2)))) x2.1 x2.2.1 x2.2.2.1).bind fun y4 => ((F14 K (x0.1, (x0.2.1, (x0.2.2.1, x0.2.2.2))) (x1.1, (x1.2.1, (x1.2.2.1, (x1.2.2.2.1, x1.2.2.2.2)))) (x2.1, (x2.2.1, (x2.2.2.1, x2.2.2.2)))).bind fun y5 => ((F15 K (x0.1, (x0.2.1, (x0.2.2.1, x0.2.2.2))) (x1.1, (x1.2.1, (x1.2.2.1, (x1.2.2.2.1, x1.2.2.2.2)))) (x2.1, (x2.2.1, (x2.2.2.1, x2.2.2.2)))).bind fun y6 => ((F16 K (x0.1, (x0.2.1, (x0.2.2.1, x0.2.2.2))) (x1.1, (x1.2.1, (x1.2.2.1, (x1.2.2.2.1, x1.2.2.2.2)))) (nthD (Ty.int IntKind.i64) x3 (3 : Int))).bind fun y7 => ((F17 K (x0.1, (x0.2.1, (x0.2.2.1, x0.2.2.2))) (x1.1, (x1.2.1, (x1.2.2.1, (x1.2.2.2.1, x1.2.2.2.2)))) (nthD (Ty.int IntKind.i64) x3 (3 : Int))).bind fun y8 => ((F18 K (x1.1, (x1.2.1, (x1.2.2.1, (x1.2.2.2.1, x1.2.2.2.2))))).bind fun y9 => ((F19 K (x0.1, (x0.2.1, (x0.2.2.1, x0.2.2.2)))).bind fun y10 => ((F20 K (x0.1, (x0.2.1, (x0.2.2.1, x0.2.2.2)))).bind fun y11 => (if ((!(eqI y10 y11)) = true) then (some Bool.false) else ((F21 K (x0.1, (x0.2.1, (x0.2.2.1, x0.2.2.2))) (x1.1, (x1.2.1, (x1.2.2.1, (x1.2.2.2.1, x1.2.2.2.2))))).bind fun y12 => ((F22 K (x0.1, (x0.2.1, (x0.2.2.1, x0.2.2.2))) (x1.1, (x1.2.1, (x1.2.2.1, (x1.2.2.2.1, x1.2.2.2.2))))).bind fun y13 => (if ((!(Ty.beq Ty.bool y12 y13)) = true) then (some Bool.false) else (if ((!(eqI y1.2 y2.2)) = true) then (some Bool.false) else ((F23 K (y1.1.1, (y1.1.2.1, (y1.1.2.2.1, (y1.1.2.2.2.1, y1.1.2.2.2.2)))) (y2.1.1, (y2.1.2.1, (y2.1.2.2.1, (y2.1.2.2.2.1, y2.1.2.2.2.2))))).bind fun y14 => (if ((!y14) = true) then (some Bool.false) else (if ((!(Ty.beq (Ty.arr 16 (Ty.int IntKind.u8)) y3.1 y4.1)) = true) then (some Bool.false) else (if ((!(eqI y3.2 y4.2)) = true) then (some Bool.false) else (if ((!(eqI y5.2 y6.2)) = true) then (some Bool.false) else ((F23 K (y5.1.1, (y5.1.2.1, (y5.1.2.2.1, (y5.1.2.2.2.1, y5.1.2.2.2.2)))) (y6.1.1, (y6.1.2.1, (y6.1.2.2.1, (y6.1.2.2.2.1, y6.1.2.2.2.2))))).bind fun y15 => (if ((!y15) = true) then (some Bool.false) else ((F9 K).bind fun y16 => (if (y16 = true) then (if ((eqI y7.1 y8.1) = true) then (if ((eqI y7.2 y8.2) = true) then ((F24 K (x1.1, (x1.2.1, (x1.2.2.1, (x1.2.2.2.1, x1.2.2.2.2))))).bind fun y17 => (if ((eqI y9.1 y17) = true) then (some (eqI (IntKind.wrap IntKind.i64 (y9.1 + y9.2)) (((List.length x1.2.2.2.2) : Nat) : Int))) else (some Bool.false))) else (some Bool.false)) else (some Bool.false)) else (some Bool.false))))))))))))))))))))))))))))
theorem F3_eq (K : Nat) (x0 : ((List Int) × ((List ByteArray) × (Int × Int)))) (x1 : (Int × (Int × (Int × (Int × (List (Int × (Int × (Bool × (List Int)))))))))) (x2 : (Int × (Int × (Bool × (List Int))))) (x3 : (List Int)) : evFn (E3 K) A3 P3 R3 (lpK (RDen R3) K) 181 Tryd.f3.results.toList (cd Tryd.f3) (x0, (x1, (x2, (x3, ())))) = F3 K x0 x1 x2 x3 := by
  unfold F3; kernel_rfl
/- quietus/quietusref02.Text -/
def T47l0 : LoopAnn := ⟨tm 17 [(1, (.ptr 1)), (1, (.vec (.int .u8))), (0, (.data (.int .i64)))] [(1, (.arr 16 (.int .u8)))], tm 17 [(3, (.vec (.int .u8)))] []⟩
def A47 : List (Nat × LoopAnn) := [(0, T47l0)]
noncomputable def E47 (K : Nat) : Env := mkEnv tyTab nfTab mpTab G47 []
def B47l0 (K : Nat) (t3 : (List Int)) (t4 : Int) (b1 : (List Int)) (kn : ((List Int) → Int → (List Int) → Option (ByteArray))) (kx : ((List Int) → Option (ByteArray))) : Option (ByteArray) := (if ((ltI t4 (16 : Int)) = true) then (if ((inR t4 ((16 : Nat) : Int)) = true) then (if ((room ((List.length t3) + (List.length ((nthD (Ty.int IntKind.u8) b1 t4) :: (List.replicate 0 (0 : Int)))))) = true) then (kn (t3 ++ ((nthD (Ty.int IntKind.u8) b1 t4) :: (List.replicate 0 (0 : Int)))) (IntKind.wrap IntKind.i64 (t4 + (1 : Int))) b1) else none) else none) else (kx t3))
def F47l0 (K : Nat) : Nat → (List Int) → Int → (List Int) → ((List Int) → Option (ByteArray)) → Option (ByteArray)
  | 0, _, _, _, _ => none
  | k + 1, t3, t4, b1, kx => B47l0 K t3 t4 b1 (fun t3 t4 b1 => F47l0 K k t3 t4 b1 kx) kx
noncomputable def S47l0 (K : Nat) := loopStep (E47 K) A47 (lpK (RDen R47) K) (codeAt [1, 1, 0, 1, 2, 2] (cd Tryd.f47)) 0 T47l0 (fun s => resOut (E47 K) s R47 Tryd.f47.results.toList)
noncomputable def L47l0 (K : Nat) (t3 : (List Int)) (t4 : Int) (b1 : (List Int)) (kx : ((List Int) → Option (ByteArray))) : Option (ByteArray) := evLoop (S47l0 K) (fun y => kx y.1.1) K ((t3, (t4, ())), (b1, ()))
theorem S47l0_eq (K : Nat) (t3 : (List Int)) (t4 : Int) (b1 : (List Int)) (kn : _ → Option (ByteArray)) (kx : _ → Option (ByteArray)) : S47l0 K ((t3, (t4, ())), (b1, ())) kn kx = B47l0 K t3 t4 b1 (fun t3 t4 b1 => kn ((t3, (t4, ())), (b1, ()))) (fun y0 => kx ((y0, ()), ())) := by
  unfold B47l0; kernel_rfl
theorem F47l0_go (K : Nat) (kx : ((List Int) → Option (ByteArray))) : ∀ (n : Nat) (t3 : (List Int)) (t4 : Int) (b1 : (List Int)), evLoop (S47l0 K) (fun y => kx y.1.1) n ((t3, (t4, ())), (b1, ())) = F47l0 K n t3 t4 b1 kx := by
  intro n
  induction n with
  | zero => intros; rfl
  | succ n ih =>
    intros t3 t4 b1
    refine (S47l0_eq K t3 t4 b1 _ _).trans ?_
    have e : (fun t3 t4 b1 => evLoop (S47l0 K) (fun y => kx y.1.1) n ((t3, (t4, ())), (b1, ()))) = fun t3 t4 b1 => F47l0 K n t3 t4 b1 kx := by
      funext t3 t4 b1; exact ih t3 t4 b1
    rw [e]; rfl
theorem F47l0_eq (K : Nat) : F47l0 K K = L47l0 K := by
  funext t3 t4 b1 kx; exact (F47l0_go K kx K t3 t4 b1).symm
def F47 (K : Nat) (x0 : (List Int)) : Option (ByteArray) := (F47l0 K K [] (0 : Int) x0 (fun y0 => (some (mkStr y0))))
theorem F47_eq (K : Nat) (x0 : (List Int)) : evFn (E47 K) A47 P47 R47 (lpK (RDen R47) K) 17 Tryd.f47.results.toList (cd Tryd.f47) (x0, ()) = F47 K x0 := by
  unfold F47; rw [F47l0_eq K]; kernel_rfl
/- quietus/quietusref02.Short -/
def T61l0 : LoopAnn := ⟨tm 19 [(2, (.ptr 2)), (0, (.ptr 3)), (0, (.ptr 4)), (0, (.data (.int .i64)))] [(2, (.arr 16 (.int .u8))), (0, (.arr 32 (.int .u8))), (0, (.arr 16 (.int .u8)))], tm 19 [(2, (.ptr 2)), (1, (.ptr 4))] [(2, (.arr 16 (.int .u8))), (1, (.arr 16 (.int .u8)))]⟩
def A61 : List (Nat × LoopAnn) := [(0, T61l0)]
noncomputable def E61 (K : Nat) : Env := mkEnv tyTab nfTab mpTab G61 [(65, ⟨P65, R65, fun x => F65 K x.1⟩)]
def B61l0 (K : Nat) (t5 : Int) (b2 : (List Int)) (b3 : (List Int)) (b4 : (List Int)) (kn : (Int → (List Int) → (List Int) → (List Int) → Option ((List Int)))) (kx : ((List Int) → (List Int) → Option ((List Int)))) : Option ((List Int)) := (if ((ltI t5 (16 : Int)) = true) then (if ((inR t5 ((32 : Nat) : Int)) = true) then (if ((inR t5 ((16 : Nat) : Int)) = true) then (kn (IntKind.wrap IntKind.i64 (t5 + (1 : Int))) b2 b3 (List.set b4 (Int.toNat t5) (nthD (Ty.int IntKind.u8) b3 t5))) else none) else none) else (kx b2 b4))
def F61l0 (K : Nat) : Nat → Int → (List Int) → (List Int) → (List Int) → ((List Int) → (List Int) → Option ((List Int))) → Option ((List Int))
  | 0, _, _, _, _, _ => none
  | k + 1, t5, b2, b3, b4, kx => B61l0 K t5 b2 b3 b4 (fun t5 b2 b3 b4 => F61l0 K k t5 b2 b3 b4 kx) kx
noncomputable def S61l0 (K : Nat) := loopStep (E61 K) A61 (lpK (RDen R61) K) (codeAt [1, 1, 1, 0, 1, 2, 2] (cd Tryd.f61)) 0 T61l0 (fun s => resOut (E61 K) s R61 Tryd.f61.results.toList)
noncomputable def L61l0 (K : Nat) (t5 : Int) (b2 : (List Int)) (b3 : (List Int)) (b4 : (List Int)) (kx : ((List Int) → (List Int) → Option ((List Int)))) : Option ((List Int)) := evLoop (S61l0 K) (fun y => kx y.2.1 y.2.2.1) K ((t5, ()), (b2, (b3, (b4, ()))))
theorem S61l0_eq (K : Nat) (t5 : Int) (b2 : (List Int)) (b3 : (List Int)) (b4 : (List Int)) (kn : _ → Option ((List Int))) (kx : _ → Option ((List Int))) : S61l0 K ((t5, ()), (b2, (b3, (b4, ())))) kn kx = B61l0 K t5 b2 b3 b4 (fun t5 b2 b3 b4 => kn ((t5, ()), (b2, (b3, (b4, ()))))) (fun y0 y1 => kx ((), (y0, (y1, ())))) := by
  unfold B61l0; kernel_rfl
theorem F61l0_go (K : Nat) (kx : ((List Int) → (List Int) → Option ((List Int)))) : ∀ (n : Nat) (t5 : Int) (b2 : (List Int)) (b3 : (List Int)) (b4 : (List Int)), evLoop (S61l0 K) (fun y => kx y.2.1 y.2.2.1) n ((t5, ()), (b2, (b3, (b4, ())))) = F61l0 K n t5 b2 b3 b4 kx := by
  intro n
  induction n with
  | zero => intros; rfl
  | succ n ih =>
    intros t5 b2 b3 b4
    refine (S61l0_eq K t5 b2 b3 b4 _ _).trans ?_
    have e : (fun t5 b2 b3 b4 => evLoop (S61l0 K) (fun y => kx y.2.1 y.2.2.1) n ((t5, ()), (b2, (b3, (b4, ()))))) = fun t5 b2 b3 b4 => F61l0 K n t5 b2 b3 b4 kx := by
      funext t5 b2 b3 b4; exact ih t5 b2 b3 b4
    rw [e]; rfl
theorem F61l0_eq (K : Nat) : F61l0 K K = L61l0 K := by
  funext t5 b2 b3 b4 kx; exact (F61l0_go K kx K t5 b2 b3 b4).symm
def F61 (K : Nat) (x0 : (List Int)) : Option ((List Int)) := ((F65 K x0).bind fun y0 => (F61l0 K K (0 : Int) (List.replicate 16 (0 : Int)) y0 (List.replicate 16 (0 : Int)) (fun y1 y2 => (some y2))))
theorem F61_eq (K : Nat) (x0 : (List Int)) : evFn (E61 K) A61 P61 R61 (lpK (RDen R61) K) 19 Tryd.f61.results.toList (cd Tryd.f61) (x0, ()) = F61 K x0 := by
  unfold F61; rw [F61l0_eq K]; kernel_rfl
/- quietus/quietusref02.Input -/
def T62l0 : LoopAnn := ⟨tm 24 [(1, (.data (.list .str))), (3, (.vec (.int .u8))), (0, (.data (.int .i64)))] [], tm 24 [(5, (.vec (.int .u8)))] []⟩
def A62 : List (Nat × LoopAnn) := [(0, T62l0)]
noncomputable def E62 (K : Nat) : Env := mkEnv tyTab nfTab mpTab G62 [(68, ⟨P68, R68, fun x => F68 K x.1⟩)]
def B62l0 (K : Nat) (t1 : (List ByteArray)) (t5 : (List Int)) (t6 : Int) (kn : ((List ByteArray) → (List Int) → Int → Option ((List Int)))) (kx : ((List Int) → Option ((List Int)))) : Option ((List Int)) := (if ((ltI t6 (((List.length t1) : Nat) : Int)) = true) then (if ((inR t6 (((List.length t1) : Nat) : Int)) = true) then ((F68 K (nthD Ty.str t1 t6)).bind fun y0 => (if ((room ((List.length t5) + (List.length y0))) = true) then (kn t1 (t5 ++ y0) (IntKind.wrap IntKind.i64 (t6 + (1 : Int)))) else none)) else none) else (kx t5))
def F62l0 (K : Nat) : Nat → (List ByteArray) → (List Int) → Int → ((List Int) → Option ((List Int))) → Option ((List Int))
  | 0, _, _, _, _ => none
  | k + 1, t1, t5, t6, kx => B62l0 K t1 t5 t6 (fun t1 t5 t6 => F62l0 K k t1 t5 t6 kx) kx
noncomputable def S62l0 (K : Nat) := loopStep (E62 K) A62 (lpK (RDen R62) K) (codeAt [1, 1, 0, 1, 2, 2] (cd Tryd.f62)) 0 T62l0 (fun s => resOut (E62 K) s R62 Tryd.f62.results.toList)
noncomputable def L62l0 (K : Nat) (t1 : (List ByteArray)) (t5 : (List Int)) (t6 : Int) (kx : ((List Int) → Option ((List Int)))) : Option ((List Int)) := evLoop (S62l0 K) (fun y => kx y.1.1) K ((t1, (t5, (t6, ()))), ())
theorem S62l0_eq (K : Nat) (t1 : (List ByteArray)) (t5 : (List Int)) (t6 : Int) (kn : _ → Option ((List Int))) (kx : _ → Option ((List Int))) : S62l0 K ((t1, (t5, (t6, ()))), ()) kn kx = B62l0 K t1 t5 t6 (fun t1 t5 t6 => kn ((t1, (t5, (t6, ()))), ())) (fun y0 => kx ((y0, ()), ())) := by
  unfold B62l0; kernel_rfl
theorem F62l0_go (K : Nat) (kx : ((List Int) → Option ((List Int)))) : ∀ (n : Nat) (t1 : (List ByteArray)) (t5 : (List Int)) (t6 : Int), evLoop (S62l0 K) (fun y => kx y.1.1) n ((t1, (t5, (t6, ()))), ()) = F62l0 K n t1 t5 t6 kx := by
  intro n
  induction n with
  | zero => intros; rfl
  | succ n ih =>
    intros t1 t5 t6
    refine (S62l0_eq K t1 t5 t6 _ _).trans ?_
    have e : (fun t1 t5 t6 => evLoop (S62l0 K) (fun y => kx y.1.1) n ((t1, (t5, (t6, ()))), ())) = fun t1 t5 t6 => F62l0 K n t1 t5 t6 kx := by
      funext t1 t5 t6; exact ih t1 t5 t6
    rw [e]; rfl
theorem F62l0_eq (K : Nat) : F62l0 K K = L62l0 K := by
  funext t1 t5 t6 kx; exact (F62l0_go K kx K t1 t5 t6).symm
def F62 (K : Nat) (x0 : Int) (x1 : (List ByteArray)) : Option ((List Int)) := (F62l0 K K x1 ((IntKind.wrap IntKind.u8 x0) :: (List.replicate 0 (0 : Int))) (0 : Int) (fun y0 => (some y0)))
theorem F62_eq (K : Nat) (x0 : Int) (x1 : (List ByteArray)) : evFn (E62 K) A62 P62 R62 (lpK (RDen R62) K) 24 Tryd.f62.results.toList (cd Tryd.f62) (x0, (x1, ())) = F62 K x0 x1 := by
  unfold F62; rw [F62l0_eq K]; kernel_rfl
/- quietus/quietusref02.Of -/
def A48 : List (Nat × LoopAnn) := []
noncomputable def E48 (K : Nat) : Env := mkEnv tyTab nfTab mpTab G48 [(62, ⟨P62, R62, fun x => F62 K x.1 x.2.1⟩), (61, ⟨P61, R61, fun x => F61 K x.1⟩)]
def F48 (K : Nat) (x0 : Int) (x1 : (List ByteArray)) : Option ((List Int)) := ((F62 K x0 x1).bind fun y0 => ((F61 K y0).bind fun y1 => (some y1)))
theorem F48_eq (K : Nat) (x0 : Int) (x1 : (List ByteArray)) : evFn (E48 K) A48 P48 R48 (lpK (RDen R48) K) 9 Tryd.f48.results.toList (cd Tryd.f48) (x0, (x1, ())) = F48 K x0 x1 := by
  unfold F48; kernel_rfl
/- quietus/quietusref30.Record -/
def T26l0 : LoopAnn := ⟨tm 59 [(4, (.ptr 4)), (1, (.ptr 6)), (0, (.vec .str)), (0, (.data (.int .i64)))] [(4, (.pair (.int .i64) (.pair (.int .i64) (.pair (.int .i64) (.pair (.int .i64) (.list (.pair (.int .i64) (.pair (.int .i64) (.pair .bool (.arr 16 (.int .u8))))))))))), (1, (.arr 16 (.int .u8)))], tm 59 [(6, (.ptr 6)), (0, (.vec .str))] [(6, (.arr 16 (.int .u8)))]⟩
def A26 : List (Nat × LoopAnn) := [(0, T26l0)]
noncomputable def E26 (K : Nat) : Env := mkEnv tyTab nfTab mpTab G26 [(47, ⟨P47, R47, fun x => F47 K x.1⟩), (37, ⟨P37, R37, fun x => F37 K x.1⟩), (38, ⟨P38, R38, fun x => F38 K x.1⟩), (48, ⟨P48, R48, fun x => F48 K x.1 x.2.1⟩)]
def B26l0 (K : Nat) (t7 : (List ByteArray)) (t8 : Int) (b4 : (Int × (Int × (Int × (Int × (List (Int × (Int × (Bool × (List Int)))))))))) (b6 : (List Int)) (kn : ((List ByteArray) → Int → (Int × (Int × (Int × (Int × (List (Int × (Int × (Bool × (List Int))))))))) → (List Int) → Option ((List Int)))) (kx : ((List ByteArray) → (List Int) → Option ((List Int)))) : Option ((List Int)) := (if ((ltI t8 (((List.length b4.2.2.2.2) : Nat) : Int)) = true) then (if ((inR t8 (((List.length b4.2.2.2.2) : Nat) : Int)) = true) then ((F38 K (nthD (Ty.pair (Ty.int IntKind.i64) (Ty.pair (Ty.int IntKind.i64) (Ty.pair Ty.bool (Ty.arr 16 (Ty.int IntKind.u8))))) b4.2.2.2.2 t8).2.2.1).bind fun y0 => ((F37 K ((nthD (Ty.pair (Ty.int IntKind.i64) (Ty.pair (Ty.int IntKind.i64) (Ty.pair Ty.bool (Ty.arr 16 (Ty.int IntKind.u8))))) b4.2.2.2.2 t8).1 :: (nthD (Ty.pair (Ty.int IntKind.i64) (Ty.pair (Ty.int IntKind.i64) (Ty.pair Ty.bool (Ty.arr 16 (Ty.int IntKind.u8))))) b4.2.2.2.2 t8).2.1 :: y0 :: (List.replicate 0 (0 : Int)))).bind fun y1 => (if ((room ((List.length t7) + (List.length y1))) = true) then ((F47 K (nthD (Ty.pair (Ty.int IntKind.i64) (Ty.pair (Ty.int IntKind.i64) (Ty.pair Ty.bool (Ty.arr 16 (Ty.int IntKind.u8))))) b4.2.2.2.2 t8).2.2.2).bind fun y2 => (if ((room ((List.length (t7 ++ y1)) + (List.length (y2 :: (List.replicate 0 ByteArray.empty))))) = true) then (kn ((t7 ++ y1) ++ (y2 :: (List.replicate 0 ByteArray.empty))) (IntKind.wrap IntKind.i64 (t8 + (1 : Int))) (b4.1, (b4.2.1, (b4.2.2.1, (b4.2.2.2.1, b4.2.2.2.2)))) b6) else none)) else none))) else none) else (kx t7 b6))
def F26l0 (K : Nat) : Nat → (List ByteArray) → Int → (Int × (Int × (Int × (Int × (List (Int × (Int × (Bool × (List Int))))))))) → (List Int) → ((List ByteArray) → (List Int) → Option ((List Int))) → Option ((List Int))
  | 0, _, _, _, _, _ => none
  | k + 1, t7, t8, b4, b6, kx => B26l0 K t7 t8 b4 b6 (fun t7 t8 b4 b6 => F26l0 K k t7 t8 b4 b6 kx) kx
noncomputable def S26l0 (K : Nat) := loopStep (E26 K) A26 (lpK (RDen R26) K) (codeAt [1, 1, 0, 1, 2, 2] (cd Tryd.f26)) 0 T26l0 (fun s => resOut (E26 K) s R26 Tryd.f26.results.toList)
noncomputable def L26l0 (K : Nat) (t7 : (List ByteArray)) (t8 : Int) (b4 : (Int × (Int × (Int × (Int × (List (Int × (Int × (Bool × (List Int)))))))))) (b6 : (List Int)) (kx : ((List ByteArray) → (List Int) → Option ((List Int)))) : Option ((List Int)) := evLoop (S26l0 K) (fun y => kx y.1.1 y.2.1) K ((t7, (t8, ())), (b4, (b6, ())))
theorem S26l0_eq (K : Nat) (t7 : (List ByteArray)) (t8 : Int) (b4 : (Int × (Int × (Int × (Int × (List (Int × (Int × (Bool × (List Int)))))))))) (b6 : (List Int)) (kn : _ → Option ((List Int))) (kx : _ → Option ((List Int))) : S26l0 K ((t7, (t8, ())), (b4, (b6, ()))) kn kx = B26l0 K t7 t8 b4 b6 (fun t7 t8 b4 b6 => kn ((t7, (t8, ())), (b4, (b6, ())))) (fun y0 y1 => kx ((y0, ()), (y1, ()))) := by
  unfold B26l0; kernel_rfl
theorem F26l0_go (K : Nat) (kx : ((List ByteArray) → (List Int) → Option ((List Int)))) : ∀ (n : Nat) (t7 : (List ByteArray)) (t8 : Int) (b4 : (Int × (Int × (Int × (Int × (List (Int × (Int × (Bool × (List Int)))))))))) (b6 : (List Int)), evLoop (S26l0 K) (fun y => kx y.1.1 y.2.1) n ((t7, (t8, ())), (b4, (b6, ()))) = F26l0 K n t7 t8 b4 b6 kx := by
  intro n
  induction n with
  | zero => intros; rfl
  | succ n ih =>
    intros t7 t8 b4 b6
    refine (S26l0_eq K t7 t8 b4 b6 _ _).trans ?_
    have e : (fun t7 t8 b4 b6 => evLoop (S26l0 K) (fun y => kx y.1.1 y.2.1) n ((t7, (t8, ())), (b4, (b6, ())))) = fun t7 t8 b4 b6 => F26l0 K n t7 t8 b4 b6 kx := by
      funext t7 t8 b4 b6; exact ih t7 t8 b4 b6
    rw [e]; rfl
theorem F26l0_eq (K : Nat) : F26l0 K K = L26l0 K := by
  funext t7 t8 b4 b6 kx; exact (F26l0_go K kx K t7 t8 b4 b6).symm
def F26 (K : Nat) (x0 : (List Int)) (x1 : (Int × (Int × (Int × (Int × (List (Int × (Int × (Bool × (List Int)))))))))) (x2 : Int) : Option ((List Int)) := ((F47 K x0).bind fun y0 => ((F37 K (x1.1 :: x1.2.1 :: x1.2.2.1 :: x1.2.2.2.1 :: x2 :: (((List.length x1.2.2.2.2) : Nat) : Int) :: (List.replicate 0 (0 : Int)))).bind fun y1 => (if ((room ((List.length (y0 :: (List.replicate 0 ByteArray.empty))) + (List.length y1))) = true) then (F26l0 K K ((y0 :: (List.replicate 0 ByteArray.empty)) ++ y1) (0 : Int) (x1.1, (x1.2.1, (x1.2.2.1, (x1.2.2.2.1, x1.2.2.2.2)))) (List.replicate 16 (0 : Int)) (fun y2 y3 => ((F48 K (151 : Int) y2).bind fun y4 => (some y4)))) else none)))
theorem F26_eq (K : Nat) (x0 : (List Int)) (x1 : (Int × (Int × (Int × (Int × (List (Int × (Int × (Bool × (List Int)))))))))) (x2 : Int) : evFn (E26 K) A26 P26 R26 (lpK (RDen R26) K) 59 Tryd.f26.results.toList (cd Tryd.f26) (x0, (x1, (x2, ()))) = F26 K x0 x1 x2 := by
  unfold F26; rw [F26l0_eq K]; kernel_rfl
/- quietus/quietusref30.Verify -/
def T29l2 : LoopAnn := ⟨tm 108 [(1, (.data (.list (.pair (.pair (.int .i64) (.pair (.int .i64) (.pair (.int .i64) (.pair (.int .i64) (.list (.pair (.int .i64) (.pair (.int .i64) (.pair .bool (.arr 16 (.int .u8)))))))))) (.pair (.int .i64) (.arr 16 (.int .u8))))))), (0, (.ptr 2)), (1, (.ptr 4)), (1, (.ptr 6)), (0, (.data (.int .i64))), (1, (.data (.int .i64))), (0, (.data (.int .i64)))] [(2, (.pair (.list (.int .i64)) (.pair (.list .str) (.pair (.int .i64) (.int .i64))))), (1, (.pair (.int .i64) (.int .i64))), (1, (.arr 16 (.int .u8)))], tm 108 [(1, (.data (.list (.pair (.pair (.int .i64) (.pair (.int .i64) (.pair (.int .i64) (.pair (.int .i64) (.list (.pair (.int .i64) (.pair (.int .i64) (.pair .bool (.arr 16 (.int .u8)))))))))) (.pair (.int .i64) (.arr 16 (.int .u8))))))), (0, (.ptr 2)), (1, (.ptr 4)), (1, (.ptr 6)), (0, (.data (.int .i64))), (1, (.data (.int .i64)))] [(2, (.pair (.list (.int .i64)) (.pair (.list .str) (.pair (.int .i64) (.int .i64))))), (1, (.pair (.int .i64) (.int .i64))), (1, (.arr 16 (.int .u8)))]⟩
def T29l0 : LoopAnn := ⟨tm 108 [(1, (.data (.list (.pair (.pair (.int .i64) (.pair (.int .i64) (.pair (.int .i64) (.pair (.int .i64) (.list (.pair (.int .i64) (.pair (.int .i64) (.pair .bool (.arr 16 (.int .u8)))))))))) (.pair (.int .i64) (.arr 16 (.int .u8))))))), (0, (.ptr 2)), (1, (.ptr 4)), (1, (.ptr 6)), (0, (.data (.int .i64)))] [(2, (.pair (.list (.int .i64)) (.pair (.list .str) (.pair (.int .i64) (.int .i64))))), (1, (.pair (.int .i64) (.int .i64))), (1, (.arr 16 (.int .u8)))], tm 108 [(1, (.data (.list (.pair (.pair (.int .i64) (.pair (.int .i64) (.pair (.int .i64) (.pair (.int .i64) (.list (.pair (.int .i64) (.pair (.int .i64) (.pair .bool (.arr 16 (.int .u8)))))))))) (.pair (.int .i64) (.arr 16 (.int .u8))))))), (2, (.ptr 4))] [(4, (.pair (.int .i64) (.int .i64)))]⟩
def A29 : List (Nat × LoopAnn) := [(2, T29l2), (0, T29l0)]
noncomputable def E29 (K : Nat) : Env := mkEnv tyTab nfTab mpTab G29 [(20, ⟨P20, R20, fun x => F20 K x.1⟩), (26, ⟨P26, R26, fun x => F26 K x.1 x.2.1 x.2.2.1⟩), (17, ⟨P17, R17, fun x => F17 K x.1 x.2.1 x.2.2.1⟩)]
def B29l2 (K : Nat) (t1 : (List ((Int × (Int × (Int × (Int × (List (Int × (Int × (Bool × (List Int))))))))) × (Int × (List Int))))) (t7 : Int) (t9 : Int) (t10 : Int) (b2 : ((List Int) × ((List ByteArray) × (Int × Int)))) (b4 : (Int × Int)) (b6 : (List Int)) (kn : ((List ((Int × (Int × (Int × (Int × (List (Int × (Int × (Bool × (List Int))))))))) × (Int × (List Int)))) → Int → Int → Int → ((List Int) × ((List ByteArray) × (Int × Int))) → (Int × Int) → (List Int) → Option ((Int × Int)))) (kx : ((List ((Int × (Int × (Int × (Int × (List (Int × (Int × (Bool × (List Int))))))))) × (Int × (List Int)))) → Int → Int → ((List Int) × ((List ByteArray) × (Int × Int))) → (Int × Int) → (List Int) → Option ((Int × Int)))) : Option ((Int × Int)) := (if ((ltI t10 t7) = true) then (if ((inR t10 (((List.length t1) : Nat) : Int)) = true) then (if ((inR t7 (((List.length t1) : Nat) : Int)) = true) then (if ((eqI (nthD (Ty.pair (Ty.pair (Ty.int IntKind.i64) (Ty.pair (Ty.int IntKind.i64) (Ty.pair (Ty.int IntKind.i64) (Ty.pair (Ty.int IntKind.i64) (Ty.list (Ty.pair (Ty.int IntKind.i64) (Ty.pair (Ty.int IntKind.i64) (Ty.pair Ty.bool (Ty.arr 16 (Ty.int IntKind.u8)))))))))) (Ty.pair (Ty.int IntKind.i64) (Ty.arr 16 (Ty.int IntKind.u8)))) t1 t10).1.1 (nthD (Ty.pair (Ty.pair (Ty.int IntKind.i64) (Ty.pair (Ty.int IntKind.i64) (Ty.pair (Ty.int IntKind.i64) (Ty.pair (Ty.int IntKind.i64) (Ty.list (Ty.pair (Ty.int IntKind.i64) (Ty.pair (Ty.int IntKind.i64) (Ty.pair Ty.bool (Ty.arr 16 (Ty.int IntKind.u8)))))))))) (Ty.pair (Ty.int IntKind.i64) (Ty.arr 16 (Ty.int IntKind.u8)))) t1 t7).1.1) = true) then (kn t1 t7 t10 (IntKind.wrap IntKind.i64 (t10 + (1 : Int))) (b2.1, (b2.2.1, (b2.2.2.1, b2.2.2.2))) (b4.1, b4.2) b6) else (kn t1 t7 t9 (IntKind.wrap IntKind.i64 (t10 + (1 : Int))) (b2.1, (b2.2.1, (b2.2.2.1, b2.2.2.2))) (b4.1, b4.2) b6)) else none) else none) else (kx t1 t7 t9 (b2.1, (b2.2.1, (b2.2.2.1, b2.2.2.2))) (b4.1, b4.2) b6))
def F29l2 (K : Nat) : Nat → (List ((Int × (Int × (Int × (Int × (List (Int × (Int × (Bool × (List Int))))))))) × (Int × (List Int)))) → Int → Int → Int → ((List Int) × ((List ByteArray) × (Int × Int))) → (Int × Int) → (List Int) → ((List ((Int × (Int × (Int × (Int × (List (Int × (Int × (Bool × (List Int))))))))) × (Int × (List Int)))) → Int → Int → ((List Int) × ((List ByteArray) × (Int × Int))) → (Int × Int) → (List Int) → Option ((Int × Int))) → Option ((Int × Int))
  | 0, _, _, _, _, _, _, _, _ => none
  | k + 1, t1, t7, t9, t10, b2, b4, b6, kx => B29l2 K t1 t7 t9 t10 b2 b4 b6 (fun t1 t7 t9 t10 b2 b4 b6 => F29l2 K k t1 t7 t9 t10 b2 b4 b6 kx) kx
noncomputable def S29l2 (K : Nat) := loopStep (E29 K) A29 (lpK (RDen R29) K) (codeAt [1, 1, 1, 1, 0, 1, 2, 2, 1, 0, 2, 1, 1, 1, 1, 0, 1, 2, 2] (cd Tryd.f29)) 2 T29l2 (fun s => resOut (E29 K) s R29 Tryd.f29.results.toList)
noncomputable def L29l2 (K : Nat) (t1 : (List ((Int × (Int × (Int × (Int × (List (Int × (Int × (Bool × (List Int))))))))) × (Int × (List Int))))) (t7 : Int) (t9 : Int) (t10 : Int) (b2 : ((List Int) × ((List ByteArray) × (Int × Int)))) (b4 : (Int × Int)) (b6 : (List Int)) (kx : ((List ((Int × (Int × (Int × (Int × (List (Int × (Int × (Bool × (List Int))))))))) × (Int × (List Int)))) → Int → Int → ((List Int) × ((List ByteArray) × (Int × Int))) → (Int × Int) → (List Int) → Option ((Int × Int)))) : Option ((Int × Int)) := evLoop (S29l2 K) (fun y => kx y.1.1 y.1.2.1 y.1.2.2.1 y.2.1 y.2.2.1 y.2.2.2.1) K ((t1, (t7, (t9, (t10, ())))), (b2, (b4, (b6, ()))))
theorem S29l2_eq (K : Nat) (t1 : (List ((Int × (Int × (Int × (Int × (List (Int × (Int × (Bool × (List Int))))))))) × (Int × (List Int))))) (t7 : Int) (t9 : Int) (t10 : Int) (b2 : ((List Int) × ((List ByteArray) × (Int × Int)))) (b4 : (Int × Int)) (b6 : (List Int)) (kn : _ → Option ((Int × Int))) (kx : _ → Option ((Int × Int))) : S29l2 K ((t1, (t7, (t9, (t10, ())))), (b2, (b4, (b6, ())))) kn kx = B29l2 K t1 t7 t9 t10 b2 b4 b6 (fun t1 t7 t9 t10 b2 b4 b6 => kn ((t1, (t7, (t9, (t10, ())))), (b2, (b4, (b6, ()))))) (fun y0 y1 y2 y3 y4 y5 => kx ((y0, (y1, (y2, ()))), (y3, (y4, (y5, ()))))) := by
  unfold B29l2; kernel_rfl
theorem F29l2_go (K : Nat) (kx : ((List ((Int × (Int × (Int × (Int × (List (Int × (Int × (Bool × (List Int))))))))) × (Int × (List Int)))) → Int → Int → ((List Int) × ((List ByteArray) × (Int × Int))) → (Int × Int) → (List Int) → Option ((Int × Int)))) : ∀ (n : Nat) (t1 : (List ((Int × (Int × (Int × (Int × (List (Int × (Int × (Bool × (List Int))))))))) × (Int × (List Int))))) (t7 : Int) (t9 : Int) (t10 : Int) (b2 : ((List Int) × ((List ByteArray) × (Int × Int)))) (b4 : (Int × Int)) (b6 : (List Int)), evLoop (S29l2 K) (fun y => kx y.1.1 y.1.2.1 y.1.2.2.1 y.2.1 y.2.2.1 y.2.2.2.1) n ((t1, (t7, (t9, (t10, ())))), (b2, (b4, (b6, ())))) = F29l2 K n t1 t7 t9 t10 b2 b4 b6 kx := by
  intro n
  induction n with
  | zero => intros; rfl
  | succ n ih =>
    intros t1 t7 t9 t10 b2 b4 b6
    refine (S29l2_eq K t1 t7 t9 t10 b2 b4 b6 _ _).trans ?_
    have e : (fun t1 t7 t9 t10 b2 b4 b6 => evLoop (S29l2 K) (fun y => kx y.1.1 y.1.2.1 y.1.2.2.1 y.2.1 y.2.2.1 y.2.2.2.1) n ((t1, (t7, (t9, (t10, ())))), (b2, (b4, (b6, ()))))) = fun t1 t7 t9 t10 b2 b4 b6 => F29l2 K n t1 t7 t9 t10 b2 b4 b6 kx := by
      funext t1 t7 t9 t10 b2 b4 b6; exact ih t1 t7 t9 t10 b2 b4 b6
    rw [e]; rfl
theorem F29l2_eq (K : Nat) : F29l2 K K = L29l2 K := by
  funext t1 t7 t9 t10 b2 b4 b6 kx; exact (F29l2_go K kx K t1 t7 t9 t10 b2 b4 b6).symm
def B29l0 (K : Nat) (t1 : (List ((Int × (Int × (Int × (Int × (List (Int × (Int × (Bool × (List Int))))))))) × (Int × (List Int))))) (t7 : Int) (b2 : ((List Int) × ((List ByteArray) × (Int × Int)))) (b4 : (Int × Int)) (b6 : (List Int)) (kn : ((List ((Int × (Int × (Int × (Int × (List (Int × (Int × (Bool × (List Int))))))))) × (Int × (List Int)))) → Int → ((List Int) × ((List ByteArray) × (Int × Int))) → (Int × Int) → (List Int) → Option ((Int × Int)))) (kx : ((List ((Int × (Int × (Int × (Int × (List (Int × (Int × (Bool × (List Int))))))))) × (Int × (List Int)))) → (Int × Int) → Option ((Int × Int)))) : Option ((Int × Int)) := (if ((ltI t7 (((List.length t1) : Nat) : Int)) = true) then (if ((inR t7 (((List.length t1) : Nat) : Int)) = true) then (if ((inR t7 (((List.length t1) : Nat) : Int)) = true) then ((F26 K b6 ((nthD (Ty.pair (Ty.pair (Ty.int IntKind.i64) (Ty.pair (Ty.int IntKind.i64) (Ty.pair (Ty.int IntKind.i64) (Ty.pair (Ty.int IntKind.i64) (Ty.list (Ty.pair (Ty.int IntKind.i64) (Ty.pair (Ty.int IntKind.i64) (Ty.pair Ty.bool (Ty.arr 16 (Ty.int IntKind.u8)))))))))) (Ty.pair (Ty.int IntKind.i64) (Ty.arr 16 (Ty.int IntKind.u8)))) t1 t7).1.1, ((nthD (Ty.pair (Ty.pair (Ty.int IntKind.i64) (Ty.pair (Ty.int IntKind.i64) (Ty.pair (Ty.int IntKind.i64) (Ty.pair (Ty.int IntKind.i64) (Ty.list (Ty.pair (Ty.int IntKind.i64) (Ty.pair (Ty.int IntKind.i64) (Ty.pair Ty.bool (Ty.arr 16 (Ty.int IntKind.u8)))))))))) (Ty.pair (Ty.int IntKind.i64) (Ty.arr 16 (Ty.int IntKind.u8)))) t1 t7).1.2.1, ((nthD (Ty.pair (Ty.pair (Ty.int IntKind.i64) (Ty.pair (Ty.int IntKind.i64) (Ty.pair (Ty.int IntKind.i64) (Ty.pair (Ty.int IntKind.i64) (Ty.list (Ty.pair (Ty.int IntKind.i64) (Ty.pair (Ty.int IntKind.i64) (Ty.pair Ty.bool (Ty.arr 16 (Ty.int IntKind.u8)))))))))) (Ty.pair (Ty.int IntKind.i64) (Ty.arr 16 (Ty.int IntKind.u8)))) t1 t7).1.2.2.1, ((nthD (Ty.pair (Ty.pair (Ty.int IntKind.i64) (Ty.pair (Ty.int IntKind.i64) (Ty.pair (Ty.int IntKind.i64) (Ty.pair (Ty.int IntKind.i64) (Ty.list (Ty.pair (Ty.int IntKind.i64) (Ty.pair (Ty.int IntKind.i64) (Ty.pair Ty.bool (Ty.arr 16 (Ty.int IntKind.u8)))))))))) (Ty.pair (Ty.int IntKind.i64) (Ty.arr 16 (Ty.int IntKind.u8)))) t1 t7).1.2.2.2.1, (nthD (Ty.pair (Ty.pair (Ty.int IntKind.i64) (Ty.pair (Ty.int IntKind.i64) (Ty.pair (Ty.int IntKind.i64) (Ty.pair (Ty.int IntKind.i64) (Ty.list (Ty.pair (Ty.int IntKind.i64) (Ty.pair (Ty.int IntKind.i64) (Ty.pair Ty.bool (Ty.arr 16 (Ty.int IntKind.u8)))))))))) (Ty.pair (Ty.int IntKind.i64) (Ty.arr 16 (Ty.int IntKind.u8)))) t1 t7).1.2.2.2.2)))) (nthD (Ty.pair (Ty.pair (Ty.int IntKind.i64) (Ty.pair (Ty.int IntKind.i64) (Ty.pair (Ty.int IntKind.i64) (Ty.pair (Ty.int IntKind.i64) (Ty.list (Ty.pair (Ty.int IntKind.i64) (Ty.pair (Ty.int IntKind.i64) (Ty.pair Ty.bool (Ty.arr 16 (Ty.int IntKind.u8)))))))))) (Ty.pair (Ty.int IntKind.i64) (Ty.arr 16 (Ty.int IntKind.u8)))) t1 t7).2.1).bind fun y0 => (if ((inR t7 (((List.length t1) : Nat) : Int)) = true) then (if ((!(Ty.beq (Ty.arr 16 (Ty.int IntKind.u8)) y0 (nthD (Ty.pair (Ty.pair (Ty.int IntKind.i64) (Ty.pair (Ty.int IntKind.i64) (Ty.pair (Ty.int IntKind.i64) (Ty.pair (Ty.int IntKind.i64) (Ty.list (Ty.pair (Ty.int IntKind.i64) (Ty.pair (Ty.int IntKind.i64) (Ty.pair Ty.bool (Ty.arr 16 (Ty.int IntKind.u8)))))))))) (Ty.pair (Ty.int IntKind.i64) (Ty.arr 16 (Ty.int IntKind.u8)))) t1 t7).2.2)) = true) then (some (t7, (23 : Int))) else (if ((inR t7 (((List.length t1) : Nat) : Int)) = true) then (if ((inR t7 (((List.length t1) : Nat) : Int)) = true) then ((F17 K (b2.1, (b2.2.1, (b2.2.2.1, b2.2.2.2))) ((nthD (Ty.pair (Ty.pair (Ty.int IntKind.i64) (Ty.pair (Ty.int IntKind.i64) (Ty.pair (Ty.int IntKind.i64) (Ty.pair (Ty.int IntKind.i64) (Ty.list (Ty.pair (Ty.int IntKind.i64) (Ty.pair (Ty.int IntKind.i64) (Ty.pair Ty.bool (Ty.arr 16 (Ty.int IntKind.u8)))))))))) (Ty.pair (Ty.int IntKind.i64) (Ty.arr 16 (Ty.int IntKind.u8)))) t1 t7).1.1, ((nthD (Ty.pair (Ty.pair (Ty.int IntKind.i64) (Ty.pair (Ty.int IntKind.i64) (Ty.pair (Ty.int IntKind.i64) (Ty.pair (Ty.int IntKind.i64) (Ty.list (Ty.pair (Ty.int IntKind.i64) (Ty.pair (Ty.int IntKind.i64) (Ty.pair Ty.bool (Ty.arr 16 (Ty.int IntKind.u8)))))))))) (Ty.pair (Ty.int IntKind.i64) (Ty.arr 16 (Ty.int IntKind.u8)))) t1 t7).1.2.1, ((nthD (Ty.pair (Ty.pair (Ty.int IntKind.i64) (Ty.pair (Ty.int IntKind.i64) (Ty.pair (Ty.int IntKind.i64) (Ty.pair (Ty.int IntKind.i64) (Ty.list (Ty.pair (Ty.int IntKind.i64) (Ty.pair (Ty.int IntKind.i64) (Ty.pair Ty.bool (Ty.arr 16 (Ty.int IntKind.u8)))))))))) (Ty.pair (Ty.int IntKind.i64) (Ty.arr 16 (Ty.int IntKind.u8)))) t1 t7).1.2.2.1, ((nthD (Ty.pair (Ty.pair (Ty.int IntKind.i64) (Ty.pair (Ty.int IntKind.i64) (Ty.pair (Ty.int IntKind.i64) (Ty.pair (Ty.int IntKind.i64) (Ty.list (Ty.pair (Ty.int IntKind.i64) (Ty.pair (Ty.int IntKind.i64) (Ty.pair Ty.bool (Ty.arr 16 (Ty.int IntKind.u8)))))))))) (Ty.pair (Ty.int IntKind.i64) (Ty.arr 16 (Ty.int IntKind.u8)))) t1 t7).1.2.2.2.1, (nthD (Ty.pair (Ty.pair (Ty.int IntKind.i64) (Ty.pair (Ty.int IntKind.i64) (Ty.pair (Ty.int IntKind.i64) (Ty.pair (Ty.int IntKind.i64) (Ty.list (Ty.pair (Ty.int IntKind.i64) (Ty.pair (Ty.int IntKind.i64) (Ty.pair Ty.bool (Ty.arr 16 (Ty.int IntKind.u8)))))))))) (Ty.pair (Ty.int IntKind.i64) (Ty.arr 16 (Ty.int IntKind.u8)))) t1 t7).1.2.2.2.2)))) (nthD (Ty.pair (Ty.pair (Ty.int IntKind.i64) (Ty.pair (Ty.int IntKind.i64) (Ty.pair (Ty.int IntKind.i64) (Ty.pair (Ty.int IntKind.i64) (Ty.list (Ty.pair (Ty.int IntKind.i64) (Ty.pair (Ty.int IntKind.i64) (Ty.pair Ty.bool (Ty.arr 16 (Ty.int IntKind.u8)))))))))) (Ty.pair (Ty.int IntKind.i64) (Ty.arr 16 (Ty.int IntKind.u8)))) t1 t7).2.1).bind fun y1 => (if ((!(eqI y1.2 (0 : Int))) = true) then (some (t7, y1.2)) else (F29l2 K K t1 t7 (-(1 : Int)) (0 : Int) (b2.1, (b2.2.1, (b2.2.2.1, b2.2.2.2))) (b4.1, b4.2) b6 (fun y2 y3 y4 y5 y6 y7 => (if ((leI (0 : Int) y4) = true) then (if ((inR y4 (((List.length y2) : Nat) : Int)) = true) then (if ((inR y3 (((List.length y2) : Nat) : Int)) = true) then (if ((!(eqI (nthD (Ty.pair (Ty.pair (Ty.int IntKind.i64) (Ty.pair (Ty.int IntKind.i64) (Ty.pair (Ty.int IntKind.i64) (Ty.pair (Ty.int IntKind.i64) (Ty.list (Ty.pair (Ty.int IntKind.i64) (Ty.pair (Ty.int IntKind.i64) (Ty.pair Ty.bool (Ty.arr 16 (Ty.int IntKind.u8)))))))))) (Ty.pair (Ty.int IntKind.i64) (Ty.arr 16 (Ty.int IntKind.u8)))) y2 y4).1.2.2.1 (nthD (Ty.pair (Ty.pair (Ty.int IntKind.i64) (Ty.pair (Ty.int IntKind.i64) (Ty.pair (Ty.int IntKind.i64) (Ty.pair (Ty.int IntKind.i64) (Ty.list (Ty.pair (Ty.int IntKind.i64) (Ty.pair (Ty.int IntKind.i64) (Ty.pair Ty.bool (Ty.arr 16 (Ty.int IntKind.u8)))))))))) (Ty.pair (Ty.int IntKind.i64) (Ty.arr 16 (Ty.int IntKind.u8)))) y2 y3).1.2.1)) = true) then (some (y3, (4 : Int))) else (if ((inR y3 (((List.length y2) : Nat) : Int)) = true) then (kn y2 (IntKind.wrap IntKind.i64 (y3 + (1 : Int))) (y5.1, (y5.2.1, (y5.2.2.1, y5.2.2.2))) (y6.1, y6.2) (nthD (Ty.pair (Ty.pair (Ty.int IntKind.i64) (Ty.pair (Ty.int IntKind.i64) (Ty.pair (Ty.int IntKind.i64) (Ty.pair (Ty.int IntKind.i64) (Ty.list (Ty.pair (Ty.int IntKind.i64) (Ty.pair (Ty.int IntKind.i64) (Ty.pair Ty.bool (Ty.arr 16 (Ty.int IntKind.u8)))))))))) (Ty.pair (Ty.int IntKind.i64) (Ty.arr 16 (Ty.int IntKind.u8)))) y2 y3).2.2) else none)) else none) else none) else (if ((inR y3 (((List.length y2) : Nat) : Int)) = true) then (kn y2 (IntKind.wrap IntKind.i64 (y3 + (1 : Int))) (y5.1, (y5.2.1, (y5.2.2.1, y5.2.2.2))) (y6.1, y6.2) (nthD (Ty.pair (Ty.pair (Ty.int IntKind.i64) (Ty.pair (Ty.int IntKind.i64) (Ty.pair (Ty.int IntKind.i64) (Ty.pair (Ty.int IntKind.i64) (Ty.list (Ty.pair (Ty.int IntKind.i64) (Ty.pair (Ty.int IntKind.i64) (Ty.pair Ty.bool (Ty.arr 16 (Ty.int IntKind.u8)))))))))) (Ty.pair (Ty.int IntKind.i64) (Ty.arr 16 (Ty.int IntKind.u8)))) y2 y3).2.2) else none)))))) else none) else none)) else none)) else none) else none) else (kx t1 (b4.1, b4.2)))
def F29l0 (K : Nat) : Nat → (List ((Int × (Int × (Int × (Int × (List (Int × (Int × (Bool × (List Int))))))))) × (Int × (List Int)))) → Int → ((List Int) × ((List ByteArray) × (Int × Int))) → (Int × Int) → (List Int) → ((List ((Int × (Int × (Int × (Int × (List (Int × (Int × (Bool × (List Int))))))))) × (Int × (List Int)))) → (Int × Int) → Option ((Int × Int))) → Option ((Int × Int))
  | 0, _, _, _, _, _, _ => none
  | k + 1, t1, t7, b2, b4, b6, kx => B29l0 K t1 t7 b2 b4 b6 (fun t1 t7 b2 b4 b6 => F29l0 K k t1 t7 b2 b4 b6 kx) kx
noncomputable def S29l0 (K : Nat) := loopStep (E29 K) A29 (lpK (RDen R29) K) (codeAt [1, 1, 1, 1, 0, 1, 2, 2] (cd Tryd.f29)) 0 T29l0 (fun s => resOut (E29 K) s R29 Tryd.f29.results.toList)
noncomputable def L29l0 (K : Nat) (t1 : (List ((Int × (Int × (Int × (Int × (List (Int × (Int × (Bool × (List Int))))))))) × (Int × (List Int))))) (t7 : Int) (b2 : ((List Int) × ((List ByteArray) × (Int × Int)))) (b4 : (Int × Int)) (b6 : (List Int)) (kx : ((List ((Int × (Int × (Int × (Int × (List (Int × (Int × (Bool × (List Int))))))))) × (Int × (List Int)))) → (Int × Int) → Option ((Int × Int)))) : Option ((Int × Int)) := evLoop (S29l0 K) (fun y => kx y.1.1 y.2.1) K ((t1, (t7, ())), (b2, (b4, (b6, ()))))
theorem S29l0_eq (K : Nat) (t1 : (List ((Int × (Int × (Int × (Int × (List (Int × (Int × (Bool × (List Int))))))))) × (Int × (List Int))))) (t7 : Int) (b2 : ((List Int) × ((List ByteArray) × (Int × Int)))) (b4 : (Int × Int)) (b6 : (List Int)) (kn : _ → Option ((Int × Int))) (kx : _ → Option ((Int × Int))) : S29l0 K ((t1, (t7, ())), (b2, (b4, (b6, ())))) kn kx = B29l0 K t1 t7 b2 b4 b6 (fun t1 t7 b2 b4 b6 => kn ((t1, (t7, ())), (b2, (b4, (b6, ()))))) (fun y0 y1 => kx ((y0, ()), (y1, ()))) := by
  unfold B29l0; rw [F29l2_eq K]; kernel_rfl
theorem F29l0_go (K : Nat) (kx : ((List ((Int × (Int × (Int × (Int × (List (Int × (Int × (Bool × (List Int))))))))) × (Int × (List Int)))) → (Int × Int) → Option ((Int × Int)))) : ∀ (n : Nat) (t1 : (List ((Int × (Int × (Int × (Int × (List (Int × (Int × (Bool × (List Int))))))))) × (Int × (List Int))))) (t7 : Int) (b2 : ((List Int) × ((List ByteArray) × (Int × Int)))) (b4 : (Int × Int)) (b6 : (List Int)), evLoop (S29l0 K) (fun y => kx y.1.1 y.2.1) n ((t1, (t7, ())), (b2, (b4, (b6, ())))) = F29l0 K n t1 t7 b2 b4 b6 kx := by
  intro n
  induction n with
  | zero => intros; rfl
  | succ n ih =>
    intros t1 t7 b2 b4 b6
    refine (S29l0_eq K t1 t7 b2 b4 b6 _ _).trans ?_
    have e : (fun t1 t7 b2 b4 b6 => evLoop (S29l0 K) (fun y => kx y.1.1 y.2.1) n ((t1, (t7, ())), (b2, (b4, (b6, ()))))) = fun t1 t7 b2 b4 b6 => F29l0 K n t1 t7 b2 b4 b6 kx := by
      funext t1 t7 b2 b4 b6; exact ih t1 t7 b2 b4 b6
    rw [e]; rfl
theorem F29l0_eq (K : Nat) : F29l0 K K = L29l0 K := by
  funext t1 t7 b2 b4 b6 kx; exact (F29l0_go K kx K t1 t7 b2 b4 b6).symm
def F29 (K : Nat) (x0 : ((List Int) × ((List ByteArray) × (Int × Int)))) (x1 : (List ((Int × (Int × (Int × (Int × (List (Int × (Int × (Bool × (List Int))))))))) × (Int × (List Int))))) : Option ((Int × Int)) := ((F20 K (x0.1, (x0.2.1, (x0.2.2.1, x0.2.2.2)))).bind fun y0 => (if ((!(eqI y0 (0 : Int))) = true) then (some ((0 : Int), y0)) else (F29l0 K K x1 (0 : Int) (x0.1, (x0.2.1, (x0.2.2.1, x0.2.2.2))) ((0 : Int), (0 : Int)) (List.replicate 16 (0 : Int)) (fun y1 y2 => (some ((((List.length y1) : Nat) : Int), (0 : Int)))))))
theorem F29_eq (K : Nat) (x0 : ((List Int) × ((List ByteArray) × (Int × Int)))) (x1 : (List ((Int × (Int × (Int × (Int × (List (Int × (Int × (Bool × (List Int))))))))) × (Int × (List Int))))) : evFn (E29 K) A29 P29 R29 (lpK (RDen R29) K) 108 Tryd.f29.results.toList (cd Tryd.f29) (x0, (x1, ())) = F29 K x0 x1 := by
  unfold F29; rw [F29l0_eq K]; kernel_rfl
end Go.Proofs.YtkgampbboffhmaaDoor
