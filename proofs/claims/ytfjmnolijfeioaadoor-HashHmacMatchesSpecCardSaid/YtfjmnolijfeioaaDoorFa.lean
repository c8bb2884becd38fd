import Derived.Test.YtfjmnolijfeioaaDoorEnv
set_option linter.unusedVariables false
set_option maxRecDepth 100000
namespace Go.Proofs.YtfjmnolijfeioaaDoor
open Go Go.Q
/- quietus/hash.Begin -/
def A16 : List (Nat × LoopAnn) := []
noncomputable def E16 (K : Nat) : Env := mkEnv tyTab nfTab G16 []
def F16 (K : Nat) : Option (((List Int) × ((List Int) × Int))) := (some (((1779033703 : Int) :: (3144134277 : Int) :: (1013904242 : Int) :: (2773480762 : Int) :: (1359893119 : Int) :: (2600822924 : Int) :: (528734635 : Int) :: (1541459225 : Int) :: (List.replicate 0 (0 : Int))), ((List.replicate 64 (0 : Int)), (0 : Int))))
theorem F16_eq (K : Nat) : evFn (E16 K) A16 P16 R16 (lpK (RDen R16) K) 3 Tryd.f16.results.toList (cd Tryd.f16) () = F16 K := by
  unfold F16; kernel_rfl
/- math/bits.RotateLeft32 -/
def A49 : List (Nat × LoopAnn) := []
noncomputable def E49 (K : Nat) : Env := mkEnv tyTab nfTab G49 []
def F49 (K : Nat) (x0 : Int) (x1 : Int) : Option (Int) := (if ((ltI (IntKind.wrap IntKind.u64 ((32 : Int) - (bitAnd IntKind.u64 (IntKind.wrap IntKind.u64 x1) (31 : Int)))) (0 : Int)) = true) then none else (some (bitOr IntKind.u32 (shlI IntKind.u32 x0 (bitAnd IntKind.u64 (IntKind.wrap IntKind.u64 x1) (31 : Int))) (shrI IntKind.u32 x0 (IntKind.wrap IntKind.u64 ((32 : Int) - (bitAnd IntKind.u64 (IntKind.wrap IntKind.u64 x1) (31 : Int))))))))
theorem F49_eq (K : Nat) (x0 : Int) (x1 : Int) : evFn (E49 K) A49 P49 R49 (lpK (RDen R49) K) 17 Tryd.f49.results.toList (cd Tryd.f49) (x0, (x1, ())) = F49 K x0 x1 := by
  unfold F49; kernel_rfl
/- quietus/hash.schedule -/
def T47l2 : LoopAnn := ⟨tm 79 [(0, (.data (.list (.int .u8)))), (1, (.ptr 2)), (0, (.ptr 3)), (0, (.data (.int .i64))), (6, (.data (.int .i64))), (10, (.data (.list (.int .u8)))), (0, (.data (.int .i64))), (0, (.data (.int .i64)))] [(2, (.arr 64 (.int .u32))), (0, (.arr 64 (.int .u32)))], tm 79 [(0, (.data (.list (.int .u8)))), (1, (.ptr 2)), (0, (.ptr 3)), (7, (.data (.int .i64)))] [(2, (.arr 64 (.int .u32))), (0, (.arr 64 (.int .u32)))]⟩
def T47l0 : LoopAnn := ⟨tm 79 [(0, (.data (.list (.int .u8)))), (1, (.ptr 2)), (0, (.ptr 3)), (7, (.data (.int .i64)))] [(2, (.arr 64 (.int .u32))), (0, (.arr 64 (.int .u32)))], tm 79 [(2, (.ptr 2)), (0, (.ptr 3))] [(2, (.arr 64 (.int .u32))), (0, (.arr 64 (.int .u32)))]⟩
def A47 : List (Nat × LoopAnn) := [(2, T47l2), (0, T47l0)]
noncomputable def E47 (K : Nat) : Env := mkEnv tyTab nfTab G47 [(49, ⟨P49, R49, fun x => F49 K x.1 x.2.1⟩)]
def B47l2 (K : Nat) (t0 : (List Int)) (t4 : Int) (t11 : Int) (t22 : (List Int)) (t23 : Int) (t24 : Int) (b2 : (List Int)) (b3 : (List Int)) (kn : ((List Int) → Int → Int → (List Int) → Int → Int → (List Int) → (List Int) → Option ((List Int)))) (kx : ((List Int) → Int → (List Int) → (List Int) → Option ((List Int)))) : Option ((List Int)) := (if ((ltI t24 t23) = true) then (if ((inR t24 (((List.length t22) : Nat) : Int)) = true) then (if ((inR t4 ((64 : Nat) : Int)) = true) then (if ((inR t4 ((64 : Nat) : Int)) = true) then (kn t0 t4 t11 t22 t23 (IntKind.wrap IntKind.i64 (t24 + (1 : Int))) b2 (List.set b3 (Int.toNat t4) (bitOr IntKind.u32 (shlI IntKind.u32 (nthD (Ty.int IntKind.u32) b3 t4) (8 : Int)) (IntKind.wrap IntKind.u32 (nthD (Ty.int IntKind.u8) t22 t24))))) else none) else none) else none) else (kx t0 t11 b2 b3))
def F47l2 (K : Nat) : Nat → (List Int) → Int → Int → (List Int) → Int → Int → (List Int) → (List Int) → ((List Int) → Int → (List Int) → (List Int) → Option ((List Int))) → Option ((List Int))
  | 0, _, _, _, _, _, _, _, _, _ => none
  | k + 1, t0, t4, t11, t22, t23, t24, b2, b3, kx => B47l2 K t0 t4 t11 t22 t23 t24 b2 b3 (fun t0 t4 t11 t22 t23 t24 b2 b3 => F47l2 K k t0 t4 t11 t22 t23 t24 b2 b3 kx) kx
noncomputable def S47l2 (K : Nat) := loopStep (E47 K) A47 (lpK (RDen R47) K) (codeAt [1, 1, 0, 1, 2, 2, 1, 1, 0, 2, 1, 0, 1, 0, 0, 1, 2, 2] (cd Tryd.f47)) 2 T47l2 (fun s => resOut (E47 K) s R47 Tryd.f47.results.toList)
noncomputable def L47l2 (K : Nat) (t0 : (List Int)) (t4 : Int) (t11 : Int) (t22 : (List Int)) (t23 : Int) (t24 : Int) (b2 : (List Int)) (b3 : (List Int)) (kx : ((List Int) → Int → (List Int) → (List Int) → Option ((List Int)))) : Option ((List Int)) := evLoop (S47l2 K) (fun y => kx y.1.1 y.1.2.1 y.2.1 y.2.2.1) K ((t0, (t4, (t11, (t22, (t23, (t24, ())))))), (b2, (b3, ())))
theorem S47l2_eq (K : Nat) (t0 : (List Int)) (t4 : Int) (t11 : Int) (t22 : (List Int)) (t23 : Int) (t24 : Int) (b2 : (List Int)) (b3 : (List Int)) (kn : _ → Option ((List Int))) (kx : _ → Option ((List Int))) : S47l2 K ((t0, (t4, (t11, (t22, (t23, (t24, ())))))), (b2, (b3, ()))) kn kx = B47l2 K t0 t4 t11 t22 t23 t24 b2 b3 (fun t0 t4 t11 t22 t23 t24 b2 b3 => kn ((t0, (t4, (t11, (t22, (t23, (t24, ())))))), (b2, (b3, ())))) (fun y0 y1 y2 y3 => kx ((y0, (y1, ())), (y2, (y3, ())))) := by
  unfold B47l2; kernel_rfl
theorem F47l2_go (K : Nat) (kx : ((List Int) → Int → (List Int) → (List Int) → Option ((List Int)))) : ∀ (n : Nat) (t0 : (List Int)) (t4 : Int) (t11 : Int) (t22 : (List Int)) (t23 : Int) (t24 : Int) (b2 : (List Int)) (b3 : (List Int)), evLoop (S47l2 K) (fun y => kx y.1.1 y.1.2.1 y.2.1 y.2.2.1) n ((t0, (t4, (t11, (t22, (t23, (t24, ())))))), (b2, (b3, ()))) = F47l2 K n t0 t4 t11 t22 t23 t24 b2 b3 kx := by
  intro n
  induction n with
  | zero => intros; rfl
  | succ n ih =>
    intros t0 t4 t11 t22 t23 t24 b2 b3
    refine (S47l2_eq K t0 t4 t11 t22 t23 t24 b2 b3 _ _).trans ?_
    have e : (fun t0 t4 t11 t22 t23 t24 b2 b3 => evLoop (S47l2 K) (fun y => kx y.1.1 y.1.2.1 y.2.1 y.2.2.1) n ((t0, (t4, (t11, (t22, (t23, (t24, ())))))), (b2, (b3, ())))) = fun t0 t4 t11 t22 t23 t24 b2 b3 => F47l2 K n t0 t4 t11 t22 t23 t24 b2 b3 kx := by
      funext t0 t4 t11 t22 t23 t24 b2 b3; exact ih t0 t4 t11 t22 t23 t24 b2 b3
    rw [e]; rfl
theorem F47l2_eq (K : Nat) : F47l2 K K = L47l2 K := by
  funext t0 t4 t11 t22 t23 t24 b2 b3 kx; exact (F47l2_go K kx K t0 t4 t11 t22 t23 t24 b2 b3).symm
def B47l0 (K : Nat) (t0 : (List Int)) (t11 : Int) (b2 : (List Int)) (b3 : (List Int)) (kn : ((List Int) → Int → (List Int) → (List Int) → Option ((List Int)))) (kx : ((List Int) → (List Int) → Option ((List Int)))) : Option ((List Int)) := (if ((ltI t11 (64 : Int)) = true) then (if ((ltI t11 (16 : Int)) = true) then (if ((inB (IntKind.wrap IntKind.i64 ((4 : Int) * t11)) (IntKind.wrap IntKind.i64 ((IntKind.wrap IntKind.i64 ((4 : Int) * t11)) + (4 : Int))) (((List.length t0) : Nat) : Int)) = true) then (F47l2 K K t0 t11 t11 (cut t0 (IntKind.wrap IntKind.i64 ((4 : Int) * t11)) (IntKind.wrap IntKind.i64 ((IntKind.wrap IntKind.i64 ((4 : Int) * t11)) + (4 : Int)))) (((List.length (cut t0 (IntKind.wrap IntKind.i64 ((4 : Int) * t11)) (IntKind.wrap IntKind.i64 ((IntKind.wrap IntKind.i64 ((4 : Int) * t11)) + (4 : Int))))) : Nat) : Int) (0 : Int) b2 b3 (fun y0 y1 y2 y3 => (kn y0 (IntKind.wrap IntKind.i64 (y1 + (1 : Int))) y2 y3))) else none) else (if ((inR (IntKind.wrap IntKind.i64 (t11 - (15 : Int))) ((64 : Nat) : Int)) = true) then (if ((inR (IntKind.wrap IntKind.i64 (t11 - (2 : Int))) ((64 : Nat) : Int)) = true) then ((F49 K (nthD (Ty.int IntKind.u32) b3 (IntKind.wrap IntKind.i64 (t11 - (15 : Int)))) (-(7 : Int))).bind fun y0 => ((F49 K (nthD (Ty.int IntKind.u32) b3 (IntKind.wrap IntKind.i64 (t11 - (15 : Int)))) (-(18 : Int))).bind fun y1 => ((F49 K (nthD (Ty.int IntKind.u32) b3 (IntKind.wrap IntKind.i64 (t11 - (2 : Int)))) (-(17 : Int))).bind fun y2 => ((F49 K (nthD (Ty.int IntKind.u32) b3 (IntKind.wrap IntKind.i64 (t11 - (2 : Int)))) (-(19 : Int))).bind fun y3 => (if ((inR (IntKind.wrap IntKind.i64 (t11 - (16 : Int))) ((64 : Nat) : Int)) = true) then (if ((inR (IntKind.wrap IntKind.i64 (t11 - (7 : Int))) ((64 : Nat) : Int)) = true) then (if ((inR t11 ((64 : Nat) : Int)) = true) then (kn t0 (IntKind.wrap IntKind.i64 (t11 + (1 : Int))) b2 (List.set b3 (Int.toNat t11) (IntKind.wrap IntKind.u32 ((IntKind.wrap IntKind.u32 ((IntKind.wrap IntKind.u32 ((nthD (Ty.int IntKind.u32) b3 (IntKind.wrap IntKind.i64 (t11 - (16 : Int)))) + (bitXor IntKind.u32 (bitXor IntKind.u32 y0 y1) (shrI IntKind.u32 (nthD (Ty.int IntKind.u32) b3 (IntKind.wrap IntKind.i64 (t11 - (15 : Int)))) (3 : Int))))) + (nthD (Ty.int IntKind.u32) b3 (IntKind.wrap IntKind.i64 (t11 - (7 : Int)))))) + (bitXor IntKind.u32 (bitXor IntKind.u32 y2 y3) (shrI IntKind.u32 (nthD (Ty.int IntKind.u32) b3 (IntKind.wrap IntKind.i64 (t11 - (2 : Int)))) (10 : Int))))))) else none) else none) else none))))) else none) else none)) else (kx b2 b3))
def F47l0 (K : Nat) : Nat → (List Int) → Int → (List Int) → (List Int) → ((List Int) → (List Int) → Option ((List Int))) → Option ((List Int))
  | 0, _, _, _, _, _ => none
  | k + 1, t0, t11, b2, b3, kx => B47l0 K t0 t11 b2 b3 (fun t0 t11 b2 b3 => F47l0 K k t0 t11 b2 b3 kx) kx
noncomputable def S47l0 (K : Nat) := loopStep (E47 K) A47 (lpK (RDen R47) K) (codeAt [1, 1, 0, 1, 2, 2] (cd Tryd.f47)) 0 T47l0 (fun s => resOut (E47 K) s R47 Tryd.f47.results.toList)
noncomputable def L47l0 (K : Nat) (t0 : (List Int)) (t11 : Int) (b2 : (List Int)) (b3 : (List Int)) (kx : ((List Int) → (List Int) → Option ((List Int)))) : Option ((List Int)) := evLoop (S47l0 K) (fun y => kx y.2.1 y.2.2.1) K ((t0, (t11, ())), (b2, (b3, ())))
theorem S47l0_eq (K : Nat) (t0 : (List Int)) (t11 : Int) (b2 : (List Int)) (b3 : (List Int)) (kn : _ → Option ((List Int))) (kx : _ → Option ((List Int))) : S47l0 K ((t0, (t11, ())), (b2, (b3, ()))) kn kx = B47l0 K t0 t11 b2 b3 (fun t0 t11 b2 b3 => kn ((t0, (t11, ())), (b2, (b3, ())))) (fun y0 y1 => kx ((), (y0, (y1, ())))) := by
  unfold B47l0; rw [F47l2_eq K]; kernel_rfl
theorem F47l0_go (K : Nat) (kx : ((List Int) → (List Int) → Option ((List Int)))) : ∀ (n : Nat) (t0 : (List Int)) (t11 : Int) (b2 : (List Int)) (b3 : (List Int)), evLoop (S47l0 K) (fun y => kx y.2.1 y.2.2.1) n ((t0, (t11, ())), (b2, (b3, ()))) = F47l0 K n t0 t11 b2 b3 kx := by
  intro n
  induction n with
  | zero => intros; rfl
  | succ n ih =>
    intros t0 t11 b2 b3
    refine (S47l0_eq K t0 t11 b2 b3 _ _).trans ?_
    have e : (fun t0 t11 b2 b3 => evLoop (S47l0 K) (fun y => kx y.2.1 y.2.2.1) n ((t0, (t11, ())), (b2, (b3, ())))) = fun t0 t11 b2 b3 => F47l0 K n t0 t11 b2 b3 kx := by
      funext t0 t11 b2 b3; exact ih t0 t11 b2 b3
    rw [e]; rfl
theorem F47l0_eq (K : Nat) : F47l0 K K = L47l0 K := by
  funext t0 t11 b2 b3 kx; exact (F47l0_go K kx K t0 t11 b2 b3).symm
def F47 (K : Nat) (x0 : (List Int)) : Option ((List Int)) := (F47l0 K K x0 (0 : Int) (List.replicate 64 (0 : Int)) (List.replicate 64 (0 : Int)) (fun y0 y1 => (some y1)))
theorem F47_eq (K : Nat) (x0 : (List Int)) : evFn (E47 K) A47 P47 R47 (lpK (RDen R47) K) 79 Tryd.f47.results.toList (cd Tryd.f47) (x0, ()) = F47 K x0 := by
  unfold F47; rw [F47l0_eq K]; kernel_rfl
/- quietus/hash.mix -/
def A48 : List (Nat × LoopAnn) := []
noncomputable def E48 (K : Nat) : Env := mkEnv tyTab nfTab G48 [(49, ⟨P49, R49, fun x => F49 K x.1 x.2.1⟩)]
def F48 (K : Nat) (x0 : Int) (x1 : Int) (x2 : Int) (x3 : Int) : Option (Int) := ((F49 K x0 (IntKind.wrap IntKind.i64 ((0 : Int) - x1))).bind fun y0 => ((F49 K x0 (IntKind.wrap IntKind.i64 ((0 : Int) - x2))).bind fun y1 => ((F49 K x0 (IntKind.wrap IntKind.i64 ((0 : Int) - x3))).bind fun y2 => (some (bitXor IntKind.u32 (bitXor IntKind.u32 y0 y1) y2)))))
theorem F48_eq (K : Nat) (x0 : Int) (x1 : Int) (x2 : Int) (x3 : Int) : evFn (E48 K) A48 P48 R48 (lpK (RDen R48) K) 23 Tryd.f48.results.toList (cd Tryd.f48) (x0, (x1, (x2, (x3, ())))) = F48 K x0 x1 x2 x3 := by
  unfold F48; kernel_rfl
/- quietus/hash.compress -/
def T38l2 : LoopAnn := ⟨tm 116 [(2, (.ptr 2)), (1, (.ptr 4)), (1, (.ptr 6)), (0, (.ptr 7)), (86, (.data (.int .i64)))] [(2, (.arr 8 (.int .u32))), (1, (.arr 8 (.int .u32))), (1, (.arr 4 (.int .u32))), (0, (.arr 4 (.int .u32)))], tm 116 [(2, (.ptr 2)), (1, (.ptr 4))] [(2, (.arr 8 (.int .u32))), (1, (.arr 8 (.int .u32)))]⟩
def T38l0 : LoopAnn := ⟨tm 116 [(2, (.ptr 2)), (1, (.ptr 4)), (0, (.ptr 5)), (0, (.ptr 6)), (0, (.ptr 7)), (13, (.data (.arr 64 (.int .u32)))), (0, (.data (.int .i64)))] [(2, (.arr 8 (.int .u32))), (1, (.arr 8 (.int .u32))), (0, (.arr 64 (.int .u32))), (0, (.arr 4 (.int .u32))), (0, (.arr 4 (.int .u32)))], tm 116 [(2, (.ptr 2)), (1, (.ptr 4)), (1, (.ptr 6)), (0, (.ptr 7))] [(2, (.arr 8 (.int .u32))), (1, (.arr 8 (.int .u32))), (1, (.arr 4 (.int .u32))), (0, (.arr 4 (.int .u32)))]⟩
def A38 : List (Nat × LoopAnn) := [(2, T38l2), (0, T38l0)]
noncomputable def E38 (K : Nat) : Env := mkEnv tyTab nfTab G38 [(47, ⟨P47, R47, fun x => F47 K x.1⟩), (48, ⟨P48, R48, fun x => F48 K x.1 x.2.1 x.2.2.1 x.2.2.2.1⟩)]
def B38l2 (K : Nat) (t94 : Int) (b2 : (List Int)) (b4 : (List Int)) (b6 : (List Int)) (b7 : (List Int)) (kn : (Int → (List Int) → (List Int) → (List Int) → (List Int) → Option ((List Int)))) (kx : ((List Int) → (List Int) → Option ((List Int)))) : Option ((List Int)) := (if ((ltI t94 (4 : Int)) = true) then (if ((inR t94 ((8 : Nat) : Int)) = true) then (if ((inR t94 ((4 : Nat) : Int)) = true) then (if ((inR t94 ((8 : Nat) : Int)) = true) then (if ((inR (IntKind.wrap IntKind.i64 (t94 + (4 : Int))) ((8 : Nat) : Int)) = true) then (if ((inR t94 ((4 : Nat) : Int)) = true) then (if ((inR (IntKind.wrap IntKind.i64 (t94 + (4 : Int))) ((8 : Nat) : Int)) = true) then (kn (IntKind.wrap IntKind.i64 (t94 + (1 : Int))) (List.set (List.set b2 (Int.toNat t94) (IntKind.wrap IntKind.u32 ((nthD (Ty.int IntKind.u32) b2 t94) + (nthD (Ty.int IntKind.u32) b6 t94)))) (Int.toNat (IntKind.wrap IntKind.i64 (t94 + (4 : Int)))) (IntKind.wrap IntKind.u32 ((nthD (Ty.int IntKind.u32) (List.set b2 (Int.toNat t94) (IntKind.wrap IntKind.u32 ((nthD (Ty.int IntKind.u32) b2 t94) + (nthD (Ty.int IntKind.u32) b6 t94)))) (IntKind.wrap IntKind.i64 (t94 + (4 : Int)))) + (nthD (Ty.int IntKind.u32) b7 t94)))) b4 b6 b7) else none) else none) else none) else none) else none) else none) else (kx b2 b4))
def F38l2 (K : Nat) : Nat → Int → (List Int) → (List Int) → (List Int) → (List Int) → ((List Int) → (List Int) → Option ((List Int))) → Option ((List Int))
  | 0, _, _, _, _, _, _ => none
  | k + 1, t94, b2, b4, b6, b7, kx => B38l2 K t94 b2 b4 b6 b7 (fun t94 b2 b4 b6 b7 => F38l2 K k t94 b2 b4 b6 b7 kx) kx
noncomputable def S38l2 (K : Nat) := loopStep (E38 K) A38 (lpK (RDen R38) K) (codeAt [1, 1, 1, 1, 0, 1, 2, 2] (cd Tryd.f38)) 2 T38l2 (fun s => resOut (E38 K) s R38 Tryd.f38.results.toList)
noncomputable def L38l2 (K : Nat) (t94 : Int) (b2 : (List Int)) (b4 : (List Int)) (b6 : (List Int)) (b7 : (List Int)) (kx : ((List Int) → (List Int) → Option ((List Int)))) : Option ((List Int)) := evLoop (S38l2 K) (fun y => kx y.2.1 y.2.2.1) K ((t94, ()), (b2, (b4, (b6, (b7, ())))))
theorem S38l2_eq (K : Nat) (t94 : Int) (b2 : (List Int)) (b4 : (List Int)) (b6 : (List Int)) (b7 : (List Int)) (kn : _ → Option ((List Int))) (kx : _ → Option ((List Int))) : S38l2 K ((t94, ()), (b2, (b4, (b6, (b7, ()))))) kn kx = B38l2 K t94 b2 b4 b6 b7 (fun t94 b2 b4 b6 b7 => kn ((t94, ()), (b2, (b4, (b6, (b7, ())))))) (fun y0 y1 => kx ((), (y0, (y1, ())))) := by
  unfold B38l2; kernel_rfl
theorem F38l2_go (K : Nat) (kx : ((List Int) → (List Int) → Option ((List Int)))) : ∀ (n : Nat) (t94 : Int) (b2 : (List Int)) (b4 : (List Int)) (b6 : (List Int)) (b7 : (List Int)), evLoop (S38l2 K) (fun y => kx y.2.1 y.2.2.1) n ((t94, ()), (b2, (b4, (b6, (b7, ()))))) = F38l2 K n t94 b2 b4 b6 b7 kx := by
  intro n
  induction n with
  | zero => intros; rfl
  | succ n ih =>
    intros t94 b2 b4 b6 b7
    refine (S38l2_eq K t94 b2 b4 b6 b7 _ _).trans ?_
    have e : (fun t94 b2 b4 b6 b7 => evLoop (S38l2 K) (fun y => kx y.2.1 y.2.2.1) n ((t94, ()), (b2, (b4, (b6, (b7, ())))))) = fun t94 b2 b4 b6 b7 => F38l2 K n t94 b2 b4 b6 b7 kx := by
      funext t94 b2 b4 b6 b7; exact ih t94 b2 b4 b6 b7
    rw [e]; rfl
theorem F38l2_eq (K : Nat) : F38l2 K K = L38l2 K := by
  funext t94 b2 b4 b6 b7 kx; exact (F38l2_go K kx K t94 b2 b4 b6 b7).symm
def B38l0 (K : Nat) (t21 : (List Int)) (t22 : Int) (b2 : (List Int)) (b4 : (List Int)) (b5 : (List Int)) (b6 : (List Int)) (b7 : (List Int)) (kn : ((List Int) → Int → (List Int) → (List Int) → (List Int) → (List Int) → (List Int) → Option ((List Int)))) (kx : ((List Int) → (List Int) → (List Int) → (List Int) → Option ((List Int)))) : Option ((List Int)) := (if ((ltI t22 (64 : Int)) = true) then (if ((inR t22 ((64 : Nat) : Int)) = true) then ((F48 K (nthD (Ty.int IntKind.u32) b7 (0 : Int)) (6 : Int) (11 : Int) (25 : Int)).bind fun y0 => (if ((inR t22 ((64 : Nat) : Int)) = true) then ((F48 K (nthD (Ty.int IntKind.u32) b6 (0 : Int)) (2 : Int) (13 : Int) (22 : Int)).bind fun y1 => (kn t21 (IntKind.wrap IntKind.i64 (t22 + (1 : Int))) b2 b4 b5 ((IntKind.wrap IntKind.u32 ((IntKind.wrap IntKind.u32 ((IntKind.wrap IntKind.u32 ((IntKind.wrap IntKind.u32 ((IntKind.wrap IntKind.u32 ((nthD (Ty.int IntKind.u32) b7 (3 : Int)) + y0)) + (bitXor IntKind.u32 (bitAnd IntKind.u32 (nthD (Ty.int IntKind.u32) b7 (0 : Int)) (nthD (Ty.int IntKind.u32) b7 (1 : Int))) (bitAnd IntKind.u32 (bitXor IntKind.u32 (if (Bool.false = true) then (-(1 : Int)) else (IntKind.max IntKind.u32)) (nthD (Ty.int IntKind.u32) b7 (0 : Int))) (nthD (Ty.int IntKind.u32) b7 (2 : Int)))))) + (nthD (Ty.int IntKind.u32) t21 t22))) + (nthD (Ty.int IntKind.u32) b5 t22))) + (IntKind.wrap IntKind.u32 (y1 + (bitXor IntKind.u32 (bitXor IntKind.u32 (bitAnd IntKind.u32 (nthD (Ty.int IntKind.u32) b6 (0 : Int)) (nthD (Ty.int IntKind.u32) b6 (1 : Int))) (bitAnd IntKind.u32 (nthD (Ty.int IntKind.u32) b6 (0 : Int)) (nthD (Ty.int IntKind.u32) b6 (2 : Int)))) (bitAnd IntKind.u32 (nthD (Ty.int IntKind.u32) b6 (1 : Int)) (nthD (Ty.int IntKind.u32) b6 (2 : Int)))))))) :: (nthD (Ty.int IntKind.u32) b6 (0 : Int)) :: (nthD (Ty.int IntKind.u32) b6 (1 : Int)) :: (nthD (Ty.int IntKind.u32) b6 (2 : Int)) :: (List.replicate 0 (0 : Int))) ((IntKind.wrap IntKind.u32 ((nthD (Ty.int IntKind.u32) b6 (3 : Int)) + (IntKind.wrap IntKind.u32 ((IntKind.wrap IntKind.u32 ((IntKind.wrap IntKind.u32 ((IntKind.wrap IntKind.u32 ((nthD (Ty.int IntKind.u32) b7 (3 : Int)) + y0)) + (bitXor IntKind.u32 (bitAnd IntKind.u32 (nthD (Ty.int IntKind.u32) b7 (0 : Int)) (nthD (Ty.int IntKind.u32) b7 (1 : Int))) (bitAnd IntKind.u32 (bitXor IntKind.u32 (if (Bool.false = true) then (-(1 : Int)) else (IntKind.max IntKind.u32)) (nthD (Ty.int IntKind.u32) b7 (0 : Int))) (nthD (Ty.int IntKind.u32) b7 (2 : Int)))))) + (nthD (Ty.int IntKind.u32) t21 t22))) + (nthD (Ty.int IntKind.u32) b5 t22))))) :: (nthD (Ty.int IntKind.u32) b7 (0 : Int)) :: (nthD (Ty.int IntKind.u32) b7 (1 : Int)) :: (nthD (Ty.int IntKind.u32) b7 (2 : Int)) :: (List.replicate 0 (0 : Int))))) else none)) else none) else (kx b2 b4 b6 b7))
def F38l0 (K : Nat) : Nat → (List Int) → Int → (List Int) → (List Int) → (List Int) → (List Int) → (List Int) → ((List Int) → (List Int) → (List Int) → (List Int) → Option ((List Int))) → Option ((List Int))
  | 0, _, _, _, _, _, _, _, _ => none
  | k + 1, t21, t22, b2, b4, b5, b6, b7, kx => B38l0 K t21 t22 b2 b4 b5 b6 b7 (fun t21 t22 b2 b4 b5 b6 b7 => F38l0 K k t21 t22 b2 b4 b5 b6 b7 kx) kx
noncomputable def S38l0 (K : Nat) := loopStep (E38 K) A38 (lpK (RDen R38) K) (codeAt [1, 1, 1, 0, 1, 2, 2] (cd Tryd.f38)) 0 T38l0 (fun s => resOut (E38 K) s R38 Tryd.f38.results.toList)
noncomputable def L38l0 (K : Nat) (t21 : (List Int)) (t22 : Int) (b2 : (List Int)) (b4 : (List Int)) (b5 : (List Int)) (b6 : (List Int)) (b7 : (List Int)) (kx : ((List Int) → (List Int) → (List Int) → (List Int) → Option ((List Int)))) : Option ((List Int)) := evLoop (S38l0 K) (fun y => kx y.2.1 y.2.2.1 y.2.2.2.1 y.2.2.2.2.1) K ((t21, (t22, ())), (b2, (b4, (b5, (b6, (b7, ()))))))
theorem S38l0_eq (K : Nat) (t21 : (List Int)) (t22 : Int) (b2 : (List Int)) (b4 : (List Int)) (b5 : (List Int)) (b6 : (List Int)) (b7 : (List Int)) (kn : _ → Option ((List Int))) (kx : _ → Option ((List Int))) : S38l0 K ((t21, (t22, ())), (b2, (b4, (b5, (b6, (b7, ())))))) kn kx = B38l0 K t21 t22 b2 b4 b5 b6 b7 (fun t21 t22 b2 b4 b5 b6 b7 => kn ((t21, (t22, ())), (b2, (b4, (b5, (b6, (b7, ()))))))) (fun y0 y1 y2 y3 => kx ((), (y0, (y1, (y2, (y3, ())))))) := by
  unfold B38l0; kernel_rfl
theorem F38l0_go (K : Nat) (kx : ((List Int) → (List Int) → (List Int) → (List Int) → Option ((List Int)))) : ∀ (n : Nat) (t21 : (List Int)) (t22 : Int) (b2 : (List Int)) (b4 : (List Int)) (b5 : (List Int)) (b6 : (List Int)) (b7 : (List Int)), evLoop (S38l0 K) (fun y => kx y.2.1 y.2.2.1 y.2.2.2.1 y.2.2.2.2.1) n ((t21, (t22, ())), (b2, (b4, (b5, (b6, (b7, ())))))) = F38l0 K n t21 t22 b2 b4 b5 b6 b7 kx := by
  intro n
  induction n with
  | zero => intros; rfl
  | succ n ih =>
    intros t21 t22 b2 b4 b5 b6 b7
    refine (S38l0_eq K t21 t22 b2 b4 b5 b6 b7 _ _).trans ?_
    have e : (fun t21 t22 b2 b4 b5 b6 b7 => evLoop (S38l0 K) (fun y => kx y.2.1 y.2.2.1 y.2.2.2.1 y.2.2.2.2.1) n ((t21, (t22, ())), (b2, (b4, (b5, (b6, (b7, ()))))))) = fun t21 t22 b2 b4 b5 b6 b7 => F38l0 K n t21 t22 b2 b4 b5 b6 b7 kx := by
      funext t21 t22 b2 b4 b5 b6 b7; exact ih t21 t22 b2 b4 b5 b6 b7
    rw [e]; rfl
theorem F38l0_eq (K : Nat) : F38l0 K K = L38l0 K := by
  funext t21 t22 b2 b4 b5 b6 b7 kx; exact (F38l0_go K kx K t21 t22 b2 b4 b5 b6 b7).symm
def F38 (K : Nat) (x0 : (List Int)) (x1 : (List Int)) : Option ((List Int)) := ((F47 K x1).bind fun y0 => (F38l0 K K [(1116352408 : Int), (1899447441 : Int), (3049323471 : Int), (3921009573 : Int), (961987163 : Int), (1508970993 : Int), (2453635748 : Int), (2870763221 : Int), (3624381080 : Int), (310598401 : Int), (607225278 : Int), (1426881987 : Int), (1925078388 : Int), (2162078206 : Int), (2614888103 : Int), (3248222580 : Int), (3835390401 : Int), (4022224774 : Int), (264347078 : Int), (604807628 : Int), (770255983 : Int), (1249150122 : Int), (1555081692 : Int), (1996064986 : Int), (2554220882 : Int), (2821834349 : Int), (2952996808 : Int), (3210313671 : Int), (3336571891 : Int), (3584528711 : Int), (113926993 : Int), (338241895 : Int), (666307205 : Int), (773529912 : Int), (1294757372 : Int), (1396182291 : Int), (1695183700 : Int), (1986661051 : Int), (2177026350 : Int), (2456956037 : Int), (2730485921 : Int), (2820302411 : Int), (3259730800 : Int), (3345764771 : Int), (3516065817 : Int), (3600352804 : Int), (4094571909 : Int), (275423344 : Int), (430227734 : Int), (506948616 : Int), (659060556 : Int), (883997877 : Int), (958139571 : Int), (1322822218 : Int), (1537002063 : Int), (1747873779 : Int), (1955562222 : Int), (2024104815 : Int), (2227730452 : Int), (2361852424 : Int), (2428436474 : Int), (2756734187 : Int), (3204031479 : Int), (3329325298 : Int)] (0 : Int) x0 (List.replicate 8 (0 : Int)) y0 (List.take 4 (List.drop (Int.toNat (0 : Int)) x0)) (List.take 4 (List.drop (Int.toNat (4 : Int)) x0)) (fun y1 y2 y3 y4 => (F38l2 K K (0 : Int) y1 y2 y3 y4 (fun y5 y6 => (some y5))))))
theorem F38_eq (K : Nat) (x0 : (List Int)) (x1 : (List Int)) : evFn (E38 K) A38 P38 R38 (lpK (RDen R38) K) 116 Tryd.f38.results.toList (cd Tryd.f38) (x0, (x1, ())) = F38 K x0 x1 := by
  unfold F38; rw [F38l2_eq K]; rw [F38l0_eq K]; kernel_rfl
/- (quietus/hash.Stream).Add -/
def T17l0 : LoopAnn := ⟨tm 38 [(1, (.data .str)), (0, (.ptr 2)), (1, (.ptr 4))] [(2, (.pair (.arr 8 (.int .u32)) (.pair (.arr 64 (.int .u8)) (.int .u64)))), (1, (.pair (.arr 8 (.int .u32)) (.pair (.arr 64 (.int .u8)) (.int .u64))))], tm 38 [(2, (.ptr 2)), (1, (.ptr 4))] [(2, (.pair (.arr 8 (.int .u32)) (.pair (.arr 64 (.int .u8)) (.int .u64)))), (1, (.pair (.arr 8 (.int .u32)) (.pair (.arr 64 (.int .u8)) (.int .u64))))]⟩
def A17 : List (Nat × LoopAnn) := [(0, T17l0)]
noncomputable def E17 (K : Nat) : Env := mkEnv tyTab nfTab G17 [(38, ⟨P38, R38, fun x => F38 K x.1 x.2.1⟩)]
def B17l0 (K : Nat) (t1 : ByteArray) (b2 : ((List Int) × ((List Int) × Int))) (b4 : ((List Int) × ((List Int) × Int))) (kn : (ByteArray → ((List Int) × ((List Int) × Int)) → ((List Int) × ((List Int) × Int)) → Option (((List Int) × ((List Int) × Int))))) (kx : (((List Int) × ((List Int) × Int)) → ((List Int) × ((List Int) × Int)) → Option (((List Int) × ((List Int) × Int))))) : Option (((List Int) × ((List Int) × Int))) := (if ((!(strEq t1 (ByteArray.mk (Array.mk [])))) = true) then (if ((inB (IntKind.wrap IntKind.i64 (Int.tmod b2.2.2 (64 : Int))) ((64 : Nat) : Int) ((64 : Nat) : Int)) = true) then (if ((inB (min (((64 : Nat) : Int) - (IntKind.wrap IntKind.i64 (Int.tmod b2.2.2 (64 : Int)))) (((List.length (bytesOf t1)) : Nat) : Int)) (((ByteArray.size t1) : Nat) : Int) (((ByteArray.size t1) : Nat) : Int)) = true) then (if ((eqI (IntKind.wrap IntKind.i64 ((IntKind.wrap IntKind.i64 (Int.tmod b2.2.2 (64 : Int))) + (min (((64 : Nat) : Int) - (IntKind.wrap IntKind.i64 (Int.tmod b2.2.2 (64 : Int)))) (((List.length (bytesOf t1)) : Nat) : Int)))) (64 : Int)) = true) then ((F38 K b2.1 (List.take (Int.toNat (((64 : Nat) : Int) - (0 : Int))) (List.drop (Int.toNat (0 : Int)) ((List.take (Int.toNat (IntKind.wrap IntKind.i64 (Int.tmod b2.2.2 (64 : Int)))) b2.2.1) ++ ((List.take (Int.toNat (((64 : Nat) : Int) - (IntKind.wrap IntKind.i64 (Int.tmod b2.2.2 (64 : Int))))) (bytesOf t1)) ++ (List.drop ((Int.toNat (IntKind.wrap IntKind.i64 (Int.tmod b2.2.2 (64 : Int)))) + (min (Int.toNat (((64 : Nat) : Int) - (IntKind.wrap IntKind.i64 (Int.tmod b2.2.2 (64 : Int))))) (List.length (bytesOf t1)))) b2.2.1)))))).bind fun y0 => (kn (ByteArray.extract t1 (Int.toNat (min (((64 : Nat) : Int) - (IntKind.wrap IntKind.i64 (Int.tmod b2.2.2 (64 : Int)))) (((List.length (bytesOf t1)) : Nat) : Int))) (Int.toNat (((ByteArray.size t1) : Nat) : Int))) (y0, (((List.take (Int.toNat (IntKind.wrap IntKind.i64 (Int.tmod b2.2.2 (64 : Int)))) b2.2.1) ++ ((List.take (Int.toNat (((64 : Nat) : Int) - (IntKind.wrap IntKind.i64 (Int.tmod b2.2.2 (64 : Int))))) (bytesOf t1)) ++ (List.drop ((Int.toNat (IntKind.wrap IntKind.i64 (Int.tmod b2.2.2 (64 : Int)))) + (min (Int.toNat (((64 : Nat) : Int) - (IntKind.wrap IntKind.i64 (Int.tmod b2.2.2 (64 : Int))))) (List.length (bytesOf t1)))) b2.2.1))), (IntKind.wrap IntKind.u64 (b2.2.2 + (IntKind.wrap IntKind.u64 (min (((64 : Nat) : Int) - (IntKind.wrap IntKind.i64 (Int.tmod b2.2.2 (64 : Int)))) (((List.length (bytesOf t1)) : Nat) : Int))))))) (b4.1, (b4.2.1, b4.2.2)))) else (kn (ByteArray.extract t1 (Int.toNat (min (((64 : Nat) : Int) - (IntKind.wrap IntKind.i64 (Int.tmod b2.2.2 (64 : Int)))) (((List.length (bytesOf t1)) : Nat) : Int))) (Int.toNat (((ByteArray.size t1) : Nat) : Int))) (b2.1, (((List.take (Int.toNat (IntKind.wrap IntKind.i64 (Int.tmod b2.2.2 (64 : Int)))) b2.2.1) ++ ((List.take (Int.toNat (((64 : Nat) : Int) - (IntKind.wrap IntKind.i64 (Int.tmod b2.2.2 (64 : Int))))) (bytesOf t1)) ++ (List.drop ((Int.toNat (IntKind.wrap IntKind.i64 (Int.tmod b2.2.2 (64 : Int)))) + (min (Int.toNat (((64 : Nat) : Int) - (IntKind.wrap IntKind.i64 (Int.tmod b2.2.2 (64 : Int))))) (List.length (bytesOf t1)))) b2.2.1))), (IntKind.wrap IntKind.u64 (b2.2.2 + (IntKind.wrap IntKind.u64 (min (((64 : Nat) : Int) - (IntKind.wrap IntKind.i64 (Int.tmod b2.2.2 (64 : Int)))) (((List.length (bytesOf t1)) : Nat) : Int))))))) (b4.1, (b4.2.1, b4.2.2)))) else none) else none) else (kx (b2.1, (b2.2.1, b2.2.2)) (b4.1, (b4.2.1, b4.2.2))))
def F17l0 (K : Nat) : Nat → ByteArray → ((List Int) × ((List Int) × Int)) → ((List Int) × ((List Int) × Int)) → (((List Int) × ((List Int) × Int)) → ((List Int) × ((List Int) × Int)) → Option (((List Int) × ((List Int) × Int)))) → Option (((List Int) × ((List Int) × Int)))
  | 0, _, _, _, _ => none
  | k + 1, t1, b2, b4, kx => B17l0 K t1 b2 b4 (fun t1 b2 b4 => F17l0 K k t1 b2 b4 kx) kx
noncomputable def S17l0 (K : Nat) := loopStep (E17 K) A17 (lpK (RDen R17) K) (codeAt [1, 0, 2, 2] (cd Tryd.f17)) 0 T17l0 (fun s => resOut (E17 K) s R17 Tryd.f17.results.toList)
noncomputable def L17l0 (K : Nat) (t1 : ByteArray) (b2 : ((List Int) × ((List Int) × Int))) (b4 : ((List Int) × ((List Int) × Int))) (kx : (((List Int) × ((List Int) × Int)) → ((List Int) × ((List Int) × Int)) → Option (((List Int) × ((List Int) × Int))))) : Option (((List Int) × ((List Int) × Int))) := evLoop (S17l0 K) (fun y => kx y.2.1 y.2.2.1) K ((t1, ()), (b2, (b4, ())))
theorem S17l0_eq (K : Nat) (t1 : ByteArray) (b2 : ((List Int) × ((List Int) × Int))) (b4 : ((List Int) × ((List Int) × Int))) (kn : _ → Option (((List Int) × ((List Int) × Int)))) (kx : _ → Option (((List Int) × ((List Int) × Int)))) : S17l0 K ((t1, ()), (b2, (b4, ()))) kn kx = B17l0 K t1 b2 b4 (fun t1 b2 b4 => kn ((t1, ()), (b2, (b4, ())))) (fun y0 y1 => kx ((), (y0, (y1, ())))) := by
  unfold B17l0; kernel_rfl
theorem F17l0_go (K : Nat) (kx : (((List Int) × ((List Int) × Int)) → ((List Int) × ((List Int) × Int)) → Option (((List Int) × ((List Int) × Int))))) : ∀ (n : Nat) (t1 : ByteArray) (b2 : ((List Int) × ((List Int) × Int))) (b4 : ((List Int) × ((List Int) × Int))), evLoop (S17l0 K) (fun y => kx y.2.1 y.2.2.1) n ((t1, ()), (b2, (b4, ()))) = F17l0 K n t1 b2 b4 kx := by
  intro n
  induction n with
  | zero => intros; rfl
  | succ n ih =>
    intros t1 b2 b4
    refine (S17l0_eq K t1 b2 b4 _ _).trans ?_
    have e : (fun t1 b2 b4 => evLoop (S17l0 K) (fun y => kx y.2.1 y.2.2.1) n ((t1, ()), (b2, (b4, ())))) = fun t1 b2 b4 => F17l0 K n t1 b2 b4 kx := by
      funext t1 b2 b4; exact ih t1 b2 b4
    rw [e]; rfl
theorem F17l0_eq (K : Nat) : F17l0 K K = L17l0 K := by
  funext t1 b2 b4 kx; exact (F17l0_go K kx K t1 b2 b4).symm
def F17 (K : Nat) (x0 : ((List Int) × ((List Int) × Int))) (x1 : ByteArray) : Option (((List Int) × ((List Int) × Int))) := (F17l0 K K x1 (x0.1, (x0.2.1, x0.2.2)) ((List.replicate 8 (0 : Int)), ((List.replicate 64 (0 : Int)), (0 : Int))) (fun y0 y1 => (some (y0.1, (y0.2.1, y0.2.2)))))
theorem F17_eq (K : Nat) (x0 : ((List Int) × ((List Int) × Int))) (x1 : ByteArray) : evFn (E17 K) A17 P17 R17 (lpK (RDen R17) K) 38 Tryd.f17.results.toList (cd Tryd.f17) (x0, (x1, ())) = F17 K x0 x1 := by
  unfold F17; rw [F17l0_eq K]; kernel_rfl
/- (quietus/hash.Stream).Sum -/
def T19l4 : LoopAnn := ⟨tm 58 [(1, (.ptr 1)), (0, (.ptr 2)), (3, (.ptr 6)), (33, (.data (.int .i64)))] [(1, (.pair (.arr 8 (.int .u32)) (.pair (.arr 64 (.int .u8)) (.int .u64)))), (0, (.arr 32 (.int .u8))), (3, (.arr 32 (.int .u8)))], tm 58 [(2, (.ptr 2)), (3, (.ptr 6))] [(2, (.arr 32 (.int .u8))), (3, (.arr 32 (.int .u8)))]⟩
def T19l2 : LoopAnn := ⟨tm 58 [(1, (.ptr 1)), (0, (.ptr 2)), (0, (.data (.int .u64))), (0, (.vec (.int .u8))), (18, (.data (.int .i64)))] [(1, (.pair (.arr 8 (.int .u32)) (.pair (.arr 64 (.int .u8)) (.int .u64)))), (0, (.arr 32 (.int .u8)))], tm 58 [(1, (.ptr 1)), (0, (.ptr 2)), (1, (.vec (.int .u8)))] [(1, (.pair (.arr 8 (.int .u32)) (.pair (.arr 64 (.int .u8)) (.int .u64)))), (0, (.arr 32 (.int .u8)))]⟩
def T19l0 : LoopAnn := ⟨tm 58 [(1, (.ptr 1)), (0, (.ptr 2)), (0, (.data (.int .u64))), (0, (.vec (.int .u8)))] [(1, (.pair (.arr 8 (.int .u32)) (.pair (.arr 64 (.int .u8)) (.int .u64)))), (0, (.arr 32 (.int .u8)))], tm 58 [(1, (.ptr 1)), (0, (.ptr 2)), (0, (.data (.int .u64))), (0, (.vec (.int .u8)))] [(1, (.pair (.arr 8 (.int .u32)) (.pair (.arr 64 (.int .u8)) (.int .u64)))), (0, (.arr 32 (.int .u8)))]⟩
def A19 : List (Nat × LoopAnn) := [(4, T19l4), (2, T19l2), (0, T19l0)]
noncomputable def E19 (K : Nat) : Env := mkEnv tyTab nfTab G19 [(17, ⟨P17, R17, fun x => F17 K x.1 x.2.1⟩)]
def B19l4 (K : Nat) (t40 : Int) (b1 : ((List Int) × ((List Int) × Int))) (b2 : (List Int)) (b6 : (List Int)) (kn : (Int → ((List Int) × ((List Int) × Int)) → (List Int) → (List Int) → Option ((List Int)))) (kx : ((List Int) → (List Int) → Option ((List Int)))) : Option ((List Int)) := (if ((ltI t40 (32 : Int)) = true) then (if ((inR (IntKind.wrap IntKind.i64 (Int.tdiv t40 (4 : Int))) ((8 : Nat) : Int)) = true) then (if ((ltI (IntKind.wrap IntKind.i64 ((24 : Int) - (IntKind.wrap IntKind.i64 ((8 : Int) * (Int.tmod t40 (4 : Int)))))) (0 : Int)) = true) then none else (if ((inR t40 ((32 : Nat) : Int)) = true) then (kn (IntKind.wrap IntKind.i64 (t40 + (1 : Int))) (b1.1, (b1.2.1, b1.2.2)) b2 (List.set b6 (Int.toNat t40) (IntKind.wrap IntKind.u8 (shrI IntKind.u32 (nthD (Ty.int IntKind.u32) b1.1 (IntKind.wrap IntKind.i64 (Int.tdiv t40 (4 : Int)))) (IntKind.wrap IntKind.i64 ((24 : Int) - (IntKind.wrap IntKind.i64 ((8 : Int) * (Int.tmod t40 (4 : Int)))))))))) else none)) else none) else (kx b2 b6))
def F19l4 (K : Nat) : Nat → Int → ((List Int) × ((List Int) × Int)) → (List Int) → (List Int) → ((List Int) → (List Int) → Option ((List Int))) → Option ((List Int))
  | 0, _, _, _, _, _ => none
  | k + 1, t40, b1, b2, b6, kx => B19l4 K t40 b1 b2 b6 (fun t40 b1 b2 b6 => F19l4 K k t40 b1 b2 b6 kx) kx
noncomputable def S19l4 (K : Nat) := loopStep (E19 K) A19 (lpK (RDen R19) K) (codeAt [1, 1, 1, 1, 1, 1, 1, 0, 1, 2, 2] (cd Tryd.f19)) 4 T19l4 (fun s => resOut (E19 K) s R19 Tryd.f19.results.toList)
noncomputable def L19l4 (K : Nat) (t40 : Int) (b1 : ((List Int) × ((List Int) × Int))) (b2 : (List Int)) (b6 : (List Int)) (kx : ((List Int) → (List Int) → Option ((List Int)))) : Option ((List Int)) := evLoop (S19l4 K) (fun y => kx y.2.1 y.2.2.1) K ((t40, ()), (b1, (b2, (b6, ()))))
theorem S19l4_eq (K : Nat) (t40 : Int) (b1 : ((List Int) × ((List Int) × Int))) (b2 : (List Int)) (b6 : (List Int)) (kn : _ → Option ((List Int))) (kx : _ → Option ((List Int))) : S19l4 K ((t40, ()), (b1, (b2, (b6, ())))) kn kx = B19l4 K t40 b1 b2 b6 (fun t40 b1 b2 b6 => kn ((t40, ()), (b1, (b2, (b6, ()))))) (fun y0 y1 => kx ((), (y0, (y1, ())))) := by
  unfold B19l4; kernel_rfl
theorem F19l4_go (K : Nat) (kx : ((List Int) → (List Int) → Option ((List Int)))) : ∀ (n : Nat) (t40 : Int) (b1 : ((List Int) × ((List Int) × Int))) (b2 : (List Int)) (b6 : (List Int)), evLoop (S19l4 K) (fun y => kx y.2.1 y.2.2.1) n ((t40, ()), (b1, (b2, (b6, ())))) = F19l4 K n t40 b1 b2 b6 kx := by
  intro n
  induction n with
  | zero => intros; rfl
  | succ n ih =>
    intros t40 b1 b2 b6
    refine (S19l4_eq K t40 b1 b2 b6 _ _).trans ?_
    have e : (fun t40 b1 b2 b6 => evLoop (S19l4 K) (fun y => kx y.2.1 y.2.2.1) n ((t40, ()), (b1, (b2, (b6, ()))))) = fun t40 b1 b2 b6 => F19l4 K n t40 b1 b2 b6 kx := by
      funext t40 b1 b2 b6; exact ih t40 b1 b2 b6
    rw [e]; rfl
theorem F19l4_eq (K : Nat) : F19l4 K K = L19l4 K := by
  funext t40 b1 b2 b6 kx; exact (F19l4_go K kx K t40 b1 b2 b6).symm
def B19l2 (K : Nat) (t3 : Int) (t4 : (List Int)) (t23 : Int) (b1 : ((List Int) × ((List Int) × Int))) (b2 : (List Int)) (kn : (Int → (List Int) → Int → ((List Int) × ((List Int) × Int)) → (List Int) → Option ((List Int)))) (kx : ((List Int) → ((List Int) × ((List Int) × Int)) → (List Int) → Option ((List Int)))) : Option ((List Int)) := (if ((ltI t23 (8 : Int)) = true) then (if ((ltI (IntKind.wrap IntKind.i64 ((56 : Int) - (IntKind.wrap IntKind.i64 ((8 : Int) * t23)))) (0 : Int)) = true) then none else (if ((room ((List.length t4) + (List.length ((IntKind.wrap IntKind.u8 (shrI IntKind.u64 t3 (IntKind.wrap IntKind.i64 ((56 : Int) - (IntKind.wrap IntKind.i64 ((8 : Int) * t23)))))) :: (List.replicate 0 (0 : Int)))))) = true) then (kn t3 (t4 ++ ((IntKind.wrap IntKind.u8 (shrI IntKind.u64 t3 (IntKind.wrap IntKind.i64 ((56 : Int) - (IntKind.wrap IntKind.i64 ((8 : Int) * t23)))))) :: (List.replicate 0 (0 : Int)))) (IntKind.wrap IntKind.i64 (t23 + (1 : Int))) (b1.1, (b1.2.1, b1.2.2)) b2) else none)) else (kx t4 (b1.1, (b1.2.1, b1.2.2)) b2))
def F19l2 (K : Nat) : Nat → Int → (List Int) → Int → ((List Int) × ((List Int) × Int)) → (List Int) → ((List Int) → ((List Int) × ((List Int) × Int)) → (List Int) → Option ((List Int))) → Option ((List Int))
  | 0, _, _, _, _, _, _ => none
  | k + 1, t3, t4, t23, b1, b2, kx => B19l2 K t3 t4 t23 b1 b2 (fun t3 t4 t23 b1 b2 => F19l2 K k t3 t4 t23 b1 b2 kx) kx
noncomputable def S19l2 (K : Nat) := loopStep (E19 K) A19 (lpK (RDen R19) K) (codeAt [1, 1, 1, 1, 0, 1, 2, 2] (cd Tryd.f19)) 2 T19l2 (fun s => resOut (E19 K) s R19 Tryd.f19.results.toList)
noncomputable def L19l2 (K : Nat) (t3 : Int) (t4 : (List Int)) (t23 : Int) (b1 : ((List Int) × ((List Int) × Int))) (b2 : (List Int)) (kx : ((List Int) → ((List Int) × ((List Int) × Int)) → (List Int) → Option ((List Int)))) : Option ((List Int)) := evLoop (S19l2 K) (fun y => kx y.1.1 y.2.1 y.2.2.1) K ((t3, (t4, (t23, ()))), (b1, (b2, ())))
theorem S19l2_eq (K : Nat) (t3 : Int) (t4 : (List Int)) (t23 : Int) (b1 : ((List Int) × ((List Int) × Int))) (b2 : (List Int)) (kn : _ → Option ((List Int))) (kx : _ → Option ((List Int))) : S19l2 K ((t3, (t4, (t23, ()))), (b1, (b2, ()))) kn kx = B19l2 K t3 t4 t23 b1 b2 (fun t3 t4 t23 b1 b2 => kn ((t3, (t4, (t23, ()))), (b1, (b2, ())))) (fun y0 y1 y2 => kx ((y0, ()), (y1, (y2, ())))) := by
  unfold B19l2; kernel_rfl
theorem F19l2_go (K : Nat) (kx : ((List Int) → ((List Int) × ((List Int) × Int)) → (List Int) → Option ((List Int)))) : ∀ (n : Nat) (t3 : Int) (t4 : (List Int)) (t23 : Int) (b1 : ((List Int) × ((List Int) × Int))) (b2 : (List Int)), evLoop (S19l2 K) (fun y => kx y.1.1 y.2.1 y.2.2.1) n ((t3, (t4, (t23, ()))), (b1, (b2, ()))) = F19l2 K n t3 t4 t23 b1 b2 kx := by
  intro n
  induction n with
  | zero => intros; rfl
  | succ n ih =>
    intros t3 t4 t23 b1 b2
    refine (S19l2_eq K t3 t4 t23 b1 b2 _ _).trans ?_
    have e : (fun t3 t4 t23 b1 b2 => evLoop (S19l2 K) (fun y => kx y.1.1 y.2.1 y.2.2.1) n ((t3, (t4, (t23, ()))), (b1, (b2, ())))) = fun t3 t4 t23 b1 b2 => F19l2 K n t3 t4 t23 b1 b2 kx := by
      funext t3 t4 t23 b1 b2; exact ih t3 t4 t23 b1 b2
    rw [e]; rfl
theorem F19l2_eq (K : Nat) : F19l2 K K = L19l2 K := by
  funext t3 t4 t23 b1 b2 kx; exact (F19l2_go K kx K t3 t4 t23 b1 b2).symm
def B19l0 (K : Nat) (t3 : Int) (t4 : (List Int)) (b1 : ((List Int) × ((List Int) × Int))) (b2 : (List Int)) (kn : (Int → (List Int) → ((List Int) × ((List Int) × Int)) → (List Int) → Option ((List Int)))) (kx : (Int → (List Int) → ((List Int) × ((List Int) × Int)) → (List Int) → Option ((List Int)))) : Option ((List Int)) := (if ((!(eqI (Int.tmod (IntKind.wrap IntKind.i64 ((IntKind.wrap IntKind.i64 b1.2.2) + (((List.length t4) : Nat) : Int))) (64 : Int)) (56 : Int))) = true) then (if ((room ((List.length t4) + (List.length ((0 : Int) :: (List.replicate 0 (0 : Int)))))) = true) then (kn t3 (t4 ++ ((0 : Int) :: (List.replicate 0 (0 : Int)))) (b1.1, (b1.2.1, b1.2.2)) b2) else none) else (kx t3 t4 (b1.1, (b1.2.1, b1.2.2)) b2))
def F19l0 (K : Nat) : Nat → Int → (List Int) → ((List Int) × ((List Int) × Int)) → (List Int) → (Int → (List Int) → ((List Int) × ((List Int) × Int)) → (List Int) → Option ((List Int))) → Option ((List Int))
  | 0, _, _, _, _, _ => none
  | k + 1, t3, t4, b1, b2, kx => B19l0 K t3 t4 b1 b2 (fun t3 t4 b1 b2 => F19l0 K k t3 t4 b1 b2 kx) kx
noncomputable def S19l0 (K : Nat) := loopStep (E19 K) A19 (lpK (RDen R19) K) (codeAt [1, 1, 1, 0, 2, 2] (cd Tryd.f19)) 0 T19l0 (fun s => resOut (E19 K) s R19 Tryd.f19.results.toList)
noncomputable def L19l0 (K : Nat) (t3 : Int) (t4 : (List Int)) (b1 : ((List Int) × ((List Int) × Int))) (b2 : (List Int)) (kx : (Int → (List Int) → ((List Int) × ((List Int) × Int)) → (List Int) → Option ((List Int)))) : Option ((List Int)) := evLoop (S19l0 K) (fun y => kx y.1.1 y.1.2.1 y.2.1 y.2.2.1) K ((t3, (t4, ())), (b1, (b2, ())))
theorem S19l0_eq (K : Nat) (t3 : Int) (t4 : (List Int)) (b1 : ((List Int) × ((List Int) × Int))) (b2 : (List Int)) (kn : _ → Option ((List Int))) (kx : _ → Option ((List Int))) : S19l0 K ((t3, (t4, ())), (b1, (b2, ()))) kn kx = B19l0 K t3 t4 b1 b2 (fun t3 t4 b1 b2 => kn ((t3, (t4, ())), (b1, (b2, ())))) (fun y0 y1 y2 y3 => kx ((y0, (y1, ())), (y2, (y3, ())))) := by
  unfold B19l0; kernel_rfl
theorem F19l0_go (K : Nat) (kx : (Int → (List Int) → ((List Int) × ((List Int) × Int)) → (List Int) → Option ((List Int)))) : ∀ (n : Nat) (t3 : Int) (t4 : (List Int)) (b1 : ((List Int) × ((List Int) × Int))) (b2 : (List Int)), evLoop (S19l0 K) (fun y => kx y.1.1 y.1.2.1 y.2.1 y.2.2.1) n ((t3, (t4, ())), (b1, (b2, ()))) = F19l0 K n t3 t4 b1 b2 kx := by
  intro n
  induction n with
  | zero => intros; rfl
  | succ n ih =>
    intros t3 t4 b1 b2
    refine (S19l0_eq K t3 t4 b1 b2 _ _).trans ?_
    have e : (fun t3 t4 b1 b2 => evLoop (S19l0 K) (fun y => kx y.1.1 y.1.2.1 y.2.1 y.2.2.1) n ((t3, (t4, ())), (b1, (b2, ())))) = fun t3 t4 b1 b2 => F19l0 K n t3 t4 b1 b2 kx := by
      funext t3 t4 b1 b2; exact ih t3 t4 b1 b2
    rw [e]; rfl
theorem F19l0_eq (K : Nat) : F19l0 K K = L19l0 K := by
  funext t3 t4 b1 b2 kx; exact (F19l0_go K kx K t3 t4 b1 b2).symm
def F19 (K : Nat) (x0 : ((List Int) × ((List Int) × Int))) : Option ((List Int)) := (F19l0 K K (IntKind.wrap IntKind.u64 ((8 : Int) * x0.2.2)) ((128 : Int) :: (List.replicate 0 (0 : Int))) (x0.1, (x0.2.1, x0.2.2)) (List.replicate 32 (0 : Int)) (fun y0 y1 y2 y3 => (F19l2 K K y0 y1 (0 : Int) (y2.1, (y2.2.1, y2.2.2)) y3 (fun y4 y5 y6 => ((F17 K (y5.1, (y5.2.1, y5.2.2)) (mkStr y4)).bind fun y7 => (F19l4 K K (0 : Int) (y7.1, (y7.2.1, y7.2.2)) y6 (List.replicate 32 (0 : Int)) (fun y8 y9 => (some y9))))))))
theorem F19_eq (K : Nat) (x0 : ((List Int) × ((List Int) × Int))) : evFn (E19 K) A19 P19 R19 (lpK (RDen R19) K) 58 Tryd.f19.results.toList (cd Tryd.f19) (x0, ()) = F19 K x0 := by
  unfold F19; rw [F19l4_eq K]; rw [F19l2_eq K]; rw [F19l0_eq K]; kernel_rfl
/- quietus/hash.Sum -/
def A13 : List (Nat × LoopAnn) := []
noncomputable def E13 (K : Nat) : Env := mkEnv tyTab nfTab G13 [(16, ⟨P16, R16, fun x => F16 K⟩), (17, ⟨P17, R17, fun x => F17 K x.1 x.2.1⟩), (19, ⟨P19, R19, fun x => F19 K x.1⟩)]
def F13 (K : Nat) (x0 : (List Int)) : Option ((List Int)) := ((F16 K).bind fun y0 => ((F17 K (y0.1, (y0.2.1, y0.2.2)) (mkStr x0)).bind fun y1 => ((F19 K (y1.1, (y1.2.1, y1.2.2))).bind fun y2 => (some y2))))
theorem F13_eq (K : Nat) (x0 : (List Int)) : evFn (E13 K) A13 P13 R13 (lpK (RDen R13) K) 8 Tryd.f13.results.toList (cd Tryd.f13) (x0, ()) = F13 K x0 := by
  unfold F13; kernel_rfl
/- quietus/wire.Int -/
def T45l0 : LoopAnn := ⟨tm 27 [(3, (.data (.int .u64))), (0, (.vec (.int .u8)))] [], tm 27 [(3, (.data (.int .u64))), (0, (.vec (.int .u8)))] []⟩
def A45 : List (Nat × LoopAnn) := [(0, T45l0)]
noncomputable def E45 (K : Nat) : Env := mkEnv tyTab nfTab G45 []
def B45l0 (K : Nat) (t3 : Int) (t4 : (List Int)) (kn : (Int → (List Int) → Option ((List Int)))) (kx : (Int → (List Int) → Option ((List Int)))) : Option ((List Int)) := (if ((ltI (127 : Int) t3) = true) then (if ((room ((List.length t4) + (List.length ((bitOr IntKind.u8 (IntKind.wrap IntKind.u8 t3) (128 : Int)) :: (List.replicate 0 (0 : Int)))))) = true) then (kn (shrI IntKind.u64 t3 (7 : Int)) (t4 ++ ((bitOr IntKind.u8 (IntKind.wrap IntKind.u8 t3) (128 : Int)) :: (List.replicate 0 (0 : Int))))) else none) else (kx t3 t4))
def F45l0 (K : Nat) : Nat → Int → (List Int) → (Int → (List Int) → Option ((List Int))) → Option ((List Int))
  | 0, _, _, _ => none
  | k + 1, t3, t4, kx => B45l0 K t3 t4 (fun t3 t4 => F45l0 K k t3 t4 kx) kx
noncomputable def S45l0 (K : Nat) := loopStep (E45 K) A45 (lpK (RDen R45) K) (codeAt [1, 1, 1, 0, 2, 2] (cd Tryd.f45)) 0 T45l0 (fun s => resOut (E45 K) s R45 Tryd.f45.results.toList)
noncomputable def L45l0 (K : Nat) (t3 : Int) (t4 : (List Int)) (kx : (Int → (List Int) → Option ((List Int)))) : Option ((List Int)) := evLoop (S45l0 K) (fun y => kx y.1.1 y.1.2.1) K ((t3, (t4, ())), ())
theorem S45l0_eq (K : Nat) (t3 : Int) (t4 : (List Int)) (kn : _ → Option ((List Int))) (kx : _ → Option ((List Int))) : S45l0 K ((t3, (t4, ())), ()) kn kx = B45l0 K t3 t4 (fun t3 t4 => kn ((t3, (t4, ())), ())) (fun y0 y1 => kx ((y0, (y1, ())), ())) := by
  unfold B45l0; kernel_rfl
theorem F45l0_go (K : Nat) (kx : (Int → (List Int) → Option ((List Int)))) : ∀ (n : Nat) (t3 : Int) (t4 : (List Int)), evLoop (S45l0 K) (fun y => kx y.1.1 y.1.2.1) n ((t3, (t4, ())), ()) = F45l0 K n t3 t4 kx := by
  intro n
  induction n with
  | zero => intros; rfl
  | succ n ih =>
    intros t3 t4
    refine (S45l0_eq K t3 t4 _ _).trans ?_
    have e : (fun t3 t4 => evLoop (S45l0 K) (fun y => kx y.1.1 y.1.2.1) n ((t3, (t4, ())), ())) = fun t3 t4 => F45l0 K n t3 t4 kx := by
      funext t3 t4; exact ih t3 t4
    rw [e]; rfl
theorem F45l0_eq (K : Nat) : F45l0 K K = L45l0 K := by
  funext t3 t4 kx; exact (F45l0_go K kx K t3 t4).symm
def F45 (K : Nat) (x0 : Int) : Option ((List Int)) := (F45l0 K K (bitXor IntKind.u64 (shlI IntKind.u64 (IntKind.wrap IntKind.u64 x0) (1 : Int)) (IntKind.wrap IntKind.u64 (shrI IntKind.i64 x0 (63 : Int)))) [] (fun y0 y1 => (if ((room ((List.length y1) + (List.length ((IntKind.wrap IntKind.u8 y0) :: (List.replicate 0 (0 : Int)))))) = true) then (some (y1 ++ ((IntKind.wrap IntKind.u8 y0) :: (List.replicate 0 (0 : Int))))) else none)))
theorem F45_eq (K : Nat) (x0 : Int) : evFn (E45 K) A45 P45 R45 (lpK (RDen R45) K) 27 Tryd.f45.results.toList (cd Tryd.f45) (x0, ()) = F45 K x0 := by
  unfold F45; rw [F45l0_eq K]; kernel_rfl
/- quietus/wire.Bytes -/
def A39 : List (Nat × LoopAnn) := []
noncomputable def E39 (K : Nat) : Env := mkEnv tyTab nfTab G39 [(45, ⟨P45, R45, fun x => F45 K x.1⟩)]
def F39 (K : Nat) (x0 : ByteArray) : Option ((List Int)) := ((F45 K (((ByteArray.size x0) : Nat) : Int)).bind fun y0 => (if ((room ((List.length y0) + (List.length (bytesOf x0)))) = true) then (some (y0 ++ (bytesOf x0))) else none))
theorem F39_eq (K : Nat) (x0 : ByteArray) : evFn (E39 K) A39 P39 R39 (lpK (RDen R39) K) 8 Tryd.f39.results.toList (cd Tryd.f39) (x0, ()) = F39 K x0 := by
  unfold F39; kernel_rfl
/- quietus/hash.Of -/
def T20l0 : LoopAnn := ⟨tm 32 [(4, (.ptr 4)), (0, (.ptr 5)), (9, (.data (.list .str))), (0, (.data (.int .i64))), (0, (.data (.int .i64)))] [(4, (.arr 16 (.int .u8))), (0, (.pair (.arr 8 (.int .u32)) (.pair (.arr 64 (.int .u8)) (.int .u64))))], tm 32 [(4, (.ptr 4)), (0, (.ptr 5))] [(4, (.arr 16 (.int .u8))), (0, (.pair (.arr 8 (.int .u32)) (.pair (.arr 64 (.int .u8)) (.int .u64))))]⟩
def A20 : List (Nat × LoopAnn) := [(0, T20l0)]
noncomputable def E20 (K : Nat) : Env := mkEnv tyTab nfTab G20 [(16, ⟨P16, R16, fun x => F16 K⟩), (17, ⟨P17, R17, fun x => F17 K x.1 x.2.1⟩), (39, ⟨P39, R39, fun x => F39 K x.1⟩), (19, ⟨P19, R19, fun x => F19 K x.1⟩)]
def B20l0 (K : Nat) (t15 : (List ByteArray)) (t16 : Int) (t17 : Int) (b4 : (List Int)) (b5 : ((List Int) × ((List Int) × Int))) (kn : ((List ByteArray) → Int → Int → (List Int) → ((List Int) × ((List Int) × Int)) → Option ((List Int)))) (kx : ((List Int) → ((List Int) × ((List Int) × Int)) → Option ((List Int)))) : Option ((List Int)) := (if ((ltI t17 t16) = true) then (if ((inR t17 (((List.length t15) : Nat) : Int)) = true) then ((F39 K (nthD Ty.str t15 t17)).bind fun y0 => ((F17 K (b5.1, (b5.2.1, b5.2.2)) (mkStr y0)).bind fun y1 => (kn t15 t16 (IntKind.wrap IntKind.i64 (t17 + (1 : Int))) b4 (y1.1, (y1.2.1, y1.2.2))))) else none) else (kx b4 (b5.1, (b5.2.1, b5.2.2))))
def F20l0 (K : Nat) : Nat → (List ByteArray) → Int → Int → (List Int) → ((List Int) × ((List Int) × Int)) → ((List Int) → ((List Int) × ((List Int) × Int)) → Option ((List Int))) → Option ((List Int))
  | 0, _, _, _, _, _, _ => none
  | k + 1, t15, t16, t17, b4, b5, kx => B20l0 K t15 t16 t17 b4 b5 (fun t15 t16 t17 b4 b5 => F20l0 K k t15 t16 t17 b4 b5 kx) kx
noncomputable def S20l0 (K : Nat) := loopStep (E20 K) A20 (lpK (RDen R20) K) (codeAt [1, 1, 0, 1, 2, 2] (cd Tryd.f20)) 0 T20l0 (fun s => resOut (E20 K) s R20 Tryd.f20.results.toList)
noncomputable def L20l0 (K : Nat) (t15 : (List ByteArray)) (t16 : Int) (t17 : Int) (b4 : (List Int)) (b5 : ((List Int) × ((List Int) × Int))) (kx : ((List Int) → ((List Int) × ((List Int) × Int)) → Option ((List Int)))) : Option ((List Int)) := evLoop (S20l0 K) (fun y => kx y.2.1 y.2.2.1) K ((t15, (t16, (t17, ()))), (b4, (b5, ())))
theorem S20l0_eq (K : Nat) (t15 : (List ByteArray)) (t16 : Int) (t17 : Int) (b4 : (List Int)) (b5 : ((List Int) × ((List Int) × Int))) (kn : _ → Option ((List Int))) (kx : _ → Option ((List Int))) : S20l0 K ((t15, (t16, (t17, ()))), (b4, (b5, ()))) kn kx = B20l0 K t15 t16 t17 b4 b5 (fun t15 t16 t17 b4 b5 => kn ((t15, (t16, (t17, ()))), (b4, (b5, ())))) (fun y0 y1 => kx ((), (y0, (y1, ())))) := by
  unfold B20l0; kernel_rfl
theorem F20l0_go (K : Nat) (kx : ((List Int) → ((List Int) × ((List Int) × Int)) → Option ((List Int)))) : ∀ (n : Nat) (t15 : (List ByteArray)) (t16 : Int) (t17 : Int) (b4 : (List Int)) (b5 : ((List Int) × ((List Int) × Int))), evLoop (S20l0 K) (fun y => kx y.2.1 y.2.2.1) n ((t15, (t16, (t17, ()))), (b4, (b5, ()))) = F20l0 K n t15 t16 t17 b4 b5 kx := by
  intro n
  induction n with
  | zero => intros; rfl
  | succ n ih =>
    intros t15 t16 t17 b4 b5
    refine (S20l0_eq K t15 t16 t17 b4 b5 _ _).trans ?_
    have e : (fun t15 t16 t17 b4 b5 => evLoop (S20l0 K) (fun y => kx y.2.1 y.2.2.1) n ((t15, (t16, (t17, ()))), (b4, (b5, ())))) = fun t15 t16 t17 b4 b5 => F20l0 K n t15 t16 t17 b4 b5 kx := by
      funext t15 t16 t17 b4 b5; exact ih t15 t16 t17 b4 b5
    rw [e]; rfl
theorem F20l0_eq (K : Nat) : F20l0 K K = L20l0 K := by
  funext t15 t16 t17 b4 b5 kx; exact (F20l0_go K kx K t15 t16 t17 b4 b5).symm
def F20 (K : Nat) (x0 : Int) (x1 : (List ByteArray)) : Option ((List Int)) := ((F16 K).bind fun y0 => ((F17 K (y0.1, (y0.2.1, y0.2.2)) (mkStr ((IntKind.wrap IntKind.u8 x0) :: (List.replicate 0 (0 : Int))))).bind fun y1 => (F20l0 K K x1 (((List.length x1) : Nat) : Int) (0 : Int) (List.replicate 16 (0 : Int)) (y1.1, (y1.2.1, y1.2.2)) (fun y2 y3 => ((F19 K (y3.1, (y3.2.1, y3.2.2))).bind fun y4 => (some (List.take 16 (List.drop (Int.toNat (0 : Int)) y4))))))))
theorem F20_eq (K : Nat) (x0 : Int) (x1 : (List ByteArray)) : evFn (E20 K) A20 P20 R20 (lpK (RDen R20) K) 32 Tryd.f20.results.toList (cd Tryd.f20) (x0, (x1, ())) = F20 K x0 x1 := by
  unfold F20; rw [F20l0_eq K]; kernel_rfl
/- quietus/hash.pad -/
def T42l0 : LoopAnn := ⟨tm 31 [(1, (.data (.int .u8))), (4, (.ptr 6)), (12, (.data (.int .i64)))] [(6, (.arr 64 (.int .u8)))], tm 31 [(6, (.ptr 6))] [(6, (.arr 64 (.int .u8)))]⟩
def A42 : List (Nat × LoopAnn) := [(0, T42l0)]
noncomputable def E42 (K : Nat) : Env := mkEnv tyTab nfTab G42 [(13, ⟨P13, R13, fun x => F13 K x.1⟩)]
def B42l0 (K : Nat) (t1 : Int) (t19 : Int) (b6 : (List Int)) (kn : (Int → Int → (List Int) → Option (ByteArray))) (kx : ((List Int) → Option (ByteArray))) : Option (ByteArray) := (if ((ltI t19 (64 : Int)) = true) then (if ((inR t19 ((64 : Nat) : Int)) = true) then (if ((inR t19 ((64 : Nat) : Int)) = true) then (kn t1 (IntKind.wrap IntKind.i64 (t19 + (1 : Int))) (List.set b6 (Int.toNat t19) (bitXor IntKind.u8 (nthD (Ty.int IntKind.u8) b6 t19) t1))) else none) else none) else (kx b6))
def F42l0 (K : Nat) : Nat → Int → Int → (List Int) → ((List Int) → Option (ByteArray)) → Option (ByteArray)
  | 0, _, _, _, _ => none
  | k + 1, t1, t19, b6, kx => B42l0 K t1 t19 b6 (fun t1 t19 b6 => F42l0 K k t1 t19 b6 kx) kx
noncomputable def S42l0 (K : Nat) := loopStep (E42 K) A42 (lpK (RDen R42) K) (codeAt [1, 1, 1, 1, 0, 1, 2, 2] (cd Tryd.f42)) 0 T42l0 (fun s => resOut (E42 K) s R42 Tryd.f42.results.toList)
noncomputable def L42l0 (K : Nat) (t1 : Int) (t19 : Int) (b6 : (List Int)) (kx : ((List Int) → Option (ByteArray))) : Option (ByteArray) := evLoop (S42l0 K) (fun y => kx y.2.1) K ((t1, (t19, ())), (b6, ()))
theorem S42l0_eq (K : Nat) (t1 : Int) (t19 : Int) (b6 : (List Int)) (kn : _ → Option (ByteArray)) (kx : _ → Option (ByteArray)) : S42l0 K ((t1, (t19, ())), (b6, ())) kn kx = B42l0 K t1 t19 b6 (fun t1 t19 b6 => kn ((t1, (t19, ())), (b6, ()))) (fun y0 => kx ((), (y0, ()))) := by
  unfold B42l0; kernel_rfl
theorem F42l0_go (K : Nat) (kx : ((List Int) → Option (ByteArray))) : ∀ (n : Nat) (t1 : Int) (t19 : Int) (b6 : (List Int)), evLoop (S42l0 K) (fun y => kx y.2.1) n ((t1, (t19, ())), (b6, ())) = F42l0 K n t1 t19 b6 kx := by
  intro n
  induction n with
  | zero => intros; rfl
  | succ n ih =>
    intros t1 t19 b6
    refine (S42l0_eq K t1 t19 b6 _ _).trans ?_
    have e : (fun t1 t19 b6 => evLoop (S42l0 K) (fun y => kx y.2.1) n ((t1, (t19, ())), (b6, ()))) = fun t1 t19 b6 => F42l0 K n t1 t19 b6 kx := by
      funext t1 t19 b6; exact ih t1 t19 b6
    rw [e]; rfl
theorem F42l0_eq (K : Nat) : F42l0 K K = L42l0 K := by
  funext t1 t19 b6 kx; exact (F42l0_go K kx K t1 t19 b6).symm
def F42 (K : Nat) (x0 : ByteArray) (x1 : Int) : Option (ByteArray) := (if ((ltI (64 : Int) (((ByteArray.size x0) : Nat) : Int)) = true) then ((F13 K (bytesOf x0)).bind fun y0 => (F42l0 K K x1 (0 : Int) ((List.take (Int.toNat (0 : Int)) (List.replicate 64 (0 : Int))) ++ ((List.take (Int.toNat (((64 : Nat) : Int) - (0 : Int))) (bytesOf (mkStr (List.take (Int.toNat (((32 : Nat) : Int) - (0 : Int))) (List.drop (Int.toNat (0 : Int)) y0))))) ++ (List.drop ((Int.toNat (0 : Int)) + (min (Int.toNat (((64 : Nat) : Int) - (0 : Int))) (List.length (bytesOf (mkStr (List.take (Int.toNat (((32 : Nat) : Int) - (0 : Int))) (List.drop (Int.toNat (0 : Int)) y0))))))) (List.replicate 64 (0 : Int))))) (fun y1 => (some (mkStr (List.take (Int.toNat (((64 : Nat) : Int) - (0 : Int))) (List.drop (Int.toNat (0 : Int)) y1))))))) else (F42l0 K K x1 (0 : Int) ((List.take (Int.toNat (0 : Int)) (List.replicate 64 (0 : Int))) ++ ((List.take (Int.toNat (((64 : Nat) : Int) - (0 : Int))) (bytesOf x0)) ++ (List.drop ((Int.toNat (0 : Int)) + (min (Int.toNat (((64 : Nat) : Int) - (0 : Int))) (List.length (bytesOf x0)))) (List.replicate 64 (0 : Int))))) (fun y0 => (some (mkStr (List.take (Int.toNat (((64 : Nat) : Int) - (0 : Int))) (List.drop (Int.toNat (0 : Int)) y0)))))))
theorem F42_eq (K : Nat) (x0 : ByteArray) (x1 : Int) : evFn (E42 K) A42 P42 R42 (lpK (RDen R42) K) 31 Tryd.f42.results.toList (cd Tryd.f42) (x0, (x1, ())) = F42 K x0 x1 := by
  unfold F42; rw [F42l0_eq K]; kernel_rfl
/- quietus/hash.Hmac -/
def A25 : List (Nat × LoopAnn) := []
noncomputable def E25 (K : Nat) : Env := mkEnv tyTab nfTab G25 [(16, ⟨P16, R16, fun x => F16 K⟩), (42, ⟨P42, R42, fun x => F42 K x.1 x.2.1⟩), (17, ⟨P17, R17, fun x => F17 K x.1 x.2.1⟩), (19, ⟨P19, R19, fun x => F19 K x.1⟩)]
def F25 (K : Nat) (x0 : ByteArray) (x1 : ByteArray) : Option ((List Int)) := ((F16 K).bind fun y0 => ((F42 K x0 (54 : Int)).bind fun y1 => ((F17 K (y0.1, (y0.2.1, y0.2.2)) y1).bind fun y2 => ((F17 K (y2.1, (y2.2.1, y2.2.2)) x1).bind fun y3 => ((F19 K (y3.1, (y3.2.1, y3.2.2))).bind fun y4 => ((F16 K).bind fun y5 => ((F42 K x0 (92 : Int)).bind fun y6 => ((F17 K (y5.1, (y5.2.1, y5.2.2)) y6).bind fun y7 => ((F17 K (y7.1, (y7.2.1, y7.2.2)) (mkStr (List.take (Int.toNat (((32 : Nat) : Int) - (0 : Int))) (List.drop (Int.toNat (0 : Int)) y4)))).bind fun y8 => ((F19 K (y8.1, (y8.2.1, y8.2.2))).bind fun y9 => (some y9)))))))))))
theorem F25_eq (K : Nat) (x0 : ByteArray) (x1 : ByteArray) : evFn (E25 K) A25 P25 R25 (lpK (RDen R25) K) 21 Tryd.f25.results.toList (cd Tryd.f25) (x0, (x1, ())) = F25 K x0 x1 := by
  unfold F25; kernel_rfl
/- quietus/quietusref02.Bytes32 -/
def T27l0 : LoopAnn := ⟨tm 17 [(1, (.ptr 1)), (1, (.vec (.int .u8))), (0, (.data (.int .i64)))] [(1, (.arr 32 (.int .u8)))], tm 17 [(3, (.vec (.int .u8)))] []⟩
def A27 : List (Nat × LoopAnn) := [(0, T27l0)]
noncomputable def E27 (K : Nat) : Env := mkEnv tyTab nfTab G27 []
def B27l0 (K : Nat) (t3 : (List Int)) (t4 : Int) (b1 : (List Int)) (kn : ((List Int) → Int → (List Int) → Option (ByteArray))) (kx : ((List Int) → Option (ByteArray))) : Option (ByteArray) := (if ((ltI t4 (32 : Int)) = true) then (if ((inR t4 ((32 : Nat) : Int)) = true) then (if ((room ((List.length t3) + (List.length ((nthD (Ty.int IntKind.u8) b1 t4) :: (List.replicate 0 (0 : Int)))))) = true) then (kn (t3 ++ ((nthD (Ty.int IntKind.u8) b1 t4) :: (List.replicate 0 (0 : Int)))) (IntKind.wrap IntKind.i64 (t4 + (1 : Int))) b1) else none) else none) else (kx t3))
def F27l0 (K : Nat) : Nat → (List Int) → Int → (List Int) → ((List Int) → Option (ByteArray)) → Option (ByteArray)
  | 0, _, _, _, _ => none
  | k + 1, t3, t4, b1, kx => B27l0 K t3 t4 b1 (fun t3 t4 b1 => F27l0 K k t3 t4 b1 kx) kx
noncomputable def S27l0 (K : Nat) := loopStep (E27 K) A27 (lpK (RDen R27) K) (codeAt [1, 1, 0, 1, 2, 2] (cd Tryd.f27)) 0 T27l0 (fun s => resOut (E27 K) s R27 Tryd.f27.results.toList)
noncomputable def L27l0 (K : Nat) (t3 : (List Int)) (t4 : Int) (b1 : (List Int)) (kx : ((List Int) → Option (ByteArray))) : Option (ByteArray) := evLoop (S27l0 K) (fun y => kx y.1.1) K ((t3, (t4, ())), (b1, ()))
theorem S27l0_eq (K : Nat) (t3 : (List Int)) (t4 : Int) (b1 : (List Int)) (kn : _ → Option (ByteArray)) (kx : _ → Option (ByteArray)) : S27l0 K ((t3, (t4, ())), (b1, ())) kn kx = B27l0 K t3 t4 b1 (fun t3 t4 b1 => kn ((t3, (t4, ())), (b1, ()))) (fun y0 => kx ((y0, ()), ())) := by
  unfold B27l0; kernel_rfl
theorem F27l0_go (K : Nat) (kx : ((List Int) → Option (ByteArray))) : ∀ (n : Nat) (t3 : (List Int)) (t4 : Int) (b1 : (List Int)), evLoop (S27l0 K) (fun y => kx y.1.1) n ((t3, (t4, ())), (b1, ())) = F27l0 K n t3 t4 b1 kx := by
  intro n
  induction n with
  | zero => intros; rfl
  | succ n ih =>
    intros t3 t4 b1
    refine (S27l0_eq K t3 t4 b1 _ _).trans ?_
    have e : (fun t3 t4 b1 => evLoop (S27l0 K) (fun y => kx y.1.1) n ((t3, (t4, ())), (b1, ()))) = fun t3 t4 b1 => F27l0 K n t3 t4 b1 kx := by
      funext t3 t4 b1; exact ih t3 t4 b1
    rw [e]; rfl
theorem F27l0_eq (K : Nat) : F27l0 K K = L27l0 K := by
  funext t3 t4 b1 kx; exact (F27l0_go K kx K t3 t4 b1).symm
def F27 (K : Nat) (x0 : (List Int)) : Option (ByteArray) := (F27l0 K K [] (0 : Int) x0 (fun y0 => (some (mkStr y0))))
theorem F27_eq (K : Nat) (x0 : (List Int)) : evFn (E27 K) A27 P27 R27 (lpK (RDen R27) K) 17 Tryd.f27.results.toList (cd Tryd.f27) (x0, ()) = F27 K x0 := by
  unfold F27; rw [F27l0_eq K]; kernel_rfl
/- quietus/hash.Expand -/
def T28l0 : LoopAnn := ⟨tm 32 [(0, (.data .str)), (0, (.data (.int .i64))), (3, (.vec (.int .u8))), (0, (.data (.int .i64)))] [], tm 32 [(1, (.data (.int .i64))), (3, (.vec (.int .u8)))] []⟩
def A28 : List (Nat × LoopAnn) := [(0, T28l0)]
noncomputable def E28 (K : Nat) : Env := mkEnv tyTab nfTab G28 [(45, ⟨P45, R45, fun x => F45 K x.1⟩), (25, ⟨P25, R25, fun x => F25 K x.1 x.2.1⟩)]
def B28l0 (K : Nat) (t0 : ByteArray) (t1 : Int) (t5 : (List Int)) (t6 : Int) (kn : (ByteArray → Int → (List Int) → Int → Option (ByteArray))) (kx : (Int → (List Int) → Option (ByteArray))) : Option (ByteArray) := (if ((ltI (((List.length t5) : Nat) : Int) t1) = true) then ((F45 K t6).bind fun y0 => ((F25 K t0 (mkStr y0)).bind fun y1 => (if ((room ((List.length t5) + (List.length (List.take (Int.toNat (((32 : Nat) : Int) - (0 : Int))) (List.drop (Int.toNat (0 : Int)) y1))))) = true) then (kn t0 t1 (t5 ++ (List.take (Int.toNat (((32 : Nat) : Int) - (0 : Int))) (List.drop (Int.toNat (0 : Int)) y1))) (IntKind.wrap IntKind.i64 (t6 + (1 : Int)))) else none))) else (kx t1 t5))
def F28l0 (K : Nat) : Nat → ByteArray → Int → (List Int) → Int → (Int → (List Int) → Option (ByteArray)) → Option (ByteArray)
  | 0, _, _, _, _, _ => none
  | k + 1, t0, t1, t5, t6, kx => B28l0 K t0 t1 t5 t6 (fun t0 t1 t5 t6 => F28l0 K k t0 t1 t5 t6 kx) kx
noncomputable def S28l0 (K : Nat) := loopStep (E28 K) A28 (lpK (RDen R28) K) (codeAt [1, 1, 1, 0, 1, 2, 2] (cd Tryd.f28)) 0 T28l0 (fun s => resOut (E28 K) s R28 Tryd.f28.results.toList)
noncomputable def L28l0 (K : Nat) (t0 : ByteArray) (t1 : Int) (t5 : (List Int)) (t6 : Int) (kx : (Int → (List Int) → Option (ByteArray))) : Option (ByteArray) := evLoop (S28l0 K) (fun y => kx y.1.1 y.1.2.1) K ((t0, (t1, (t5, (t6, ())))), ())
theorem S28l0_eq (K : Nat) (t0 : ByteArray) (t1 : Int) (t5 : (List Int)) (t6 : Int) (kn : _ → Option (ByteArray)) (kx : _ → Option (ByteArray)) : S28l0 K ((t0, (t1, (t5, (t6, ())))), ()) kn kx = B28l0 K t0 t1 t5 t6 (fun t0 t1 t5 t6 => kn ((t0, (t1, (t5, (t6, ())))), ())) (fun y0 y1 => kx ((y0, (y1, ())), ())) := by
  unfold B28l0; kernel_rfl
theorem F28l0_go (K : Nat) (kx : (Int → (List Int) → Option (ByteArray))) : ∀ (n : Nat) (t0 : ByteArray) (t1 : Int) (t5 : (List Int)) (t6 : Int), evLoop (S28l0 K) (fun y => kx y.1.1 y.1.2.1) n ((t0, (t1, (t5, (t6, ())))), ()) = F28l0 K n t0 t1 t5 t6 kx := by
  intro n
  induction n with
  | zero => intros; rfl
  | succ n ih =>
    intros t0 t1 t5 t6
    refine (S28l0_eq K t0 t1 t5 t6 _ _).trans ?_
    have e : (fun t0 t1 t5 t6 => evLoop (S28l0 K) (fun y => kx y.1.1 y.1.2.1) n ((t0, (t1, (t5, (t6, ())))), ())) = fun t0 t1 t5 t6 => F28l0 K n t0 t1 t5 t6 kx := by
      funext t0 t1 t5 t6; exact ih t0 t1 t5 t6
    rw [e]; rfl
theorem F28l0_eq (K : Nat) : F28l0 K K = L28l0 K := by
  funext t0 t1 t5 t6 kx; exact (F28l0_go K kx K t0 t1 t5 t6).symm
def F28 (K : Nat) (x0 : ByteArray) (x1 : Int) : Option (ByteArray) := (if ((ltI x1 (1 : Int)) = true) then (some (ByteArray.mk (Array.mk []))) else (if ((ltI (1048576 : Int) x1) = true) then (some (ByteArray.mk (Array.mk []))) else (F28l0 K K x0 x1 [] (0 : Int) (fun y0 y1 => (if ((inB (0 : Int) y0 (((List.length y1) : Nat) : Int)) = true) then (some (mkStr (cut y1 (0 : Int) y0))) else none)))))
theorem F28_eq (K : Nat) (x0 : ByteArray) (x1 : Int) : evFn (E28 K) A28 P28 R28 (lpK (RDen R28) K) 32 Tryd.f28.results.toList (cd Tryd.f28) (x0, (x1, ())) = F28 K x0 x1 := by
  unfold F28; rw [F28l0_eq K]; kernel_rfl
/- quietus/quietuslaw02.hex -/
def T33l0 : LoopAnn := ⟨tm 29 [(0, (.data .str)), (2, (.data .str)), (0, (.vec (.int .u8))), (0, (.data (.int .i64)))] [], tm 29 [(4, (.vec (.int .u8)))] []⟩
def A33 : List (Nat × LoopAnn) := [(0, T33l0)]
noncomputable def E33 (K : Nat) : Env := mkEnv tyTab nfTab G33 []
def B33l0 (K : Nat) (t0 : ByteArray) (t3 : ByteArray) (t4 : (List Int)) (t5 : Int) (kn : (ByteArray → ByteArray → (List Int) → Int → Option (ByteArray))) (kx : ((List Int) → Option (ByteArray))) : Option (ByteArray) := (if ((ltI t5 (((ByteArray.size t0) : Nat) : Int)) = true) then (if ((inR t5 (((ByteArray.size t0) : Nat) : Int)) = true) then (if ((inR (IntKind.wrap IntKind.u8 (Int.tdiv (bt t0 t5) (16 : Int))) (((ByteArray.size t3) : Nat) : Int)) = true) then (if ((inR t5 (((ByteArray.size t0) : Nat) : Int)) = true) then (if ((inR (Int.tmod (bt t0 t5) (16 : Int)) (((ByteArray.size t3) : Nat) : Int)) = true) then (if ((room ((List.length t4) + (List.length ((bt t3 (IntKind.wrap IntKind.u8 (Int.tdiv (bt t0 t5) (16 : Int)))) :: (bt t3 (Int.tmod (bt t0 t5) (16 : Int))) :: (List.replicate 0 (0 : Int)))))) = true) then (kn t0 t3 (t4 ++ ((bt t3 (IntKind.wrap IntKind.u8 (Int.tdiv (bt t0 t5) (16 : Int)))) :: (bt t3 (Int.tmod (bt t0 t5) (16 : Int))) :: (List.replicate 0 (0 : Int)))) (IntKind.wrap IntKind.i64 (t5 + (1 : Int)))) else none) else none) else none) else none) else none) else (kx t4))
def F33l0 (K : Nat) : Nat → ByteArray → ByteArray → (List Int) → Int → ((List Int) → Option (ByteArray)) → Option (ByteArray)
  | 0, _, _, _, _, _ => none
  | k + 1, t0, t3, t4, t5, kx => B33l0 K t0 t3 t4 t5 (fun t0 t3 t4 t5 => F33l0 K k t0 t3 t4 t5 kx) kx
noncomputable def S33l0 (K : Nat) := loopStep (E33 K) A33 (lpK (RDen R33) K) (codeAt [1, 1, 1, 0, 1, 2, 2] (cd Tryd.f33)) 0 T33l0 (fun s => resOut (E33 K) s R33 Tryd.f33.results.toList)
noncomputable def L33l0 (K : Nat) (t0 : ByteArray) (t3 : ByteArray) (t4 : (List Int)) (t5 : Int) (kx : ((List Int) → Option (ByteArray))) : Option (ByteArray) := evLoop (S33l0 K) (fun y => kx y.1.1) K ((t0, (t3, (t4, (t5, ())))), ())
theorem S33l0_eq (K : Nat) (t0 : ByteArray) (t3 : ByteArray) (t4 : (List Int)) (t5 : Int) (kn : _ → Option (ByteArray)) (kx : _ → Option (ByteArray)) : S33l0 K ((t0, (t3, (t4, (t5, ())))), ()) kn kx = B33l0 K t0 t3 t4 t5 (fun t0 t3 t4 t5 => kn ((t0, (t3, (t4, (t5, ())))), ())) (fun y0 => kx ((y0, ()), ())) := by
  unfold B33l0; kernel_rfl
theorem F33l0_go (K : Nat) (kx : ((List Int) → Option (ByteArray))) : ∀ (n : Nat) (t0 : ByteArray) (t3 : ByteArray) (t4 : (List Int)) (t5 : Int), evLoop (S33l0 K) (fun y => kx y.1.1) n ((t0, (t3, (t4, (t5, ())))), ()) = F33l0 K n t0 t3 t4 t5 kx := by
  intro n
  induction n with
  | zero => intros; rfl
  | succ n ih =>
    intros t0 t3 t4 t5
    refine (S33l0_eq K t0 t3 t4 t5 _ _).trans ?_
    have e : (fun t0 t3 t4 t5 => evLoop (S33l0 K) (fun y => kx y.1.1) n ((t0, (t3, (t4, (t5, ())))), ())) = fun t0 t3 t4 t5 => F33l0 K n t0 t3 t4 t5 kx := by
      funext t0 t3 t4 t5; exact ih t0 t3 t4 t5
    rw [e]; rfl
theorem F33l0_eq (K : Nat) : F33l0 K K = L33l0 K := by
  funext t0 t3 t4 t5 kx; exact (F33l0_go K kx K t0 t3 t4 t5).symm
def F33 (K : Nat) (x0 : ByteArray) : Option (ByteArray) := (F33l0 K K x0 (ByteArray.mk (Array.mk [(48 : UInt8), (49 : UInt8), (50 : UInt8), (51 : UInt8), (52 : UInt8), (53 : UInt8), (54 : UInt8), (55 : UInt8), (56 : UInt8), (57 : UInt8), (97 : UInt8), (98 : UInt8), (99 : UInt8), (100 : UInt8), (101 : UInt8), (102 : UInt8)])) [] (0 : Int) (fun y0 => (some (mkStr y0))))
theorem F33_eq (K : Nat) (x0 : ByteArray) : evFn (E33 K) A33 P33 R33 (lpK (RDen R33) K) 29 Tryd.f33.results.toList (cd Tryd.f33) (x0, ()) = F33 K x0 := by
  unfold F33; rw [F33l0_eq K]; kernel_rfl
/- quietus/quietusref02.Text -/
def T34l0 : LoopAnn := ⟨tm 17 [(1, (.ptr 1)), (1, (.vec (.int .u8))), (0, (.data (.int .i64)))] [(1, (.arr 16 (.int .u8)))], tm 17 [(3, (.vec (.int .u8)))] []⟩
def A34 : List (Nat × LoopAnn) := [(0, T34l0)]
noncomputable def E34 (K : Nat) : Env := mkEnv tyTab nfTab G34 []
def B34l0 (K : Nat) (t3 : (List Int)) (t4 : Int) (b1 : (List Int)) (kn : ((List Int) → Int → (List Int) → Option (ByteArray))) (kx : ((List Int) → Option (ByteArray))) : Option (ByteArray) := (if ((ltI t4 (16 : Int)) = true) then (if ((inR t4 ((16 : Nat) : Int)) = true) then (if ((room ((List.length t3) + (List.length ((nthD (Ty.int IntKind.u8) b1 t4) :: (List.replicate 0 (0 : Int)))))) = true) then (kn (t3 ++ ((nthD (Ty.int IntKind.u8) b1 t4) :: (List.replicate 0 (0 : Int)))) (IntKind.wrap IntKind.i64 (t4 + (1 : Int))) b1) else none) else none) else (kx t3))
def F34l0 (K : Nat) : Nat → (List Int) → Int → (List Int) → ((List Int) → Option (ByteArray)) → Option (ByteArray)
  | 0, _, _, _, _ => none
  | k + 1, t3, t4, b1, kx => B34l0 K t3 t4 b1 (fun t3 t4 b1 => F34l0 K k t3 t4 b1 kx) kx
noncomputable def S34l0 (K : Nat) := loopStep (E34 K) A34 (lpK (RDen R34) K) (codeAt [1, 1, 0, 1, 2, 2] (cd Tryd.f34)) 0 T34l0 (fun s => resOut (E34 K) s R34 Tryd.f34.results.toList)
noncomputable def L34l0 (K : Nat) (t3 : (List Int)) (t4 : Int) (b1 : (List Int)) (kx : ((List Int) → Option (ByteArray))) : Option (ByteArray) := evLoop (S34l0 K) (fun y => kx y.1.1) K ((t3, (t4, ())), (b1, ()))
theorem S34l0_eq (K : Nat) (t3 : (List Int)) (t4 : Int) (b1 : (List Int)) (kn : _ → Option (ByteArray)) (kx : _ → Option (ByteArray)) : S34l0 K ((t3, (t4, ())), (b1, ())) kn kx = B34l0 K t3 t4 b1 (fun t3 t4 b1 => kn ((t3, (t4, ())), (b1, ()))) (fun y0 => kx ((y0, ()), ())) := by
  unfold B34l0; kernel_rfl
theorem F34l0_go (K : Nat) (kx : ((List Int) → Option (ByteArray))) : ∀ (n : Nat) (t3 : (List Int)) (t4 : Int) (b1 : (List Int)), evLoop (S34l0 K) (fun y => kx y.1.1) n ((t3, (t4, ())), (b1, ())) = F34l0 K n t3 t4 b1 kx := by
  intro n
  induction n with
  | zero => intros; rfl
  | succ n ih =>
    intros t3 t4 b1
    refine (S34l0_eq K t3 t4 b1 _ _).trans ?_
    have e : (fun t3 t4 b1 => evLoop (S34l0 K) (fun y => kx y.1.1) n ((t3, (t4, ())), (b1, ()))) = fun t3 t4 b1 => F34l0 K n t3 t4 b1 kx := by
      funext t3 t4 b1; exact ih t3 t4 b1
    rw [e]; rfl
theorem F34l0_eq (K : Nat) : F34l0 K K = L34l0 K := by
  funext t3 t4 b1 kx; exact (F34l0_go K kx K t3 t4 b1).symm
def F34 (K : Nat) (x0 : (List Int)) : Option (ByteArray) := (F34l0 K K [] (0 : Int) x0 (fun y0 => (some (mkStr y0))))
theorem F34_eq (K : Nat) (x0 : (List Int)) : evFn (E34 K) A34 P34 R34 (lpK (RDen R34) K) 17 Tryd.f34.results.toList (cd Tryd.f34) (x0, ()) = F34 K x0 := by
  unfold F34; rw [F34l0_eq K]; kernel_rfl
/- quietus/quietuslaw02.sanity -/
def A12 : List (Nat × LoopAnn) := []
noncomputable def E12 (K : Nat) : Env := mkEnv tyTab nfTab G12 [(13, ⟨P13, R13, fun x => F13 K x.1⟩), (16, ⟨P16, R16, fun x => F16 K⟩), (17, ⟨P17, R17, fun x => F17 K x.1 x.2.1⟩), (19, ⟨P19, R19, fun x => F19 K x.1⟩), (20, ⟨P20, R20, fun x => F20 K x.1 x.2.1⟩), (25, ⟨P25, R25, fun x => F25 K x.1 x.2.1⟩), (27, ⟨P27, R27, fun x => F27 K x.1⟩), (33, ⟨P33, R33, fun x => F33 K x.1⟩), (34, ⟨P34, R34, fun x => F34 K x.1⟩), (28, ⟨P28, R28, fun x => F28 K x.1 x.2.1⟩)]
def F12 (K : Nat) : Option (Bool) := ((F13 K ((97 : Int) :: (98 : Int) :: (99 : Int) :: (List.replicate 0 (0 : Int)))).bind fun y0 => ((F16 K).bind fun y1 => ((F17 K (y1.1, (y1.2.1, y1.2.2)) (ByteArray.mk (Array.mk [(97 : UInt8)]))).bind fun y2 => ((F17 K (y2.1, (y2.2.1, y2.2.2)) (ByteArray.mk (Array.mk [(98 : UInt8), (99 : UInt8)]))).bind fun y3 => ((F19 K (y3.1, (y3.2.1, y3.2.2))).bind fun y4 => ((F20 K (1 : Int) []).bind fun y5 => ((F25 K (ByteArray.mk (Array.mk [(74 : UInt8), (101 : UInt8), (102 : UInt8), (101 : UInt8)])) (ByteArray.mk (Array.mk [(119 : UInt8), (104 : UInt8), (97 : UInt8), (116 : UInt8), (32 : UInt8), (100 : UInt8), (111 : UInt8), (32 : UInt8), (121 : UInt8), (97 : UInt8), (32 : UInt8), (119 : UInt8), (97 : UInt8), (110 : UInt8), (116 : UInt8), (32 : UInt8), (102 : UInt8), (111 : UInt8), (114 : UInt8), (32 : UInt8), (110 : UInt8), (111 : UInt8), (116 : UInt8), (104 : UInt8), (105 : UInt8), (110 : UInt8), (103 : UInt8), (63 : UInt8)]))).bind fun y6 => ((F27 K y0).bind fun y7 => ((F33 K y7).bind fun y8 => (if ((strEq y8 (ByteArray.mk (Array.mk [(98 : UInt8), (97 : UInt8), (55 : UInt8), (56 : UInt8), (49 : UInt8), (54 : UInt8), (98 : UInt8), (102 : UInt8), (56 : UInt8), (102 : UInt8), (48 : UInt8), (49 : UInt8), (99 : UInt8), (102 : UInt8), (101 : UInt8), (97 : UInt8), (52 : UInt8), (49 : UInt8), (52 : UInt8), (49 : UInt8), (52 : UInt8), (48 : UInt8), (100 : UInt8), (101 : UInt8), (53 : UInt8), (100 : UInt8), (97 : UInt8), (101 : UInt8), (50 : UInt8), (50 : UInt8), (50 : UInt8), (51 : UInt8), (98 : UInt8), (48 : UInt8), (48 : UInt8), (51 : UInt8), (54 : UInt8), (49 : UInt8), (97 : UInt8), (51 : UInt8), (57 : UInt8), (54 : UInt8), (49 : UInt8), (55 : UInt8), (55 : UInt8), (97 : UInt8), (57 : UInt8), (99 : UInt8), (98 : UInt8), (52 : UInt8), (49 : UInt8), (48 : UInt8), (102 : UInt8), (102 : UInt8), (54 : UInt8), (49 : UInt8), (102 : UInt8), (50 : UInt8), (48 : UInt8), (48 : UInt8), (49 : UInt8), (53 : UInt8), (97 : UInt8), (100 : UInt8)]))) = true) then (if ((Ty.beq (Ty.arr 32 (Ty.int IntKind.u8)) y0 y4) = true) then ((F34 K y5).bind fun y9 => ((F33 K y9).bind fun y10 => (if ((strEq y10 (ByteArray.mk (Array.mk [(52 : UInt8), (98 : UInt8), (102 : UInt8), (53 : UInt8), (49 : UInt8), (50 : UInt8), (50 : UInt8), (102 : UInt8), (51 : UInt8), (52 : UInt8), (52 : UInt8), (53 : UInt8), (53 : UInt8), (52 : UInt8), (99 : UInt8), (53 : UInt8), (51 : UInt8), (98 : UInt8), (100 : UInt8), (101 : UInt8), (50 : UInt8), (101 : UInt8), (98 : UInt8), (98 : UInt8), (56 : UInt8), (99 : UInt8), (100 : UInt8), (50 : UInt8), (98 : UInt8), (55 : UInt8), (101 : UInt8), (51 : UInt8)]))) = true) then ((F27 K y6).bind fun y11 => ((F33 K y11).bind fun y12 => (if ((strEq y12 (ByteArray.mk (Array.mk [(53 : UInt8), (98 : UInt8), (100 : UInt8), (99 : UInt8), (99 : UInt8), (49 : UInt8), (52 : UInt8), (54 : UInt8), (98 : UInt8), (102 : UInt8), (54 : UInt8), (48 : UInt8), (55 : UInt8), (53 : UInt8), (52 : UInt8), (101 : UInt8), (54 : UInt8), (97 : UInt8), (48 : UInt8), (52 : UInt8), (50 : UInt8), (52 : UInt8), (50 : UInt8), (54 : UInt8), (48 : UInt8), (56 : UInt8), (57 : UInt8), (53 : UInt8), (55 : UInt8), (53 : UInt8), (99 : UInt8), (55 : UInt8), (53 : UInt8), (97 : UInt8), (48 : UInt8), (48 : UInt8), (51 : UInt8), (102 : UInt8), (48 : UInt8), (56 : UInt8), (57 : UInt8), (100 : UInt8), (50 : UInt8), (55 : UInt8), (51 : UInt8), (57 : UInt8), (56 : UInt8), (51 : UInt8), (57 : UInt8), (100 : UInt8), (101 : UInt8), (99 : UInt8), (53 : UInt8), (56 : UInt8), (98 : UInt8), (57 : UInt8), (54 : UInt8), (52 : UInt8), (101 : UInt8), (99 : UInt8), (51 : UInt8), (56 : UInt8), (52 : UInt8), (51 : UInt8)]))) = true) then ((F28 K (ByteArray.mk (Array.mk [(97 : UInt8)])) (33 : Int)).bind fun y13 => (if ((eqI (((ByteArray.size y13) : Nat) : Int) (33 : Int)) = true) then ((F28 K (ByteArray.mk (Array.mk [(97 : UInt8)])) (0 : Int)).bind fun y14 => (some (strEq y14 (ByteArray.mk (Array.mk []))))) else (some Bool.false))) else (some Bool.false)))) else (some Bool.false)))) else (some Bool.false)) else (some Bool.false)))))))))))
theorem F12_eq (K : Nat) : evFn (E12 K) A12 P12 R12 (lpK (RDen R12) K) 44 Tryd.f12.results.toList (cd Tryd.f12) () = F12 K := by
  unfold F12; kernel_rfl
/- quietus/quietusref02.padded -/
def T35l2 : LoopAnn := ⟨tm 37 [(3, (.vec (.int .u8))), (0, (.data (.int .u64))), (0, (.data (.int .i64)))] [], tm 37 [(3, (.vec (.int .u8)))] []⟩
def T35l0 : LoopAnn := ⟨tm 37 [(0, (.data (.list (.int .u8)))), (2, (.vec (.int .u8)))] [], tm 37 [(0, (.data (.list (.int .u8)))), (2, (.vec (.int .u8)))] []⟩
def A35 : List (Nat × LoopAnn) := [(2, T35l2), (0, T35l0)]
noncomputable def E35 (K : Nat) : Env := mkEnv tyTab nfTab G35 []
def B35l2 (K : Nat) (t3 : (List Int)) (t4 : Int) (t5 : Int) (kn : ((List Int) → Int → Int → Option ((List Int)))) (kx : ((List Int) → Option ((List Int)))) : Option ((List Int)) := (if ((ltI t5 (8 : Int)) = true) then (if ((ltI (IntKind.wrap IntKind.i64 ((56 : Int) - (IntKind.wrap IntKind.i64 ((8 : Int) * t5)))) (0 : Int)) = true) then none else (if ((room ((List.length t3) + (List.length ((IntKind.wrap IntKind.u8 (shrI IntKind.u64 t4 (IntKind.wrap IntKind.i64 ((56 : Int) - (IntKind.wrap IntKind.i64 ((8 : Int) * t5)))))) :: (List.replicate 0 (0 : Int)))))) = true) then (kn (t3 ++ ((IntKind.wrap IntKind.u8 (shrI IntKind.u64 t4 (IntKind.wrap IntKind.i64 ((56 : Int) - (IntKind.wrap IntKind.i64 ((8 : Int) * t5)))))) :: (List.replicate 0 (0 : Int)))) t4 (IntKind.wrap IntKind.i64 (t5 + (1 : Int)))) else none)) else (kx t3))
def F35l2 (K : Nat) : Nat → (List Int) → Int → Int → ((List Int) → Option ((List Int))) → Option ((List Int))
  | 0, _, _, _, _ => none
  | k + 1, t3, t4, t5, kx => B35l2 K t3 t4 t5 (fun t3 t4 t5 => F35l2 K k t3 t4 t5 kx) kx
noncomputable def S35l2 (K : Nat) := loopStep (E35 K) A35 (lpK (RDen R35) K) (codeAt [1, 1, 1, 1, 1, 0, 1, 2, 2] (cd Tryd.f35)) 2 T35l2 (fun s => resOut (E35 K) s R35 Tryd.f35.results.toList)
noncomputable def L35l2 (K : Nat) (t3 : (List Int)) (t4 : Int) (t5 : Int) (kx : ((List Int) → Option ((List Int)))) : Option ((List Int)) := evLoop (S35l2 K) (fun y => kx y.1.1) K ((t3, (t4, (t5, ()))), ())
theorem S35l2_eq (K : Nat) (t3 : (List Int)) (t4 : Int) (t5 : Int) (kn : _ → Option ((List Int))) (kx : _ → Option ((List Int))) : S35l2 K ((t3, (t4, (t5, ()))), ()) kn kx = B35l2 K t3 t4 t5 (fun t3 t4 t5 => kn ((t3, (t4, (t5, ()))), ())) (fun y0 => kx ((y0, ()), ())) := by
  unfold B35l2; kernel_rfl
theorem F35l2_go (K : Nat) (kx : ((List Int) → Option ((List Int)))) : ∀ (n : Nat) (t3 : (List Int)) (t4 : Int) (t5 : Int), evLoop (S35l2 K) (fun y => kx y.1.1) n ((t3, (t4, (t5, ()))), ()) = F35l2 K n t3 t4 t5 kx := by
  intro n
  induction n with
  | zero => intros; rfl
  | succ n ih =>
    intros t3 t4 t5
    refine (S35l2_eq K t3 t4 t5 _ _).trans ?_
    have e : (fun t3 t4 t5 => evLoop (S35l2 K) (fun y => kx y.1.1) n ((t3, (t4, (t5, ()))), ())) = fun t3 t4 t5 => F35l2 K n t3 t4 t5 kx := by
      funext t3 t4 t5; exact ih t3 t4 t5
    rw [e]; rfl
theorem F35l2_eq (K : Nat) : F35l2 K K = L35l2 K := by
  funext t3 t4 t5 kx; exact (F35l2_go K kx K t3 t4 t5).symm
def B35l0 (K : Nat) (t0 : (List Int)) (t3 : (List Int)) (kn : ((List Int) → (List Int) → Option ((List Int)))) (kx : ((List Int) → (List Int) → Option ((List Int)))) : Option ((List Int)) := (if ((!(eqI (Int.tmod (((List.length t3) : Nat) : Int) (64 : Int)) (56 : Int))) = true) then (if ((room ((List.length t3) + (List.length ((0 : Int) :: (List.replicate 0 (0 : Int)))))) = true) then (kn t0 (t3 ++ ((0 : Int) :: (List.replicate 0 (0 : Int))))) else none) else (kx t0 t3))
def F35l0 (K : Nat) : Nat → (List Int) → (List Int) → ((List Int) → (List Int) → Option ((List Int))) → Option ((List Int))
  | 0, _, _, _ => none
  | k + 1, t0, t3, kx => B35l0 K t0 t3 (fun t0 t3 => F35l0 K k t0 t3 kx) kx
noncomputable def S35l0 (K : Nat) := loopStep (E35 K) A35 (lpK (RDen R35) K) (codeAt [1, 1, 1, 0, 2, 2] (cd Tryd.f35)) 0 T35l0 (fun s => resOut (E35 K) s R35 Tryd.f35.results.toList)
noncomputable def L35l0 (K : Nat) (t0 : (List Int)) (t3 : (List Int)) (kx : ((List Int) → (List Int) → Option ((List Int)))) : Option ((List Int)) := evLoop (S35l0 K) (fun y => kx y.1.1 y.1.2.1) K ((t0, (t3, ())), ())
theorem S35l0_eq (K : Nat) (t0 : (List Int)) (t3 : (List Int)) (kn : _ → Option ((List Int))) (kx : _ → Option ((List Int))) : S35l0 K ((t0, (t3, ())), ()) kn kx = B35l0 K t0 t3 (fun t0 t3 => kn ((t0, (t3, ())), ())) (fun y0 y1 => kx ((y0, (y1, ())), ())) := by
  unfold B35l0; kernel_rfl
theorem F35l0_go (K : Nat) (kx : ((List Int) → (List Int) → Option ((List Int)))) : ∀ (n : Nat) (t0 : (List Int)) (t3 : (List Int)), evLoop (S35l0 K) (fun y => kx y.1.1 y.1.2.1) n ((t0, (t3, ())), ()) = F35l0 K n t0 t3 kx := by
  intro n
  induction n with
  | zero => intros; rfl
  | succ n ih =>
    intros t0 t3
    refine (S35l0_eq K t0 t3 _ _).trans ?_
    have e : (fun t0 t3 => evLoop (S35l0 K) (fun y => kx y.1.1 y.1.2.1) n ((t0, (t3, ())), ())) = fun t0 t3 => F35l0 K n t0 t3 kx := by
      funext t0 t3; exact ih t0 t3
    rw [e]; rfl
theorem F35l0_eq (K : Nat) : F35l0 K K = L35l0 K := by
  funext t0 t3 kx; exact (F35l0_go K kx K t0 t3).symm
def F35 (K : Nat) (x0 : (List Int)) : Option ((List Int)) := (if ((room ((List.length (List.replicate 0 (0 : Int))) + (List.length x0))) = true) then (if ((room ((List.length ((List.replicate 0 (0 : Int)) ++ x0)) + (List.length ((128 : Int) :: (List.replicate 0 (0 : Int)))))) = true) then (F35l0 K K x0 (((List.replicate 0 (0 : Int)) ++ x0) ++ ((128 : Int) :: (List.replicate 0 (0 : Int)))) (fun y0 y1 => (F35l2 K K y1 (IntKind.wrap IntKind.u64 ((8 : Int) * (IntKind.wrap IntKind.u64 (((List.length y0) : Nat) : Int)))) (0 : Int) (fun y2 => (some y2))))) else none) else none)
theorem F35_eq (K : Nat) (x0 : (List Int)) : evFn (E35 K) A35 P35 R35 (lpK (RDen R35) K) 37 Tryd.f35.results.toList (cd Tryd.f35) (x0, ()) = F35 K x0 := by
  unfold F35; rw [F35l2_eq K]; rw [F35l0_eq K]; kernel_rfl
/- quietus/quietusref02.rotr -/
def A37 : List (Nat × LoopAnn) := []
noncomputable def E37 (K : Nat) : Env := mkEnv tyTab nfTab G37 []
def F37 (K : Nat) (x0 : Int) (x1 : Int) : Option (Int) := (if ((ltI x1 (0 : Int)) = true) then none else (if ((ltI (IntKind.wrap IntKind.i64 ((32 : Int) - x1)) (0 : Int)) = true) then none else (some (bitOr IntKind.u32 (shrI IntKind.u32 x0 x1) (shlI IntKind.u32 x0 (IntKind.wrap IntKind.i64 ((32 : Int) - x1)))))))
theorem F37_eq (K : Nat) (x0 : Int) (x1 : Int) : evFn (E37 K) A37 P37 R37 (lpK (RDen R37) K) 13 Tryd.f37.results.toList (cd Tryd.f37) (x0, (x1, ())) = F37 K x0 x1 := by
  unfold F37; kernel_rfl
/- quietus/quietusref02.words -/
def T36l2 : LoopAnn := ⟨tm 101 [(2, (.ptr 2)), (0, (.ptr 3)), (1, (.data (.int .i64)))] [(2, (.arr 64 (.int .u32))), (0, (.arr 64 (.int .u32)))], tm 101 [(2, (.ptr 2)), (0, (.ptr 3))] [(2, (.arr 64 (.int .u32))), (0, (.arr 64 (.int .u32)))]⟩
def T36l0 : LoopAnn := ⟨tm 101 [(0, (.data (.list (.int .u8)))), (1, (.ptr 2)), (0, (.ptr 3)), (0, (.data (.int .i64)))] [(2, (.arr 64 (.int .u32))), (0, (.arr 64 (.int .u32)))], tm 101 [(2, (.ptr 2)), (0, (.ptr 3))] [(2, (.arr 64 (.int .u32))), (0, (.arr 64 (.int .u32)))]⟩
def A36 : List (Nat × LoopAnn) := [(2, T36l2), (0, T36l0)]
noncomputable def E36 (K : Nat) : Env := mkEnv tyTab nfTab G36 [(37, ⟨P37, R37, fun x => F37 K x.1 x.2.1⟩)]
def B36l2 (K : Nat) (t5 : Int) (b2 : (List Int)) (b3 : (List Int)) (kn : (Int → (List Int) → (List Int) → Option ((List Int)))) (kx : ((List Int) → (List Int) → Option ((List Int)))) : Option ((List Int)) := (if ((ltI t5 (64 : Int)) = true) then (if ((inR (IntKind.wrap IntKind.i64 (t5 - (15 : Int))) ((64 : Nat) : Int)) = true) then ((F37 K (nthD (Ty.int IntKind.u32) b3 (IntKind.wrap IntKind.i64 (t5 - (15 : Int)))) (7 : Int)).bind fun y0 => (if ((inR (IntKind.wrap IntKind.i64 (t5 - (15 : Int))) ((64 : Nat) : Int)) = true) then ((F37 K (nthD (Ty.int IntKind.u32) b3 (IntKind.wrap IntKind.i64 (t5 - (15 : Int)))) (18 : Int)).bind fun y1 => (if ((inR (IntKind.wrap IntKind.i64 (t5 - (15 : Int))) ((64 : Nat) : Int)) = true) then (if ((inR (IntKind.wrap IntKind.i64 (t5 - (2 : Int))) ((64 : Nat) : Int)) = true) then ((F37 K (nthD (Ty.int IntKind.u32) b3 (IntKind.wrap IntKind.i64 (t5 - (2 : Int)))) (17 : Int)).bind fun y2 => (if ((inR (IntKind.wrap IntKind.i64 (t5 - (2 : Int))) ((64 : Nat) : Int)) = true) then ((F37 K (nthD (Ty.int IntKind.u32) b3 (IntKind.wrap IntKind.i64 (t5 - (2 : Int)))) (19 : Int)).bind fun y3 => (if ((inR (IntKind.wrap IntKind.i64 (t5 - (2 : Int))) ((64 : Nat) : Int)) = true) then (if ((inR (IntKind.wrap IntKind.i64 (t5 - (16 : Int))) ((64 : Nat) : Int)) = true) then (if ((inR (IntKind.wrap IntKind.i64 (t5 - (7 : Int))) ((64 : Nat) : Int)) = true) then (if ((inR t5 ((64 : Nat) : Int)) = true) then (kn (IntKind.wrap IntKind.i64 (t5 + (1 : Int))) b2 (List.set b3 (Int.toNat t5) (IntKind.wrap IntKind.u32 ((IntKind.wrap IntKind.u32 ((IntKind.wrap IntKind.u32 ((nthD (Ty.int IntKind.u32) b3 (IntKind.wrap IntKind.i64 (t5 - (16 : Int)))) + (bitXor IntKind.u32 (bitXor IntKind.u32 y0 y1) (shrI IntKind.u32 (nthD (Ty.int IntKind.u32) b3 (IntKind.wrap IntKind.i64 (t5 - (15 : Int)))) (3 : Int))))) + (nthD (Ty.int IntKind.u32) b3 (IntKind.wrap IntKind.i64 (t5 - (7 : Int)))))) + (bitXor IntKind.u32 (bitXor IntKind.u32 y2 y3) (shrI IntKind.u32 (nthD (Ty.int IntKind.u32) b3 (IntKind.wrap IntKind.i64 (t5 - (2 : Int)))) (10 : Int))))))) else none) else none) else none) else none)) else none)) else none) else none)) else none)) else none) else (kx b2 b3))
def F36l2 (K : Nat) : Nat → Int → (List Int) → (List Int) → ((List Int) → (List Int) → Option ((List Int))) → Option ((List Int))
  | 0, _, _, _, _ => none
  | k + 1, t5, b2, b3, kx => B36l2 K t5 b2 b3 (fun t5 b2 b3 => F36l2 K k t5 b2 b3 kx) kx
noncomputable def S36l2 (K : Nat) := loopStep (E36 K) A36 (lpK (RDen R36) K) (codeAt [1, 1, 1, 0, 1, 2, 2] (cd Tryd.f36)) 2 T36l2 (fun s => resOut (E36 K) s R36 Tryd.f36.results.toList)
noncomputable def L36l2 (K : Nat) (t5 : Int) (b2 : (List Int)) (b3 : (List Int)) (kx : ((List Int) → (List Int) → Option ((List Int)))) : Option ((List Int)) := evLoop (S36l2 K) (fun y => kx y.2.1 y.2.2.1) K ((t5, ()), (b2, (b3, ())))
theorem S36l2_eq (K : Nat) (t5 : Int) (b2 : (List Int)) (b3 : (List Int)) (kn : _ → Option ((List Int))) (kx : _ → Option ((List Int))) : S36l2 K ((t5, ()), (b2, (b3, ()))) kn kx = B36l2 K t5 b2 b3 (fun t5 b2 b3 => kn ((t5, ()), (b2, (b3, ())))) (fun y0 y1 => kx ((), (y0, (y1, ())))) := by
  unfold B36l2; kernel_rfl
theorem F36l2_go (K : Nat) (kx : ((List Int) → (List Int) → Option ((List Int)))) : ∀ (n : Nat) (t5 : Int) (b2 : (List Int)) (b3 : (List Int)), evLoop (S36l2 K) (fun y => kx y.2.1 y.2.2.1) n ((t5, ()), (b2, (b3, ()))) = F36l2 K n t5 b2 b3 kx := by
  intro n
  induction n with
  | zero => intros; rfl
  | succ n ih =>
    intros t5 b2 b3
    refine (S36l2_eq K t5 b2 b3 _ _).trans ?_
    have e : (fun t5 b2 b3 => evLoop (S36l2 K) (fun y => kx y.2.1 y.2.2.1) n ((t5, ()), (b2, (b3, ())))) = fun t5 b2 b3 => F36l2 K n t5 b2 b3 kx := by
      funext t5 b2 b3; exact ih t5 b2 b3
    rw [e]; rfl
theorem F36l2_eq (K : Nat) : F36l2 K K = L36l2 K := by
  funext t5 b2 b3 kx; exact (F36l2_go K kx K t5 b2 b3).symm
def B36l0 (K : Nat) (t0 : (List Int)) (t4 : Int) (b2 : (List Int)) (b3 : (List Int)) (kn : ((List Int) → Int → (List Int) → (List Int) → Option ((List Int)))) (kx : ((List Int) → (List Int) → Option ((List Int)))) : Option ((List Int)) := (if ((ltI t4 (16 : Int)) = true) then (if ((inR (IntKind.wrap IntKind.i64 ((4 : Int) * t4)) (((List.length t0) : Nat) : Int)) = true) then (if ((inR (IntKind.wrap IntKind.i64 ((IntKind.wrap IntKind.i64 ((4 : Int) * t4)) + (1 : Int))) (((List.length t0) : Nat) : Int)) = true) then (if ((inR (IntKind.wrap IntKind.i64 ((IntKind.wrap IntKind.i64 ((4 : Int) * t4)) + (2 : Int))) (((List.length t0) : Nat) : Int)) = true) then (if ((inR (IntKind.wrap IntKind.i64 ((IntKind.wrap IntKind.i64 ((4 : Int) * t4)) + (3 : Int))) (((List.length t0) : Nat) : Int)) = true) then (if ((inR t4 ((64 : Nat) : Int)) = true) then (kn t0 (IntKind.wrap IntKind.i64 (t4 + (1 : Int))) b2 (List.set b3 (Int.toNat t4) (bitOr IntKind.u32 (bitOr IntKind.u32 (bitOr IntKind.u32 (shlI IntKind.u32 (IntKind.wrap IntKind.u32 (nthD (Ty.int IntKind.u8) t0 (IntKind.wrap IntKind.i64 ((4 : Int) * t4)))) (24 : Int)) (shlI IntKind.u32 (IntKind.wrap IntKind.u32 (nthD (Ty.int IntKind.u8) t0 (IntKind.wrap IntKind.i64 ((IntKind.wrap IntKind.i64 ((4 : Int) * t4)) + (1 : Int))))) (16 : Int))) (shlI IntKind.u32 (IntKind.wrap IntKind.u32 (nthD (Ty.int IntKind.u8) t0 (IntKind.wrap IntKind.i64 ((IntKind.wrap IntKind.i64 ((4 : Int) * t4)) + (2 : Int))))) (8 : Int))) (IntKind.wrap IntKind.u32 (nthD (Ty.int IntKind.u8) t0 (IntKind.wrap IntKind.i64 ((IntKind.wrap IntKind.i64 ((4 : Int) * t4)) + (3 : Int)))))))) else none) else none) else none) else none) else none) else (kx b2 b3))
def F36l0 (K : Nat) : Nat → (List Int) → Int → (List Int) → (List Int) → ((List Int) → (List Int) → Option ((List Int))) → Option ((List Int))
  | 0, _, _, _, _, _ => none
  | k + 1, t0, t4, b2, b3, kx => B36l0 K t0 t4 b2 b3 (fun t0 t4 b2 b3 => F36l0 K k t0 t4 b2 b3 kx) kx
noncomputable def S36l0 (K : Nat) := loopStep (E36 K) A36 (lpK (RDen R36) K) (codeAt [1, 1, 0, 1, 2, 2] (cd Tryd.f36)) 0 T36l0 (fun s => resOut (E36 K) s R36 Tryd.f36.results.toList)
noncomputable def L36l0 (K : Nat) (t0 : (List Int)) (t4 : Int) (b2 : (List Int)) (b3 : (List Int)) (kx : ((List Int) → (List Int) → Option ((List Int)))) : Option ((List Int)) := evLoop (S36l0 K) (fun y => kx y.2.1 y.2.2.1) K ((t0, (t4, ())), (b2, (b3, ())))
theorem S36l0_eq (K : Nat) (t0 : (List Int)) (t4 : Int) (b2 : (List Int)) (b3 : (List Int)) (kn : _ → Option ((List Int))) (kx : _ → Option ((List Int))) : S36l0 K ((t0, (t4, ())), (b2, (b3, ()))) kn kx = B36l0 K t0 t4 b2 b3 (fun t0 t4 b2 b3 => kn ((t0, (t4, ())), (b2, (b3, ())))) (fun y0 y1 => kx ((), (y0, (y1, ())))) := by
  unfold B36l0; kernel_rfl
theorem F36l0_go (K : Nat) (kx : ((List Int) → (List Int) → Option ((List Int)))) : ∀ (n : Nat) (t0 : (List Int)) (t4 : Int) (b2 : (List Int)) (b3 : (List Int)), evLoop (S36l0 K) (fun y => kx y.2.1 y.2.2.1) n ((t0, (t4, ())), (b2, (b3, ()))) = F36l0 K n t0 t4 b2 b3 kx := by
  intro n
  induction n with
  | zero => intros; rfl
  | succ n ih =>
    intros t0 t4 b2 b3
    refine (S36l0_eq K t0 t4 b2 b3 _ _).trans ?_
    have e : (fun t0 t4 b2 b3 => evLoop (S36l0 K) (fun y => kx y.2.1 y.2.2.1) n ((t0, (t4, ())), (b2, (b3, ())))) = fun t0 t4 b2 b3 => F36l0 K n t0 t4 b2 b3 kx := by
      funext t0 t4 b2 b3; exact ih t0 t4 b2 b3
    rw [e]; rfl
theorem F36l0_eq (K : Nat) : F36l0 K K = L36l0 K := by
  funext t0 t4 b2 b3 kx; exact (F36l0_go K kx K t0 t4 b2 b3).symm
def F36 (K : Nat) (x0 : (List Int)) : Option ((List Int)) := (F36l0 K K x0 (0 : Int) (List.replicate 64 (0 : Int)) (List.replicate 64 (0 : Int)) (fun y0 y1 => (F36l2 K K (16 : Int) y0 y1 (fun y2 y3 => (some y3)))))
theorem F36_eq (K : Nat) (x0 : (List Int)) : evFn (E36 K) A36 P36 R36 (lpK (RDen R36) K) 101 Tryd.f36.results.toList (cd Tryd.f36) (x0, ()) = F36 K x0 := by
  unfold F36; rw [F36l2_eq K]; rw [F36l0_eq K]; kernel_rfl
/- quietus/quietusref02.Sum -/
def T14l2 : LoopAnn := ⟨tm 148 [(2, (.ptr 2)), (0, (.ptr 3)), (0, (.data (.list (.int .u8)))), (0, (.data (.int .i64))), (0, (.ptr 6)), (0, (.ptr 7)), (0, (.data (.int .i64)))] [(2, (.arr 32 (.int .u8))), (0, (.arr 8 (.int .u32))), (2, (.arr 64 (.int .u32))), (0, (.arr 8 (.int .u32)))], tm 148 [(2, (.ptr 2)), (0, (.ptr 3)), (0, (.data (.list (.int .u8)))), (0, (.data (.int .i64))), (1, (.ptr 7))] [(2, (.arr 32 (.int .u8))), (0, (.arr 8 (.int .u32))), (3, (.arr 8 (.int .u32)))]⟩
def T14l4 : LoopAnn := ⟨tm 148 [(2, (.ptr 2)), (0, (.ptr 3)), (0, (.data (.list (.int .u8)))), (0, (.data (.int .i64))), (1, (.ptr 7)), (3, (.data (.int .i64)))] [(2, (.arr 32 (.int .u8))), (0, (.arr 8 (.int .u32))), (3, (.arr 8 (.int .u32)))], tm 148 [(2, (.ptr 2)), (0, (.ptr 3)), (0, (.data (.list (.int .u8)))), (0, (.data (.int .i64)))] [(2, (.arr 32 (.int .u8))), (0, (.arr 8 (.int .u32)))]⟩
def T14l6 : LoopAnn := ⟨tm 148 [(2, (.ptr 2)), (0, (.ptr 3)), (8, (.ptr 12)), (0, (.data (.int .i64)))] [(2, (.arr 32 (.int .u8))), (0, (.arr 8 (.int .u32))), (8, (.arr 32 (.int .u8)))], tm 148 [(2, (.ptr 2)), (9, (.ptr 12))] [(2, (.arr 32 (.int .u8))), (9, (.arr 32 (.int .u8)))]⟩
def T14l0 : LoopAnn := ⟨tm 148 [(2, (.ptr 2)), (0, (.ptr 3)), (0, (.data (.list (.int .u8)))), (0, (.data (.int .i64)))] [(2, (.arr 32 (.int .u8))), (0, (.arr 8 (.int .u32)))], tm 148 [(2, (.ptr 2)), (0, (.ptr 3))] [(2, (.arr 32 (.int .u8))), (0, (.arr 8 (.int .u32)))]⟩
def A14 : List (Nat × LoopAnn) := [(2, T14l2), (4, T14l4), (6, T14l6), (0, T14l0)]
noncomputable def E14 (K : Nat) : Env := mkEnv tyTab nfTab G14 [(35, ⟨P35, R35, fun x => F35 K x.1⟩), (36, ⟨P36, R36, fun x => F36 K x.1⟩), (37, ⟨P37, R37, fun x => F37 K x.1 x.2.1⟩)]
def B14l2 (K : Nat) (t4 : (List Int)) (t5 : Int) (t8 : Int) (b2 : (List Int)) (b3 : (List Int)) (b6 : (List Int)) (b7 : (List Int)) (kn : ((List Int) → Int → Int → (List Int) → (List Int) → (List Int) → (List Int) → Option ((List Int)))) (kx : ((List Int) → Int → (List Int) → (List Int) → (List Int) → Option ((List Int)))) : Option ((List Int)) := (if ((ltI t8 (64 : Int)) = true) then ((F37 K (nthD (Ty.int IntKind.u32) b7 (4 : Int)) (6 : Int)).bind fun y0 => ((F37 K (nthD (Ty.int IntKind.u32) b7 (4 : Int)) (11 : Int)).bind fun y1 => ((F37 K (nthD (Ty.int IntKind.u32) b7 (4 : Int)) (25 : Int)).bind fun y2 => (if ((inR t8 ((64 : Nat) : Int)) = true) then (if ((inR t8 ((64 : Nat) : Int)) = true) then ((F37 K (nthD (Ty.int IntKind.u32) b7 (0 : Int)) (2 : Int)).bind fun y3 => ((F37 K (nthD (Ty.int IntKind.u32) b7 (0 : Int)) (13 : Int)).bind fun y4 => ((F37 K (nthD (Ty.int IntKind.u32) b7 (0 : Int)) (22 : Int)).bind fun y5 => (kn t4 t5 (IntKind.wrap IntKind.i64 (t8 + (1 : Int))) b2 b3 b6 ((IntKind.wrap IntKind.u32 ((IntKind.wrap IntKind.u32 ((IntKind.wrap IntKind.u32 ((IntKind.wrap IntKind.u32 ((IntKind.wrap IntKind.u32 ((nthD (Ty.int IntKind.u32) b7 (7 : Int)) + (bitXor IntKind.u32 (bitXor IntKind.u32 y0 y1) y2))) + (bitXor IntKind.u32 (bitAnd IntKind.u32 (nthD (Ty.int IntKind.u32) b7 (4 : Int)) (nthD (Ty.int IntKind.u32) b7 (5 : Int))) (bitAnd IntKind.u32 (bitXor IntKind.u32 (nthD (Ty.int IntKind.u32) b7 (4 : Int)) (4294967295 : Int)) (nthD (Ty.int IntKind.u32) b7 (6 : Int)))))) + (nthD (Ty.int IntKind.u32) [(1116352408 : Int), (1899447441 : Int), (3049323471 : Int), (3921009573 : Int), (961987163 : Int), (1508970993 : Int), (2453635748 : Int), (2870763221 : Int), (3624381080 : Int), (310598401 : Int), (607225278 : Int), (1426881987 : Int), (1925078388 : Int), (2162078206 : Int), (2614888103 : Int), (3248222580 : Int), (3835390401 : Int), (4022224774 : Int), (264347078 : Int), (604807628 : Int), (770255983 : Int), (1249150122 : Int), (1555081692 : Int), (1996064986 : Int), (2554220882 : Int), (2821834349 : Int), (2952996808 : Int), (3210313671 : Int), (3336571891 : Int), (3584528711 : Int), (113926993 : Int), (338241895 : Int), (666307205 : Int), (773529912 : Int), (1294757372 : Int), (1396182291 : Int), (1695183700 : Int), (1986661051 : Int), (2177026350 : Int), (2456956037 : Int), (2730485921 : Int), (2820302411 : Int), (3259730800 : Int), (3345764771 : Int), (3516065817 : Int), (3600352804 : Int), (4094571909 : Int), (275423344 : Int), (430227734 : Int), (506948616 : Int), (659060556 : Int), (883997877 : Int), (958139571 : Int), (1322822218 : Int), (1537002063 : Int), (1747873779 : Int), (1955562222 : Int), (2024104815 : Int), (2227730452 : Int), (2361852424 : Int), (2428436474 : Int), (2756734187 : Int), (3204031479 : Int), (3329325298 : Int)] t8))) + (nthD (Ty.int IntKind.u32) b6 t8))) + (IntKind.wrap IntKind.u32 ((bitXor IntKind.u32 (bitXor IntKind.u32 y3 y4) y5) + (bitXor IntKind.u32 (bitXor IntKind.u32 (bitAnd IntKind.u32 (nthD (Ty.int IntKind.u32) b7 (0 : Int)) (nthD (Ty.int IntKind.u32) b7 (1 : Int))) (bitAnd IntKind.u32 (nthD (Ty.int IntKind.u32) b7 (0 : Int)) (nthD (Ty.int IntKind.u32) b7 (2 : Int)))) (bitAnd IntKind.u32 (nthD (Ty.int IntKind.u32) b7 (1 : Int)) (nthD (Ty.int IntKind.u32) b7 (2 : Int)))))))) :: (nthD (Ty.int IntKind.u32) b7 (0 : Int)) :: (nthD (Ty.int IntKind.u32) b7 (1 : Int)) :: (nthD (Ty.int IntKind.u32) b7 (2 : Int)) :: (IntKind.wrap IntKind.u32 ((nthD (Ty.int IntKind.u32) b7 (3 : Int)) + (IntKind.wrap IntKind.u32 ((IntKind.wrap IntKind.u32 ((IntKind.wrap IntKind.u32 ((IntKind.wrap IntKind.u32 ((nthD (Ty.int IntKind.u32) b7 (7 : Int)) + (bitXor IntKind.u32 (bitXor IntKind.u32 y0 y1) y2))) + (bitXor IntKind.u32 (bitAnd IntKind.u32 (nthD (Ty.int IntKind.u32) b7 (4 : Int)) (nthD (Ty.int IntKind.u32) b7 (5 : Int))) (bitAnd IntKind.u32 (bitXor IntKind.u32 (nthD (Ty.int IntKind.u32) b7 (4 : Int)) (4294967295 : Int)) (nthD (Ty.int IntKind.u32) b7 (6 : Int)))))) + (nthD (Ty.int IntKind.u32) [(1116352408 : Int), (1899447441 : Int), (3049323471 : Int), (3921009573 : Int), (961987163 : Int), (1508970993 : Int), (2453635748 : Int), (2870763221 : Int), (3624381080 : Int), (310598401 : Int), (607225278 : Int), (1426881987 : Int), (1925078388 : Int), (2162078206 : Int), (2614888103 : Int), (3248222580 : Int), (3835390401 : Int), (4022224774 : Int), (264347078 : Int), (604807628 : Int), (770255983 : Int), (1249150122 : Int), (1555081692 : Int), (1996064986 : Int), (2554220882 : Int), (2821834349 : Int), (2952996808 : Int), (3210313671 : Int), (3336571891 : Int), (3584528711 : Int), (113926993 : Int), (338241895 : Int), (666307205 : Int), (773529912 : Int), (1294757372 : Int), (1396182291 : Int), (1695183700 : Int), (1986661051 : Int), (2177026350 : Int), (2456956037 : Int), (2730485921 : Int), (2820302411 : Int), (3259730800 : Int), (3345764771 : Int), (3516065817 : Int), (3600352804 : Int), (4094571909 : Int), (275423344 : Int), (430227734 : Int), (506948616 : Int), (659060556 : Int), (883997877 : Int), (958139571 : Int), (1322822218 : Int), (1537002063 : Int), (1747873779 : Int), (1955562222 : Int), (2024104815 : Int), (2227730452 : Int), (2361852424 : Int), (2428436474 : Int), (2756734187 : Int), (3204031479 : Int), (3329325298 : Int)] t8))) + (nthD (Ty.int IntKind.u32) b6 t8))))) :: (nthD (Ty.int IntKind.u32) b7 (4 : Int)) :: (nthD (Ty.int IntKind.u32) b7 (5 : Int)) :: (nthD (Ty.int IntKind.u32) b7 (6 : Int)) :: (List.replicate 0 (0 : Int))))))) else none) else none)))) else (kx t4 t5 b2 b3 b7))
def F14l2 (K : Nat) : Nat → (List Int) → Int → Int → (List Int) → (List Int) → (List Int) → (List Int) → ((List Int) → Int → (List Int) → (List Int) → (List Int) → Option ((List Int))) → Option ((List Int))
  | 0, _, _, _, _, _, _, _, _ => none
  | k + 1, t4, t5, t8, b2, b3, b6, b7, kx => B14l2 K t4 t5 t8 b2 b3 b6 b7 (fun t4 t5 t8 b2 b3 b6 b7 => F14l2 K k t4 t5 t8 b2 b3 b6 b7 kx) kx
noncomputable def S14l2 (K : Nat) := loopStep (E14 K) A14 (lpK (RDen R14) K) (codeAt [1, 1, 1, 0, 1, 2, 2, 1, 0, 2, 1, 1, 0, 1, 2, 2] (cd Tryd.f14)) 2 T14l2 (fun s => resOut (E14 K) s R14 Tryd.f14.results.toList)
noncomputable def L14l2 (K : Nat) (t4 : (List Int)) (t5 : Int) (t8 : Int) (b2 : (List Int)) (b3 : (List Int)) (b6 : (List Int)) (b7 : (List Int)) (kx : ((List Int) → Int → (List Int) → (List Int) → (List Int) → Option ((List Int)))) : Option ((List Int)) := evLoop (S14l2 K) (fun y => kx y.1.1 y.1.2.1 y.2.1 y.2.2.1 y.2.2.2.1) K ((t4, (t5, (t8, ()))), (b2, (b3, (b6, (b7, ())))))
theorem S14l2_eq (K : Nat) (t4 : (List Int)) (t5 : Int) (t8 : Int) (b2 : (List Int)) (b3 : (List Int)) (b6 : (List Int)) (b7 : (List Int)) (kn : _ → Option ((List Int))) (kx : _ → Option ((List Int))) : S14l2 K ((t4, (t5, (t8, ()))), (b2, (b3, (b6, (b7, ()))))) kn kx = B14l2 K t4 t5 t8 b2 b3 b6 b7 (fun t4 t5 t8 b2 b3 b6 b7 => kn ((t4, (t5, (t8, ()))), (b2, (b3, (b6, (b7, ())))))) (fun y0 y1 y2 y3 y4 => kx ((y0, (y1, ())), (y2, (y3, (y4, ()))))) := by
  unfold B14l2; kernel_rfl
theorem F14l2_go (K : Nat) (kx : ((List Int) → Int → (List Int) → (List Int) → (List Int) → Option ((List Int)))) : ∀ (n : Nat) (t4 : (List Int)) (t5 : Int) (t8 : Int) (b2 : (List Int)) (b3 : (List Int)) (b6 : (List Int)) (b7 : (List Int)), evLoop (S14l2 K) (fun y => kx y.1.1 y.1.2.1 y.2.1 y.2.2.1 y.2.2.2.1) n ((t4, (t5, (t8, ()))), (b2, (b3, (b6, (b7, ()))))) = F14l2 K n t4 t5 t8 b2 b3 b6 b7 kx := by
  intro n
  induction n with
  | zero => intros; rfl
  | succ n ih =>
    intros t4 t5 t8 b2 b3 b6 b7
    refine (S14l2_eq K t4 t5 t8 b2 b3 b6 b7 _ _).trans ?_
    have e : (fun t4 t5 t8 b2 b3 b6 b7 => evLoop (S14l2 K) (fun y => kx y.1.1 y.1.2.1 y.2.1 y.2.2.1 y.2.2.2.1) n ((t4, (t5, (t8, ()))), (b2, (b3, (b6, (b7, ())))))) = fun t4 t5 t8 b2 b3 b6 b7 => F14l2 K n t4 t5 t8 b2 b3 b6 b7 kx := by
      funext t4 t5 t8 b2 b3 b6 b7; exact ih t4 t5 t8 b2 b3 b6 b7
    rw [e]; rfl
theorem F14l2_eq (K : Nat) : F14l2 K K = L14l2 K := by
  funext t4 t5 t8 b2 b3 b6 b7 kx; exact (F14l2_go K kx K t4 t5 t8 b2 b3 b6 b7).symm
def B14l4 (K : Nat) (t4 : (List Int)) (t5 : Int) (t11 : Int) (b2 : (List Int)) (b3 : (List Int)) (b7 : (List Int)) (kn : ((List Int) → Int → Int → (List Int) → (List Int) → (List Int) → Option ((List Int)))) (kx : ((List Int) → Int → (List Int) → (List Int) → Option ((List Int)))) : Option ((List Int)) := (if ((ltI t11 (8 : Int)) = true) then (if ((inR t11 ((8 : Nat) : Int)) = true) then (if ((inR t11 ((8 : Nat) : Int)) = true) then (if ((inR t11 ((8 : Nat) : Int)) = true) then (kn t4 t5 (IntKind.wrap IntKind.i64 (t11 + (1 : Int))) b2 (List.set b3 (Int.toNat t11) (IntKind.wrap IntKind.u32 ((nthD (Ty.int IntKind.u32) b3 t11) + (nthD (Ty.int IntKind.u32) b7 t11)))) b7) else none) else none) else none) else (kx t4 t5 b2 b3))
def F14l4 (K : Nat) : Nat → (List Int) → Int → Int → (List Int) → (List Int) → (List Int) → ((List Int) → Int → (List Int) → (List Int) → Option ((List Int))) → Option ((List Int))
  | 0, _, _, _, _, _, _, _ => none
  | k + 1, t4, t5, t11, b2, b3, b7, kx => B14l4 K t4 t5 t11 b2 b3 b7 (fun t4 t5 t11 b2 b3 b7 => F14l4 K k t4 t5 t11 b2 b3 b7 kx) kx
noncomputable def S14l4 (K : Nat) := loopStep (E14 K) A14 (lpK (RDen R14) K) (codeAt [1, 1, 1, 0, 1, 2, 2, 1, 0, 2, 1, 1, 1, 1, 2, 2] (cd Tryd.f14)) 4 T14l4 (fun s => resOut (E14 K) s R14 Tryd.f14.results.toList)
noncomputable def L14l4 (K : Nat) (t4 : (List Int)) (t5 : Int) (t11 : Int) (b2 : (List Int)) (b3 : (List Int)) (b7 : (List Int)) (kx : ((List Int) → Int → (List Int) → (List Int) → Option ((List Int)))) : Option ((List Int)) := evLoop (S14l4 K) (fun y => kx y.1.1 y.1.2.1 y.2.1 y.2.2.1) K ((t4, (t5, (t11, ()))), (b2, (b3, (b7, ()))))
theorem S14l4_eq (K : Nat) (t4 : (List Int)) (t5 : Int) (t11 : Int) (b2 : (List Int)) (b3 : (List Int)) (b7 : (List Int)) (kn : _ → Option ((List Int))) (kx : _ → Option ((List Int))) : S14l4 K ((t4, (t5, (t11, ()))), (b2, (b3, (b7, ())))) kn kx = B14l4 K t4 t5 t11 b2 b3 b7 (fun t4 t5 t11 b2 b3 b7 => kn ((t4, (t5, (t11, ()))), (b2, (b3, (b7, ()))))) (fun y0 y1 y2 y3 => kx ((y0, (y1, ())), (y2, (y3, ())))) := by
  unfold B14l4; kernel_rfl
theorem F14l4_go (K : Nat) (kx : ((List Int) → Int → (List Int) → (List Int) → Option ((List Int)))) : ∀ (n : Nat) (t4 : (List Int)) (t5 : Int) (t11 : Int) (b2 : (List Int)) (b3 : (List Int)) (b7 : (List Int)), evLoop (S14l4 K) (fun y => kx y.1.1 y.1.2.1 y.2.1 y.2.2.1) n ((t4, (t5, (t11, ()))), (b2, (b3, (b7, ())))) = F14l4 K n t4 t5 t11 b2 b3 b7 kx := by
  intro n
  induction n with
  | zero => intros; rfl
  | succ n ih =>
    intros t4 t5 t11 b2 b3 b7
    refine (S14l4_eq K t4 t5 t11 b2 b3 b7 _ _).trans ?_
    have e : (fun t4 t5 t11 b2 b3 b7 => evLoop (S14l4 K) (fun y => kx y.1.1 y.1.2.1 y.2.1 y.2.2.1) n ((t4, (t5, (t11, ()))), (b2, (b3, (b7, ()))))) = fun t4 t5 t11 b2 b3 b7 => F14l4 K n t4 t5 t11 b2 b3 b7 kx := by
      funext t4 t5 t11 b2 b3 b7; exact ih t4 t5 t11 b2 b3 b7
    rw [e]; rfl
theorem F14l4_eq (K : Nat) : F14l4 K K = L14l4 K := by
  funext t4 t5 t11 b2 b3 b7 kx; exact (F14l4_go K kx K t4 t5 t11 b2 b3 b7).symm
def B14l6 (K : Nat) (t13 : Int) (b2 : (List Int)) (b3 : (List Int)) (b12 : (List Int)) (kn : (Int → (List Int) → (List Int) → (List Int) → Option ((List Int)))) (kx : ((List Int) → (List Int) → Option ((List Int)))) : Option ((List Int)) := (if ((ltI t13 (32 : Int)) = true) then (if ((inR (IntKind.wrap IntKind.i64 (Int.tdiv t13 (4 : Int))) ((8 : Nat) : Int)) = true) then (if ((ltI (IntKind.wrap IntKind.i64 ((24 : Int) - (IntKind.wrap IntKind.i64 ((8 : Int) * (Int.tmod t13 (4 : Int)))))) (0 : Int)) = true) then none else (if ((inR t13 ((32 : Nat) : Int)) = true) then (kn (IntKind.wrap IntKind.i64 (t13 + (1 : Int))) b2 b3 (List.set b12 (Int.toNat t13) (IntKind.wrap IntKind.u8 (shrI IntKind.u32 (nthD (Ty.int IntKind.u32) b3 (IntKind.wrap IntKind.i64 (Int.tdiv t13 (4 : Int)))) (IntKind.wrap IntKind.i64 ((24 : Int) - (IntKind.wrap IntKind.i64 ((8 : Int) * (Int.tmod t13 (4 : Int)))))))))) else none)) else none) else (kx b2 b12))
def F14l6 (K : Nat) : Nat → Int → (List Int) → (List Int) → (List Int) → ((List Int) → (List Int) → Option ((List Int))) → Option ((List Int))
  | 0, _, _, _, _, _ => none
  | k + 1, t13, b2, b3, b12, kx => B14l6 K t13 b2 b3 b12 (fun t13 b2 b3 b12 => F14l6 K k t13 b2 b3 b12 kx) kx
noncomputable def S14l6 (K : Nat) := loopStep (E14 K) A14 (lpK (RDen R14) K) (codeAt [1, 1, 1, 1, 1, 0, 1, 2, 2] (cd Tryd.f14)) 6 T14l6 (fun s => resOut (E14 K) s R14 Tryd.f14.results.toList)
noncomputable def L14l6 (K : Nat) (t13 : Int) (b2 : (List Int)) (b3 : (List Int)) (b12 : (List Int)) (kx : ((List Int) → (List Int) → Option ((List Int)))) : Option ((List Int)) := evLoop (S14l6 K) (fun y => kx y.2.1 y.2.2.1) K ((t13, ()), (b2, (b3, (b12, ()))))
theorem S14l6_eq (K : Nat) (t13 : Int) (b2 : (List Int)) (b3 : (List Int)) (b12 : (List Int)) (kn : _ → Option ((List Int))) (kx : _ → Option ((List Int))) : S14l6 K ((t13, ()), (b2, (b3, (b12, ())))) kn kx = B14l6 K t13 b2 b3 b12 (fun t13 b2 b3 b12 => kn ((t13, ()), (b2, (b3, (b12, ()))))) (fun y0 y1 => kx ((), (y0, (y1, ())))) := by
  unfold B14l6; kernel_rfl
theorem F14l6_go (K : Nat) (kx : ((List Int) → (List Int) → Option ((List Int)))) : ∀ (n : Nat) (t13 : Int) (b2 : (List Int)) (b3 : (List Int)) (b12 : (List Int)), evLoop (S14l6 K) (fun y => kx y.2.1 y.2.2.1) n ((t13, ()), (b2, (b3, (b12, ())))) = F14l6 K n t13 b2 b3 b12 kx := by
  intro n
  induction n with
  | zero => intros; rfl
  | succ n ih =>
    intros t13 b2 b3 b12
    refine (S14l6_eq K t13 b2 b3 b12 _ _).trans ?_
    have e : (fun t13 b2 b3 b12 => evLoop (S14l6 K) (fun y => kx y.2.1 y.2.2.1) n ((t13, ()), (b2, (b3, (b12, ()))))) = fun t13 b2 b3 b12 => F14l6 K n t13 b2 b3 b12 kx := by
      funext t13 b2 b3 b12; exact ih t13 b2 b3 b12
    rw [e]; rfl
theorem F14l6_eq (K : Nat) : F14l6 K K = L14l6 K := by
  funext t13 b2 b3 b12 kx; exact (F14l6_go K kx K t13 b2 b3 b12).symm
def B14l0 (K : Nat) (t4 : (List Int)) (t5 : Int) (b2 : (List Int)) (b3 : (List Int)) (kn : ((List Int) → Int → (List Int) → (List Int) → Option ((List Int)))) (kx : ((List Int) → (List Int) → Option ((List Int)))) : Option ((List Int)) := (if ((ltI t5 (((List.length t4) : Nat) : Int)) = true) then (if ((inB t5 (IntKind.wrap IntKind.i64 (t5 + (64 : Int))) (((List.length t4) : Nat) : Int)) = true) then ((F36 K (cut t4 t5 (IntKind.wrap IntKind.i64 (t5 + (64 : Int))))).bind fun y0 => (F14l2 K K t4 t5 (0 : Int) b2 b3 y0 b3 (fun y1 y2 y3 y4 y5 => (F14l4 K K y1 y2 (0 : Int) y3 y4 y5 (fun y6 y7 y8 y9 => (kn y6 (IntKind.wrap IntKind.i64 (y7 + (64 : Int))) y8 y9)))))) else none) else (kx b2 b3))
def F14l0 (K : Nat) : Nat → (List Int) → Int → (List Int) → (List Int) → ((List Int) → (List Int) → Option ((List Int))) → Option ((List Int))
  | 0, _, _, _, _, _ => none
  | k + 1, t4, t5, b2, b3, kx => B14l0 K t4 t5 b2 b3 (fun t4 t5 b2 b3 => F14l0 K k t4 t5 b2 b3 kx) kx
noncomputable def S14l0 (K : Nat) := loopStep (E14 K) A14 (lpK (RDen R14) K) (codeAt [1, 1, 1, 0, 1, 2, 2] (cd Tryd.f14)) 0 T14l0 (fun s => resOut (E14 K) s R14 Tryd.f14.results.toList)
noncomputable def L14l0 (K : Nat) (t4 : (List Int)) (t5 : Int) (b2 : (List Int)) (b3 : (List Int)) (kx : ((List Int) → (List Int) → Option ((List Int)))) : Option ((List Int)) := evLoop (S14l0 K) (fun y => kx y.2.1 y.2.2.1) K ((t4, (t5, ())), (b2, (b3, ())))
theorem S14l0_eq (K : Nat) (t4 : (List Int)) (t5 : Int) (b2 : (List Int)) (b3 : (List Int)) (kn : _ → Option ((List Int))) (kx : _ → Option ((List Int))) : S14l0 K ((t4, (t5, ())), (b2, (b3, ()))) kn kx = B14l0 K t4 t5 b2 b3 (fun t4 t5 b2 b3 => kn ((t4, (t5, ())), (b2, (b3, ())))) (fun y0 y1 => kx ((), (y0, (y1, ())))) := by
  unfold B14l0; rw [F14l2_eq K]; rw [F14l4_eq K]; kernel_rfl
theorem F14l0_go (K : Nat) (kx : ((List Int) → (List Int) → Option ((List Int)))) : ∀ (n : Nat) (t4 : (List Int)) (t5 : Int) (b2 : (List Int)) (b3 : (List Int)), evLoop (S14l0 K) (fun y => kx y.2.1 y.2.2.1) n ((t4, (t5, ())), (b2, (b3, ()))) = F14l0 K n t4 t5 b2 b3 kx := by
  intro n
  induction n with
  | zero => intros; rfl
  | succ n ih =>
    intros t4 t5 b2 b3
    refine (S14l0_eq K t4 t5 b2 b3 _ _).trans ?_
    have e : (fun t4 t5 b2 b3 => evLoop (S14l0 K) (fun y => kx y.2.1 y.2.2.1) n ((t4, (t5, ())), (b2, (b3, ())))) = fun t4 t5 b2 b3 => F14l0 K n t4 t5 b2 b3 kx := by
      funext t4 t5 b2 b3; exact ih t4 t5 b2 b3
    rw [e]; rfl
theorem F14l0_eq (K : Nat) : F14l0 K K = L14l0 K := by
  funext t4 t5 b2 b3 kx; exact (F14l0_go K kx K t4 t5 b2 b3).symm
def F14 (K : Nat) (x0 : (List Int)) : Option ((List Int)) := ((F35 K x0).bind fun y0 => (F14l0 K K y0 (0 : Int) (List.replicate 32 (0 : Int)) ((1779033703 : Int) :: (3144134277 : Int) :: (1013904242 : Int) :: (2773480762 : Int) :: (1359893119 : Int) :: (2600822924 : Int) :: (528734635 : Int) :: (1541459225 : Int) :: (List.replicate 0 (0 : Int))) (fun y1 y2 => (F14l6 K K (0 : Int) y1 y2 (List.replicate 32 (0 : Int)) (fun y3 y4 => (some y4))))))
theorem F14_eq (K : Nat) (x0 : (List Int)) : evFn (E14 K) A14 P14 R14 (lpK (RDen R14) K) 148 Tryd.f14.results.toList (cd Tryd.f14) (x0, ()) = F14 K x0 := by
  unfold F14; rw [F14l6_eq K]; rw [F14l0_eq K]; kernel_rfl
/- quietus/quietuslaw02.HashSumMatchesSpec -/
def A3 : List (Nat × LoopAnn) := []
noncomputable def E3 (K : Nat) : Env := mkEnv tyTab nfTab G3 [(12, ⟨P12, R12, fun x => F12 K⟩), (13, ⟨P13, R13, fun x => F13 K x.1⟩), (14, ⟨P14, R14, fun x => F14 K x.1⟩)]
def F3 (K : Nat) (x0 : (List Int)) : Option (Bool) := ((F12 K).bind fun y0 => (if ((ltI (600 : Int) (((List.length x0) : Nat) : Int)) = true) then (some y0) else ((F13 K x0).bind fun y1 => (if (y0 = true) then ((F14 K (bytesOf (mkStr x0))).bind fun y2 => (if ((Ty.beq (Ty.arr 32 (Ty.int IntKind.u8)) y1 y2) = true) then (some (strEq (mkStr x0) (mkStr x0))) else (some Bool.false))) else (some Bool.false)))))
theorem F3_eq (K : Nat) (x0 : (List Int)) : evFn (E3 K) A3 P3 R3 (lpK (RDen R3) K) 29 Tryd.f3.results.toList (cd Tryd.f3) (x0, ()) = F3 K x0 := by
  unfold F3; kernel_rfl
/- quietus/quietusref02.Few -/
def T15l0 : LoopAnn := ⟨tm 19 [(0, (.data (.list .str))), (2, (.data (.int .i64)))] [], tm 19 [] []⟩
def A15 : List (Nat × LoopAnn) := [(0, T15l0)]
noncomputable def E15 (K : Nat) : Env := mkEnv tyTab nfTab G15 []
def B15l0 (K : Nat) (t0 : (List ByteArray)) (t3 : Int) (kn : ((List ByteArray) → Int → Option (Bool))) (kx : Option (Bool)) : Option (Bool) := (if ((ltI t3 (((List.length t0) : Nat) : Int)) = true) then (if ((inR t3 (((List.length t0) : Nat) : Int)) = true) then (if ((ltI (400 : Int) (((ByteArray.size (nthD Ty.str t0 t3)) : Nat) : Int)) = true) then (some Bool.false) else (kn t0 (IntKind.wrap IntKind.i64 (t3 + (1 : Int))))) else none) else kx)
def F15l0 (K : Nat) : Nat → (List ByteArray) → Int → Option (Bool) → Option (Bool)
  | 0, _, _, _ => none
  | k + 1, t0, t3, kx => B15l0 K t0 t3 (fun t0 t3 => F15l0 K k t0 t3 kx) kx
noncomputable def S15l0 (K : Nat) := loopStep (E15 K) A15 (lpK (RDen R15) K) (codeAt [1, 1, 0, 1, 2, 2] (cd Tryd.f15)) 0 T15l0 (fun s => resOut (E15 K) s R15 Tryd.f15.results.toList)
noncomputable def L15l0 (K : Nat) (t0 : (List ByteArray)) (t3 : Int) (kx : Option (Bool)) : Option (Bool) := evLoop (S15l0 K) (fun _ => kx) K ((t0, (t3, ())), ())
theorem S15l0_eq (K : Nat) (t0 : (List ByteArray)) (t3 : Int) (kn : _ → Option (Bool)) (kx : _ → Option (Bool)) : S15l0 K ((t0, (t3, ())), ()) kn kx = B15l0 K t0 t3 (fun t0 t3 => kn ((t0, (t3, ())), ())) (kx ((), ())) := by
  unfold B15l0; kernel_rfl
theorem F15l0_go (K : Nat) (kx : Option (Bool)) : ∀ (n : Nat) (t0 : (List ByteArray)) (t3 : Int), evLoop (S15l0 K) (fun _ => kx) n ((t0, (t3, ())), ()) = F15l0 K n t0 t3 kx := by
  intro n
  induction n with
  | zero => intros; rfl
  | succ n ih =>
    intros t0 t3
    refine (S15l0_eq K t0 t3 _ _).trans ?_
    have e : (fun t0 t3 => evLoop (S15l0 K) (fun _ => kx) n ((t0, (t3, ())), ())) = fun t0 t3 => F15l0 K n t0 t3 kx := by
      funext t0 t3; exact ih t0 t3
    rw [e]; rfl
theorem F15l0_eq (K : Nat) : F15l0 K K = L15l0 K := by
  funext t0 t3 kx; exact (F15l0_go K kx K t0 t3).symm
def F15 (K : Nat) (x0 : (List ByteArray)) : Option (Bool) := (if ((ltI (12 : Int) (((List.length x0) : Nat) : Int)) = true) then (some Bool.false) else (F15l0 K K x0 (0 : Int) (some true)))
theorem F15_eq (K : Nat) (x0 : (List ByteArray)) : evFn (E15 K) A15 P15 R15 (lpK (RDen R15) K) 19 Tryd.f15.results.toList (cd Tryd.f15) (x0, ()) = F15 K x0 := by
  unfold F15; rw [F15l0_eq K]; kernel_rfl
/- quietus/quietusref02.Joined -/
def T18l0 : LoopAnn := ⟨tm 18 [(0, (.data (.list .str))), (2, (.data .str)), (0, (.data (.int .i64)))] [], tm 18 [(3, (.data .str))] []⟩
def A18 : List (Nat × LoopAnn) := [(0, T18l0)]
noncomputable def E18 (K : Nat) : Env := mkEnv tyTab nfTab G18 []
def B18l0 (K : Nat) (t0 : (List ByteArray)) (t3 : ByteArray) (t4 : Int) (kn : ((List ByteArray) → ByteArray → Int → Option (ByteArray))) (kx : (ByteArray → Option (ByteArray))) : Option (ByteArray) := (if ((ltI t4 (((List.length t0) : Nat) : Int)) = true) then (if ((inR t4 (((List.length t0) : Nat) : Int)) = true) then (if ((strRoom ((ByteArray.size t3) + (ByteArray.size (nthD Ty.str t0 t4)))) = true) then (kn t0 (t3 ++ (nthD Ty.str t0 t4)) (IntKind.wrap IntKind.i64 (t4 + (1 : Int)))) else none) else none) else (kx t3))
def F18l0 (K : Nat) : Nat → (List ByteArray) → ByteArray → Int → (ByteArray → Option (ByteArray)) → Option (ByteArray)
  | 0, _, _, _, _ => none
  | k + 1, t0, t3, t4, kx => B18l0 K t0 t3 t4 (fun t0 t3 t4 => F18l0 K k t0 t3 t4 kx) kx
noncomputable def S18l0 (K : Nat) := loopStep (E18 K) A18 (lpK (RDen R18) K) (codeAt [1, 1, 0, 1, 2, 2] (cd Tryd.f18)) 0 T18l0 (fun s => resOut (E18 K) s R18 Tryd.f18.results.toList)
noncomputable def L18l0 (K : Nat) (t0 : (List ByteArray)) (t3 : ByteArray) (t4 : Int) (kx : (ByteArray → Option (ByteArray))) : Option (ByteArray) := evLoop (S18l0 K) (fun y => kx y.1.1) K ((t0, (t3, (t4, ()))), ())
theorem S18l0_eq (K : Nat) (t0 : (List ByteArray)) (t3 : ByteArray) (t4 : Int) (kn : _ → Option (ByteArray)) (kx : _ → Option (ByteArray)) : S18l0 K ((t0, (t3, (t4, ()))), ()) kn kx = B18l0 K t0 t3 t4 (fun t0 t3 t4 => kn ((t0, (t3, (t4, ()))), ())) (fun y0 => kx ((y0, ()), ())) := by
  unfold B18l0; kernel_rfl
theorem F18l0_go (K : Nat) (kx : (ByteArray → Option (ByteArray))) : ∀ (n : Nat) (t0 : (List ByteArray)) (t3 : ByteArray) (t4 : Int), evLoop (S18l0 K) (fun y => kx y.1.1) n ((t0, (t3, (t4, ()))), ()) = F18l0 K n t0 t3 t4 kx := by
  intro n
  induction n with
  | zero => intros; rfl
  | succ n ih =>
    intros t0 t3 t4
    refine (S18l0_eq K t0 t3 t4 _ _).trans ?_
    have e : (fun t0 t3 t4 => evLoop (S18l0 K) (fun y => kx y.1.1) n ((t0, (t3, (t4, ()))), ())) = fun t0 t3 t4 => F18l0 K n t0 t3 t4 kx := by
      funext t0 t3 t4; exact ih t0 t3 t4
    rw [e]; rfl
theorem F18l0_eq (K : Nat) : F18l0 K K = L18l0 K := by
  funext t0 t3 t4 kx; exact (F18l0_go K kx K t0 t3 t4).symm
def F18 (K : Nat) (x0 : (List ByteArray)) : Option (ByteArray) := (F18l0 K K x0 (ByteArray.mk (Array.mk [])) (0 : Int) (fun y0 => (some y0)))
theorem F18_eq (K : Nat) (x0 : (List ByteArray)) : evFn (E18 K) A18 P18 R18 (lpK (RDen R18) K) 18 Tryd.f18.results.toList (cd Tryd.f18) (x0, ()) = F18 K x0 := by
  unfold F18; rw [F18l0_eq K]; kernel_rfl
/- quietus/quietuslaw02.HashStreamsAgree -/
def T4l2 : LoopAnn := ⟨tm 94 [(0, (.data (.list .str))), (0, (.data .str)), (5, (.data .bool)), (0, (.data (.int .i64))), (0, (.ptr 9)), (1, (.ptr 11)), (0, (.data (.int .i64)))] [(9, (.pair (.arr 8 (.int .u32)) (.pair (.arr 64 (.int .u8)) (.int .u64)))), (1, (.pair (.arr 8 (.int .u32)) (.pair (.arr 64 (.int .u8)) (.int .u64))))], tm 94 [(0, (.data (.list .str))), (0, (.data .str)), (5, (.data .bool)), (0, (.data (.int .i64))), (0, (.ptr 9)), (1, (.ptr 11))] [(9, (.pair (.arr 8 (.int .u32)) (.pair (.arr 64 (.int .u8)) (.int .u64)))), (1, (.pair (.arr 8 (.int .u32)) (.pair (.arr 64 (.int .u8)) (.int .u64))))]⟩
def T4l0 : LoopAnn := ⟨tm 94 [(0, (.data (.list .str))), (0, (.data .str)), (5, (.data .bool)), (0, (.data (.int .i64))), (0, (.ptr 9)), (0, (.data (.int .i64)))] [(9, (.pair (.arr 8 (.int .u32)) (.pair (.arr 64 (.int .u8)) (.int .u64))))], tm 94 [(0, (.data (.list .str))), (0, (.data .str)), (5, (.data .bool)), (0, (.data (.int .i64))), (0, (.ptr 9))] [(9, (.pair (.arr 8 (.int .u32)) (.pair (.arr 64 (.int .u8)) (.int .u64))))]⟩
def A4 : List (Nat × LoopAnn) := [(2, T4l2), (0, T4l0)]
noncomputable def E4 (K : Nat) : Env := mkEnv tyTab nfTab G4 [(12, ⟨P12, R12, fun x => F12 K⟩), (15, ⟨P15, R15, fun x => F15 K x.1⟩), (16, ⟨P16, R16, fun x => F16 K⟩), (17, ⟨P17, R17, fun x => F17 K x.1 x.2.1⟩), (18, ⟨P18, R18, fun x => F18 K x.1⟩), (19, ⟨P19, R19, fun x => F19 K x.1⟩), (13, ⟨P13, R13, fun x => F13 K x.1⟩)]
def B4l2 (K : Nat) (t0 : (List ByteArray)) (t1 : ByteArray) (t7 : Bool) (t8 : Int) (t12 : Int) (b9 : ((List Int) × ((List Int) × Int))) (b11 : ((List Int) × ((List Int) × Int))) (kn : ((List ByteArray) → ByteArray → Bool → Int → Int → ((List Int) × ((List Int) × Int)) → ((List Int) × ((List Int) × Int)) → Option (Bool))) (kx : ((List ByteArray) → ByteArray → Bool → Int → ((List Int) × ((List Int) × Int)) → ((List Int) × ((List Int) × Int)) → Option (Bool))) : Option (Bool) := (if ((ltI t12 (((List.length t0) : Nat) : Int)) = true) then (if ((inR t12 (((List.length t0) : Nat) : Int)) = true) then ((F17 K (b9.1, (b9.2.1, b9.2.2)) (nthD Ty.str t0 t12)).bind fun y0 => (kn t0 t1 t7 t8 (IntKind.wrap IntKind.i64 (t12 + (1 : Int))) (y0.1, (y0.2.1, y0.2.2)) (b11.1, (b11.2.1, b11.2.2)))) else none) else (kx t0 t1 t7 t8 (b9.1, (b9.2.1, b9.2.2)) (b11.1, (b11.2.1, b11.2.2))))
def F4l2 (K : Nat) : Nat → (List ByteArray) → ByteArray → Bool → Int → Int → ((List Int) × ((List Int) × Int)) → ((List Int) × ((List Int) × Int)) → ((List ByteArray) → ByteArray → Bool → Int → ((List Int) × ((List Int) × Int)) → ((List Int) × ((List Int) × Int)) → Option (Bool)) → Option (Bool)
  | 0, _, _, _, _, _, _, _, _ => none
  | k + 1, t0, t1, t7, t8, t12, b9, b11, kx => B4l2 K t0 t1 t7 t8 t12 b9 b11 (fun t0 t1 t7 t8 t12 b9 b11 => F4l2 K k t0 t1 t7 t8 t12 b9 b11 kx) kx
noncomputable def S4l2 (K : Nat) := loopStep (E4 K) A4 (lpK (RDen R4) K) (codeAt [1, 1, 1, 1, 1, 1, 1, 0, 1, 2, 2] (cd Tryd.f4)) 2 T4l2 (fun s => resOut (E4 K) s R4 Tryd.f4.results.toList)
noncomputable def L4l2 (K : Nat) (t0 : (List ByteArray)) (t1 : ByteArray) (t7 : Bool) (t8 : Int) (t12 : Int) (b9 : ((List Int) × ((List Int) × Int))) (b11 : ((List Int) × ((List Int) × Int))) (kx : ((List ByteArray) → ByteArray → Bool → Int → ((List Int) × ((List Int) × Int)) → ((List Int) × ((List Int) × Int)) → Option (Bool))) : Option (Bool) := evLoop (S4l2 K) (fun y => kx y.1.1 y.1.2.1 y.1.2.2.1 y.1.2.2.2.1 y.2.1 y.2.2.1) K ((t0, (t1, (t7, (t8, (t12, ()))))), (b9, (b11, ())))
theorem S4l2_eq (K : Nat) (t0 : (List ByteArray)) (t1 : ByteArray) (t7 : Bool) (t8 : Int) (t12 : Int) (b9 : ((List Int) × ((List Int) × Int))) (b11 : ((List Int) × ((List Int) × Int))) (kn : _ → Option (Bool)) (kx : _ → Option (Bool)) : S4l2 K ((t0, (t1, (t7, (t8, (t12, ()))))), (b9, (b11, ()))) kn kx = B4l2 K t0 t1 t7 t8 t12 b9 b11 (fun t0 t1 t7 t8 t12 b9 b11 => kn ((t0, (t1, (t7, (t8, (t12, ()))))), (b9, (b11, ())))) (fun y0 y1 y2 y3 y4 y5 => kx ((y0, (y1, (y2, (y3, ())))), (y4, (y5, ())))) := by
  unfold B4l2; kernel_rfl
theorem F4l2_go (K : Nat) (kx : ((List ByteArray) → ByteArray → Bool → Int → ((List Int) × ((List Int) × Int)) → ((List Int) × ((List Int) × Int)) → Option (Bool))) : ∀ (n : Nat) (t0 : (List ByteArray)) (t1 : ByteArray) (t7 : Bool) (t8 : Int) (t12 : Int) (b9 : ((List Int) × ((List Int) × Int))) (b11 : ((List Int) × ((List Int) × Int))), evLoop (S4l2 K) (fun y => kx y.1.1 y.1.2.1 y.1.2.2.1 y.1.2.2.2.1 y.2.1 y.2.2.1) n ((t0, (t1, (t7, (t8, (t12, ()))))), (b9, (b11, ()))) = F4l2 K n t0 t1 t7 t8 t12 b9 b11 kx := by
  intro n
  induction n with
  | zero => intros; rfl
  | succ n ih =>
    intros t0 t1 t7 t8 t12 b9 b11
    refine (S4l2_eq K t0 t1 t7 t8 t12 b9 b11 _ _).trans ?_
    have e : (fun t0 t1 t7 t8 t12 b9 b11 => evLoop (S4l2 K) (fun y => kx y.1.1 y.1.2.1 y.1.2.2.1 y.1.2.2.2.1 y.2.1 y.2.2.1) n ((t0, (t1, (t7, (t8, (t12, ()))))), (b9, (b11, ())))) = fun t0 t1 t7 t8 t12 b9 b11 => F4l2 K n t0 t1 t7 t8 t12 b9 b11 kx := by
      funext t0 t1 t7 t8 t12 b9 b11; exact ih t0 t1 t7 t8 t12 b9 b11
    rw [e]; rfl
theorem F4l2_eq (K : Nat) : F4l2 K K = L4l2 K := by
  funext t0 t1 t7 t8 t12 b9 b11 kx; exact (F4l2_go K kx K t0 t1 t7 t8 t12 b9 b11).symm
def B4l0 (K : Nat) (t0 : (List ByteArray)) (t1 : ByteArray) (t7 : Bool) (t8 : Int) (t10 : Int) (b9 : ((List Int) × ((List Int) × Int))) (kn : ((List ByteArray) → ByteArray → Bool → Int → Int → ((List Int) × ((List Int) × Int)) → Option (Bool))) (kx : ((List ByteArray) → ByteArray → Bool → Int → ((List Int) × ((List Int) × Int)) → Option (Bool))) : Option (Bool) := (if ((ltI t10 t8) = true) then (if ((inR t10 (((List.length t0) : Nat) : Int)) = true) then ((F17 K (b9.1, (b9.2.1, b9.2.2)) (nthD Ty.str t0 t10)).bind fun y0 => (kn t0 t1 t7 t8 (IntKind.wrap IntKind.i64 (t10 + (1 : Int))) (y0.1, (y0.2.1, y0.2.2)))) else none) else (kx t0 t1 t7 t8 (b9.1, (b9.2.1, b9.2.2))))
def F4l0 (K : Nat) : Nat → (List ByteArray) → ByteArray → Bool → Int → Int → ((List Int) × ((List Int) × Int)) → ((List ByteArray) → ByteArray → Bool → Int → ((List Int) × ((List Int) × Int)) → Option (Bool)) → Option (Bool)
  | 0, _, _, _, _, _, _, _ => none
  | k + 1, t0, t1, t7, t8, t10, b9, kx => B4l0 K t0 t1 t7 t8 t10 b9 (fun t0 t1 t7 t8 t10 b9 => F4l0 K k t0 t1 t7 t8 t10 b9 kx) kx
noncomputable def S4l0 (K : Nat) := loopStep (E4 K) A4 (lpK (RDen R4) K) (codeAt [1, 1, 1, 1, 1, 0, 1, 2, 2] (cd Tryd.f4)) 0 T4l0 (fun s => resOut (E4 K) s R4 Tryd.f4.results.toList)
noncomputable def L4l0 (K : Nat) (t0 : (List ByteArray)) (t1 : ByteArray) (t7 : Bool) (t8 : Int) (t10 : Int) (b9 : ((List Int) × ((List Int) × Int))) (kx : ((List ByteArray) → ByteArray → Bool → Int → ((List Int) × ((List Int) × Int)) → Option (Bool))) : Option (Bool) := evLoop (S4l0 K) (fun y => kx y.1.1 y.1.2.1 y.1.2.2.1 y.1.2.2.2.1 y.2.1) K ((t0, (t1, (t7, (t8, (t10, ()))))), (b9, ()))
theorem S4l0_eq (K : Nat) (t0 : (List ByteArray)) (t1 : ByteArray) (t7 : Bool) (t8 : Int) (t10 : Int) (b9 : ((List Int) × ((List Int) × Int))) (kn : _ → Option (Bool)) (kx : _ → Option (Bool)) : S4l0 K ((t0, (t1, (t7, (t8, (t10, ()))))), (b9, ())) kn kx = B4l0 K t0 t1 t7 t8 t10 b9 (fun t0 t1 t7 t8 t10 b9 => kn ((t0, (t1, (t7, (t8, (t10, ()))))), (b9, ()))) (fun y0 y1 y2 y3 y4 => kx ((y0, (y1, (y2, (y3, ())))), (y4, ()))) := by
  unfold B4l0; kernel_rfl
theorem F4l0_go (K : Nat) (kx : ((List ByteArray) → ByteArray → Bool → Int → ((List Int) × ((List Int) × Int)) → Option (Bool))) : ∀ (n : Nat) (t0 : (List ByteArray)) (t1 : ByteArray) (t7 : Bool) (t8 : Int) (t10 : Int) (b9 : ((List Int) × ((List Int) × Int))), evLoop (S4l0 K) (fun y => kx y.1.1 y.1.2.1 y.1.2.2.1 y.1.2.2.2.1 y.2.1) n ((t0, (t1, (t7, (t8, (t10, ()))))), (b9, ())) = F4l0 K n t0 t1 t7 t8 t10 b9 kx := by
  intro n
  induction n with
  | zero => intros; rfl
  | succ n ih =>
    intros t0 t1 t7 t8 t10 b9
    refine (S4l0_eq K t0 t1 t7 t8 t10 b9 _ _).trans ?_
    have e : (fun t0 t1 t7 t8 t10 b9 => evLoop (S4l0 K) (fun y => kx y.1.1 y.1.2.1 y.1.2.2.1 y.1.2.2.2.1 y.2.1) n ((t0, (t1, (t7, (t8, (t10, ()))))), (b9, ()))) = fun t0 t1 t7 t8 t10 b9 => F4l0 K n t0 t1 t7 t8 t10 b9 kx := by
      funext t0 t1 t7 t8 t10 b9; exact ih t0 t1 t7 t8 t10 b9
    rw [e]; rfl
theorem F4l0_eq (K : Nat) : F4l0 K K = L4l0 K := by
  funext t0 t1 t7 t8 t10 b9 kx; exact (F4l0_go K kx K t0 t1 t7 t8 t10 b9).symm
def F4 (K : Nat) (x0 : (List ByteArray)) (x1 : ByteArray) (x2 : Int) : Option (Bool) := ((F12 K).bind fun y0 => ((F15 K x0).bind fun y1 => (if ((!y1) = true) then (some y0) else (if ((ltI (400 : Int) (((ByteArray.size x1) : Nat) : Int)) = true) then (some y0) else (if ((eqI (IntKind.wrap IntKind.i64 ((((List.length x0) : Nat) : Int) + (1 : Int))) (0 : Int)) = true) then none else ((F16 K).bind fun y2 => (F4l0 K K x0 x1 y0 (Int.tmod (IntKind.wrap IntKind.i64 x2) (IntKind.wrap IntKind.i64 ((((List.length x0) : Nat) : Int) + (1 : Int)))) (0 : Int) (y2.1, (y2.2.1, y2.2.2)) (fun y3 y4 y5 y6 y7 => (F4l2 K K y3 y4 y5 y6 y6 (y7.1, (y7.2.1, y7.2.2)) (y7.1, (y7.2.1, y7.2.2)) (fun y8 y9 y10 y11 y12 y13 => ((F17 K (y13.1, (y13.2.1, y13.2.2)) y9).bind fun y14 => ((F18 K y8).bind fun y15 => (if ((inB (0 : Int) y11 (((List.length y8) : Nat) : Int)) = true) then ((F18 K (cut y8 (0 : Int) y11)).bind fun y16 => (if (y10 = true) then ((F19 K (y12.1, (y12.2.1, y12.2.2))).bind fun y17 => ((F13 K (bytesOf y15)).bind fun y18 => (if ((Ty.beq (Ty.arr 32 (Ty.int IntKind.u8)) y17 y18) = true) then ((F19 K (y13.1, (y13.2.1, y13.2.2))).bind fun y19 => ((F13 K (bytesOf y16)).bind fun y20 => (if ((Ty.beq (Ty.arr 32 (Ty.int IntKind.u8)) y19 y20) = true) then ((F19 K (y14.1, (y14.2.1, y14.2.2))).bind fun y21 => (if ((strRoom ((ByteArray.size y16) + (ByteArray.size y9))) = true) then ((F13 K (bytesOf (y16 ++ y9))).bind fun y22 => (some (Ty.beq (Ty.arr 32 (Ty.int IntKind.u8)) y21 y22))) else none)) else (some Bool.false)))) else (some Bool.false)))) else (some Bool.false))) else none)))))))))))))
theorem F4_eq (K : Nat) (x0 : (List ByteArray)) (x1 : ByteArray) (x2 : Int) : evFn (E4 K) A4 P4 R4 (lpK (RDen R4) K) 94 Tryd.f4.results.toList (cd Tryd.f4) (x0, (x1, (x2, ()))) = F4 K x0 x1 x2 := by
  unfold F4; rw [F4l2_eq K]; rw [F4l0_eq K]; kernel_rfl
/- quietus/quietusref01.Int -/
def T46l0 : LoopAnn := ⟨tm 31 [(3, (.data (.int .u64))), (0, (.vec (.int .u8)))] [], tm 31 [(3, (.data (.int .u64))), (0, (.vec (.int .u8)))] []⟩
def A46 : List (Nat × LoopAnn) := [(0, T46l0)]
noncomputable def E46 (K : Nat) : Env := mkEnv tyTab nfTab G46 []
def B46l0 (K : Nat) (t3 : Int) (t4 : (List Int)) (kn : (Int → (List Int) → Option ((List Int)))) (kx : (Int → (List Int) → Option ((List Int)))) : Option ((List Int)) := (if ((leI (128 : Int) t3) = true) then (if ((room ((List.length t4) + (List.length ((IntKind.wrap IntKind.u8 ((IntKind.wrap IntKind.u8 (Int.tmod t3 (128 : Int))) + (128 : Int))) :: (List.replicate 0 (0 : Int)))))) = true) then (kn (IntKind.wrap IntKind.u64 (Int.tdiv t3 (128 : Int))) (t4 ++ ((IntKind.wrap IntKind.u8 ((IntKind.wrap IntKind.u8 (Int.tmod t3 (128 : Int))) + (128 : Int))) :: (List.replicate 0 (0 : Int))))) else none) else (kx t3 t4))
def F46l0 (K : Nat) : Nat → Int → (List Int) → (Int → (List Int) → Option ((List Int))) → Option ((List Int))
  | 0, _, _, _ => none
  | k + 1, t3, t4, kx => B46l0 K t3 t4 (fun t3 t4 => F46l0 K k t3 t4 kx) kx
noncomputable def S46l0 (K : Nat) := loopStep (E46 K) A46 (lpK (RDen R46) K) (codeAt [1, 1, 1, 1, 0, 2, 2] (cd Tryd.f46)) 0 T46l0 (fun s => resOut (E46 K) s R46 Tryd.f46.results.toList)
noncomputable def L46l0 (K : Nat) (t3 : Int) (t4 : (List Int)) (kx : (Int → (List Int) → Option ((List Int)))) : Option ((List Int)) := evLoop (S46l0 K) (fun y => kx y.1.1 y.1.2.1) K ((t3, (t4, ())), ())
theorem S46l0_eq (K : Nat) (t3 : Int) (t4 : (List Int)) (kn : _ → Option ((List Int))) (kx : _ → Option ((List Int))) : S46l0 K ((t3, (t4, ())), ()) kn kx = B46l0 K t3 t4 (fun t3 t4 => kn ((t3, (t4, ())), ())) (fun y0 y1 => kx ((y0, (y1, ())), ())) := by
  unfold B46l0; kernel_rfl
theorem F46l0_go (K : Nat) (kx : (Int → (List Int) → Option ((List Int)))) : ∀ (n : Nat) (t3 : Int) (t4 : (List Int)), evLoop (S46l0 K) (fun y => kx y.1.1 y.1.2.1) n ((t3, (t4, ())), ()) = F46l0 K n t3 t4 kx := by
  intro n
  induction n with
  | zero => intros; rfl
  | succ n ih =>
    intros t3 t4
    refine (S46l0_eq K t3 t4 _ _).trans ?_
    have e : (fun t3 t4 => evLoop (S46l0 K) (fun y => kx y.1.1 y.1.2.1) n ((t3, (t4, ())), ())) = fun t3 t4 => F46l0 K n t3 t4 kx := by
      funext t3 t4; exact ih t3 t4
    rw [e]; rfl
theorem F46l0_eq (K : Nat) : F46l0 K K = L46l0 K := by
  funext t3 t4 kx; exact (F46l0_go K kx K t3 t4).symm
def F46 (K : Nat) (x0 : Int) : Option ((List Int)) := (if ((ltI x0 (0 : Int)) = true) then (F46l0 K K (IntKind.wrap IntKind.u64 ((IntKind.wrap IntKind.u64 ((IntKind.wrap IntKind.u64 (IntKind.wrap IntKind.i64 ((-(1 : Int)) - x0))) * (2 : Int))) + (1 : Int))) [] (fun y0 y1 => (if ((room ((List.length y1) + (List.length ((IntKind.wrap IntKind.u8 y0) :: (List.replicate 0 (0 : Int)))))) = true) then (some (y1 ++ ((IntKind.wrap IntKind.u8 y0) :: (List.replicate 0 (0 : Int))))) else none))) else (F46l0 K K (IntKind.wrap IntKind.u64 ((IntKind.wrap IntKind.u64 x0) * (2 : Int))) [] (fun y0 y1 => (if ((room ((List.length y1) + (List.length ((IntKind.wrap IntKind.u8 y0) :: (List.replicate 0 (0 : Int)))))) = true) then (some (y1 ++ ((IntKind.wrap IntKind.u8 y0) :: (List.replicate 0 (0 : Int))))) else none))))
theorem F46_eq (K : Nat) (x0 : Int) : evFn (E46 K) A46 P46 R46 (lpK (RDen R46) K) 31 Tryd.f46.results.toList (cd Tryd.f46) (x0, ()) = F46 K x0 := by
  unfold F46; rw [F46l0_eq K]; kernel_rfl
/- quietus/quietusref01.Bytes -/
def A41 : List (Nat × LoopAnn) := []
noncomputable def E41 (K : Nat) : Env := mkEnv tyTab nfTab G41 [(46, ⟨P46, R46, fun x => F46 K x.1⟩)]
def F41 (K : Nat) (x0 : ByteArray) : Option ((List Int)) := ((F46 K (((ByteArray.size x0) : Nat) : Int)).bind fun y0 => (if ((room ((List.length y0) + (List.length (bytesOf x0)))) = true) then (some (y0 ++ (bytesOf x0))) else none))
theorem F41_eq (K : Nat) (x0 : ByteArray) : evFn (E41 K) A41 P41 R41 (lpK (RDen R41) K) 8 Tryd.f41.results.toList (cd Tryd.f41) (x0, ()) = F41 K x0 := by
  unfold F41; kernel_rfl
/- quietus/quietusref02.Input -/
def T23l0 : LoopAnn := ⟨tm 24 [(1, (.data (.list .str))), (3, (.vec (.int .u8))), (0, (.data (.int .i64)))] [], tm 24 [(5, (.vec (.int .u8)))] []⟩
def A23 : List (Nat × LoopAnn) := [(0, T23l0)]
noncomputable def E23 (K : Nat) : Env := mkEnv tyTab nfTab G23 [(41, ⟨P41, R41, fun x => F41 K x.1⟩)]
def B23l0 (K : Nat) (t1 : (List ByteArray)) (t5 : (List Int)) (t6 : Int) (kn : ((List ByteArray) → (List Int) → Int → Option ((List Int)))) (kx : ((List Int) → Option ((List Int)))) : Option ((List Int)) := (if ((ltI t6 (((List.length t1) : Nat) : Int)) = true) then (if ((inR t6 (((List.length t1) : Nat) : Int)) = true) then ((F41 K (nthD Ty.str t1 t6)).bind fun y0 => (if ((room ((List.length t5) + (List.length y0))) = true) then (kn t1 (t5 ++ y0) (IntKind.wrap IntKind.i64 (t6 + (1 : Int)))) else none)) else none) else (kx t5))
def F23l0 (K : Nat) : Nat → (List ByteArray) → (List Int) → Int → ((List Int) → Option ((List Int))) → Option ((List Int))
  | 0, _, _, _, _ => none
  | k + 1, t1, t5, t6, kx => B23l0 K t1 t5 t6 (fun t1 t5 t6 => F23l0 K k t1 t5 t6 kx) kx
noncomputable def S23l0 (K : Nat) := loopStep (E23 K) A23 (lpK (RDen R23) K) (codeAt [1, 1, 0, 1, 2, 2] (cd Tryd.f23)) 0 T23l0 (fun s => resOut (E23 K) s R23 Tryd.f23.results.toList)
noncomputable def L23l0 (K : Nat) (t1 : (List ByteArray)) (t5 : (List Int)) (t6 : Int) (kx : ((List Int) → Option ((List Int)))) : Option ((List Int)) := evLoop (S23l0 K) (fun y => kx y.1.1) K ((t1, (t5, (t6, ()))), ())
theorem S23l0_eq (K : Nat) (t1 : (List ByteArray)) (t5 : (List Int)) (t6 : Int) (kn : _ → Option ((List Int))) (kx : _ → Option ((List Int))) : S23l0 K ((t1, (t5, (t6, ()))), ()) kn kx = B23l0 K t1 t5 t6 (fun t1 t5 t6 => kn ((t1, (t5, (t6, ()))), ())) (fun y0 => kx ((y0, ()), ())) := by
  unfold B23l0; kernel_rfl
theorem F23l0_go (K : Nat) (kx : ((List Int) → Option ((List Int)))) : ∀ (n : Nat) (t1 : (List ByteArray)) (t5 : (List Int)) (t6 : Int), evLoop (S23l0 K) (fun y => kx y.1.1) n ((t1, (t5, (t6, ()))), ()) = F23l0 K n t1 t5 t6 kx := by
  intro n
  induction n with
  | zero => intros; rfl
  | succ n ih =>
    intros t1 t5 t6
    refine (S23l0_eq K t1 t5 t6 _ _).trans ?_
    have e : (fun t1 t5 t6 => evLoop (S23l0 K) (fun y => kx y.1.1) n ((t1, (t5, (t6, ()))), ())) = fun t1 t5 t6 => F23l0 K n t1 t5 t6 kx := by
      funext t1 t5 t6; exact ih t1 t5 t6
    rw [e]; rfl
theorem F23l0_eq (K : Nat) : F23l0 K K = L23l0 K := by
  funext t1 t5 t6 kx; exact (F23l0_go K kx K t1 t5 t6).symm
def F23 (K : Nat) (x0 : Int) (x1 : (List ByteArray)) : Option ((List Int)) := (F23l0 K K x1 ((IntKind.wrap IntKind.u8 x0) :: (List.replicate 0 (0 : Int))) (0 : Int) (fun y0 => (some y0)))
theorem F23_eq (K : Nat) (x0 : Int) (x1 : (List ByteArray)) : evFn (E23 K) A23 P23 R23 (lpK (RDen R23) K) 24 Tryd.f23.results.toList (cd Tryd.f23) (x0, (x1, ())) = F23 K x0 x1 := by
  unfold F23; rw [F23l0_eq K]; kernel_rfl
/- quietus/quietusref02.Short -/
def T40l0 : LoopAnn := ⟨tm 19 [(2, (.ptr 2)), (0, (.ptr 3)), (0, (.ptr 4)), (0, (.data (.int .i64)))] [(2, (.arr 16 (.int .u8))), (0, (.arr 32 (.int .u8))), (0, (.arr 16 (.int .u8)))], tm 19 [(2, (.ptr 2)), (1, (.ptr 4))] [(2, (.arr 16 (.int .u8))), (1, (.arr 16 (.int .u8)))]⟩
def A40 : List (Nat × LoopAnn) := [(0, T40l0)]
noncomputable def E40 (K : Nat) : Env := mkEnv tyTab nfTab G40 [(14, ⟨P14, R14, fun x => F14 K x.1⟩)]
def B40l0 (K : Nat) (t5 : Int) (b2 : (List Int)) (b3 : (List Int)) (b4 : (List Int)) (kn : (Int → (List Int) → (List Int) → (List Int) → Option ((List Int)))) (kx : ((List Int) → (List Int) → Option ((List Int)))) : Option ((List Int)) := (if ((ltI t5 (16 : Int)) = true) then (if ((inR t5 ((32 : Nat) : Int)) = true) then (if ((inR t5 ((16 : Nat) : Int)) = true) then (kn (IntKind.wrap IntKind.i64 (t5 + (1 : Int))) b2 b3 (List.set b4 (Int.toNat t5) (nthD (Ty.int IntKind.u8) b3 t5))) else none) else none) else (kx b2 b4))
def F40l0 (K : Nat) : Nat → Int → (List Int) → (List Int) → (List Int) → ((List Int) → (List Int) → Option ((List Int))) → Option ((List Int))
  | 0, _, _, _, _, _ => none
  | k + 1, t5, b2, b3, b4, kx => B40l0 K t5 b2 b3 b4 (fun t5 b2 b3 b4 => F40l0 K k t5 b2 b3 b4 kx) kx
noncomputable def S40l0 (K : Nat) := loopStep (E40 K) A40 (lpK (RDen R40) K) (codeAt [1, 1, 1, 0, 1, 2, 2] (cd Tryd.f40)) 0 T40l0 (fun s => resOut (E40 K) s R40 Tryd.f40.results.toList)
noncomputable def L40l0 (K : Nat) (t5 : Int) (b2 : (List Int)) (b3 : (List Int)) (b4 : (List Int)) (kx : ((List Int) → (List Int) → Option ((List Int)))) : Option ((List Int)) := evLoop (S40l0 K) (fun y => kx y.2.1 y.2.2.1) K ((t5, ()), (b2, (b3, (b4, ()))))
theorem S40l0_eq (K : Nat) (t5 : Int) (b2 : (List Int)) (b3 : (List Int)) (b4 : (List Int)) (kn : _ → Option ((List Int))) (kx : _ → Option ((List Int))) : S40l0 K ((t5, ()), (b2, (b3, (b4, ())))) kn kx = B40l0 K t5 b2 b3 b4 (fun t5 b2 b3 b4 => kn ((t5, ()), (b2, (b3, (b4, ()))))) (fun y0 y1 => kx ((), (y0, (y1, ())))) := by
  unfold B40l0; kernel_rfl
theorem F40l0_go (K : Nat) (kx : ((List Int) → (List Int) → Option ((List Int)))) : ∀ (n : Nat) (t5 : Int) (b2 : (List Int)) (b3 : (List Int)) (b4 : (List Int)), evLoop (S40l0 K) (fun y => kx y.2.1 y.2.2.1) n ((t5, ()), (b2, (b3, (b4, ())))) = F40l0 K n t5 b2 b3 b4 kx := by
  intro n
  induction n with
  | zero => intros; rfl
  | succ n ih =>
    intros t5 b2 b3 b4
    refine (S40l0_eq K t5 b2 b3 b4 _ _).trans ?_
    have e : (fun t5 b2 b3 b4 => evLoop (S40l0 K) (fun y => kx y.2.1 y.2.2.1) n ((t5, ()), (b2, (b3, (b4, ()))))) = fun t5 b2 b3 b4 => F40l0 K n t5 b2 b3 b4 kx := by
      funext t5 b2 b3 b4; exact ih t5 b2 b3 b4
    rw [e]; rfl
theorem F40l0_eq (K : Nat) : F40l0 K K = L40l0 K := by
  funext t5 b2 b3 b4 kx; exact (F40l0_go K kx K t5 b2 b3 b4).symm
def F40 (K : Nat) (x0 : (List Int)) : Option ((List Int)) := ((F14 K x0).bind fun y0 => (F40l0 K K (0 : Int) (List.replicate 16 (0 : Int)) y0 (List.replicate 16 (0 : Int)) (fun y1 y2 => (some y2))))
theorem F40_eq (K : Nat) (x0 : (List Int)) : evFn (E40 K) A40 P40 R40 (lpK (RDen R40) K) 19 Tryd.f40.results.toList (cd Tryd.f40) (x0, ()) = F40 K x0 := by
  unfold F40; rw [F40l0_eq K]; kernel_rfl
/- quietus/quietusref02.Of -/
def A21 : List (Nat × LoopAnn) := []
noncomputable def E21 (K : Nat) : Env := mkEnv tyTab nfTab G21 [(23, ⟨P23, R23, fun x => F23 K x.1 x.2.1⟩), (40, ⟨P40, R40, fun x => F40 K x.1⟩)]
def F21 (K : Nat) (x0 : Int) (x1 : (List ByteArray)) : Option ((List Int)) := ((F23 K x0 x1).bind fun y0 => ((F40 K y0).bind fun y1 => (some y1)))
theorem F21_eq (K : Nat) (x0 : Int) (x1 : (List ByteArray)) : evFn (E21 K) A21 P21 R21 (lpK (RDen R21) K) 9 Tryd.f21.results.toList (cd Tryd.f21) (x0, (x1, ())) = F21 K x0 x1 := by
  unfold F21; kernel_rfl
/- quietus/quietuslaw02.HashOfMatchesSpec -/
def A5 : List (Nat × LoopAnn) := []
noncomputable def E5 (K : Nat) : Env := mkEnv tyTab nfTab G5 [(12, ⟨P12, R12, fun x => F12 K⟩), (15, ⟨P15, R15, fun x => F15 K x.1⟩), (20, ⟨P20, R20, fun x => F20 K x.1 x.2.1⟩), (21, ⟨P21, R21, fun x => F21 K x.1 x.2.1⟩)]
def F5 (K : Nat) (x0 : Int) (x1 : (List ByteArray)) : Option (Bool) := ((F12 K).bind fun y0 => ((F15 K x1).bind fun y1 => (if ((!y1) = true) then (some y0) else ((F20 K x0 x1).bind fun y2 => (if (y0 = true) then ((F21 K x0 x1).bind fun y3 => (if ((Ty.beq (Ty.arr 16 (Ty.int IntKind.u8)) y2 y3) = true) then ((F20 K (bitAnd IntKind.i64 x0 (255 : Int)) x1).bind fun y4 => (some (Ty.beq (Ty.arr 16 (Ty.int IntKind.u8)) y2 y4))) else (some Bool.false))) else (some Bool.false))))))
theorem F5_eq (K : Nat) (x0 : Int) (x1 : (List ByteArray)) : evFn (E5 K) A5 P5 R5 (lpK (RDen R5) K) 31 Tryd.f5.results.toList (cd Tryd.f5) (x0, (x1, ())) = F5 K x0 x1 := by
  unfold F5; kernel_rfl
/- quietus/quietusref02.Same -/
def T22l0 : LoopAnn := ⟨tm 26 [(0, (.data (.list .str))), (0, (.data (.list .str))), (3, (.data (.int .i64)))] [], tm 26 [] []⟩
def A22 : List (Nat × LoopAnn) := [(0, T22l0)]
noncomputable def E22 (K : Nat) : Env := mkEnv tyTab nfTab G22 []
def B22l0 (K : Nat) (t0 : (List ByteArray)) (t1 : (List ByteArray)) (t5 : Int) (kn : ((List ByteArray) → (List ByteArray) → Int → Option (Bool))) (kx : Option (Bool)) : Option (Bool) := (if ((ltI t5 (((List.length t0) : Nat) : Int)) = true) then (if ((inR t5 (((List.length t0) : Nat) : Int)) = true) then (if ((inR t5 (((List.length t1) : Nat) : Int)) = true) then (if ((!(strEq (nthD Ty.str t0 t5) (nthD Ty.str t1 t5))) = true) then (some Bool.false) else (kn t0 t1 (IntKind.wrap IntKind.i64 (t5 + (1 : Int))))) else none) else none) else kx)
def F22l0 (K : Nat) : Nat → (List ByteArray) → (List ByteArray) → Int → Option (Bool) → Option (Bool)
  | 0, _, _, _, _ => none
  | k + 1, t0, t1, t5, kx => B22l0 K t0 t1 t5 (fun t0 t1 t5 => F22l0 K k t0 t1 t5 kx) kx
noncomputable def S22l0 (K : Nat) := loopStep (E22 K) A22 (lpK (RDen R22) K) (codeAt [1, 1, 0, 1, 2, 2] (cd Tryd.f22)) 0 T22l0 (fun s => resOut (E22 K) s R22 Tryd.f22.results.toList)
noncomputable def L22l0 (K : Nat) (t0 : (List ByteArray)) (t1 : (List ByteArray)) (t5 : Int) (kx : Option (Bool)) : Option (Bool) := evLoop (S22l0 K) (fun _ => kx) K ((t0, (t1, (t5, ()))), ())
theorem S22l0_eq (K : Nat) (t0 : (List ByteArray)) (t1 : (List ByteArray)) (t5 : Int) (kn : _ → Option (Bool)) (kx : _ → Option (Bool)) : S22l0 K ((t0, (t1, (t5, ()))), ()) kn kx = B22l0 K t0 t1 t5 (fun t0 t1 t5 => kn ((t0, (t1, (t5, ()))), ())) (kx ((), ())) := by
  unfold B22l0; kernel_rfl
theorem F22l0_go (K : Nat) (kx : Option (Bool)) : ∀ (n : Nat) (t0 : (List ByteArray)) (t1 : (List ByteArray)) (t5 : Int), evLoop (S22l0 K) (fun _ => kx) n ((t0, (t1, (t5, ()))), ()) = F22l0 K n t0 t1 t5 kx := by
  intro n
  induction n with
  | zero => intros; rfl
  | succ n ih =>
    intros t0 t1 t5
    refine (S22l0_eq K t0 t1 t5 _ _).trans ?_
    have e : (fun t0 t1 t5 => evLoop (S22l0 K) (fun _ => kx) n ((t0, (t1, (t5, ()))), ())) = fun t0 t1 t5 => F22l0 K n t0 t1 t5 kx := by
      funext t0 t1 t5; exact ih t0 t1 t5
    rw [e]; rfl
theorem F22l0_eq (K : Nat) : F22l0 K K = L22l0 K := by
  funext t0 t1 t5 kx; exact (F22l0_go K kx K t0 t1 t5).symm
def F22 (K : Nat) (x0 : (List ByteArray)) (x1 : (List ByteArray)) : Option (Bool) := (if ((!(eqI (((List.length x0) : Nat) : Int) (((List.length x1) : Nat) : Int))) = true) then (some Bool.false) else (F22l0 K K x0 x1 (0 : Int) (some true)))
theorem F22_eq (K : Nat) (x0 : (List ByteArray)) (x1 : (List ByteArray)) : evFn (E22 K) A22 P22 R22 (lpK (RDen R22) K) 26 Tryd.f22.results.toList (cd Tryd.f22) (x0, (x1, ())) = F22 K x0 x1 := by
  unfold F22; rw [F22l0_eq K]; kernel_rfl
/- quietus/quietuslaw02.clash -/
def T24l0 : LoopAnn := ⟨tm 17 [(2, (.ptr 2)), (0, (.ptr 3)), (1, (.data (.int .i64)))] [(2, (.arr 32 (.int .u8))), (0, (.arr 32 (.int .u8)))], tm 17 [] []⟩
def A24 : List (Nat × LoopAnn) := [(0, T24l0)]
noncomputable def E24 (K : Nat) : Env := mkEnv tyTab nfTab G24 []
def B24l0 (K : Nat) (t5 : Int) (b2 : (List Int)) (b3 : (List Int)) (kn : (Int → (List Int) → (List Int) → Option (Bool))) (kx : Option (Bool)) : Option (Bool) := (if ((ltI t5 (16 : Int)) = true) then (if ((inR t5 ((32 : Nat) : Int)) = true) then (if ((inR t5 ((32 : Nat) : Int)) = true) then (if ((!(eqI (nthD (Ty.int IntKind.u8) b2 t5) (nthD (Ty.int IntKind.u8) b3 t5))) = true) then (some Bool.false) else (kn (IntKind.wrap IntKind.i64 (t5 + (1 : Int))) b2 b3)) else none) else none) else kx)
def F24l0 (K : Nat) : Nat → Int → (List Int) → (List Int) → Option (Bool) → Option (Bool)
  | 0, _, _, _, _ => none
  | k + 1, t5, b2, b3, kx => B24l0 K t5 b2 b3 (fun t5 b2 b3 => F24l0 K k t5 b2 b3 kx) kx
noncomputable def S24l0 (K : Nat) := loopStep (E24 K) A24 (lpK (RDen R24) K) (codeAt [1, 0, 1, 2, 2] (cd Tryd.f24)) 0 T24l0 (fun s => resOut (E24 K) s R24 Tryd.f24.results.toList)
noncomputable def L24l0 (K : Nat) (t5 : Int) (b2 : (List Int)) (b3 : (List Int)) (kx : Option (Bool)) : Option (Bool) := evLoop (S24l0 K) (fun _ => kx) K ((t5, ()), (b2, (b3, ())))
theorem S24l0_eq (K : Nat) (t5 : Int) (b2 : (List Int)) (b3 : (List Int)) (kn : _ → Option (Bool)) (kx : _ → Option (Bool)) : S24l0 K ((t5, ()), (b2, (b3, ()))) kn kx = B24l0 K t5 b2 b3 (fun t5 b2 b3 => kn ((t5, ()), (b2, (b3, ())))) (kx ((), ())) := by
  unfold B24l0; kernel_rfl
theorem F24l0_go (K : Nat) (kx : Option (Bool)) : ∀ (n : Nat) (t5 : Int) (b2 : (List Int)) (b3 : (List Int)), evLoop (S24l0 K) (fun _ => kx) n ((t5, ()), (b2, (b3, ()))) = F24l0 K n t5 b2 b3 kx := by
  intro n
  induction n with
  | zero => intros; rfl
  | succ n ih =>
    intros t5 b2 b3
    refine (S24l0_eq K t5 b2 b3 _ _).trans ?_
    have e : (fun t5 b2 b3 => evLoop (S24l0 K) (fun _ => kx) n ((t5, ()), (b2, (b3, ())))) = fun t5 b2 b3 => F24l0 K n t5 b2 b3 kx := by
      funext t5 b2 b3; exact ih t5 b2 b3
    rw [e]; rfl
theorem F24l0_eq (K : Nat) : F24l0 K K = L24l0 K := by
  funext t5 b2 b3 kx; exact (F24l0_go K kx K t5 b2 b3).symm
def F24 (K : Nat) (x0 : (List Int)) (x1 : (List Int)) : Option (Bool) := (F24l0 K K (0 : Int) x0 x1 (some true))
theorem F24_eq (K : Nat) (x0 : (List Int)) (x1 : (List Int)) : evFn (E24 K) A24 P24 R24 (lpK (RDen R24) K) 17 Tryd.f24.results.toList (cd Tryd.f24) (x0, (x1, ())) = F24 K x0 x1 := by
  unfold F24; rw [F24l0_eq K]; kernel_rfl
/- quietus/quietuslaw02.HashOfSeparates -/
def A6 : List (Nat × LoopAnn) := []
noncomputable def E6 (K : Nat) : Env := mkEnv tyTab nfTab G6 [(12, ⟨P12, R12, fun x => F12 K⟩), (15, ⟨P15, R15, fun x => F15 K x.1⟩), (22, ⟨P22, R22, fun x => F22 K x.1 x.2.1⟩), (23, ⟨P23, R23, fun x => F23 K x.1 x.2.1⟩), (20, ⟨P20, R20, fun x => F20 K x.1 x.2.1⟩), (13, ⟨P13, R13, fun x => F13 K x.1⟩), (24, ⟨P24, R24, fun x => F24 K x.1 x.2.1⟩)]
def F6 (K : Nat) (x0 : (List Int)) (x1 : (List ByteArray)) (x2 : (List ByteArray)) : Option (Bool) := ((F12 K).bind fun y0 => ((F15 K x1).bind fun y1 => (if ((!y1) = true) then (some y0) else ((F15 K x2).bind fun y2 => (if ((!y2) = true) then (some y0) else (if ((eqI (nthD (Ty.int IntKind.u8) x0 (0 : Int)) (nthD (Ty.int IntKind.u8) x0 (1 : Int))) = true) then ((F22 K x1 x2).bind fun y3 => ((F23 K (IntKind.wrap IntKind.i64 (nthD (Ty.int IntKind.u8) x0 (0 : Int))) x1).bind fun y4 => ((F23 K (IntKind.wrap IntKind.i64 (nthD (Ty.int IntKind.u8) x0 (1 : Int))) x2).bind fun y5 => (if (y3 = true) then (if (y0 = true) then (some (strEq (mkStr y4) (mkStr y5))) else (some Bool.false)) else ((F20 K (IntKind.wrap IntKind.i64 (nthD (Ty.int IntKind.u8) x0 (0 : Int))) x1).bind fun y6 => ((F20 K (IntKind.wrap IntKind.i64 (nthD (Ty.int IntKind.u8) x0 (1 : Int))) x2).bind fun y7 => (if (y0 = true) then (if ((!(strEq (mkStr y4) (mkStr y5))) = true) then ((F13 K y4).bind fun y8 => ((F13 K y5).bind fun y9 => ((F24 K y8 y9).bind fun y10 => (some (Ty.beq Ty.bool (Ty.beq (Ty.arr 16 (Ty.int IntKind.u8)) y6 y7) y10))))) else (some Bool.false)) else (some Bool.false)))))))) else ((F23 K (IntKind.wrap IntKind.i64 (nthD (Ty.int IntKind.u8) x0 (0 : Int))) x1).bind fun y3 => ((F23 K (IntKind.wrap IntKind.i64 (nthD (Ty.int IntKind.u8) x0 (1 : Int))) x2).bind fun y4 => ((F20 K (IntKind.wrap IntKind.i64 (nthD (Ty.int IntKind.u8) x0 (0 : Int))) x1).bind fun y5 => ((F20 K (IntKind.wrap IntKind.i64 (nthD (Ty.int IntKind.u8) x0 (1 : Int))) x2).bind fun y6 => (if (y0 = true) then (if ((!(strEq (mkStr y3) (mkStr y4))) = true) then ((F13 K y3).bind fun y7 => ((F13 K y4).bind fun y8 => ((F24 K y7 y8).bind fun y9 => (some (Ty.beq Ty.bool (Ty.beq (Ty.arr 16 (Ty.int IntKind.u8)) y5 y6) y9))))) else (some Bool.false)) else (some Bool.false))))))))))))
theorem F6_eq (K : Nat) (x0 : (List Int)) (x1 : (List ByteArray)) (x2 : (List ByteArray)) : evFn (E6 K) A6 P6 R6 (lpK (RDen R6) K) 81 Tryd.f6.results.toList (cd Tryd.f6) (x0, (x1, (x2, ()))) = F6 K x0 x1 x2 := by
  unfold F6; kernel_rfl
/- quietus/quietusref02.block -/
def T43l0 : LoopAnn := ⟨tm 23 [(3, (.vec (.int .u8)))] [], tm 23 [(3, (.vec (.int .u8)))] []⟩
def A43 : List (Nat × LoopAnn) := [(0, T43l0)]
noncomputable def E43 (K : Nat) : Env := mkEnv tyTab nfTab G43 [(14, ⟨P14, R14, fun x => F14 K x.1⟩), (27, ⟨P27, R27, fun x => F27 K x.1⟩)]
def B43l0 (K : Nat) (t3 : (List Int)) (kn : ((List Int) → Option ((List Int)))) (kx : ((List Int) → Option ((List Int)))) : Option ((List Int)) := (if ((ltI (((List.length t3) : Nat) : Int) (64 : Int)) = true) then (if ((room ((List.length t3) + (List.length ((0 : Int) :: (List.replicate 0 (0 : Int)))))) = true) then (kn (t3 ++ ((0 : Int) :: (List.replicate 0 (0 : Int))))) else none) else (kx t3))
def F43l0 (K : Nat) : Nat → (List Int) → ((List Int) → Option ((List Int))) → Option ((List Int))
  | 0, _, _ => none
  | k + 1, t3, kx => B43l0 K t3 (fun t3 => F43l0 K k t3 kx) kx
noncomputable def S43l0 (K : Nat) := loopStep (E43 K) A43 (lpK (RDen R43) K) (codeAt [1, 1, 1, 0, 2, 2] (cd Tryd.f43)) 0 T43l0 (fun s => resOut (E43 K) s R43 Tryd.f43.results.toList)
noncomputable def L43l0 (K : Nat) (t3 : (List Int)) (kx : ((List Int) → Option ((List Int)))) : Option ((List Int)) := evLoop (S43l0 K) (fun y => kx y.1.1) K ((t3, ()), ())
theorem S43l0_eq (K : Nat) (t3 : (List Int)) (kn : _ → Option ((List Int))) (kx : _ → Option ((List Int))) : S43l0 K ((t3, ()), ()) kn kx = B43l0 K t3 (fun t3 => kn ((t3, ()), ())) (fun y0 => kx ((y0, ()), ())) := by
  unfold B43l0; kernel_rfl
theorem F43l0_go (K : Nat) (kx : ((List Int) → Option ((List Int)))) : ∀ (n : Nat) (t3 : (List Int)), evLoop (S43l0 K) (fun y => kx y.1.1) n ((t3, ()), ()) = F43l0 K n t3 kx := by
  intro n
  induction n with
  | zero => intros; rfl
  | succ n ih =>
    intros t3
    refine (S43l0_eq K t3 _ _).trans ?_
    have e : (fun t3 => evLoop (S43l0 K) (fun y => kx y.1.1) n ((t3, ()), ())) = fun t3 => F43l0 K n t3 kx := by
      funext t3; exact ih t3
    rw [e]; rfl
theorem F43l0_eq (K : Nat) : F43l0 K K = L43l0 K := by
  funext t3 kx; exact (F43l0_go K kx K t3).symm
def F43 (K : Nat) (x0 : ByteArray) : Option ((List Int)) := (if ((ltI (64 : Int) (((ByteArray.size x0) : Nat) : Int)) = true) then ((F14 K (bytesOf x0)).bind fun y0 => ((F27 K y0).bind fun y1 => (F43l0 K K (bytesOf y1) (fun y2 => (some y2))))) else (F43l0 K K (bytesOf x0) (fun y0 => (some y0))))
theorem F43_eq (K : Nat) (x0 : ByteArray) : evFn (E43 K) A43 P43 R43 (lpK (RDen R43) K) 23 Tryd.f43.results.toList (cd Tryd.f43) (x0, ()) = F43 K x0 := by
  unfold F43; rw [F43l0_eq K]; kernel_rfl
/- quietus/quietusref02.with -/
def T44l0 : LoopAnn := ⟨tm 28 [(0, (.data (.list (.int .u8)))), (0, (.data (.int .u8))), (0, (.data .str)), (4, (.vec (.int .u8))), (0, (.data (.int .i64)))] [], tm 28 [(2, (.data .str)), (4, (.vec (.int .u8)))] []⟩
def A44 : List (Nat × LoopAnn) := [(0, T44l0)]
noncomputable def E44 (K : Nat) : Env := mkEnv tyTab nfTab G44 []
def B44l0 (K : Nat) (t0 : (List Int)) (t1 : Int) (t2 : ByteArray) (t7 : (List Int)) (t8 : Int) (kn : ((List Int) → Int → ByteArray → (List Int) → Int → Option ((List Int)))) (kx : (ByteArray → (List Int) → Option ((List Int)))) : Option ((List Int)) := (if ((ltI t8 (((List.length t0) : Nat) : Int)) = true) then (if ((inR t8 (((List.length t0) : Nat) : Int)) = true) then (if ((room ((List.length t7) + (List.length ((bitXor IntKind.u8 (nthD (Ty.int IntKind.u8) t0 t8) t1) :: (List.replicate 0 (0 : Int)))))) = true) then (kn t0 t1 t2 (t7 ++ ((bitXor IntKind.u8 (nthD (Ty.int IntKind.u8) t0 t8) t1) :: (List.replicate 0 (0 : Int)))) (IntKind.wrap IntKind.i64 (t8 + (1 : Int)))) else none) else none) else (kx t2 t7))
def F44l0 (K : Nat) : Nat → (List Int) → Int → ByteArray → (List Int) → Int → (ByteArray → (List Int) → Option ((List Int))) → Option ((List Int))
  | 0, _, _, _, _, _, _ => none
  | k + 1, t0, t1, t2, t7, t8, kx => B44l0 K t0 t1 t2 t7 t8 (fun t0 t1 t2 t7 t8 => F44l0 K k t0 t1 t2 t7 t8 kx) kx
noncomputable def S44l0 (K : Nat) := loopStep (E44 K) A44 (lpK (RDen R44) K) (codeAt [1, 1, 0, 1, 2, 2] (cd Tryd.f44)) 0 T44l0 (fun s => resOut (E44 K) s R44 Tryd.f44.results.toList)
noncomputable def L44l0 (K : Nat) (t0 : (List Int)) (t1 : Int) (t2 : ByteArray) (t7 : (List Int)) (t8 : Int) (kx : (ByteArray → (List Int) → Option ((List Int)))) : Option ((List Int)) := evLoop (S44l0 K) (fun y => kx y.1.1 y.1.2.1) K ((t0, (t1, (t2, (t7, (t8, ()))))), ())
theorem S44l0_eq (K : Nat) (t0 : (List Int)) (t1 : Int) (t2 : ByteArray) (t7 : (List Int)) (t8 : Int) (kn : _ → Option ((List Int))) (kx : _ → Option ((List Int))) : S44l0 K ((t0, (t1, (t2, (t7, (t8, ()))))), ()) kn kx = B44l0 K t0 t1 t2 t7 t8 (fun t0 t1 t2 t7 t8 => kn ((t0, (t1, (t2, (t7, (t8, ()))))), ())) (fun y0 y1 => kx ((y0, (y1, ())), ())) := by
  unfold B44l0; kernel_rfl
theorem F44l0_go (K : Nat) (kx : (ByteArray → (List Int) → Option ((List Int)))) : ∀ (n : Nat) (t0 : (List Int)) (t1 : Int) (t2 : ByteArray) (t7 : (List Int)) (t8 : Int), evLoop (S44l0 K) (fun y => kx y.1.1 y.1.2.1) n ((t0, (t1, (t2, (t7, (t8, ()))))), ()) = F44l0 K n t0 t1 t2 t7 t8 kx := by
  intro n
  induction n with
  | zero => intros; rfl
  | succ n ih =>
    intros t0 t1 t2 t7 t8
    refine (S44l0_eq K t0 t1 t2 t7 t8 _ _).trans ?_
    have e : (fun t0 t1 t2 t7 t8 => evLoop (S44l0 K) (fun y => kx y.1.1 y.1.2.1) n ((t0, (t1, (t2, (t7, (t8, ()))))), ())) = fun t0 t1 t2 t7 t8 => F44l0 K n t0 t1 t2 t7 t8 kx := by
      funext t0 t1 t2 t7 t8; exact ih t0 t1 t2 t7 t8
    rw [e]; rfl
theorem F44l0_eq (K : Nat) : F44l0 K K = L44l0 K := by
  funext t0 t1 t2 t7 t8 kx; exact (F44l0_go K kx K t0 t1 t2 t7 t8).symm
def F44 (K : Nat) (x0 : (List Int)) (x1 : Int) (x2 : ByteArray) : Option ((List Int)) := (F44l0 K K x0 x1 x2 [] (0 : Int) (fun y0 y1 => (if ((room ((List.length y1) + (List.length (bytesOf y0)))) = true) then (some (y1 ++ (bytesOf y0))) else none)))
theorem F44_eq (K : Nat) (x0 : (List Int)) (x1 : Int) (x2 : ByteArray) : evFn (E44 K) A44 P44 R44 (lpK (RDen R44) K) 28 Tryd.f44.results.toList (cd Tryd.f44) (x0, (x1, (x2, ()))) = F44 K x0 x1 x2 := by
  unfold F44; rw [F44l0_eq K]; kernel_rfl
/- quietus/quietusref02.Hmac -/
def A26 : List (Nat × LoopAnn) := []
noncomputable def E26 (K : Nat) : Env := mkEnv tyTab nfTab G26 [(43, ⟨P43, R43, fun x => F43 K x.1⟩), (44, ⟨P44, R44, fun x => F44 K x.1 x.2.1 x.2.2.1⟩), (14, ⟨P14, R14, fun x => F14 K x.1⟩), (27, ⟨P27, R27, fun x => F27 K x.1⟩)]
def F26 (K : Nat) (x0 : ByteArray) (x1 : ByteArray) : Option ((List Int)) := ((F43 K x0).bind fun y0 => ((F44 K y0 (54 : Int) x1).bind fun y1 => ((F14 K y1).bind fun y2 => ((F27 K y2).bind fun y3 => ((F44 K y0 (92 : Int) y3).bind fun y4 => ((F14 K y4).bind fun y5 => (some y5)))))))
theorem F26_eq (K : Nat) (x0 : ByteArray) (x1 : ByteArray) : evFn (E26 K) A26 P26 R26 (lpK (RDen R26) K) 18 Tryd.f26.results.toList (cd Tryd.f26) (x0, (x1, ())) = F26 K x0 x1 := by
  unfold F26; kernel_rfl
/- quietus/quietuslaw02.HashHmacMatchesSpec -/
def A7 : List (Nat × LoopAnn) := []
noncomputable def E7 (K : Nat) : Env := mkEnv tyTab nfTab G7 [(12, ⟨P12, R12, fun x => F12 K⟩), (25, ⟨P25, R25, fun x => F25 K x.1 x.2.1⟩), (26, ⟨P26, R26, fun x => F26 K x.1 x.2.1⟩)]
def F7 (K : Nat) (x0 : ByteArray) (x1 : ByteArray) : Option (Bool) := ((F12 K).bind fun y0 => (if ((ltI (400 : Int) (((ByteArray.size x0) : Nat) : Int)) = true) then (some y0) else (if ((ltI (400 : Int) (((ByteArray.size x1) : Nat) : Int)) = true) then (some y0) else (if (y0 = true) then ((F25 K x0 x1).bind fun y1 => ((F26 K x0 x1).bind fun y2 => (some (Ty.beq (Ty.arr 32 (Ty.int IntKind.u8)) y1 y2)))) else (some Bool.false)))))
theorem F7_eq (K : Nat) (x0 : ByteArray) (x1 : ByteArray) : evFn (E7 K) A7 P7 R7 (lpK (RDen R7) K) 26 Tryd.f7.results.toList (cd Tryd.f7) (x0, (x1, ())) = F7 K x0 x1 := by
  unfold F7; kernel_rfl
/- quietus/quietuslaw02.HashKeysOfOneBlock -/
def A8 : List (Nat × LoopAnn) := []
noncomputable def E8 (K : Nat) : Env := mkEnv tyTab nfTab G8 [(12, ⟨P12, R12, fun x => F12 K⟩), (25, ⟨P25, R25, fun x => F25 K x.1 x.2.1⟩), (13, ⟨P13, R13, fun x => F13 K x.1⟩), (27, ⟨P27, R27, fun x => F27 K x.1⟩)]
def F8 (K : Nat) (x0 : ByteArray) (x1 : ByteArray) (x2 : Int) : Option (Bool) := ((F12 K).bind fun y0 => (if ((ltI (200 : Int) (((ByteArray.size x0) : Nat) : Int)) = true) then (some y0) else (if ((ltI (400 : Int) (((ByteArray.size x1) : Nat) : Int)) = true) then (some y0) else ((F25 K x0 x1).bind fun y1 => (if ((ltI (64 : Int) (((ByteArray.size x0) : Nat) : Int)) = true) then ((F13 K (bytesOf x0)).bind fun y2 => (if (y0 = true) then ((F27 K y2).bind fun y3 => ((F25 K y3 x1).bind fun y4 => (some (Ty.beq (Ty.arr 32 (Ty.int IntKind.u8)) y1 y4)))) else (some Bool.false))) else (if (y0 = true) then (if ((Bool.and (eqI (minI (IntKind.wrap IntKind.i64 x2) (IntKind.wrap IntKind.i64 ((64 : Int) - (((ByteArray.size x0) : Nat) : Int)))) (minI (IntKind.wrap IntKind.i64 x2) (IntKind.wrap IntKind.i64 ((64 : Int) - (((ByteArray.size x0) : Nat) : Int))))) (inB (0 : Int) (minI (IntKind.wrap IntKind.i64 x2) (IntKind.wrap IntKind.i64 ((64 : Int) - (((ByteArray.size x0) : Nat) : Int)))) (1073741824 : Int))) = true) then (if ((strRoom ((ByteArray.size x0) + (ByteArray.size (mkStr (List.replicate (Int.toNat (minI (IntKind.wrap IntKind.i64 x2) (IntKind.wrap IntKind.i64 ((64 : Int) - (((ByteArray.size x0) : Nat) : Int))))) (0 : Int)))))) = true) then ((F25 K (x0 ++ (mkStr (List.replicate (Int.toNat (minI (IntKind.wrap IntKind.i64 x2) (IntKind.wrap IntKind.i64 ((64 : Int) - (((ByteArray.size x0) : Nat) : Int))))) (0 : Int)))) x1).bind fun y2 => (some (Ty.beq (Ty.arr 32 (Ty.int IntKind.u8)) y1 y2))) else none) else none) else (some Bool.false)))))))
theorem F8_eq (K : Nat) (x0 : ByteArray) (x1 : ByteArray) (x2 : Int) : evFn (E8 K) A8 P8 R8 (lpK (RDen R8) K) 57 Tryd.f8.results.toList (cd Tryd.f8) (x0, (x1, (x2, ()))) = F8 K x0 x1 x2 := by
  unfold F8; kernel_rfl
/- quietus/quietusref02.Expand -/
def T29l0 : LoopAnn := ⟨tm 32 [(0, (.data .str)), (0, (.data (.int .i64))), (3, (.data .str)), (0, (.data (.int .i64)))] [], tm 32 [(1, (.data (.int .i64))), (3, (.data .str))] []⟩
def A29 : List (Nat × LoopAnn) := [(0, T29l0)]
noncomputable def E29 (K : Nat) : Env := mkEnv tyTab nfTab G29 [(46, ⟨P46, R46, fun x => F46 K x.1⟩), (26, ⟨P26, R26, fun x => F26 K x.1 x.2.1⟩), (27, ⟨P27, R27, fun x => F27 K x.1⟩)]
def B29l0 (K : Nat) (t0 : ByteArray) (t1 : Int) (t5 : ByteArray) (t6 : Int) (kn : (ByteArray → Int → ByteArray → Int → Option (ByteArray))) (kx : (Int → ByteArray → Option (ByteArray))) : Option (ByteArray) := (if ((ltI (((ByteArray.size t5) : Nat) : Int) t1) = true) then ((F46 K t6).bind fun y0 => ((F26 K t0 (mkStr y0)).bind fun y1 => ((F27 K y1).bind fun y2 => (if ((strRoom ((ByteArray.size t5) + (ByteArray.size y2))) = true) then (kn t0 t1 (t5 ++ y2) (IntKind.wrap IntKind.i64 (t6 + (1 : Int)))) else none)))) else (kx t1 t5))
def F29l0 (K : Nat) : Nat → ByteArray → Int → ByteArray → Int → (Int → ByteArray → Option (ByteArray)) → Option (ByteArray)
  | 0, _, _, _, _, _ => none
  | k + 1, t0, t1, t5, t6, kx => B29l0 K t0 t1 t5 t6 (fun t0 t1 t5 t6 => F29l0 K k t0 t1 t5 t6 kx) kx
noncomputable def S29l0 (K : Nat) := loopStep (E29 K) A29 (lpK (RDen R29) K) (codeAt [1, 1, 1, 0, 1, 2, 2] (cd Tryd.f29)) 0 T29l0 (fun s => resOut (E29 K) s R29 Tryd.f29.results.toList)
noncomputable def L29l0 (K : Nat) (t0 : ByteArray) (t1 : Int) (t5 : ByteArray) (t6 : Int) (kx : (Int → ByteArray → Option (ByteArray))) : Option (ByteArray) := evLoop (S29l0 K) (fun y => kx y.1.1 y.1.2.1) K ((t0, (t1, (t5, (t6, ())))), ())
theorem S29l0_eq (K : Nat) (t0 : ByteArray) (t1 : Int) (t5 : ByteArray) (t6 : Int) (kn : _ → Option (ByteArray)) (kx : _ → Option (ByteArray)) : S29l0 K ((t0, (t1, (t5, (t6, ())))), ()) kn kx = B29l0 K t0 t1 t5 t6 (fun t0 t1 t5 t6 => kn ((t0, (t1, (t5, (t6, ())))), ())) (fun y0 y1 => kx ((y0, (y1, ())), ())) := by
  unfold B29l0; kernel_rfl
theorem F29l0_go (K : Nat) (kx : (Int → ByteArray → Option (ByteArray))) : ∀ (n : Nat) (t0 : ByteArray) (t1 : Int) (t5 : ByteArray) (t6 : Int), evLoop (S29l0 K) (fun y => kx y.1.1 y.1.2.1) n ((t0, (t1, (t5, (t6, ())))), ()) = F29l0 K n t0 t1 t5 t6 kx := by
  intro n
  induction n with
  | zero => intros; rfl
  | succ n ih =>
    intros t0 t1 t5 t6
    refine (S29l0_eq K t0 t1 t5 t6 _ _).trans ?_
    have e : (fun t0 t1 t5 t6 => evLoop (S29l0 K) (fun y => kx y.1.1 y.1.2.1) n ((t0, (t1, (t5, (t6, ())))), ())) = fun t0 t1 t5 t6 => F29l0 K n t0 t1 t5 t6 kx := by
      funext t0 t1 t5 t6; exact ih t0 t1 t5 t6
    rw [e]; rfl
theorem F29l0_eq (K : Nat) : F29l0 K K = L29l0 K := by
  funext t0 t1 t5 t6 kx; exact (F29l0_go K kx K t0 t1 t5 t6).symm
def F29 (K : Nat) (x0 : ByteArray) (x1 : Int) : Option (ByteArray) := (if ((ltI x1 (1 : Int)) = true) then (some (ByteArray.mk (Array.mk []))) else (if ((ltI (1048576 : Int) x1) = true) then (some (ByteArray.mk (Array.mk []))) else (F29l0 K K x0 x1 (ByteArray.mk (Array.mk [])) (0 : Int) (fun y0 y1 => (if ((inB (0 : Int) y0 (((ByteArray.size y1) : Nat) : Int)) = true) then (some (ByteArray.extract y1 (Int.toNat (0 : Int)) (Int.toNat y0))) else none)))))
theorem F29_eq (K : Nat) (x0 : ByteArray) (x1 : Int) : evFn (E29 K) A29 P29 R29 (lpK (RDen R29) K) 32 Tryd.f29.results.toList (cd Tryd.f29) (x0, (x1, ())) = F29 K x0 x1 := by
  unfold F29; rw [F29l0_eq K]; kernel_rfl
/- quietus/quietuslaw02.HashExpandMatchesSpec -/
def A9 : List (Nat × LoopAnn) := []
noncomputable def E9 (K : Nat) : Env := mkEnv tyTab nfTab G9 [(12, ⟨P12, R12, fun x => F12 K⟩), (28, ⟨P28, R28, fun x => F28 K x.1 x.2.1⟩), (29, ⟨P29, R29, fun x => F29 K x.1 x.2.1⟩)]
def F9 (K : Nat) (x0 : ByteArray) (x1 : Int) : Option (Bool) := ((F12 K).bind fun y0 => (if ((ltI (400 : Int) (((ByteArray.size x0) : Nat) : Int)) = true) then (some y0) else (if ((ltI (300 : Int) x1) = true) then (if ((leI x1 (1048576 : Int)) = true) then (some y0) else (if (y0 = true) then ((F28 K x0 x1).bind fun y1 => ((F29 K x0 x1).bind fun y2 => (some (strEq y1 y2)))) else (some Bool.false))) else (if (y0 = true) then ((F28 K x0 x1).bind fun y1 => ((F29 K x0 x1).bind fun y2 => (some (strEq y1 y2)))) else (some Bool.false)))))
theorem F9_eq (K : Nat) (x0 : ByteArray) (x1 : Int) : evFn (E9 K) A9 P9 R9 (lpK (RDen R9) K) 29 Tryd.f9.results.toList (cd Tryd.f9) (x0, (x1, ())) = F9 K x0 x1 := by
  unfold F9; kernel_rfl
/- quietus/quietuslaw02.HashExpandBegins -/
def A10 : List (Nat × LoopAnn) := []
noncomputable def E10 (K : Nat) : Env := mkEnv tyTab nfTab G10 [(12, ⟨P12, R12, fun x => F12 K⟩), (28, ⟨P28, R28, fun x => F28 K x.1 x.2.1⟩), (25, ⟨P25, R25, fun x => F25 K x.1 x.2.1⟩), (27, ⟨P27, R27, fun x => F27 K x.1⟩)]
def F10 (K : Nat) (x0 : ByteArray) (x1 : (List Int)) : Option (Bool) := ((F12 K).bind fun y0 => (if ((ltI (400 : Int) (((ByteArray.size x0) : Nat) : Int)) = true) then (some y0) else ((F28 K x0 (IntKind.wrap IntKind.i64 ((1 : Int) + (IntKind.wrap IntKind.i64 (minI (nthD (Ty.int IntKind.u8) x1 (0 : Int)) (nthD (Ty.int IntKind.u8) x1 (1 : Int))))))).bind fun y1 => ((F28 K x0 (IntKind.wrap IntKind.i64 ((1 : Int) + (IntKind.wrap IntKind.i64 (maxI (nthD (Ty.int IntKind.u8) x1 (0 : Int)) (nthD (Ty.int IntKind.u8) x1 (1 : Int))))))).bind fun y2 => (if ((!(eqI (((ByteArray.size y1) : Nat) : Int) (IntKind.wrap IntKind.i64 ((1 : Int) + (IntKind.wrap IntKind.i64 (minI (nthD (Ty.int IntKind.u8) x1 (0 : Int)) (nthD (Ty.int IntKind.u8) x1 (1 : Int)))))))) = true) then (some Bool.false) else (if ((!(eqI (((ByteArray.size y2) : Nat) : Int) (IntKind.wrap IntKind.i64 ((1 : Int) + (IntKind.wrap IntKind.i64 (maxI (nthD (Ty.int IntKind.u8) x1 (0 : Int)) (nthD (Ty.int IntKind.u8) x1 (1 : Int)))))))) = true) then (some Bool.false) else ((F25 K x0 (ByteArray.mk (Array.mk [(0 : UInt8)]))).bind fun y3 => ((F27 K y3).bind fun y4 => (if (y0 = true) then (if ((inB (0 : Int) (IntKind.wrap IntKind.i64 ((1 : Int) + (IntKind.wrap IntKind.i64 (minI (nthD (Ty.int IntKind.u8) x1 (0 : Int)) (nthD (Ty.int IntKind.u8) x1 (1 : Int)))))) (((ByteArray.size y2) : Nat) : Int)) = true) then (if ((strEq (ByteArray.extract y2 (Int.toNat (0 : Int)) (Int.toNat (IntKind.wrap IntKind.i64 ((1 : Int) + (IntKind.wrap IntKind.i64 (minI (nthD (Ty.int IntKind.u8) x1 (0 : Int)) (nthD (Ty.int IntKind.u8) x1 (1 : Int)))))))) y1) = true) then (if ((inB (0 : Int) (minI (IntKind.wrap IntKind.i64 ((1 : Int) + (IntKind.wrap IntKind.i64 (minI (nthD (Ty.int IntKind.u8) x1 (0 : Int)) (nthD (Ty.int IntKind.u8) x1 (1 : Int)))))) (32 : Int)) (((ByteArray.size y1) : Nat) : Int)) = true) then (if ((inB (0 : Int) (minI (IntKind.wrap IntKind.i64 ((1 : Int) + (IntKind.wrap IntKind.i64 (minI (nthD (Ty.int IntKind.u8) x1 (0 : Int)) (nthD (Ty.int IntKind.u8) x1 (1 : Int)))))) (32 : Int)) (((ByteArray.size y4) : Nat) : Int)) = true) then (some (strEq (ByteArray.extract y1 (Int.toNat (0 : Int)) (Int.toNat (minI (IntKind.wrap IntKind.i64 ((1 : Int) + (IntKind.wrap IntKind.i64 (minI (nthD (Ty.int IntKind.u8) x1 (0 : Int)) (nthD (Ty.int IntKind.u8) x1 (1 : Int)))))) (32 : Int)))) (ByteArray.extract y4 (Int.toNat (0 : Int)) (Int.toNat (minI (IntKind.wrap IntKind.i64 ((1 : Int) + (IntKind.wrap IntKind.i64 (minI (nthD (Ty.int IntKind.u8) x1 (0 : Int)) (nthD (Ty.int IntKind.u8) x1 (1 : Int)))))) (32 : Int)))))) else none) else none) else (some Bool.false)) else none) else (some Bool.false))))))))))
theorem F10_eq (K : Nat) (x0 : ByteArray) (x1 : (List Int)) : evFn (E10 K) A10 P10 R10 (lpK (RDen R10) K) 68 Tryd.f10.results.toList (cd Tryd.f10) (x0, (x1, ())) = F10 K x0 x1 := by
  unfold F10; kernel_rfl
/- quietus/hash.Mac -/
def T30l0 : LoopAnn := ⟨tm 27 [(0, (.data .str)), (3, (.ptr 4)), (0, (.data .str)), (3, (.data (.list .str))), (0, (.data (.int .i64))), (0, (.data (.int .i64)))] [(4, (.arr 16 (.int .u8)))], tm 27 [(0, (.data .str)), (3, (.ptr 4)), (0, (.data .str))] [(4, (.arr 16 (.int .u8)))]⟩
def A30 : List (Nat × LoopAnn) := [(0, T30l0)]
noncomputable def E30 (K : Nat) : Env := mkEnv tyTab nfTab G30 [(39, ⟨P39, R39, fun x => F39 K x.1⟩), (25, ⟨P25, R25, fun x => F25 K x.1 x.2.1⟩)]
def B30l0 (K : Nat) (t0 : ByteArray) (t5 : ByteArray) (t9 : (List ByteArray)) (t10 : Int) (t11 : Int) (b4 : (List Int)) (kn : (ByteArray → ByteArray → (List ByteArray) → Int → Int → (List Int) → Option ((List Int)))) (kx : (ByteArray → ByteArray → (List Int) → Option ((List Int)))) : Option ((List Int)) := (if ((ltI t11 t10) = true) then (if ((inR t11 (((List.length t9) : Nat) : Int)) = true) then ((F39 K (nthD Ty.str t9 t11)).bind fun y0 => (if ((strRoom ((ByteArray.size t5) + (ByteArray.size (mkStr y0)))) = true) then (kn t0 (t5 ++ (mkStr y0)) t9 t10 (IntKind.wrap IntKind.i64 (t11 + (1 : Int))) b4) else none)) else none) else (kx t0 t5 b4))
def F30l0 (K : Nat) : Nat → ByteArray → ByteArray → (List ByteArray) → Int → Int → (List Int) → (ByteArray → ByteArray → (List Int) → Option ((List Int))) → Option ((List Int))
  | 0, _, _, _, _, _, _, _ => none
  | k + 1, t0, t5, t9, t10, t11, b4, kx => B30l0 K t0 t5 t9 t10 t11 b4 (fun t0 t5 t9 t10 t11 b4 => F30l0 K k t0 t5 t9 t10 t11 b4 kx) kx
noncomputable def S30l0 (K : Nat) := loopStep (E30 K) A30 (lpK (RDen R30) K) (codeAt [1, 1, 0, 1, 2, 2] (cd Tryd.f30)) 0 T30l0 (fun s => resOut (E30 K) s R30 Tryd.f30.results.toList)
noncomputable def L30l0 (K : Nat) (t0 : ByteArray) (t5 : ByteArray) (t9 : (List ByteArray)) (t10 : Int) (t11 : Int) (b4 : (List Int)) (kx : (ByteArray → ByteArray → (List Int) → Option ((List Int)))) : Option ((List Int)) := evLoop (S30l0 K) (fun y => kx y.1.1 y.1.2.1 y.2.1) K ((t0, (t5, (t9, (t10, (t11, ()))))), (b4, ()))
theorem S30l0_eq (K : Nat) (t0 : ByteArray) (t5 : ByteArray) (t9 : (List ByteArray)) (t10 : Int) (t11 : Int) (b4 : (List Int)) (kn : _ → Option ((List Int))) (kx : _ → Option ((List Int))) : S30l0 K ((t0, (t5, (t9, (t10, (t11, ()))))), (b4, ())) kn kx = B30l0 K t0 t5 t9 t10 t11 b4 (fun t0 t5 t9 t10 t11 b4 => kn ((t0, (t5, (t9, (t10, (t11, ()))))), (b4, ()))) (fun y0 y1 y2 => kx ((y0, (y1, ())), (y2, ()))) := by
  unfold B30l0; kernel_rfl
theorem F30l0_go (K : Nat) (kx : (ByteArray → ByteArray → (List Int) → Option ((List Int)))) : ∀ (n : Nat) (t0 : ByteArray) (t5 : ByteArray) (t9 : (List ByteArray)) (t10 : Int) (t11 : Int) (b4 : (List Int)), evLoop (S30l0 K) (fun y => kx y.1.1 y.1.2.1 y.2.1) n ((t0, (t5, (t9, (t10, (t11, ()))))), (b4, ())) = F30l0 K n t0 t5 t9 t10 t11 b4 kx := by
  intro n
  induction n with
  | zero => intros; rfl
  | succ n ih =>
    intros t0 t5 t9 t10 t11 b4
    refine (S30l0_eq K t0 t5 t9 t10 t11 b4 _ _).trans ?_
    have e : (fun t0 t5 t9 t10 t11 b4 => evLoop (S30l0 K) (fun y => kx y.1.1 y.1.2.1 y.2.1) n ((t0, (t5, (t9, (t10, (t11, ()))))), (b4, ()))) = fun t0 t5 t9 t10 t11 b4 => F30l0 K n t0 t5 t9 t10 t11 b4 kx := by
      funext t0 t5 t9 t10 t11 b4; exact ih t0 t5 t9 t10 t11 b4
    rw [e]; rfl
theorem F30l0_eq (K : Nat) : F30l0 K K = L30l0 K := by
  funext t0 t5 t9 t10 t11 b4 kx; exact (F30l0_go K kx K t0 t5 t9 t10 t11 b4).symm
def F30 (K : Nat) (x0 : ByteArray) (x1 : (List ByteArray)) : Option ((List Int)) := (F30l0 K K x0 (ByteArray.mk (Array.mk [])) x1 (((List.length x1) : Nat) : Int) (0 : Int) (List.replicate 16 (0 : Int)) (fun y0 y1 y2 => ((F25 K y0 y1).bind fun y3 => (some (List.take 16 (List.drop (Int.toNat (0 : Int)) y3))))))
theorem F30_eq (K : Nat) (x0 : ByteArray) (x1 : (List ByteArray)) : evFn (E30 K) A30 P30 R30 (lpK (RDen R30) K) 27 Tryd.f30.results.toList (cd Tryd.f30) (x0, (x1, ())) = F30 K x0 x1 := by
  unfold F30; rw [F30l0_eq K]; kernel_rfl
/- quietus/quietusref02.Message -/
def T31l0 : LoopAnn := ⟨tm 20 [(0, (.data (.list .str))), (2, (.vec (.int .u8))), (0, (.data (.int .i64)))] [], tm 20 [(3, (.vec (.int .u8)))] []⟩
def A31 : List (Nat × LoopAnn) := [(0, T31l0)]
noncomputable def E31 (K : Nat) : Env := mkEnv tyTab nfTab G31 [(41, ⟨P41, R41, fun x => F41 K x.1⟩)]
def B31l0 (K : Nat) (t0 : (List ByteArray)) (t3 : (List Int)) (t4 : Int) (kn : ((List ByteArray) → (List Int) → Int → Option (ByteArray))) (kx : ((List Int) → Option (ByteArray))) : Option (ByteArray) := (if ((ltI t4 (((List.length t0) : Nat) : Int)) = true) then (if ((inR t4 (((List.length t0) : Nat) : Int)) = true) then ((F41 K (nthD Ty.str t0 t4)).bind fun y0 => (if ((room ((List.length t3) + (List.length y0))) = true) then (kn t0 (t3 ++ y0) (IntKind.wrap IntKind.i64 (t4 + (1 : Int)))) else none)) else none) else (kx t3))
def F31l0 (K : Nat) : Nat → (List ByteArray) → (List Int) → Int → ((List Int) → Option (ByteArray)) → Option (ByteArray)
  | 0, _, _, _, _ => none
  | k + 1, t0, t3, t4, kx => B31l0 K t0 t3 t4 (fun t0 t3 t4 => F31l0 K k t0 t3 t4 kx) kx
noncomputable def S31l0 (K : Nat) := loopStep (E31 K) A31 (lpK (RDen R31) K) (codeAt [1, 1, 0, 1, 2, 2] (cd Tryd.f31)) 0 T31l0 (fun s => resOut (E31 K) s R31 Tryd.f31.results.toList)
noncomputable def L31l0 (K : Nat) (t0 : (List ByteArray)) (t3 : (List Int)) (t4 : Int) (kx : ((List Int) → Option (ByteArray))) : Option (ByteArray) := evLoop (S31l0 K) (fun y => kx y.1.1) K ((t0, (t3, (t4, ()))), ())
theorem S31l0_eq (K : Nat) (t0 : (List ByteArray)) (t3 : (List Int)) (t4 : Int) (kn : _ → Option (ByteArray)) (kx : _ → Option (ByteArray)) : S31l0 K ((t0, (t3, (t4, ()))), ()) kn kx = B31l0 K t0 t3 t4 (fun t0 t3 t4 => kn ((t0, (t3, (t4, ()))), ())) (fun y0 => kx ((y0, ()), ())) := by
  unfold B31l0; kernel_rfl
theorem F31l0_go (K : Nat) (kx : ((List Int) → Option (ByteArray))) : ∀ (n : Nat) (t0 : (List ByteArray)) (t3 : (List Int)) (t4 : Int), evLoop (S31l0 K) (fun y => kx y.1.1) n ((t0, (t3, (t4, ()))), ()) = F31l0 K n t0 t3 t4 kx := by
  intro n
  induction n with
  | zero => intros; rfl
  | succ n ih =>
    intros t0 t3 t4
    refine (S31l0_eq K t0 t3 t4 _ _).trans ?_
    have e : (fun t0 t3 t4 => evLoop (S31l0 K) (fun y => kx y.1.1) n ((t0, (t3, (t4, ()))), ())) = fun t0 t3 t4 => F31l0 K n t0 t3 t4 kx := by
      funext t0 t3 t4; exact ih t0 t3 t4
    rw [e]; rfl
theorem F31l0_eq (K : Nat) : F31l0 K K = L31l0 K := by
  funext t0 t3 t4 kx; exact (F31l0_go K kx K t0 t3 t4).symm
def F31 (K : Nat) (x0 : (List ByteArray)) : Option (ByteArray) := (F31l0 K K x0 [] (0 : Int) (fun y0 => (some (mkStr y0))))
theorem F31_eq (K : Nat) (x0 : (List ByteArray)) : evFn (E31 K) A31 P31 R31 (lpK (RDen R31) K) 20 Tryd.f31.results.toList (cd Tryd.f31) (x0, ()) = F31 K x0 := by
  unfold F31; rw [F31l0_eq K]; kernel_rfl
/- quietus/quietusref02.Mac -/
def T32l0 : LoopAnn := ⟨tm 23 [(4, (.ptr 4)), (0, (.ptr 5)), (0, (.ptr 6)), (0, (.data (.int .i64)))] [(4, (.arr 16 (.int .u8))), (0, (.arr 32 (.int .u8))), (0, (.arr 16 (.int .u8)))], tm 23 [(4, (.ptr 4)), (1, (.ptr 6))] [(4, (.arr 16 (.int .u8))), (1, (.arr 16 (.int .u8)))]⟩
def A32 : List (Nat × LoopAnn) := [(0, T32l0)]
noncomputable def E32 (K : Nat) : Env := mkEnv tyTab nfTab G32 [(31, ⟨P31, R31, fun x => F31 K x.1⟩), (26, ⟨P26, R26, fun x => F26 K x.1 x.2.1⟩)]
def B32l0 (K : Nat) (t7 : Int) (b4 : (List Int)) (b5 : (List Int)) (b6 : (List Int)) (kn : (Int → (List Int) → (List Int) → (List Int) → Option ((List Int)))) (kx : ((List Int) → (List Int) → Option ((List Int)))) : Option ((List Int)) := (if ((ltI t7 (16 : Int)) = true) then (if ((inR t7 ((32 : Nat) : Int)) = true) then (if ((inR t7 ((16 : Nat) : Int)) = true) then (kn (IntKind.wrap IntKind.i64 (t7 + (1 : Int))) b4 b5 (List.set b6 (Int.toNat t7) (nthD (Ty.int IntKind.u8) b5 t7))) else none) else none) else (kx b4 b6))
def F32l0 (K : Nat) : Nat → Int → (List Int) → (List Int) → (List Int) → ((List Int) → (List Int) → Option ((List Int))) → Option ((List Int))
  | 0, _, _, _, _, _ => none
  | k + 1, t7, b4, b5, b6, kx => B32l0 K t7 b4 b5 b6 (fun t7 b4 b5 b6 => F32l0 K k t7 b4 b5 b6 kx) kx
noncomputable def S32l0 (K : Nat) := loopStep (E32 K) A32 (lpK (RDen R32) K) (codeAt [1, 1, 1, 0, 1, 2, 2] (cd Tryd.f32)) 0 T32l0 (fun s => resOut (E32 K) s R32 Tryd.f32.results.toList)
noncomputable def L32l0 (K : Nat) (t7 : Int) (b4 : (List Int)) (b5 : (List Int)) (b6 : (List Int)) (kx : ((List Int) → (List Int) → Option ((List Int)))) : Option ((List Int)) := evLoop (S32l0 K) (fun y => kx y.2.1 y.2.2.1) K ((t7, ()), (b4, (b5, (b6, ()))))
theorem S32l0_eq (K : Nat) (t7 : Int) (b4 : (List Int)) (b5 : (List Int)) (b6 : (List Int)) (kn : _ → Option ((List Int))) (kx : _ → Option ((List Int))) : S32l0 K ((t7, ()), (b4, (b5, (b6, ())))) kn kx = B32l0 K t7 b4 b5 b6 (fun t7 b4 b5 b6 => kn ((t7, ()), (b4, (b5, (b6, ()))))) (fun y0 y1 => kx ((), (y0, (y1, ())))) := by
  unfold B32l0; kernel_rfl
theorem F32l0_go (K : Nat) (kx : ((List Int) → (List Int) → Option ((List Int)))) : ∀ (n : Nat) (t7 : Int) (b4 : (List Int)) (b5 : (List Int)) (b6 : (List Int)), evLoop (S32l0 K) (fun y => kx y.2.1 y.2.2.1) n ((t7, ()), (b4, (b5, (b6, ())))) = F32l0 K n t7 b4 b5 b6 kx := by
  intro n
  induction n with
  | zero => intros; rfl
  | succ n ih =>
    intros t7 b4 b5 b6
    refine (S32l0_eq K t7 b4 b5 b6 _ _).trans ?_
    have e : (fun t7 b4 b5 b6 => evLoop (S32l0 K) (fun y => kx y.2.1 y.2.2.1) n ((t7, ()), (b4, (b5, (b6, ()))))) = fun t7 b4 b5 b6 => F32l0 K n t7 b4 b5 b6 kx := by
      funext t7 b4 b5 b6; exact ih t7 b4 b5 b6
    rw [e]; rfl
theorem F32l0_eq (K : Nat) : F32l0 K K = L32l0 K := by
  funext t7 b4 b5 b6 kx; exact (F32l0_go K kx K t7 b4 b5 b6).symm
def F32 (K : Nat) (x0 : ByteArray) (x1 : (List ByteArray)) : Option ((List Int)) := ((F31 K x1).bind fun y0 => ((F26 K x0 y0).bind fun y1 => (F32l0 K K (0 : Int) (List.replicate 16 (0 : Int)) y1 (List.replicate 16 (0 : Int)) (fun y2 y3 => (some y3)))))
theorem F32_eq (K : Nat) (x0 : ByteArray) (x1 : (List ByteArray)) : evFn (E32 K) A32 P32 R32 (lpK (RDen R32) K) 23 Tryd.f32.results.toList (cd Tryd.f32) (x0, (x1, ())) = F32 K x0 x1 := by
  unfold F32; rw [F32l0_eq K]; kernel_rfl
/- quietus/quietuslaw02.HashMacMatchesSpec -/
def A11 : List (Nat × LoopAnn) := []
noncomputable def E11 (K : Nat) : Env := mkEnv tyTab nfTab G11 [(12, ⟨P12, R12, fun x => F12 K⟩), (15, ⟨P15, R15, fun x => F15 K x.1⟩), (30, ⟨P30, R30, fun x => F30 K x.1 x.2.1⟩), (31, ⟨P31, R31, fun x => F31 K x.1⟩), (25, ⟨P25, R25, fun x => F25 K x.1 x.2.1⟩), (22, ⟨P22, R22, fun x => F22 K x.1 x.2.1⟩), (32, ⟨P32, R32, fun x => F32 K x.1 x.2.1⟩), (24, ⟨P24, R24, fun x => F24 K x.1 x.2.1⟩)]
def F11 (K : Nat) (x0 : ByteArray) (x1 : (List ByteArray)) (x2 : (List ByteArray)) : Option (Bool) := ((F12 K).bind fun y0 => (if ((ltI (400 : Int) (((ByteArray.size x0) : Nat) : Int)) = true) then (some y0) else ((F15 K x1).bind fun y1 => (if ((!y1) = true) then (some y0) else ((F15 K x2).bind fun y2 => (if ((!y2) = true) then (some y0) else ((F30 K x0 x1).bind fun y3 => ((F30 K x0 x2).bind fun y4 => ((F31 K x1).bind fun y5 => ((F25 K x0 y5).bind fun y6 => ((F31 K x2).bind fun y7 => ((F25 K x0 y7).bind fun y8 => ((F22 K x1 x2).bind fun y9 => (if (y0 = true) then ((F32 K x0 x1).bind fun y10 => (if ((Ty.beq (Ty.arr 16 (Ty.int IntKind.u8)) y3 y10) = true) then ((F24 K y6 y8).bind fun y11 => (if ((Ty.beq Ty.bool (Ty.beq (Ty.arr 16 (Ty.int IntKind.u8)) y3 y4) y11) = true) then ((F31 K x1).bind fun y12 => ((F31 K x2).bind fun y13 => (some (Ty.beq Ty.bool (strEq y12 y13) y9)))) else (some Bool.false))) else (some Bool.false))) else (some Bool.false)))))))))))))))
theorem F11_eq (K : Nat) (x0 : ByteArray) (x1 : (List ByteArray)) (x2 : (List ByteArray)) : evFn (E11 K) A11 P11 R11 (lpK (RDen R11) K) 71 Tryd.f11.results.toList (cd Tryd.f11) (x0, (x1, (x2, ()))) = F11 K x0 x1 x2 := by
  unfold F11; kernel_rfl
end Go.Proofs.YtfjmnolijfeioaaDoor
