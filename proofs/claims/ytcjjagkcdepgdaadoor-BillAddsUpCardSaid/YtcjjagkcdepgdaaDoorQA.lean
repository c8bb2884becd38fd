import Derived.Calls
import Derived.LoopN
import Derived.Scope
import Derived.Below
import Derived.Laws.IdiomCopy
import Derived.Laws.Cells
import Derived.Tactics
import Derived.ChangeKeysEq
import Derived.Laws.StructEq
set_option linter.unusedVariables false
set_option linter.unusedSimpArgs false
/- The value machine: a pure evaluator of the model's code over typed data. Definitions. -/
namespace Go.Q
open Go

/-! ### Types and data -/
inductive Ty where
  | int (k : IntKind)
  | bool
  | str
  | unit
  | one (t : Ty)
  | pair (a b : Ty)
  | arr (n : Nat) (t : Ty)
  | list (t : Ty)
  | full (t : Ty)
  | vec (t : Ty)
  | dead (t : Ty)
  | nil (t : Ty)
  | ref (t : Ty)
  | mp (k e : IntKind)

@[reducible] def Ty.den : Ty → Type
  | .int _ => Int
  | .bool => Bool
  | .str => ByteArray
  | .unit => Unit
  | .one t => t.den
  | .pair a b => a.den × b.den
  | .arr _ t => List t.den
  | .list t => List t.den
  | .full t => List t.den
  | .vec t => List t.den
  | .dead _ => Unit
  | .nil _ => Unit
  | .ref t => t.den
  | .mp _ _ => List (Int × Int)

def Ty.zero : (t : Ty) → t.den
  | .int _ => (0 : Int)
  | .bool => false
  | .str => ByteArray.empty
  | .unit => ()
  | .one t => t.zero
  | .pair a b => (a.zero, b.zero)
  | .arr n t => List.replicate n t.zero
  | .list _ => []
  | .full _ => []
  | .vec _ => []
  | .dead _ => ()
  | .nil _ => ()
  | .ref t => t.zero
  | .mp _ _ => []

def Ty.sz : Ty → Nat
  | .unit => 0
  | .one t => t.sz
  | .pair a b => a.sz + b.sz
  | .arr n t => n * t.sz
  | _ => 1

def ikb (a b : IntKind) : Bool :=
  match a, b with
  | .i8, .i8 => true | .i16, .i16 => true | .i32, .i32 => true | .i64, .i64 => true
  | .u8, .u8 => true | .u16, .u16 => true | .u32, .u32 => true | .u64, .u64 => true
  | _, _ => false

def Ty.eqb : Ty → Ty → Bool
  | .int a, .int b => ikb a b
  | .bool, .bool => true
  | .str, .str => true
  | .unit, .unit => true
  | .one a, .one b => a.eqb b
  | .pair a b, .pair c d => a.eqb c && b.eqb d
  | .arr n a, .arr m b => Nat.beq n m && a.eqb b
  | .list a, .list b => a.eqb b
  | .full a, .full b => a.eqb b
  | .vec a, .vec b => a.eqb b
  | .dead a, .dead b => a.eqb b
  | .nil a, .nil b => a.eqb b
  | .ref a, .ref b => a.eqb b
  | .mp a b, .mp c d => ikb a c && ikb b d
  | _, _ => false

theorem ikb_eq : ∀ {a b : IntKind}, ikb a b = true → a = b := by
  intro a b; cases a <;> cases b <;> simp [ikb]

theorem Ty.eqb_eq : ∀ {a b : Ty}, a.eqb b = true → a = b := by
  intro a
  induction a with
  | int k => intro b h; cases b <;> simp [Ty.eqb] at h; rw [ikb_eq h]
  | bool => intro b h; cases b <;> simp [Ty.eqb] at h; rfl
  | str => intro b h; cases b <;> simp [Ty.eqb] at h; rfl
  | unit => intro b h; cases b <;> simp [Ty.eqb] at h; rfl
  | one t ih => intro b h; cases b <;> simp [Ty.eqb] at h; rw [ih h]
  | pair x y ih1 ih2 => intro b h; cases b <;> simp [Ty.eqb] at h; rw [ih1 h.1, ih2 h.2]
  | arr n t ih => intro b h; cases b <;> simp [Ty.eqb] at h; rw [h.1, ih h.2]
  | list t ih => intro b h; cases b <;> simp [Ty.eqb] at h; rw [ih h]
  | full t ih => intro b h; cases b <;> simp [Ty.eqb] at h; rw [ih h]
  | vec t ih => intro b h; cases b <;> simp [Ty.eqb] at h; rw [ih h]
  | dead t ih => intro b h; cases b <;> simp [Ty.eqb] at h; rw [ih h]
  | nil t ih => intro b h; cases b <;> simp [Ty.eqb] at h; rw [ih h]
  | ref t ih => intro b h; cases b <;> simp [Ty.eqb] at h; rw [ih h]
  | mp k e => intro b h; cases b <;> simp [Ty.eqb] at h; rw [ikb_eq h.1, ikb_eq h.2]

/-- Data of one type seen as data of another one that is the same. -/
def cast? (a b : Ty) (x : a.den) : Option b.den := if h : Ty.eqb a b = true then some (Ty.eqb_eq h ▸ x) else none

theorem cast?_some {a b : Ty} {x : a.den} {y : b.den} (h : cast? a b x = some y) : ∃ e : a = b, y = e ▸ x := by
  unfold cast? at h
  split at h
  · rename_i he; exact ⟨Ty.eqb_eq he, (Option.some.inj h).symm⟩
  · exact absurd h (by simp)

/-- Without owned slices at its top. -/
def Ty.pure : Ty → Bool
  | .vec _ => false
  | .mp _ _ => false
  | .dead _ => false
  | .one t => t.pure
  | .pair a b => a.pure && b.pure
  | _ => true

/-- No memory behind it. -/
def Ty.flat : Ty → Bool
  | .vec _ => false
  | .dead _ => false
  | .list _ => false
  | .full _ => false
  | .ref _ => false
  | .mp _ _ => false
  | .one t => t.flat
  | .pair a b => a.flat && b.flat
  | .arr _ t => t.flat
  | _ => true

/-- Is its value an aggregate? -/
def Ty.agg : Ty → Bool
  | .unit => true
  | .one _ => true
  | .pair _ _ => true
  | .arr _ _ => true
  | _ => false

/-- The type of a zero value: the top's slices nil. -/
def Ty.up : Ty → Ty
  | .one t => .one t.up
  | .pair a b => .pair a.up b.up
  | .list t => .nil t
  | t => t

/-- Two types whose values may lie in one variable. -/
def Ty.erase : Ty → Ty
  | .one t => .one t.erase
  | .pair a b => .pair a.erase b.erase
  | .full t => .list t
  | .vec t => .list t
  | .dead t => .list t
  | .nil t => .list t
  | t => t

/-- Data of one type seen as data of another one: the same, or a slice seen as a plainer one. -/
def coe? : (a b : Ty) → a.den → Option b.den
  | .one a, .one b, x => coe? a b x
  | .pair a b, .pair c d, x => match coe? a c x.1 with
    | some y => match coe? b d x.2 with
      | some z => some (y, z)
      | none => none
    | none => none
  | .nil _, .list _, _ => some []
  | .nil _, .full _, _ => some []
  | .full a, .list b, xs => cast? (.list a) (.list b) xs
  | a, b, x => cast? a b x

/-- Data of one variable seen as data of another one: nil also as a slice that is owned. -/
def coeB? : (a b : Ty) → a.den → Option b.den
  | .one a, .one b, x => coeB? a b x
  | .pair a b, .pair c d, x => match coeB? a c x.1 with
    | some y => match coeB? b d x.2 with
      | some z => some (y, z)
      | none => none
    | none => none
  | .nil _, .vec _, _ => some []
  | a, b, x => coe? a b x

/-- A variable with its owned slices given up. -/
@[reducible] def Ty.fz : Ty → Ty
  | .int k => .int k
  | .bool => .bool
  | .str => .str
  | .unit => .unit
  | .one t => .one t.fz
  | .pair a b => .pair a.fz b.fz
  | .arr n t => .arr n t
  | .list t => .list t
  | .full t => .full t
  | .vec t => .list t
  | .dead t => .dead t
  | .nil t => .nil t
  | .ref t => .ref t
  | .mp k e => .mp k e
def fzV : (t : Ty) → t.den → t.fz.den
  | .int _, x => x
  | .bool, x => x
  | .str, x => x
  | .unit, x => x
  | .one t, x => fzV t x
  | .pair a b, x => (fzV a x.1, fzV b x.2)
  | .arr _ _, x => x
  | .list _, x => x
  | .full _, x => x
  | .vec _, x => x
  | .dead _, x => x
  | .nil _, x => x
  | .ref _, x => x
  | .mp _ _, x => x

structure DV where
  t : Ty
  x : t.den

/-! ### Places inside a variable -/
inductive Stp where
  | o
  | f
  | s
  | i (n : Int)
  | sub (lo n : Nat)

def nthD (t : Ty) (xs : List t.den) (i : Int) : t.den := xs.getD i.toNat t.zero

def getP : List Stp → (t : Ty) → t.den → Option DV
  | [], t, x => some ⟨t, x⟩
  | .o :: p, .one t, x => getP p t x
  | .f :: p, .pair a _, x => getP p a x.1
  | .s :: p, .pair _ b, x => getP p b x.2
  | .i n :: p, .arr _ t, xs => getP p t (nthD t xs n)
  | .sub lo n :: p, .arr _ t, xs => getP p (.arr n t) ((xs.drop lo).take n)
  | _, _, _ => none

def setP : List Stp → (t : Ty) → t.den → DV → Option DV
  | [], t, _, d => if Ty.eqb t.erase d.t.erase then some d else none
  | .o :: p, .one t, x, d => match setP p t x d with
    | some ⟨t', x'⟩ => some ⟨.one t', x'⟩
    | none => none
  | .f :: p, .pair a b, x, d => match setP p a x.1 d with
    | some ⟨a', y⟩ => some ⟨.pair a' b, (y, x.2)⟩
    | none => none
  | .s :: p, .pair a b, x, d => match setP p b x.2 d with
    | some ⟨b', y⟩ => some ⟨.pair a b', (x.1, y)⟩
    | none => none
  | .i n :: p, .arr m t, xs, d => match d.t.pure with
    | true => match setP p t (nthD t xs n) d with
      | some ⟨t', y⟩ => match cast? t' t y with
        | some z => some ⟨.arr m t, xs.set n.toNat z⟩
        | none => none
      | none => none
    | false => none
  | _, _, _, _ => none

/-! ### The state -/
inductive AV where
  | any
  | und
  | data (t : Ty) (x : t.den)
  | vec (t : Ty) (xs : List t.den)
  | bor (s n : Nat) (t : Ty) (xs : List t.den)
  | bbor (k g n : Nat) (p : List Stp) (t : Ty) (xs : List t.den)
  | ptr (k g : Nat) (p : List Stp)
  | vptr (s n : Nat) (t : Ty) (xs : List t.den) (i : Int) (p : List Stp)
  | bsl (k g : Nat) (p : List Stp) (lo hi : Int)
  | mref (k g : Nat)
  | nil
  | fn (f : FuncId) (cs : List AV)
  | tup (vs : List DV)

structure Slot where
  av : AV
  n : Nat

structure Box where
  g : Nat
  n : Nat
  d : Option DV

structure St where
  sl : List Slot
  bx : List Box

def nth {α : Type} (d : α) : List α → Nat → α
  | [], _ => d
  | a :: _, 0 => a
  | _ :: l, n + 1 => nth d l n

def upd {α : Type} : List α → Nat → α → List α
  | [], _, _ => []
  | _ :: l, 0, b => b :: l
  | a :: l, n + 1, b => a :: upd l n b

def slot0 : Slot := ⟨.any, 0⟩
def box0 : Box := ⟨0, 0, none⟩

def St.slot (σ : St) (i : Nat) : Slot := nth slot0 σ.sl i
def St.box (σ : St) (k : Nat) : Box := nth box0 σ.bx k

/-- What an operation may do to the state. -/
inductive Upd where
  | sl (i : Nat) (a : AV)
  | bx (k : Nat) (fresh : Bool) (d : DV)

def St.do1 (σ : St) : Upd → St
  | .sl i a => ⟨upd σ.sl i ⟨a, (nth slot0 σ.sl i).n + 1⟩, σ.bx⟩
  | .bx k fresh d => ⟨σ.sl, match nth box0 σ.bx k with
      | ⟨g, n, _⟩ => upd σ.bx k (match fresh with
        | true => ⟨g + 1, 0, some d⟩
        | false => ⟨g, n + 1, some d⟩)⟩

def St.app (σ : St) : List Upd → St
  | [] => σ
  | u :: l => (σ.do1 u).app l

/-! ### What an operand shows -/
inductive OV where
  | any
  | und
  | data (t : Ty) (x : t.den)
  | own (s n : Nat) (t : Ty) (xs : List t.den)
  | ownb (k : Nat) (p : List Stp) (t : Ty) (xs : List t.den) (d : DV)
  | ptr (k g : Nat) (p : List Stp) (d : DV)
  | vptr (s n : Nat) (t : Ty) (xs : List t.den) (i : Int) (p : List Stp)
  | bsl (k g : Nat) (p : List Stp) (lo hi : Int) (d : DV)
  | mref (k g : Nat) (d : DV)
  | nil
  | fn (f : FuncId) (cs : List OV)
  | tup (vs : List DV)

/-- A slot's content, its borrowings looked up (a function value's own captured ones are not looked into). -/
def look0 (σ : St) (s : Nat) : AV → OV
  | .any => .any
  | .und => .und
  | .data t x => .data t x
  | .vec t xs => .own s (nth slot0 σ.sl s).n t xs
  | .bor r n t xs => match Nat.beq (nth slot0 σ.sl r).n n with
    | true => .own r n t xs
    | false => .any
  | .bbor k g n p t xs => match nth box0 σ.bx k with
    | ⟨g', n', some d⟩ => match Nat.beq g g' && Nat.beq n n' with
      | true => .ownb k p t xs d
      | false => .any
    | _ => .any
  | .ptr k g p => match nth box0 σ.bx k with
    | ⟨g', _, some d⟩ => match Nat.beq g g' with
      | true => .ptr k g p d
      | false => .any
    | _ => .any
  | .vptr r n t xs i p => match Nat.beq (nth slot0 σ.sl r).n n with
    | true => .vptr r n t xs i p
    | false => .any
  | .bsl k g p lo hi => match nth box0 σ.bx k with
    | ⟨g', _, some d⟩ => match Nat.beq g g' with
      | true => .bsl k g p lo hi d
      | false => .any
    | _ => .any
  | .mref k g => match nth box0 σ.bx k with
    | ⟨g', _, some d⟩ => match Nat.beq g g' with
      | true => .mref k g d
      | false => .any
    | _ => .any
  | .nil => .nil
  | .fn _ _ => .any
  | .tup vs => .tup vs

/-- What a function value has captured. -/
def lookS (σ : St) : AV → OV
  | .data t x => .data t x
  | .ptr k g p => look0 σ 0 (.ptr k g p)
  | .nil => .nil
  | _ => .any

def look (σ : St) (s : Nat) : AV → OV
  | .fn f cs => .fn f (cs.map (lookS σ))
  | a => look0 σ s a

def constOV : Value → OV
  | .int k n => .data (.int k) n
  | .bool b => .data .bool b
  | .string s => .data .str s
  | .slice none 0 0 => .nil
  | _ => .any

/-! ### The surroundings: types, constant variables, contracts -/
inductive PTy where
  | v (t : Ty)
  | fn (f : FuncId) (cs : List Ty)

inductive RTy where
  | v (t : Ty)
  | o (t : Ty)
  | fn (f : FuncId) (cs : List Ty)

@[reducible] def TDen : List Ty → Type
  | [] => Unit
  | t :: ts => t.den × TDen ts

@[reducible] def RTy.den : RTy → Type
  | .v t => t.den
  | .o t => List t.den
  | .fn _ cs => TDen cs

@[reducible] def RDen : List RTy → Type
  | [] => Unit
  | [r] => r.den
  | r :: s :: rs => r.den × RDen (s :: rs)

@[reducible] def PTy.den : PTy → Type
  | .v t => t.den
  | .fn _ cs => TDen cs

@[reducible] def PDen : List PTy → Type
  | [] => Unit
  | t :: ts => t.den × PDen ts

structure Con where
  ps : List PTy
  rs : List RTy
  f : PDen ps → Option (RDen rs)

/-- An iterator: what it has captured, what it hands to yield, and which elements. -/
structure Itr where
  cs : List Ty
  es : List Ty
  f : TDen cs → Option (List (TDen es))

structure Env where
  ty : TypeId → Option Ty
  mp : TypeId → Option (IntKind × IntKind)
  nf : TypeId → Nat
  gl : Nat → Option DV
  con : FuncId → Option Con
  it : FuncId → Option Itr

def view (e : Env) (σ : St) : Operand → OV
  | .tmp t => look σ t (nth slot0 σ.sl t).av
  | .const v => constOV v
  | .global g => match e.gl g with
    | some d => .data (.ref d.t) d.x
    | none => .any
  | .func f => .fn f []

end Go.Q

/- The value machine: the evaluator. -/
set_option linter.unusedVariables false
namespace Go.Q
open Go

/-! ### Arithmetic -/
/-- Comparisons that stand still, and quickly, at what isn't known. -/
def ltI (x y : Int) : Bool :=
  match x, y with
  | .ofNat a, .ofNat b => Nat.ble (a + 1) b
  | .ofNat _, .negSucc _ => false
  | .negSucc _, .ofNat _ => true
  | .negSucc a, .negSucc b => Nat.ble (b + 1) a
def leI (x y : Int) : Bool :=
  match x, y with
  | .ofNat a, .ofNat b => Nat.ble a b
  | .ofNat _, .negSucc _ => false
  | .negSucc _, .ofNat _ => true
  | .negSucc a, .negSucc b => Nat.ble b a
def eqI (x y : Int) : Bool :=
  match x, y with
  | .ofNat a, .ofNat b => Nat.beq a b
  | .ofNat _, .negSucc _ => false
  | .negSucc _, .ofNat _ => false
  | .negSucc a, .negSucc b => Nat.beq a b
/-- An index in its range; a slice's bounds. -/
def inR (i : Int) (n : Int) : Bool := leI 0 i && ltI i n
def inB (l h n : Int) : Bool := leI 0 l && (leI l h && leI h n)
/-- Room for so many. -/
def room (n : Nat) : Bool := Nat.ble n 1073741824
def strRoom (n : Nat) : Bool := Nat.ble n 9223372036854775807

theorem ltI_eq (x y : Int) : ltI x y = decide (x < y) := by
  unfold ltI
  rw [Bool.eq_iff_iff]
  split <;> simp <;> omega
theorem leI_eq (x y : Int) : leI x y = decide (x ≤ y) := by
  unfold leI
  rw [Bool.eq_iff_iff]
  split <;> simp <;> omega
theorem eqI_eq (x y : Int) : eqI x y = decide (x = y) := by
  unfold eqI
  rw [Bool.eq_iff_iff]
  split <;> simp <;> omega
theorem inR_eq (i n : Int) : inR i n = decide (0 ≤ i ∧ i < n) := by
  unfold inR; rw [leI_eq, ltI_eq, Bool.eq_iff_iff]; simp
theorem inB_eq (l h n : Int) : inB l h n = decide (0 ≤ l ∧ l ≤ h ∧ h ≤ n) := by
  unfold inB; rw [leI_eq, leI_eq, leI_eq, Bool.eq_iff_iff]; simp
theorem room_eq (n : Nat) : room n = decide (n ≤ 1073741824) := by
  unfold room; rw [Bool.eq_iff_iff]; simp
theorem strRoom_eq (n : Nat) : strRoom n = decide (n ≤ 9223372036854775807) := by
  unfold strRoom; rw [Bool.eq_iff_iff]; simp
def bitAnd (k : IntKind) (x y : Int) : Int := k.wrap ((BitVec.ofInt k.bits x &&& BitVec.ofInt k.bits y).toNat : Int)
def bitOr (k : IntKind) (x y : Int) : Int := k.wrap ((BitVec.ofInt k.bits x ||| BitVec.ofInt k.bits y).toNat : Int)
def bitXor (k : IntKind) (x y : Int) : Int := k.wrap ((BitVec.ofInt k.bits x ^^^ BitVec.ofInt k.bits y).toNat : Int)
def bitAndNot (k : IntKind) (x y : Int) : Int := k.wrap ((BitVec.ofInt k.bits x &&& ~~~BitVec.ofInt k.bits y).toNat : Int)
def shlI (k : IntKind) (x y : Int) : Int := k.wrap (x * 2 ^ (min y.toNat k.bits))
def shrI (k : IntKind) (x y : Int) : Int := x.fdiv (2 ^ (min y.toNat k.bits))
def minI (x y : Int) : Int := if y < x then y else x
def maxI (x y : Int) : Int := if x < y then y else x
def bt (s : ByteArray) (i : Int) : Int := ((s.data.toList.getD i.toNat 0).toNat : Int)
def bytesOf (s : ByteArray) : List Int := s.data.toList.map fun b => (b.toNat : Int)
def mkStr (xs : List Int) : ByteArray := ⟨(xs.map fun n => UInt8.ofNat n.toNat).toArray⟩
def strEq (a b : ByteArray) : Bool := a.toList == b.toList

def listBeq {α : Type} (f : α → α → Bool) : List α → List α → Bool
  | [], [] => true
  | a :: as, b :: bs => f a b && listBeq f as bs
  | _, _ => false

def Ty.beq : (t : Ty) → t.den → t.den → Bool
  | .int _, x, y => eqI x y
  | .bool, x, y => x == y
  | .str, x, y => strEq x y
  | .unit, _, _ => true
  | .one t, x, y => t.beq x y
  | .pair a b, x, y => a.beq x.1 y.1 && b.beq x.2 y.2
  | .arr _ t, x, y => listBeq t.beq x y
  | _, _, _ => false

/-- May its values be compared? -/
def Ty.cmp : Ty → Bool
  | .int _ => true
  | .bool => true
  | .str => true
  | .arr _ t => t.cmp
  | .one t => t.cmp
  | .pair a b => a.cmp && b.cmp
  | _ => false

/-- Compared by the type's own equality. -/
def Ty.cmpA : Ty → Bool
  | .bool => true
  | .arr _ t => t.cmp
  | .one t => t.cmp
  | .pair a b => a.cmp && b.cmp
  | _ => false

variable {R : Type}

def evInt (op : BinOp) (ka : IntKind) (x : Int) (kb : IntKind) (y : Int) (k : AV → Option R) : Option R :=
  match op with
  | .shl => if ltI y 0 = true then none else k (.data (.int ka) (shlI ka x y))
  | .shr => if ltI y 0 = true then none else k (.data (.int ka) (shrI ka x y))
  | _ => match ikb ka kb with
    | false => none
    | true => match op with
      | .add => k (.data (.int ka) (ka.wrap (x + y)))
      | .sub => k (.data (.int ka) (ka.wrap (x - y)))
      | .mul => k (.data (.int ka) (ka.wrap (x * y)))
      | .quo => if eqI y 0 = true then none else k (.data (.int ka) (ka.wrap (x.tdiv y)))
      | .rem => if eqI y 0 = true then none else k (.data (.int ka) (x.tmod y))
      | .and => k (.data (.int ka) (bitAnd ka x y))
      | .or => k (.data (.int ka) (bitOr ka x y))
      | .xor => k (.data (.int ka) (bitXor ka x y))
      | .andNot => k (.data (.int ka) (bitAndNot ka x y))
      | .eql => k (.data .bool (eqI x y))
      | .neq => k (.data .bool (!eqI x y))
      | .lss => k (.data .bool (ltI x y))
      | .leq => k (.data .bool (leI x y))
      | .gtr => k (.data .bool (ltI y x))
      | .geq => k (.data .bool (leI y x))
      | _ => none

def evStr (op : BinOp) (x y : ByteArray) (k : AV → Option R) : Option R :=
  match op with
  | .add => if strRoom (x.size + y.size) = true then k (.data .str (x ++ y)) else none
  | .eql => k (.data .bool (strEq x y))
  | .neq => k (.data .bool (!strEq x y))
  | _ => none

def chkE (T : Option Ty) (u : Ty) : Bool :=
  match T with
  | some t => Ty.eqb t u
  | none => false

def evBin (T : Option Ty) (op : BinOp) (a b : OV) (k : AV → Option R) : Option R :=
  match a, b with
  | .data (.int ka) x, .data (.int kb) y => evInt op ka x kb y k
  | .data .str x, .data .str y => evStr op x y k
  | .data t x, .data u y => match coe? u t y with
    | some z => match t.cmpA && chkE T t with
      | true => match op with
        | .eql => k (.data .bool (t.beq x z))
        | .neq => k (.data .bool (!t.beq x z))
        | _ => none
      | false => none
    | none => none
  | _, _ => none

def evUn (op : UnOp) (a : OV) (k : AV → Option R) : Option R :=
  match op, a with
  | .neg, .data (.int ka) x => k (.data (.int ka) (ka.wrap (0 - x)))
  | .xor, .data (.int ka) x => k (.data (.int ka) (bitXor ka (if ka.signed then -1 else ka.max) x))
  | .not, .data .bool b => k (.data .bool (!b))
  | _, _ => none

/-! ### Operands as data -/
/-- The elements lo to hi of an array inside a variable. -/
def slOf (d : DV) (p : List Stp) (lo hi : Int) (u : Ty) : Option (List u.den) :=
  match getP p d.t d.x with
  | some ⟨.arr n t, xs⟩ => match cast? (.list t) (.list u) ((List.take (hi - lo).toNat (List.drop lo.toNat xs))) with
    | some ys => some ys
    | none => none
  | _ => none

/-- Read as data of a type, nothing changed: for the time of one operation. -/
def asB (t : Ty) : OV → Option t.den
  | .data u x => coe? u t x
  | .own _ _ u xs => coe? (.list u) t xs
  | .ownb _ _ u xs _ => coe? (.list u) t xs
  | .nil => match t with
    | .list _ => some []
    | .full _ => some []
    | _ => none
  | .bsl _ _ p lo hi d => match t with
    | .list u => slOf d p lo hi u
    | _ => none
  | .ptr _ _ p d => match t with
    | .ref u => match getP p d.t d.x with
      | some ⟨v, x⟩ => match v.pure with
        | true => coe? v u x
        | false => none
      | none => none
    | _ => none
  | _ => none

/-- Taken as data of a type for good. -/
def asD (t : Ty) : OV → Option (t.den × List Upd)
  | .data u x => match coe? u t x with
    | some y => some (y, [])
    | none => none
  | .nil => match t with
    | .list _ => some ([], [])
    | .full _ => some ([], [])
    | .nil _ => some ((), [])
    | _ => none
  | _ => none

/-- An owned slice, taken over: its elements' type is told (for nil). -/
def asO (u : Ty) : OV → Option (List u.den × List Upd)
  | .own s _ v xs => match cast? (.list v) (.list u) xs with
    | some ys => some (ys, [.sl s .any])
    | none => none
  | .nil => some ([], [])
  | .data (.nil _) _ => some ([], [])
  | _ => none

def OV.toAV : OV → AV
  | .data t x => .data t x
  | .ptr k g p _ => .ptr k g p
  | .nil => .nil
  | _ => .any

/-- Is the operation's type the part's? -/
def chk (T : Option Ty) (u : Ty) : Bool :=
  match T with
  | some t => Ty.eqb t.erase u.erase
  | none => false

/-! ### The operations -/
def sets (d : Option Tmp) (a : AV) : List Upd :=
  match d with
  | some t => [.sl t a]
  | none => []

/-- The path of field j of n. -/
def fpath' : Nat → Nat → List Stp
  | 0, _ => []
  | 1, _ => []
  | _ + 2, 0 => [.f]
  | n + 2, j + 1 => .s :: fpath' (n + 1) j

def fpath : Nat → Nat → List Stp
  | 1, _ => [.o]
  | n, j => fpath' n j

def asI : OV → Option Int
  | .data (.int _) x => some x
  | _ => none

/-- A bound that may be left out. -/
def bnd (v : Operand → OV) (d : Int) : Option Operand → Option Int
  | none => some d
  | some x => asI (v x)

def evSliceB (v : Operand → OV) (len : Int) (lo hi : Option Operand) (k : Int → Int → Option R) : Option R :=
  match bnd v 0 lo with
  | none => none
  | some l => match bnd v len hi with
    | none => none
    | some h => if inB l h len = true then k l h else none

def cut {α : Type} (xs : List α) (l h : Int) : List α := List.take (h - l).toNat (List.drop l.toNat xs)

def evSlice (T : Option Ty) (v : Operand → OV) (x : Operand) (lo hi mx : Option Operand) (dst : Option Tmp) (k : List Upd → Option R) : Option R :=
  match v x with
  | .data .str s => match (match chk T .str with | true => mx | false => some x) with
    | none => evSliceB v s.size lo hi fun l h => k (sets dst (.data .str (s.extract l.toNat h.toNat)))
    | some _ => none
  | .data (.list t) xs => match chk T (.list t) with
   | false => none
   | true => match mx with
    | none => evSliceB v xs.length lo hi fun l h => k (sets dst (.data (.list t) (cut xs l h)))
    | some m => match asI (v m), hi with
      | some m', some _ => evSliceB v xs.length lo hi fun l h => if eqI h m' = true then k (sets dst (.data (.full t) (cut xs l h))) else none
      | _, _ => none
  | .data (.full t) xs => match chk T (.list t) with
   | false => none
   | true => match mx with
    | none => evSliceB v xs.length lo hi fun l h => k (sets dst (.data (.list t) (cut xs l h)))
    | some _ => none
  | .own s _ t xs => match chk T (.list t) with
   | false => none
   | true => match mx with
    | none => evSliceB v xs.length lo hi fun l h => k (.sl s (.data (.list t) xs) :: sets dst (.data (.list t) (cut xs l h)))
    | some m => match asI (v m), hi with
      | some m', some _ => evSliceB v xs.length lo hi fun l h => if eqI h m' = true then k (.sl s (.data (.list t) xs) :: sets dst (.data (.full t) (cut xs l h))) else none
      | _, _ => none
  | .ptr b g p d => match mx with
    | none => match getP p d.t d.x with
      | some ⟨.arr n t, _⟩ => match chk T (.arr n t) with
        | true => evSliceB v n lo hi fun l h => k (sets dst (.bsl b g p l h))
        | false => none
      | _ => none
    | some _ => none
  | .bsl b g p l0 h0 d => match mx with
    | none => match getP p d.t d.x with
      | some ⟨.arr n t, _⟩ => match chk T (.list t) with
       | false => none
       | true => evSliceB v (h0 - l0) lo hi fun l h => k (sets dst (.bsl b g p (l0 + l) (l0 + h)))
      | _ => none
    | some _ => none
  | .data (.ref (.arr n t)) xs => match chk T (.arr n t) with
   | false => none
   | true => match mx with
    | none => evSliceB v n lo hi fun l h => k (sets dst (.data (.list t) (cut xs l h)))
    | some _ => none
  | _ => none

def evIndexAddr (T : Option Ty) (a i : OV) (k : AV → Option R) : Option R :=
  match asI i with
  | none => none
  | some n => match a with
    | .ptr b g p d => match getP p d.t d.x with
      | some ⟨.arr m t, _⟩ => match chk T (.arr m t) with
        | true => if inR n (m : Int) = true then k (.ptr b g (p ++ [.i n])) else none
        | false => none
      | _ => none
    | .data (.list t) xs => match chk T (.list t) with
      | true => if inR n (xs.length : Int) = true then k (.data (.ref t) (nthD t xs n)) else none
      | false => none
    | .data (.full t) xs => match chk T (.list t) with
      | true => if inR n (xs.length : Int) = true then k (.data (.ref t) (nthD t xs n)) else none
      | false => none
    | .data (.ref (.arr m t)) xs => match chk T (.arr m t) with
      | true => if inR n (m : Int) = true then k (.data (.ref t) (nthD t xs n)) else none
      | false => none
    | .own s c t xs => match chk T (.list t) with
      | true => if inR n (xs.length : Int) = true then k (.vptr s c t xs n []) else none
      | false => none
    | .bsl b g p lo hi d => match getP p d.t d.x with
      | some ⟨.arr _ t, _⟩ => match chk T (.list t) with
        | true => if inR n (hi - lo) = true then k (.ptr b g (p ++ [.i (lo + n)])) else none
        | false => none
      | _ => none
    | _ => none

/-- What is loaded out of a variable: an owned slice is taken out of it; with owned slices inside, they are given up. -/
def loadB (b : Nat) (p : List Stp) (d : DV) (k : List Upd → AV → Option R) : DV → Option R
  | ⟨.vec u, xs⟩ => match setP p d.t d.x ⟨.dead u, ()⟩ with
    | some d' => k [.bx b false d'] (.vec u xs)
    | none => none
  | _ => match p with
    | [] => match d.t.fz.pure with
      | true => k [.bx b false ⟨d.t.fz, fzV d.t d.x⟩] (.data d.t.fz (fzV d.t d.x))
      | false => none
    | _ => none

def evLoad (T : Option Ty) (a : OV) (k : List Upd → AV → Option R) : Option R :=
  match a with
  | .ptr b c p d => match getP p d.t d.x with
    | some ⟨t, x⟩ => match chk T t with
      | true => match t.pure with
        | true => k [] (.data t x)
        | false => loadB b p d k ⟨t, x⟩
      | false => none
    | none => none
  | .data (.ref t) x => match chk T t with
    | true => k [] (.data t x)
    | false => none
  | .vptr _ _ t xs i p => match getP p t (nthD t xs i) with
    | some ⟨u, x⟩ => match chk T u with
      | true => k [] (.data u x)
      | false => none
    | none => none
  | _ => none

def evFieldAddr (T : Option Ty) (nf j : Nat) (a : OV) (k : AV → Option R) : Option R :=
  match Nat.ble (j + 1) nf with
  | false => none
  | true => match a with
  | .ptr b g p d => match getP p d.t d.x with
    | some ⟨u, _⟩ => match chk T u with
      | true => k (.ptr b g (p ++ fpath nf j))
      | false => none
    | none => none
  | .data (.ref t) x => match chk T t with
    | true => match getP (fpath nf j) t x with
      | some ⟨u, y⟩ => k (.data (.ref u) y)
      | none => none
    | false => none
  | .vptr s n t xs i p => match getP p t (nthD t xs i) with
    | some ⟨u, _⟩ => match chk T u with
      | true => k (.vptr s n t xs i (p ++ fpath nf j))
      | false => none
    | none => none
  | _ => none

/-- What is stored: data, or an owned slice with what becomes of its owner. -/
def asS (t : Ty) : OV → Option (DV × List Upd)
  | .data u x => some (⟨u, x⟩, [])
  | .nil => match t with
    | .list u => some (⟨.nil u, ()⟩, [])
    | _ => none
  | _ => none

def evStore (t : Option Ty) (a x : OV) (k : List Upd → Option R) : Option R :=
  match t with
  | none => none
  | some t => match asS t x with
    | none => none
    | some (y, us) => match chk (some t) y.t with
     | false => none
     | true => match a with
      | .ptr b _ p d => match setP p d.t d.x y with
        | some d' => k (us ++ [.bx b false d'])
        | none => none
      | _ => none

def fillF (nf : Nat) (v : Operand → OV) (ft : List Stp → Option Ty) : List (Nat × Operand) → DV → List Upd → Option (DV × List Upd)
  | [], d, us => some (d, us)
  | (j, x) :: l, d, us => match Nat.ble (j + 1) nf with
    | false => none
    | true => match ft (fpath nf j) with
      | none => none
      | some t => match asD t (v x) with
        | none => none
        | some (y, vs) => match setP (fpath nf j) d.t d.x ⟨t, y⟩ with
          | none => none
          | some d' => fillF nf v ft l d' (us ++ vs)

def tyAt (t : Ty) (p : List Stp) : Option Ty := match getP p t t.zero with
  | some ⟨u, _⟩ => some u
  | none => none

def fillA (v : Operand → OV) (n : Nat) (t : Ty) : List (Nat × Operand) → List t.den → List Upd → Option (List t.den × List Upd)
  | [], xs, us => some (xs, us)
  | (j, x) :: l, xs, us => match Nat.ble (j + 1) n with
    | false => none
    | true => match asD t (v x) with
      | none => none
      | some (y, vs) => fillA v n t l (upd xs j y) (us ++ vs)

def evBuild (nf : Nat) (t : Option Ty) (v : Operand → OV) (parts : List (Nat × Operand)) (dst : Option Tmp) (k : List Upd → Option R) : Option R :=
  match t with
  | none => none
  | some (.arr n t) => match fillA v n t parts (List.replicate n t.zero) [] with
    | some (xs, us) => k (us ++ sets dst (.data (.arr n t) xs))
    | none => none
  | some t => match t.agg with
    | false => none
    | true => match fillF nf v (tyAt t) parts ⟨t.up, t.up.zero⟩ [] with
      | some (⟨u, x⟩, us) => k (us ++ sets dst (.data u x))
      | none => none

def evBuildSlice (t : Option Ty) (v : Operand → OV) (len : Nat) (parts : List (Nat × Operand)) (dst : Option Tmp) (k : List Upd → Option R) : Option R :=
  match t with
  | some (.list t) => match Nat.ble (len * t.sz) 16777216 with
    | false => none
    | true => match fillA v len t parts (List.replicate len t.zero) [] with
      | some (xs, us) => k (us ++ sets dst (.vec t xs))
      | none => none
  | _ => none

def evLen (T : Option Ty) (a : OV) (k : AV → Option R) : Option R :=
  let out (n : Int) : Option R := k (.data (.int .i64) n)
  match T with
  | some .str => match a with
    | .data .str s => out s.size
    | _ => none
  | some (.list _) => match a with
    | .data (.list _) xs => out xs.length
    | .data (.full _) xs => out xs.length
    | .data (.nil _) _ => out 0
    | .own _ _ _ xs => out xs.length
    | .ownb _ _ _ xs _ => out xs.length
    | .bsl _ _ _ lo hi _ => out (hi - lo)
    | .nil => out 0
    | _ => none
  | some (.arr n _) => out n
  | _ => none

/-- No number: append of a made slice is another matter. -/
def noInt : Option Ty → Bool
  | some .str => true
  | some (.list _) => true
  | _ => false

/-- append(s, x...): what x holds. -/
def srcA (u : Ty) (x : OV) : Option (List u.den × List Upd) :=
  match x with
  | .data .str y => match cast? (.list (.int .u8)) (.list u) (bytesOf y) with
    | some ys => some (ys, [])
    | none => none
  | x => match u.flat with
    | true => match asB (.list u) x with
      | some ys => some (ys, [])
      | none => none
    | false => asD (.list u) x

def evAppend (t t1 : Option Ty) (s x : OV) (dst : Option Tmp) (k : List Upd → Option R) : Option R :=
  match noInt t1 with
  | false => none
  | true => match t with
  | some (.list u) => match srcA u x with
    | none => none
    | some (ys, us) => match s with
      | .data (.full w) xs => match cast? (.list w) (.list u) xs with
        | some xs' => if room (xs'.length + ys.length) = true then k (us ++ sets dst (.data (.list u) (xs' ++ ys))) else none
        | none => none
      | s => match asO u s with
        | some (xs, vs) => if room (xs.length + ys.length) = true then k (us ++ vs ++ sets dst (.vec u (xs ++ ys))) else none
        | none => none
  | _ => none

def srcC (u : Ty) (x : OV) : Option (List u.den) :=
  match x with
  | .data .str y => cast? (.list (.int .u8)) (.list u) (bytesOf y)
  | x => asB (.list u) x

def evCopy (t : Option Ty) (a x : OV) (dst : Option Tmp) (k : List Upd → Option R) : Option R :=
  match t with
  | some (.list u) => match srcC u x with
    | none => none
    | some ys => match u.flat with
      | false => none
      | true => match a with
        | .bsl b _ p lo hi d => match getP p d.t d.x with
          | some ⟨.arr m w, xs⟩ => match cast? (.list u) (.list w) ys with
            | some zs => match setP p d.t d.x ⟨.arr m w, List.take lo.toNat xs ++ (List.take (hi - lo).toNat zs ++ List.drop (lo.toNat + min (hi - lo).toNat zs.length) xs)⟩ with
              | some d' => k (.bx b false d' :: sets dst (.data (.int .i64) (min (hi - lo) (zs.length : Int))))
              | none => none
            | none => none
          | _ => none
        | _ => none
  | _ => none

def evMin (mx : Bool) (a b : OV) (k : AV → Option R) : Option R :=
  match a, b with
  | .data (.int ka) x, .data (.int kb) y => match ikb ka kb with
    | true => k (.data (.int ka) (match mx with
      | true => maxI x y
      | false => minI x y))
    | false => none
  | _, _ => none

def evConvert (same : Bool) (s d : Option Ty) (a : OV) (dst : Option Tmp) (k : List Upd → Option R) : Option R :=
  match s with
  | none => none
  | some s => match a, d with
  | .data (.int _) n, some (.int kd) => k (sets dst (.data (.int kd) (kd.wrap n)))
  | .data .str x, some (.list (.int .u8)) => k (sets dst (.vec (.int .u8) (bytesOf x)))
  | .data .str x, some .str => k (sets dst (.data .str x))
  | .own r _ u xs, some (.list (.int .u8)) => match same with
    | true => if Nat.ble 1 xs.length = true then k (.sl r .any :: sets dst (.vec u xs)) else none
    | false => none
  | a, some .str => match s with
    | .list (.int .u8) => match asB (.list (.int .u8)) a with
      | some xs => k (sets dst (.data .str (mkStr xs)))
      | none => none
    | _ => none
  | _, _ => none

/-! ### Calls -/
/-- May the arguments be lent, so that the results hold nothing of them? -/
def lent : List RTy → Bool
  | [] => true
  | .v t :: l => t.flat && lent l
  | .o t :: l => t.flat && lent l
  | .fn _ _ :: _ => false

def argsB : (ts : List Ty) → List OV → Option (TDen ts)
  | [], [] => some ()
  | [], _ :: _ => none
  | t :: ts, a :: as => match asB t a with
    | some x => match argsB ts as with
      | some l => some (x, l)
      | none => none
    | none => none
  | _ :: _, [] => none

def parsB : (ps : List PTy) → List OV → Option (PDen ps)
  | [], [] => some ()
  | .v t :: ps, a :: as => match asB t a with
    | some x => match parsB ps as with
      | some l => some (x, l)
      | none => none
    | none => none
  | .fn f cs :: ps, .fn g bs :: as => match Nat.beq f g with
    | true => match argsB cs bs with
      | some x => match parsB ps as with
        | some l => some (x, l)
        | none => none
      | none => none
    | false => none
  | _, _ => none

def parsD : (ps : List PTy) → List OV → Option (PDen ps × List Upd)
  | [], [] => some ((), [])
  | .v t :: ps, a :: as => match asD t a with
    | some (x, us) => match parsD ps as with
      | some (l, vs) => some ((x, l), us ++ vs)
      | none => none
    | none => none
  | _, _ => none

def resDV : (rs : List RTy) → RDen rs → Option (List DV)
  | [], _ => some []
  | [.v t], x => some [⟨t, x⟩]
  | [.o _], _ => none
  | .fn _ _ :: _, _ => none
  | .v t :: s :: rs, x => match resDV (s :: rs) x.2 with
    | some l => some (⟨t, x.1⟩ :: l)
    | none => none
  | .o _ :: _ :: _, _ => none

/-- Data that a function value has captured. -/
def capV : (ts : List Ty) → TDen ts → List AV
  | [], _ => []
  | t :: ts, x => .data t x.1 :: capV ts x.2

def resAV : (rs : List RTy) → RDen rs → Option AV
  | [], _ => some (.tup [])
  | [.v t], x => some (.data t x)
  | [.o t], xs => some (.vec t xs)
  | [.fn f cs], x => some (.fn f (capV cs x))
  | rs, x => match resDV rs x with
    | some l => some (.tup l)
    | none => none

def evCall (c : Con) (as : List OV) (dst : Option Tmp) (k : List Upd → Option R) : Option R :=
  match lent c.rs with
  | true => match parsB c.ps as with
    | some x => (c.f x).bind fun y => match resAV c.rs y with
      | some a => k (sets dst a)
      | none => none
    | none => none
  | false => match parsD c.ps as with
    | some (x, us) => (c.f x).bind fun y => match resAV c.rs y with
      | some a => k (us ++ sets dst a)
      | none => none
    | none => none

/-! ### One operation -/
def evMove (t : Option Ty) (x : OV) (asg : Bool) (dst : Option Tmp) (k : List Upd → Option R) : Option R :=
  match x with
  | .own s n u xs => match asg with
    | false => k (sets dst (.bor s n u xs))
    | true => k (.sl s .any :: sets dst (.vec u xs))
  | .data u x => k (sets dst (.data u x))
  | .ptr b g p _ => k (sets dst (.ptr b g p))
  | .bsl b g p lo hi _ => k (sets dst (.bsl b g p lo hi))
  | .mref b g _ => k (sets dst (.mref b g))
  | .nil => match t with
    | some (.list u) => match asg with
      | true => k (sets dst (.vec u []))
      | false => k (sets dst .nil)
    | _ => k (sets dst .nil)
  | .fn f cs => k (sets dst (.fn f (cs.map OV.toAV)))
  | .tup vs => k (sets dst (.tup vs))
  | .any => k (sets dst .any)
  | _ => none

/-- A map from integers to integers. -/
def mget : List (Int × Int) → Int → Option Int
  | [], _ => none
  | (a, b) :: l, n => if eqI n a = true then some b else mget l n
def mput : List (Int × Int) → Int → Int → List (Int × Int)
  | [], n, x => [(n, x)]
  | (a, b) :: l, n, x => if eqI n a = true then (n, x) :: l else (a, b) :: mput l n x
def mhas (m : List (Int × Int)) (n : Int) : Bool := (mget m n).isSome
def mgetD (m : List (Int × Int)) (n : Int) : Int := (mget m n).getD 0

def evLookup (kk ek : IntKind) (m i : OV) (ok : Bool) (k : AV → Option R) : Option R :=
  match m, i with
  | .mref _ _ ⟨.mp kk' ek', x⟩, .data (.int ik) n => match ikb kk kk' && (ikb ek ek' && ikb kk ik) with
    | true => match ok with
      | true => k (.tup [⟨.int ek, mgetD x n⟩, ⟨.bool, mhas x n⟩])
      | false => k (.data (.int ek) (mgetD x n))
    | false => none
  | _, _ => none

def evMapUpdate (kk ek : IntKind) (m i x : OV) (k : List Upd → Option R) : Option R :=
  match m, i, x with
  | .mref b _ ⟨.mp kk' ek', y⟩, .data (.int ik) n, .data (.int xk) z => match (ikb kk kk' && ikb ek ek') && (ikb kk ik && ikb ek xk) with
    | true => k [.bx b false ⟨.mp kk ek, mput y n z⟩]
    | false => none
  | _, _, _ => none

def evOp (e : Env) (v : Operand → OV) (bxs : Nat → Box) (o : Oper) (k : List Upd → Option R) : Option R :=
  match o.op with
  | .move x => evMove (e.ty o.type) (v x) false o.dst k
  | .assign x => evMove (e.ty o.type) (v x) true o.dst k
  | .pick c a b => match v c with
    | .data .bool x => if x = true then evMove (e.ty o.type) (v a) false o.dst k else evMove (e.ty o.type) (v b) false o.dst k
    | _ => none
  | .alloc t => match e.ty t, o.dst with
    | some u, some d => match bxs d with
      | ⟨g, _, _⟩ => k [.bx d true ⟨u.up, u.up.zero⟩, .sl d (.ptr d (g + 1) [])]
    | _, _ => none
  | .box t x => match e.ty t, o.dst with
    | some u, some d => match bxs d with
      | ⟨g, _, _⟩ => match asS u (v x) with
        | some (y, us) => k (us ++ [.bx d true y, .sl d (.ptr d (g + 1) [])])
        | none => none
    | _, _ => none
  | .makeMap t none => match e.mp t, o.dst with
    | some (kk, ek), some d => match bxs d with
      | ⟨g, _, _⟩ => k [.bx d true ⟨.mp kk ek, []⟩, .sl d (.mref d (g + 1))]
    | _, _ => none
  | .lookup t x i ok => match e.mp t with
    | some (kk, ek) => evLookup kk ek (v x) (v i) ok fun a => k (sets o.dst a)
    | none => none
  | .mapUpdate t m i x => match o.dst, e.mp t with
    | none, some (kk, ek) => evMapUpdate kk ek (v m) (v i) (v x) k
    | _, _ => none
  | .build t ps => evBuild (e.nf t) (e.ty t) v ps.toList o.dst k
  | .buildSlice t n ps => evBuildSlice (e.ty t) v n ps.toList o.dst k
  | .load t a => evLoad (e.ty t) (v a) fun us x => k (us ++ sets o.dst x)
  | .store t a x => match o.dst with
    | none => evStore (e.ty t) (v a) (v x) k
    | some _ => none
  | .binOp op t x y _ => evBin (e.ty t) op (v x) (v y) fun x => k (sets o.dst x)
  | .unOp op _ x => evUn op (v x) fun x => k (sets o.dst x)
  | .convert s d x => evConvert (Nat.beq s d) (e.ty s) (e.ty d) (v x) o.dst k
  | .sliceToArrayPointer t x => match e.ty t with
    | some (.arr n u) => match Nat.ble 1 n with
     | false => none
     | true => match v x with
      | .bsl b g p lo hi _ => if leI (n : Int) (hi - lo) = true then k (sets o.dst (.ptr b g (p ++ [.sub lo.toNat n]))) else none
      | x => match u.flat with
        | true => match x with
          | .data (.list w) xs => match cast? (.list w) (.list u) xs with
            | some ys => if leI (n : Int) (ys.length : Int) = true then k (sets o.dst (.data (.ref (.arr n u)) (List.take n ys))) else none
            | none => none
          | _ => none
        | false => none
    | _ => none
  | .makeFunc (.func f) first cs => match first.toList with
    | [] => k (sets o.dst (.fn f (cs.toList.map fun x => (v x).toAV)))
    | _ => none
  | .makeSlice t l c => match e.ty t, v l, v c with
    | some (.list u), .data (.int .i64) n, .data (.int .i64) m => if (eqI n m && inB 0 n 1073741824) = true then k (sets o.dst (.vec u (List.replicate n.toNat u.zero))) else none
    | _, _, _ => none
  | .slice t x lo hi mx => evSlice (e.ty t) v x lo hi mx o.dst k
  | .fieldAddr t x j => evFieldAddr (e.ty t) (e.nf t) j (v x) fun a => k (sets o.dst a)
  | .field t x j => match v x with
    | .data u y => match chk (e.ty t) u with
      | true => match Nat.ble (j + 1) (e.nf t) with
        | true => match getP (fpath (e.nf t) j) u y with
          | some ⟨w, z⟩ => k (sets o.dst (.data w z))
          | none => none
        | false => none
      | false => none
    | _ => none
  | .indexAddr t x i => evIndexAddr (e.ty t) (v x) (v i) fun a => k (sets o.dst a)
  | .index ty x i => match asI (v i) with
    | none => none
    | some n => match v x with
      | .data .str s => match chk (e.ty ty) .str with
        | true => if inR n (s.size : Int) = true then k (sets o.dst (.data (.int .u8) (bt s n))) else none
        | false => none
      | .data (.arr m t) xs => match chk (e.ty ty) (.arr m t) with
        | true => if inR n (m : Int) = true then k (sets o.dst (.data t (nthD t xs n))) else none
        | false => none
      | _ => none
  | .extract x j => match v x with
    | .tup l => match nth (none : Option DV) (l.map some) j with
      | some ⟨t, y⟩ => k (sets o.dst (.data t y))
      | none => none
    | _ => none
  | .call c => match c.callee with
    | .value f => match v f with
      | .fn g cs => match e.con g with
        | some c' => evCall c' (c.args.toList.map v ++ cs) o.dst k
        | none => none
      | _ => none
    | .builtin .len => match c.args.toList, c.argTypes.toList with
      | [x], t :: _ => evLen (e.ty t) (v x) fun a => k (sets o.dst a)
      | _, _ => none
    | .builtin .append => match c.args.toList, c.argTypes.toList with
      | [s, x], [t, t1] => evAppend (e.ty t) (e.ty t1) (v s) (v x) o.dst k
      | _, _ => none
    | .builtin .copy => match c.args.toList, c.argTypes.toList with
      | [s, x], t :: _ => evCopy (e.ty t) (v s) (v x) o.dst k
      | _, _ => none
    | .builtin .min => match c.args.toList with
      | [x, y] => evMin false (v x) (v y) fun a => k (sets o.dst a)
      | _ => none
    | .builtin .max => match c.args.toList with
      | [x, y] => evMin true (v x) (v y) fun a => k (sets o.dst a)
      | _ => none
    | _ => none
  | _ => none

/-! ### Regions -/
def avCells : AV → List Nat
  | .bor s _ _ _ => [2 * s]
  | .bbor k _ _ _ _ _ => [2 * k + 1]
  | .ptr k _ _ => [2 * k + 1]
  | .vptr s _ _ _ _ _ => [2 * s]
  | .bsl k _ _ _ _ => [2 * k + 1]
  | .mref k _ => [2 * k + 1]
  | _ => []

def avCells' : AV → List Nat
  | .fn _ cs => cs.flatMap avCells
  | a => avCells a

def rdCells (σ : St) : Operand → List Nat
  | .tmp t => (2 * t) :: avCells' (nth slot0 σ.sl t).av
  | _ => []

def wrCells : List Upd → List Nat
  | [] => []
  | .sl i _ :: l => (2 * i) :: wrCells l
  | .bx k _ _ :: l => (2 * k + 1) :: wrCells l

def findCon (g : Nat) : List (Nat × Con) → Option Con
  | [] => none
  | (i, c) :: l => match Nat.beq i g with
    | true => some c
    | false => findCon g l

def mkEnv (tys : List (Option Ty)) (nfs : List Nat) (mps : List (Option (IntKind × IntKind))) (gls : List (Option DV)) (cons : List (Nat × Con)) : Env :=
  ⟨fun t => nth none tys t, fun t => nth none mps t, fun t => nth 0 nfs t, fun g => nth none gls g, fun g => findCon g cons, fun _ => none⟩

def findIt (g : Nat) : List (Nat × Itr) → Option Itr
  | [] => none
  | (i, c) :: l => match Nat.beq i g with
    | true => some c
    | false => findIt g l

/-- With these iterators. -/
def Env.wi (e : Env) (l : List (Nat × Itr)) : Env := ⟨e.ty, e.mp, e.nf, e.gl, e.con, fun g => findIt g l⟩

structure Tr where
  i : Nat
  rd : List Nat
  wr : List Nat

def memN (n : Nat) : List Nat → Bool
  | [] => false
  | m :: l => Nat.beq n m || memN n l

def disj : List Nat → List Nat → Bool
  | [], _ => true
  | a :: l, m => !memN a m && disj l m

def trOk1 (bs : Array Nat) (a : Tr) : List Tr → Bool
  | [] => true
  | b :: l => ((bs.getD a.i 0).testBit b.i || (disj a.wr b.rd && disj a.wr b.wr && disj b.wr a.rd)) && trOk1 bs a l

/-- The trace, the last operation first: two operations that no edge orders don't touch one another. -/
def trOk (bs : Array Nat) : List Tr → Bool
  | [] => true
  | a :: l => trOk1 bs a l && trOk bs l

def dstBox (o : Oper) : List Nat :=
  match o.op, o.dst with
  | .alloc _, some d => [2 * d + 1]
  | .box _ _, some d => [2 * d + 1]
  | .makeMap _ _, some d => [2 * d + 1]
  | _, _ => []

def kget (t : Nat) : List (Nat × Bool) → Option Bool
  | [] => none
  | (s, b) :: l => match Nat.beq s t with
    | true => some b
    | false => kget t l

def kdrop (us : List Nat) : List (Nat × Bool) → List (Nat × Bool)
  | [] => []
  | (s, b) :: l => match memN (2 * s) us with
    | true => kdrop us l
    | false => (s, b) :: kdrop us l

/-- A test of a temporary, not made again where its answer is known. -/
def evTest (kn : List (Nat × Bool)) (t : Nat) (b : Bool) (kt kf : List (Nat × Bool) → Option R) : Option R :=
  match kget t kn with
  | some true => kt kn
  | some false => kf kn
  | none => if b = true then kt ((t, true) :: kn) else kf ((t, false) :: kn)

/-! ### Slices given up, that another thing may hold them -/
def frz1 (σ : St) : Operand → List Upd
  | .tmp t => match look σ t (nth slot0 σ.sl t).av with
    | .own s _ _ _ => match (nth slot0 σ.sl s).av with
      | .vec u xs => match Nat.beq s t with
        | true => [.sl s (.data (.list u) xs)]
        | false => [.sl s (.data (.list u) xs), .sl t (.data (.list u) xs)]
      | _ => []
    | _ => []
  | _ => []

def frzL : St → List Operand → List Upd
  | _, [] => []
  | σ, x :: l => match frz1 σ x with
    | [] => frzL σ l
    | u :: us => (u :: us) ++ frzL (σ.app (u :: us)) l

/-- What an operation keeps for good. -/
def frzOps (e : Env) (o : Oper) : List Operand :=
  match o.op with
  | .build _ ps => ps.toList.map (·.2)
  | .buildSlice _ _ ps => ps.toList.map (·.2)
  | .box _ x => [x]
  | .store _ _ x => [x]
  | .call c => match c.callee with
    | .value (.func g) => match e.con g with
      | some c' => match lent c'.rs with
        | true => []
        | false => c.args.toList
      | none => []
    | .builtin .append => match c.args.toList, c.argTypes.toList with
      | [_, x], t :: _ => match e.ty t with
        | some (.list u) => match u.flat with
          | true => []
          | false => [x]
        | _ => []
      | _, _ => []
    | _ => []
  | _ => []

/-- An owned slice put into a part of a variable that holds none: it stays owned. -/
def stB1 (x : OV) (b : Nat) (p : List Stp) (d : DV) : Option (List Upd) :=
  match x with
  | .own s _ u xs => match getP p d.t d.x with
    | some ⟨.nil _, _⟩ => match setP p d.t d.x ⟨.vec u, xs⟩ with
      | some d' => some [.sl s .any, .bx b false d']
      | none => none
    | some ⟨.dead _, _⟩ => match setP p d.t d.x ⟨.vec u, xs⟩ with
      | some d' => some [.sl s .any, .bx b false d']
      | none => none
    | _ => none
  | _ => none

def stB (e : Env) (v : Operand → OV) (o : Oper) : Option (List Upd) :=
  match o.op with
  | .store t a x => match o.dst with
    | none => match e.ty t with
      | some (.list _) => match v a with
        | .ptr b _ p d => stB1 (v x) b p d
        | _ => none
      | _ => none
    | some _ => none
  | _ => none

def evOp1 (e : Env) (σ : St) (o : Oper) (k : List Upd → Option R) : Option R :=
  match stB e (view e σ) o with
  | some us => k us
  | none => match frzL σ (frzOps e o) with
  | [] => evOp e (view e σ) (fun i => nth box0 σ.bx i) o k
  | u :: us => evOp e (view e (σ.app (u :: us))) (fun i => nth box0 σ.bx i) o fun vs => k ((u :: us) ++ vs)

/-- pick, its test known or made; all else by evOp. -/
def evOp' (e : Env) (σ : St) (kn : List (Nat × Bool)) (o : Oper) (k : List (Nat × Bool) → List Upd → Option R) : Option R :=
  match o.op with
  | .pick (.tmp t) a b => match look σ t (nth slot0 σ.sl t).av with
    | .data .bool x => evTest kn t x (fun kn => evMove (e.ty o.type) (view e σ a) false o.dst (k kn)) (fun kn => evMove (e.ty o.type) (view e σ b) false o.dst (k kn))
    | _ => none
  | _ => evOp1 e σ o (k kn)

def evStep (e : Env) (dsts : List (Option Tmp)) (σ : St) (kn : List (Nat × Bool)) (o : Oper) (k : List (Nat × Bool) → List Upd → Option R) : Option R :=
  match o.guard with
  | none => evOp' e σ kn o k
  | some (j, want) => match nth none dsts j with
    | none => none
    | some t => match look σ t (nth slot0 σ.sl t).av with
      | .data .bool x => match want with
        | true => evTest kn t x (fun kn => evOp' e σ kn o k) (fun kn => k kn (sets o.dst .und))
        | false => evTest kn t x (fun kn => k kn (sets o.dst .und)) (fun kn => evOp' e σ kn o k)
      | .und => k kn (sets o.dst .und)
      | _ => none

def guardRd (dsts : List (Option Tmp)) (o : Oper) : List Nat :=
  match o.guard with
  | none => []
  | some (j, _) => match nth none dsts j with
    | some t => [2 * t]
    | none => []

def spine {α : Type} : List α → (List α → Option R) → Option R
  | [], k => k []
  | a :: l, k => spine l fun l' => k (a :: l')

def evOps (e : Env) (dsts : List (Option Tmp)) : Nat → List Oper → St → List (Nat × Bool) → List Tr → (St → List Tr → Option R) → Option R
  | _, [], σ, _, tr, k => k σ tr
  | i, o :: l, σ, kn, tr, k => evStep e dsts σ kn o fun kn us =>
      evOps e dsts (i + 1) l (σ.app us) (kdrop (wrCells us) kn) (⟨i, o.op.operands.toList.flatMap (rdCells σ) ++ (guardRd dsts o ++ dstBox o), wrCells us⟩ :: tr) k

def edgeOk : List Oper → Nat → Bool
  | [], _ => true
  | o :: l, i => o.after.toList.all (fun e => !(Region.binds .any e) || Nat.ble (e.on + 1) i) && edgeOk l (i + 1)

def evRegion (e : Env) (ops : Array Oper) (draw : Bool) (σ : St) (k : St → Option R) : Option R :=
  match draw with
  | false => evOps e (ops.toList.map (·.dst)) 0 ops.toList σ [] [] fun σ _ => k σ
  | true => evOps e (ops.toList.map (·.dst)) 0 ops.toList σ [] [] fun σ tr => match edgeOk ops.toList 0 && trOk (Region.before ops) tr with
    | true => k σ
    | false => none

/-! ### Loops: what is kept at the head -/
inductive TS where
  | any
  | data (t : Ty)
  | vec (t : Ty)
  | ptr (k : Nat)
  | mref (k : Nat)
  | fn (f : FuncId) (cs : List Nat)
  | fnd (f : FuncId) (cs : List Ty)

structure Tmpl where
  sl : List TS
  bx : List (Option Ty)

@[reducible] def TS.den : TS → Type
  | .data t => t.den
  | .vec t => List t.den
  | _ => Unit

/-- Data of captures, before other data. -/
@[reducible] def capDen : List Ty → Type → Type
  | [], X => X
  | t :: cs, X => t.den × capDen cs X

def capIn : (cs : List Ty) → {X : Type} → capDen cs X → List AV
  | [], _, _ => []
  | t :: cs, _, x => .data t x.1 :: capIn cs x.2

def capRest : (cs : List Ty) → {X : Type} → capDen cs X → X
  | [], _, x => x
  | _ :: cs, _, x => capRest cs x.2

@[reducible] def SDen : List TS → Type
  | [] => Unit
  | .fnd _ cs :: l => capDen cs (SDen l)
  | .data t :: l => t.den × SDen l
  | .vec t :: l => List t.den × SDen l
  | _ :: l => SDen l

@[reducible] def BDen : List (Option Ty) → Type
  | [] => Unit
  | some t :: l => t.den × BDen l
  | none :: l => BDen l

@[reducible] def Tmpl.den (T : Tmpl) : Type := SDen T.sl × BDen T.bx

def slIn : (l : List TS) → SDen l → List Slot
  | [], _ => []
  | .data t :: l, x => ⟨.data t x.1, 0⟩ :: slIn l x.2
  | .vec t :: l, x => ⟨.vec t x.1, 0⟩ :: slIn l x.2
  | .any :: l, x => ⟨.any, 0⟩ :: slIn l x
  | .ptr k :: l, x => ⟨.ptr k 0 [], 0⟩ :: slIn l x
  | .mref k :: l, x => ⟨.mref k 0, 0⟩ :: slIn l x
  | .fn f cs :: l, x => ⟨.fn f (cs.map fun k => .ptr k 0 []), 0⟩ :: slIn l x
  | .fnd f cs :: l, x => ⟨.fn f (capIn cs x), 0⟩ :: slIn l (capRest cs x)

def bxIn : (l : List (Option Ty)) → BDen l → List Box
  | [], _ => []
  | some t :: l, x => ⟨0, 0, some ⟨t, x.1⟩⟩ :: bxIn l x.2
  | none :: l, x => ⟨1, 0, none⟩ :: bxIn l x

def Tmpl.In (T : Tmpl) (x : T.den) : St := ⟨slIn T.sl x.1, bxIn T.bx x.2⟩

/-- Captures seen as data of these types. -/
def capOut (σ : St) : (cs : List Ty) → List AV → {X : Type} → X → Option (capDen cs X)
  | [], [], _, r => some r
  | t :: cs, a :: as, _, r => match lookS σ a with
    | .data u x => match coe? u t x with
      | some y => match capOut σ cs as r with
        | some z => some (y, z)
        | none => none
      | none => none
    | _ => none
  | _, _, _, _ => none

def slOut (σ : St) : (l : List TS) → Nat → Option (SDen l)
  | [], _ => some ()
  | .data t :: l, i => match look σ i (nth slot0 σ.sl i).av with
    | .data u x => match coe? u t x with
      | some y => match slOut σ l (i + 1) with
        | some r => some (y, r)
        | none => none
      | none => none
    | _ => none
  | .vec t :: l, i => match look σ i (nth slot0 σ.sl i).av with
    | .own s _ u xs => match Nat.beq s i with
      | true => match cast? (.list u) (.list t) xs with
        | some y => match slOut σ l (i + 1) with
          | some r => some (y, r)
          | none => none
        | none => none
      | false => none
    | .data (.nil _) _ => match slOut σ l (i + 1) with
      | some r => some ([], r)
      | none => none
    | .nil => match slOut σ l (i + 1) with
      | some r => some ([], r)
      | none => none
    | _ => none
  | .any :: l, i => slOut σ l (i + 1)
  | .ptr k :: l, i => match look σ i (nth slot0 σ.sl i).av with
    | .ptr k' _ [] _ => match Nat.beq k k' with
      | true => slOut σ l (i + 1)
      | false => none
    | _ => none
  | .mref k :: l, i => match look σ i (nth slot0 σ.sl i).av with
    | .mref k' _ _ => match Nat.beq k k' with
      | true => slOut σ l (i + 1)
      | false => none
    | _ => none
  | .fn f cs :: l, i => match (nth slot0 σ.sl i).av with
    | .fn f' as => match Nat.beq f f' && fnOk cs as with
      | true => slOut σ l (i + 1)
      | false => none
    | _ => none
  | .fnd f cs :: l, i => match (nth slot0 σ.sl i).av with
    | .fn f' as => match Nat.beq f f' with
      | true => match slOut σ l (i + 1) with
        | some r => capOut σ cs as r
        | none => none
      | false => none
    | _ => none
where fnOk : List Nat → List AV → Bool
  | [], [] => true
  | k :: cs, a :: as => (match lookS σ a with
    | .ptr k' _ [] _ => Nat.beq k k'
    | _ => false) && fnOk cs as
  | _, _ => false

def bxOut (σ : St) : (l : List (Option Ty)) → Nat → Option (BDen l)
  | [], _ => some ()
  | some t :: l, k => match nth box0 σ.bx k with
    | ⟨_, _, some ⟨u, x⟩⟩ => match coeB? u t x with
      | some y => match bxOut σ l (k + 1) with
        | some r => some (y, r)
        | none => none
      | none => none
    | _ => none
  | none :: l, k => bxOut σ l (k + 1)

def Tmpl.out0 (T : Tmpl) (σ : St) (k : T.den → Option R) : Option R :=
  match Nat.beq T.sl.length σ.sl.length && Nat.beq T.bx.length σ.bx.length with
  | false => none
  | true => match slOut σ T.sl 0 with
    | some x => match bxOut σ T.bx 0 with
      | some y => k (x, y)
      | none => none
    | none => none

/-- Owned slices that the template takes as plain ones. -/
def tmFrz : List TS → Nat → St → St
  | [], _, σ => σ
  | .data (.list _) :: l, i, σ => match (nth slot0 σ.sl i).av with
    | .vec u xs => tmFrz l (i + 1) (σ.do1 (.sl i (.data (.list u) xs)))
    | _ => tmFrz l (i + 1) σ
  | _ :: l, i, σ => tmFrz l (i + 1) σ

def Tmpl.out (T : Tmpl) (σ : St) (k : T.den → Option R) : Option R := T.out0 (tmFrz T.sl 0 σ) k

def spS : Nat → List (Nat × TS) → List TS
  | 0, _ => []
  | n + 1, [] => .any :: spS n []
  | n + 1, (0, t) :: l => t :: spS n l
  | n + 1, (i + 1, t) :: l => .any :: spS n ((i, t) :: l)

def spB : Nat → List (Nat × Ty) → List (Option Ty)
  | 0, _ => []
  | n + 1, [] => none :: spB n []
  | n + 1, (0, t) :: l => some t :: spB n l
  | n + 1, (i + 1, t) :: l => none :: spB n ((i, t) :: l)

/-- n slots; what is kept: each with how many are passed over before it. -/
def tm (n : Nat) (a : List (Nat × TS)) (b : List (Nat × Ty)) : Tmpl := ⟨spS n a, spB n b⟩

structure LoopAnn where
  hd : Tmpl
  ex : Tmpl

def evLoop {R X Y : Type} (step : X → (X → Option R) → (Y → Option R) → Option R) (kx : Y → Option R) : Nat → X → Option R
  | 0, _ => none
  | n + 1, x => step x (evLoop step kx n) kx

/-- How loops are run: evLoop, its rounds told. -/
@[reducible] def Lp (R : Type) : Type 1 := (id : Nat) → (X Y : Type) → (X → (X → Option R) → (Y → Option R) → Option R) → (Y → Option R) → X → Option R
def lpK (R : Type) (K : Nat) : Lp R := fun _ _ _ step kx x => evLoop step kx K x

def findAnn (id : Nat) : List (Nat × LoopAnn) → Option LoopAnn
  | [] => none
  | (i, a) :: l => match Nat.beq i id with
    | true => some a
    | false => findAnn id l

/-- What is captured, as data of these types. -/
def capsD : (ts : List Ty) → List OV → Option (TDen ts)
  | [], [] => some ()
  | t :: ts, .data u x :: as => match cast? u t x with
    | some y => match capsD ts as with
      | some l => some (y, l)
      | none => none
    | none => none
  | _, _ => none

/-- Slots set to an element's parts. -/
def setEs : (ts : List Ty) → TDen ts → List Tmp → List Upd
  | [], _, _ => []
  | t :: ts, x, p :: ps => .sl p (.data t x.1) :: setEs ts x.2 ps
  | _ :: _, _, [] => []

/-- Code that leaves these slots as they are, without loops over functions. -/
def wrOK (kp : Nat → Bool) : Code → Bool
  | .skip => true
  | .region _ ops _ => ops.toList.all fun o => match o.dst with
    | some d => !(kp d)
    | none => true
  | .seq a b => wrOK kp a && wrOK kp b
  | .cond _ a b => wrOK kp a && wrOK kp b
  | .block _ b => wrOK kp b
  | .loop b => wrOK kp b
  | .exit _ => true
  | .ret => true
  | _ => false

def TS.kept : TS → Bool
  | .any => false
  | _ => true
def TS.novec : TS → Bool
  | .vec _ => false
  | _ => true
def keptSl (l : List TS) (i : Nat) : Bool := (nth .any l i).kept
def Ty.lit : Ty → Bool
  | .int _ => true
  | .bool => true
  | .str => true
  | _ => false
def chkIt (hd : Tmpl) (ps : List Tmp) (asg b : Code) (es : List Ty) : Bool :=
  (hd.sl.all TS.novec && (wrOK (keptSl hd.sl) asg && wrOK (keptSl hd.sl) b)) && (ps.all (fun p => !(keptSl hd.sl p)) && (es.all Ty.lit && Nat.beq ps.length es.length))

/-- 'cur': the block around. -/
def evCode (e : Env) (ann : List (Nat × LoopAnn)) (lp : Lp R) : Code → Nat → St → (St → Option R) → (Nat → St → Option R) → (St → Option R) → Option R
  | .skip, _, σ, kN, _, _ => kN σ
  | .region _ ops draw, _, σ, kN, _, _ => evRegion e ops draw σ kN
  | .seq a b, cur, σ, kN, kX, kR => evCode e ann lp a cur σ (fun σ => evCode e ann lp b cur σ kN kX kR) kX kR
  | .cond c a b, cur, σ, kN, kX, kR => match view e σ c with
    | .data .bool x => if x = true then evCode e ann lp a cur σ kN kX kR else evCode e ann lp b cur σ kN kX kR
    | _ => none
  | .block id b, _, σ, kN, kX, kR => evCode e ann lp b id σ kN (fun i σ => match Nat.beq i id with
      | true => kN σ
      | false => kX i σ) kR
  | .loop b, cur, σ, _, kX, kR => match findAnn cur ann with
    | some an => an.hd.out σ (lp cur an.hd.den an.ex.den (fun x kn kx => evCode e ann lp b cur (an.hd.In x) (fun σ => an.hd.out σ kn)
        (fun i σ => match Nat.beq i cur with
          | true => an.ex.out σ kx
          | false => none) kR) (fun y => kX cur (an.ex.In y)))
    | none => none
  | .exit id, _, σ, _, kX, _ => kX id σ
  | .scope b, cur, σ, kN, kX, kR => evCode e ann lp b cur σ kN kX kR
  | .ret, _, σ, _, _, kR => kR σ
  | .rangeFunc g ps asg b, cur, σ, kN, kX, kR => match findAnn cur ann with
    | some an => an.hd.out σ fun X0 => match view e (an.hd.In X0) g with
      | .fn f as => match e.it f with
        | some it => match capsD it.cs as with
          | some x => match chkIt an.hd ps.toList asg b it.es with
            | true => (it.f x).bind fun xs => lp cur (List (TDen it.es) × an.hd.den) (Bool × an.hd.den) (fun p kn kx => match p.1 with
                | [] => kx (false, p.2)
                | el :: l => evCode e ann lp asg cur ((an.hd.In p.2).app (setEs it.es el ps.toList)) (fun σ1 => an.ex.out σ1 fun Y => evCode e ann lp b cur (an.ex.In Y) (fun σ2 => an.hd.out σ2 fun X' => kn (l, X'))
                    (fun i σ2 => match Nat.beq i cur with
                      | true => an.hd.out σ2 fun X' => kx (true, X')
                      | false => none) (fun σ2 => an.hd.out σ2 fun X' => kR (an.hd.In X'))) (fun _ _ => none) (fun _ => none))
                (fun y => if y.1 = true then kX cur (an.hd.In y.2) else kN (an.hd.In y.2)) (xs, X0)
            | false => none
          | none => none
        | none => none
      | _ => none
    | none => none
  | _, _, _, _, _, _ => none

def loopStep (e : Env) (ann : List (Nat × LoopAnn)) (lp : Lp R) (b : Code) (cur : Nat) (an : LoopAnn) (kR : St → Option R) :
    an.hd.den → (an.hd.den → Option R) → (an.ex.den → Option R) → Option R :=
  fun x kn kx => evCode e ann lp b cur (an.hd.In x) (fun σ => an.hd.out σ kn)
        (fun i σ => match Nat.beq i cur with
          | true => an.ex.out σ kx
          | false => none) kR

/-- One round of a loop over a function. -/
def iterStep {R : Type} (e : Env) (ann : List (Nat × LoopAnn)) (lp : Lp R) (asg b : Code) (cur : Nat) (an : LoopAnn) (es : List Ty) (ps : List Tmp) (kR : St → Option R) :
    (List (TDen es) × an.hd.den) → ((List (TDen es) × an.hd.den) → Option R) → ((Bool × an.hd.den) → Option R) → Option R :=
  fun p kn kx => match p.1 with
    | [] => kx (false, p.2)
    | el :: l => evCode e ann lp asg cur ((an.hd.In p.2).app (setEs es el ps)) (fun σ1 => an.ex.out σ1 fun Y => evCode e ann lp b cur (an.ex.In Y) (fun σ2 => an.hd.out σ2 fun X' => kn (l, X'))
        (fun i σ2 => match Nat.beq i cur with
          | true => an.hd.out σ2 fun X' => kx (true, X')
          | false => none) (fun σ2 => an.hd.out σ2 fun X' => kR (an.hd.In X'))) (fun _ _ => none) (fun _ => none)
/-- The parts of a loop over a function. -/
def rfAsg : Code → Code
  | .rangeFunc _ _ a _ => a
  | _ => .skip
def rfBody : Code → Code
  | .rangeFunc _ _ _ b => b
  | _ => .skip
def rfPs : Code → List Tmp
  | .rangeFunc _ ps _ _ => ps.toList
  | _ => []

def cd (f : Func) : Code := match f.body with
  | some c => c
  | none => .skip

/-- A part of code: 0 the first of two, 1 the second, 2 what is inside. -/
def codeAt : List Nat → Code → Code
  | [], c => c
  | 0 :: p, .seq a _ => codeAt p a
  | 1 :: p, .seq _ b => codeAt p b
  | 0 :: p, .cond _ a _ => codeAt p a
  | 1 :: p, .cond _ _ b => codeAt p b
  | 2 :: p, .block _ b => codeAt p b
  | 2 :: p, .loop b => codeAt p b
  | 2 :: p, .scope b => codeAt p b
  | 3 :: p, .rangeFunc _ _ a _ => codeAt p a
  | 4 :: p, .rangeFunc _ _ _ b => codeAt p b
  | _, _ => .skip

/-! ### A function -/
def parIn : (ps : List PTy) → PDen ps → List Slot
  | [], _ => []
  | .v t :: ps, x => ⟨.data t x.1, 0⟩ :: parIn ps x.2
  | .fn f cs :: ps, x => ⟨.fn f (caps cs x.1), 0⟩ :: parIn ps x.2
where caps : (ts : List Ty) → TDen ts → List AV
  | [], _ => []
  | t :: ts, x => .data t x.1 :: caps ts x.2

/-- What a result shows. -/
def resOV (e : Env) (σ : St) : ResultVar → OV
  | .tmp t => look σ t (nth slot0 σ.sl t).av
  | .cell a ty => match look σ a (nth slot0 σ.sl a).av with
    | .ptr k _ p d => match getP p d.t d.x with
      | some ⟨w, x⟩ => match chk (e.ty ty) w with
        | true => match w with
          | .vec u => .ownb k p u x d
          | w => match w.pure with
            | true => .data w x
            | false => .any
        | false => .any
      | none => .any
    | _ => .any

def asR (u : Ty) : OV → Option (List u.den)
  | .own _ _ v xs => cast? (.list v) (.list u) xs
  | .ownb _ _ v xs _ => cast? (.list v) (.list u) xs
  | .nil => some []
  | .data (.nil _) _ => some []
  | _ => none

def res1 (e : Env) (σ : St) (r : RTy) (rv : ResultVar) : Option r.den :=
  match r with
  | .v u => asB u (resOV e σ rv)
  | .o u => asR u (resOV e σ rv)
  | .fn f cs => match resOV e σ rv with
    | .fn g as => match Nat.beq f g with
      | true => argsB cs as
      | false => none
    | _ => none

def resOut (e : Env) (σ : St) : (rs : List RTy) → List ResultVar → Option (RDen rs)
  | [], [] => some ()
  | [r], [v] => res1 e σ r v
  | r :: s :: rs, v :: vs => match res1 e σ r v with
    | some x => match resOut e σ (s :: rs) vs with
      | some l => some (x, l)
      | none => none
    | none => none
  | _, _ => none

def padL {α : Type} (d : α) : Nat → List α → List α
  | 0, _ => []
  | n + 1, [] => d :: padL d n []
  | n + 1, a :: l => a :: padL d n l

def evFn (e : Env) (ann : List (Nat × LoopAnn)) (ps : List PTy) (rs : List RTy) (lp : Lp (RDen rs)) (ntmps : Nat) (rv : List ResultVar) (c : Code) (x : PDen ps) : Option (RDen rs) :=
  evCode e ann lp c 0 ⟨padL slot0 ntmps (parIn ps x), padL box0 ntmps []⟩ (fun σ => resOut e σ rs rv) (fun _ _ => none) (fun σ => resOut e σ rs rv)

end Go.Q

/- The value machine: what a state says of memory. -/
set_option linter.unusedVariables false
namespace Go.Q
open Go Go.RowKit

inductive Loc where
  | sl (i : Nat)
  | bx (k : Nat) (p : List Bool)
  | me (k : Nat)

/-- The ghost: cells that stay as they are; where a variable lies; whose a block is. -/
structure Gh where
  S : Nat → Nat → Prop
  β : Nat → Nat
  own : Nat → Option Loc

/-! ### Lists of parts -/
def LR {α : Type} (R : α → List Value → Prop) : List α → List Value → Prop
  | [], cs => cs = []
  | x :: xs, cs => ∃ c d, cs = c ++ d ∧ R x c ∧ LR R xs d

theorem LR.mono {α : Type} {R R' : α → List Value → Prop} (h : ∀ x c, R x c → R' x c) : ∀ {xs : List α} {cs : List Value}, LR R xs cs → LR R' xs cs
  | [], _, k => k
  | _ :: _, _, ⟨c, d, e, a, b⟩ => ⟨c, d, e, h _ _ a, LR.mono h b⟩

theorem LR.append {α : Type} {R : α → List Value → Prop} : ∀ {xs ys : List α} {cs ds : List Value}, LR R xs cs → LR R ys ds → LR R (xs ++ ys) (cs ++ ds)
  | [], _, _, _, h, k => by cases h; simpa using k
  | _ :: _, _, _, _, ⟨c, d, e, a, b⟩, k => ⟨c, d ++ _, by rw [e]; simp, a, LR.append b k⟩

theorem LR.length {α : Type} {R : α → List Value → Prop} {n : Nat} (h : ∀ x c, R x c → c.length = n) : ∀ {xs : List α} {cs : List Value}, LR R xs cs → cs.length = xs.length * n
  | [], _, k => by cases k; simp
  | _ :: xs, _, ⟨c, d, e, a, b⟩ => by rw [e, List.length_append, h _ _ a, LR.length h b, List.length_cons, Nat.succ_mul]; omega

theorem LR.drop {α : Type} {R : α → List Value → Prop} {n : Nat} (h : ∀ x c, R x c → c.length = n) : ∀ (i : Nat) {xs : List α} {cs : List Value}, LR R xs cs → LR R (xs.drop i) (cs.drop (i * n))
  | 0, _, _, k => by simpa using k
  | _ + 1, [], _, k => by cases k; simp [LR]
  | i + 1, _ :: _, _, ⟨c, d, e, a, b⟩ => by
    have := LR.drop h i b
    rw [e, List.drop_succ_cons, show (i + 1) * n = c.length + i * n by rw [h _ _ a, Nat.succ_mul]; omega, List.drop_length_add_append]
    exact this

theorem LR.take {α : Type} {R : α → List Value → Prop} {n : Nat} (h : ∀ x c, R x c → c.length = n) : ∀ (i : Nat) {xs : List α} {cs : List Value}, LR R xs cs → LR R (xs.take i) (cs.take (i * n))
  | 0, _, _, _ => by simp [LR]
  | _ + 1, [], _, k => by cases k; simp [LR]
  | i + 1, _ :: _, _, ⟨c, d, e, a, b⟩ => by
    have := LR.take h i b
    rw [e, List.take_succ_cons, show (i + 1) * n = c.length + i * n by rw [h _ _ a, Nat.succ_mul]; omega, List.take_length_add_append]
    exact ⟨c, _, rfl, a, this⟩

theorem LR.get {α : Type} {R : α → List Value → Prop} {n : Nat} (h : ∀ x c, R x c → c.length = n) (d : α) {i : Nat} {xs : List α} {cs : List Value} (hi : i < xs.length) (k : LR R xs cs) :
    ∃ c, R (xs.getD i d) c ∧ c = (cs.drop (i * n)).take n := by
  have k1 := LR.drop h i k
  obtain ⟨y, ys, e⟩ : ∃ y ys, xs.drop i = y :: ys := by
    cases e : xs.drop i with
    | nil => have := congrArg List.length e; simp at this; omega
    | cons y ys => exact ⟨y, ys, rfl⟩
  rw [e] at k1
  obtain ⟨c, r, e1, a, _⟩ := k1
  have hy : xs.getD i d = y := by
    have : (xs.drop i)[0]? = some y := by rw [e]; rfl
    rw [List.getElem?_drop] at this
    simp only [Nat.add_zero] at this
    rw [List.getD_eq_getElem?_getD, this]; rfl
  refine ⟨c, by rw [hy]; exact a, ?_⟩
  rw [e1, ← h _ _ a, List.take_left']
  rfl

/-! ### Data -/
def Cells (w : World) (S : Nat → Nat → Prop) (b o : Nat) (ds : List Value) : Prop :=
  ∀ j v, ds[j]? = some v → w.cell? ⟨b, o + j, none⟩ = some v ∧ S b (o + j)

def SlR {α : Type} (w : World) (S : Nat → Nat → Prop) (R : α → List Value → Prop) (A : Option Addr) (xs : List α) : Prop :=
  xs = [] ∨ ∃ b o ds, A = some ⟨b, o, none⟩ ∧ LR R xs ds ∧ Cells w S b o ds

def PR (w : World) (S : Nat → Nat → Prop) : (t : Ty) → t.den → List Value → Prop
  | .int k, x, cs => cs = [.int k x]
  | .bool, x, cs => cs = [.bool x]
  | .str, x, cs => cs = [.string x]
  | .unit, _, cs => cs = []
  | .one t, x, cs => PR w S t x cs
  | .pair a b, x, cs => ∃ c d, cs = c ++ d ∧ PR w S a x.1 c ∧ PR w S b x.2 d
  | .arr n t, xs, cs => xs.length = n ∧ LR (PR w S t) xs cs
  | .list t, xs, cs => ∃ A cap, cs = [.slice A xs.length cap] ∧ xs.length ≤ cap ∧ SlR w S (PR w S t) A xs
  | .full t, xs, cs => ∃ A, cs = [.slice A xs.length xs.length] ∧ SlR w S (PR w S t) A xs
  | .vec _, _, _ => False
  | .dead _, _, _ => False
  | .nil _, _, cs => cs = [.slice none 0 0]
  | .ref t, x, cs => ∃ b o ds, cs = [.pointer (some ⟨b, o, none⟩)] ∧ PR w S t x ds ∧ Cells w S b o ds
  | .mp _ _, _, _ => False

theorem Cells.mono {w w' : World} {S S' : Nat → Nat → Prop} (h : ∀ b o, S b o → S' b o ∧ w'.cell? ⟨b, o, none⟩ = w.cell? ⟨b, o, none⟩) {b o : Nat} {ds : List Value} (k : Cells w S b o ds) : Cells w' S' b o ds :=
  fun j v e => let ⟨a, s⟩ := k j v e; ⟨(h _ _ s).2.trans a, (h _ _ s).1⟩

theorem PR.mono {w w' : World} {S S' : Nat → Nat → Prop} (h : ∀ b o, S b o → S' b o ∧ w'.cell? ⟨b, o, none⟩ = w.cell? ⟨b, o, none⟩) : ∀ {t : Ty} {x : t.den} {cs : List Value}, PR w S t x cs → PR w' S' t x cs
  | .int _, _, _, k => k
  | .bool, _, _, k => k
  | .str, _, _, k => k
  | .unit, _, _, k => k
  | .one t, _, _, k => PR.mono h (t := t) k
  | .pair _ _, _, _, ⟨c, d, e, a, b⟩ => ⟨c, d, e, PR.mono h a, PR.mono h b⟩
  | .arr _ t, _, _, ⟨e, k⟩ => ⟨e, LR.mono (fun _ _ => PR.mono h) k⟩
  | .list t, _, _, ⟨A, cap, e, l, k⟩ => ⟨A, cap, e, l, k.imp id fun ⟨b, o, ds, e, r, c⟩ => ⟨b, o, ds, e, LR.mono (fun _ _ => PR.mono h) r, c.mono h⟩⟩
  | .full t, _, _, ⟨A, e, k⟩ => ⟨A, e, k.imp id fun ⟨b, o, ds, e, r, c⟩ => ⟨b, o, ds, e, LR.mono (fun _ _ => PR.mono h) r, c.mono h⟩⟩
  | .vec _, _, _, k => k.elim
  | .dead _, _, _, k => k.elim
  | .nil _, _, _, k => k
  | .ref _, _, _, ⟨b, o, ds, e, a, c⟩ => ⟨b, o, ds, e, PR.mono h a, c.mono h⟩
  | .mp _ _, _, _, k => k.elim

theorem PR.length {w : World} {S : Nat → Nat → Prop} : ∀ {t : Ty} {x : t.den} {cs : List Value}, PR w S t x cs → cs.length = t.sz
  | .int _, _, _, k => by cases k; rfl
  | .bool, _, _, k => by cases k; rfl
  | .str, _, _, k => by cases k; rfl
  | .unit, _, _, k => by cases k; rfl
  | .one t, _, _, k => PR.length (t := t) k
  | .pair _ _, _, _, ⟨c, d, e, a, b⟩ => by rw [e, List.length_append, PR.length a, PR.length b]; rfl
  | .arr _ t, _, _, ⟨e, k⟩ => by rw [LR.length (fun _ _ => PR.length) k, e]; rfl
  | .list t, _, _, ⟨A, cap, e, _, _⟩ => by rw [e]; rfl
  | .full t, _, _, ⟨A, e, _⟩ => by rw [e]; rfl
  | .vec _, _, _, k => k.elim
  | .dead _, _, _, k => k.elim
  | .nil _, _, _, k => by rw [show _ = _ from k]; rfl
  | .ref _, _, _, ⟨b, o, ds, e, _, _⟩ => by rw [e]; rfl
  | .mp _ _, _, _, k => k.elim

def Value.one : Value → Prop
  | .agg _ => False
  | .tuple _ => False
  | _ => True

/-- Each cell is the value of one cell. -/
def One (cs : List Value) : Prop := ∀ v ∈ cs, Value.one v

theorem LR.all {α : Type} {R : α → List Value → Prop} (h : ∀ x c, R x c → One c) : ∀ {xs : List α} {cs : List Value}, LR R xs cs → One cs
  | [], _, k => by cases k; exact fun _ hv => by cases hv
  | _ :: xs, _, ⟨c, d, e, a, b⟩ => by
    rw [e]
    intro v hv
    rcases List.mem_append.1 hv with hv | hv
    · exact h _ _ a v hv
    · exact LR.all h b v hv

theorem PR.one {w : World} {S : Nat → Nat → Prop} : ∀ {t : Ty} {x : t.den} {cs : List Value}, PR w S t x cs → One cs
  | .int _, _, _, k => by cases k; intro v hv; simp at hv; subst hv; trivial
  | .bool, _, _, k => by cases k; intro v hv; simp at hv; subst hv; trivial
  | .str, _, _, k => by cases k; intro v hv; simp at hv; subst hv; trivial
  | .unit, _, _, k => by cases k; intro v hv; cases hv
  | .one t, _, _, k => PR.one (t := t) k
  | .pair _ _, _, _, ⟨c, d, e, a, b⟩ => by
    rw [e]
    intro v hv
    rcases List.mem_append.1 hv with hv | hv
    · exact PR.one a v hv
    · exact PR.one b v hv
  | .arr _ t, _, _, ⟨e, k⟩ => LR.all (fun _ _ => PR.one) k
  | .list t, _, _, ⟨A, cap, e, _, _⟩ => by rw [e]; intro v hv; simp at hv; subst hv; trivial
  | .full t, _, _, ⟨A, e, _⟩ => by rw [e]; intro v hv; simp at hv; subst hv; trivial
  | .vec _, _, _, k => k.elim
  | .dead _, _, _, k => k.elim
  | .nil _, _, _, k => by rw [show _ = _ from k]; intro v hv; simp at hv; subst hv; trivial
  | .ref _, _, _, ⟨b, o, ds, e, _, _⟩ => by rw [e]; intro v hv; simp at hv; subst hv; trivial
  | .mp _ _, _, _, k => k.elim

/-- A value out of its cells. -/
def pack (t : Ty) (cs : List Value) : Value := if t.agg then .agg cs.toArray else cs.headD undef

theorem pack_cells {t : Ty} {cs : List Value} (h : t.agg = false → cs.length = 1) (h1 : One cs) : (pack t cs).cells.toList = cs := by
  unfold pack
  split
  · rfl
  · rename_i ht
    have := h (by simpa using ht)
    match cs, this, h1 with
    | [v], _, h1 =>
      have : Value.one v := h1 v (by simp)
      cases v <;> simp [Value.cells, Value.one] at *

theorem agg_sz {t : Ty} (h : t.agg = false) : t.sz = 1 := by
  cases t <;> simp [Ty.agg] at h <;> rfl

/-- Flat data lies in its cells alone. -/
theorem PR.flat {w w' : World} {S S' : Nat → Nat → Prop} : ∀ {t : Ty} {x : t.den} {cs : List Value}, t.flat = true → PR w S t x cs → PR w' S' t x cs
  | .int _, _, _, _, k => k
  | .bool, _, _, _, k => k
  | .str, _, _, _, k => k
  | .unit, _, _, _, k => k
  | .one t, _, _, f, k => PR.flat (t := t) f k
  | .pair _ _, _, _, f, ⟨c, d, e, a, b⟩ => by
    simp only [Ty.flat, Bool.and_eq_true] at f
    exact ⟨c, d, e, PR.flat f.1 a, PR.flat f.2 b⟩
  | .arr _ t, _, _, f, ⟨e, k⟩ => ⟨e, LR.mono (fun _ _ => PR.flat (t := t) f) k⟩
  | .list t, _, _, f, _ => by simp [Ty.flat] at f
  | .full t, _, _, f, _ => by simp [Ty.flat] at f
  | .vec _, _, _, _, k => k.elim
  | .dead _, _, _, _, k => k.elim
  | .nil _, _, _, _, k => k
  | .ref _, _, _, f, _ => by simp [Ty.flat] at f
  | .mp _ _, _, _, f, _ => by simp [Ty.flat] at f

/-! ### Slices that are owned; variables in memory -/
def Unfrozen (fr : Nat × Nat) (n : Nat) : Prop := fr.1 = fr.2 ∨ n ≤ fr.1

def VecR (w : World) (G : Gh) (l : Loc) (t : Ty) (xs : List t.den) (v : Value) : Prop :=
  (xs = [] ∧ v = .slice none 0 0) ∨ ∃ g cap arr e fr, v = .slice (some ⟨g, 0, none⟩) xs.length cap ∧ xs.length ≤ cap ∧ w.heap[g]? = some (.cells arr e fr) ∧ arr.size = cap * t.sz ∧ Unfrozen fr arr.size ∧
    G.own g = some l ∧ LR (PR w G.S t) xs (arr.toList.take (xs.length * t.sz))

def CR (w : World) (G : Gh) (k : Nat) : List Bool → (t : Ty) → t.den → List Value → Prop
  | p, .one t, x, cs => CR w G k p t x cs
  | p, .pair a b, x, cs => ∃ c d, cs = c ++ d ∧ CR w G k (false :: p) a x.1 c ∧ CR w G k (true :: p) b x.2 d
  | p, .vec t, xs, cs => ∃ v, cs = [v] ∧ VecR w G (.bx k p) t xs v
  | _, .dead _, _, cs => ∃ A n c, cs = [.slice A n c]
  | _, .int k, x, cs => PR w G.S (.int k) x cs
  | _, .bool, x, cs => PR w G.S .bool x cs
  | _, .str, x, cs => PR w G.S .str x cs
  | _, .unit, x, cs => PR w G.S .unit x cs
  | _, .arr n t, x, cs => PR w G.S (.arr n t) x cs
  | _, .list t, x, cs => PR w G.S (.list t) x cs
  | _, .full t, x, cs => PR w G.S (.full t) x cs
  | _, .nil t, x, cs => PR w G.S (.nil t) x cs
  | _, .ref t, x, cs => PR w G.S (.ref t) x cs
  | _, .mp _ _, _, _ => False

/-- A map's entries. -/
def MapR (w : World) (g : Nat) (kk ek : IntKind) (m : List (Int × Int)) : Prop :=
  ∃ es clock, w.heap[g]? = some (.map es clock) ∧ es.toList.map (fun x => (x.key, x.val)) = m.map fun x => (Value.int kk x.1, Value.int ek x.2)

def BoxR (w : World) (G : Gh) (k : Nat) (t : Ty) (x : t.den) : Prop :=
  (∃ arr e, w.heap[G.β k]? = some (.cells arr e (0, 0)) ∧ G.own (G.β k) = some (.me k) ∧ CR w G k [] t x arr.toList) ∨
  ∃ kk ek m, (⟨t, x⟩ : DV) = ⟨.mp kk ek, m⟩ ∧ G.own (G.β k) = some (.me k) ∧ MapR w (G.β k) kk ek m

theorem BoxR.own {w : World} {G : Gh} {k : Nat} {t : Ty} {x : t.den} (h : BoxR w G k t x) : G.own (G.β k) = some (.me k) := by
  rcases h with ⟨_, _, _, h, _⟩ | ⟨_, _, _, _, h, _⟩ <;> exact h
theorem BoxR.cells {w : World} {G : Gh} {k : Nat} {t : Ty} {x : t.den} (h : BoxR w G k t x) (hn : ∀ kk ek, t ≠ .mp kk ek) : ∃ arr e, w.heap[G.β k]? = some (.cells arr e (0, 0)) ∧ G.own (G.β k) = some (.me k) ∧ CR w G k [] t x arr.toList := by
  rcases h with h | ⟨kk, ek, m, e, _⟩
  · exact h
  · exact absurd (congrArg DV.t e) (hn kk ek)
theorem BoxR.map {w : World} {G : Gh} {k : Nat} {kk ek : IntKind} {m : List (Int × Int)} (h : BoxR w G k (.mp kk ek) m) : G.own (G.β k) = some (.me k) ∧ MapR w (G.β k) kk ek m := by
  rcases h with ⟨_, _, _, _, h⟩ | ⟨kk', ek', m', e, h1, h2⟩
  · exact h.elim
  · simp only [DV.mk.injEq, Ty.mp.injEq] at e
    obtain ⟨⟨rfl, rfl⟩, e⟩ := e
    cases e
    exact ⟨h1, h2⟩

/-- Pure data in a variable. -/
theorem CR.of_PR {w : World} {G : Gh} {k : Nat} : ∀ {t : Ty} {p : List Bool} {x : t.den} {cs : List Value}, PR w G.S t x cs → CR w G k p t x cs
  | .one t, _, _, _, h => CR.of_PR (t := t) h
  | .pair _ _, _, _, _, ⟨c, d, e, a, b⟩ => ⟨c, d, e, CR.of_PR a, CR.of_PR b⟩
  | .vec _, _, _, _, h => h.elim
  | .dead _, _, _, _, h => h.elim
  | .int _, _, _, _, h => h
  | .bool, _, _, _, h => h
  | .str, _, _, _, h => h
  | .unit, _, _, _, h => h
  | .arr _ _, _, _, _, h => h
  | .list _, _, _, _, h => h
  | .full _, _, _, _, h => h
  | .nil _, _, _, _, h => h
  | .ref _, _, _, _, h => h
  | .mp _ _, _, _, _, h => h.elim

theorem CR.to_PR {w : World} {G : Gh} {k : Nat} : ∀ {t : Ty} {p : List Bool} {x : t.den} {cs : List Value}, t.pure = true → CR w G k p t x cs → PR w G.S t x cs
  | .one t, _, _, _, f, h => CR.to_PR (t := t) f h
  | .pair _ _, _, _, _, f, ⟨c, d, e, a, b⟩ => by
    simp only [Ty.pure, Bool.and_eq_true] at f
    exact ⟨c, d, e, CR.to_PR f.1 a, CR.to_PR f.2 b⟩
  | .vec _, _, _, _, f, _ => by simp [Ty.pure] at f
  | .dead _, _, _, _, f, _ => by simp [Ty.pure] at f
  | .int _, _, _, _, _, h => h
  | .bool, _, _, _, _, h => h
  | .str, _, _, _, _, h => h
  | .unit, _, _, _, _, h => h
  | .arr _ _, _, _, _, _, h => h
  | .list _, _, _, _, _, h => h
  | .full _, _, _, _, _, h => h
  | .nil _, _, _, _, _, h => h
  | .ref _, _, _, _, _, h => h
  | .mp _ _, _, _, _, _, h => h.elim

/-- What a slice that is owned, or a variable, leans on. -/
theorem VecR.mono {w w' : World} {G G' : Gh} {l : Loc} (hS : ∀ b o, G.S b o → G'.S b o ∧ w'.cell? ⟨b, o, none⟩ = w.cell? ⟨b, o, none⟩)
    (ho : ∀ g, G.own g = some l → G'.own g = some l ∧ w'.heap[g]? = w.heap[g]?) {t : Ty} {xs : List t.den} {v : Value} (h : VecR w G l t xs v) : VecR w' G' l t xs v :=
  h.imp id fun ⟨g, cap, arr, e, fr, a1, a2, a3, a4, a5, a6, a7⟩ => ⟨g, cap, arr, e, fr, a1, a2, (ho g a6).2.trans a3, a4, a5, (ho g a6).1, LR.mono (fun _ _ => PR.mono hS) a7⟩

theorem CR.mono {w w' : World} {G G' : Gh} {k : Nat} (hS : ∀ b o, G.S b o → G'.S b o ∧ w'.cell? ⟨b, o, none⟩ = w.cell? ⟨b, o, none⟩)
    (ho : ∀ g p, G.own g = some (.bx k p) → G'.own g = some (.bx k p) ∧ w'.heap[g]? = w.heap[g]?) : ∀ {t : Ty} {p : List Bool} {x : t.den} {cs : List Value}, CR w G k p t x cs → CR w' G' k p t x cs
  | .one t, _, _, _, h => CR.mono hS ho (t := t) h
  | .pair _ _, _, _, _, ⟨c, d, e, a, b⟩ => ⟨c, d, e, CR.mono hS ho a, CR.mono hS ho b⟩
  | .vec _, p, _, _, ⟨v, e, h⟩ => ⟨v, e, h.mono hS (fun g hg => ho g p hg)⟩
  | .dead _, _, _, _, h => h
  | .int _, _, _, _, h => PR.mono hS (t := .int _) h
  | .bool, _, _, _, h => PR.mono hS (t := .bool) h
  | .str, _, _, _, h => PR.mono hS (t := .str) h
  | .unit, _, _, _, h => PR.mono hS (t := .unit) h
  | .arr n t, _, _, _, h => PR.mono hS (t := .arr n t) h
  | .list t, _, _, _, h => PR.mono hS (t := .list t) h
  | .full t, _, _, _, h => PR.mono hS (t := .full t) h
  | .nil t, _, _, _, h => PR.mono hS (t := .nil t) h
  | .ref t, _, _, _, h => PR.mono hS (t := .ref t) h
  | .mp _ _, _, _, _, h => h.elim

theorem CR.mono2 {w w' : World} {G G' : Gh} {k : Nat} (hS : ∀ b o, G.S b o → G'.S b o ∧ w'.cell? ⟨b, o, none⟩ = w.cell? ⟨b, o, none⟩) : ∀ {t : Ty} {p : List Bool} {x : t.den} {cs : List Value}, CR w G k p t x cs →
    (∀ g r, G.own g = some (.bx k (r ++ p)) → G'.own g = some (.bx k (r ++ p)) ∧ w'.heap[g]? = w.heap[g]?) → CR w' G' k p t x cs
  | .one t, _, _, _, h, ho => CR.mono2 hS (t := t) h ho
  | .pair _ _, p, _, _, ⟨c, d, e, a, b⟩, ho => ⟨c, d, e, CR.mono2 hS a (fun g r hg => by simpa using ho g (r ++ [false]) (by simpa using hg)), CR.mono2 hS b (fun g r hg => by simpa using ho g (r ++ [true]) (by simpa using hg))⟩
  | .vec _, p, _, _, ⟨v, e, h⟩, ho => ⟨v, e, h.mono hS (fun g hg => ho g [] hg)⟩
  | .dead _, _, _, _, h, _ => h
  | .int _, _, _, _, h, _ => PR.mono hS (t := .int _) h
  | .bool, _, _, _, h, _ => PR.mono hS (t := .bool) h
  | .str, _, _, _, h, _ => PR.mono hS (t := .str) h
  | .unit, _, _, _, h, _ => PR.mono hS (t := .unit) h
  | .arr n t, _, _, _, h, _ => PR.mono hS (t := .arr n t) h
  | .list t, _, _, _, h, _ => PR.mono hS (t := .list t) h
  | .full t, _, _, _, h, _ => PR.mono hS (t := .full t) h
  | .nil t, _, _, _, h, _ => PR.mono hS (t := .nil t) h
  | .ref t, _, _, _, h, _ => PR.mono hS (t := .ref t) h
  | .mp _ _, _, _, _, h, _ => h.elim

end Go.Q

/- The value machine: places inside a variable. -/
set_option linter.unusedVariables false
namespace Go.Q
open Go Go.RowKit

/-- Where a part lies, and its type. -/
def offP : List Stp → Ty → Option (Nat × Ty)
  | [], t => some (0, t)
  | .o :: p, .one t => offP p t
  | .f :: p, .pair a _ => offP p a
  | .s :: p, .pair a b => match offP p b with
    | some (n, t) => some (a.sz + n, t)
    | none => none
  | .i n :: p, .arr m t => if 0 ≤ n ∧ n < (m : Int) then match offP p t with
    | some (j, u) => some (n.toNat * t.sz + j, u)
    | none => none else none
  | .sub lo n :: p, .arr m t => if lo + n ≤ m then match offP p (.arr n t) with
    | some (j, u) => some (lo * t.sz + j, u)
    | none => none else none
  | _, _ => none

def bits : List Stp → List Bool → List Bool
  | [], q => q
  | .f :: p, q => bits p (false :: q)
  | .s :: p, q => bits p (true :: q)
  | .o :: p, q => bits p q
  | .i _ :: p, q => bits p q
  | .sub _ _ :: p, q => bits p q

theorem bits_suffix : ∀ (p : List Stp) (q : List Bool), ∃ r, bits p q = r ++ q
  | [], q => ⟨[], rfl⟩
  | .f :: p, q => by obtain ⟨r, h⟩ := bits_suffix p (false :: q); exact ⟨r ++ [false], by rw [bits, h]; simp⟩
  | .s :: p, q => by obtain ⟨r, h⟩ := bits_suffix p (true :: q); exact ⟨r ++ [true], by rw [bits, h]; simp⟩
  | .o :: p, q => bits_suffix p q
  | .i _ :: p, q => bits_suffix p q
  | .sub _ _ :: p, q => bits_suffix p q

theorem offP_append : ∀ (p : List Stp) {q : List Stp} {t u v : Ty} {i j : Nat}, offP p t = some (i, u) → offP q u = some (j, v) → offP (p ++ q) t = some (i + j, v)
  | [], _, _, _, _, _, _, h, k => by
    simp only [offP, Option.some.injEq, Prod.mk.injEq] at h
    obtain ⟨rfl, rfl⟩ := h
    simpa using k
  | .o :: p, _, .one t, _, _, _, _, h, k => offP_append p (t := t) h k
  | .f :: p, _, .pair a _, _, _, _, _, h, k => offP_append p (t := a) h k
  | .s :: p, _, .pair a b, _, _, _, _, h, k => by
    simp only [offP] at h
    split at h
    · rename_i n w e
      simp only [Option.some.injEq, Prod.mk.injEq] at h
      obtain ⟨rfl, rfl⟩ := h
      have := offP_append p e k
      simp only [List.cons_append, offP, this, Option.some.injEq, Prod.mk.injEq, and_true]
      omega
    · cases h
  | .i n :: p, _, .arr m t, _, _, _, _, h, k => by
    simp only [offP] at h
    split at h
    · rename_i hn
      split at h
      · rename_i n w e
        simp only [Option.some.injEq, Prod.mk.injEq] at h
        obtain ⟨rfl, rfl⟩ := h
        have := offP_append p e k
        simp only [List.cons_append, offP, this, hn, if_true, Option.some.injEq, Prod.mk.injEq, and_true, and_self]
        omega
      · cases h
    · cases h
  | .sub lo n :: p, _, .arr m t, _, _, _, _, h, k => by
    simp only [offP] at h
    split at h
    · rename_i hn
      split at h
      · rename_i n w e
        simp only [Option.some.injEq, Prod.mk.injEq] at h
        obtain ⟨rfl, rfl⟩ := h
        have := offP_append p e k
        simp only [List.cons_append, offP, this, hn, if_true, Option.some.injEq, Prod.mk.injEq, and_true]
        omega
      · cases h
    · cases h

theorem offP_le : ∀ (p : List Stp) {t u : Ty} {i : Nat}, offP p t = some (i, u) → i + u.sz ≤ t.sz
  | [], _, _, _, h => by
    simp only [offP, Option.some.injEq, Prod.mk.injEq] at h
    obtain ⟨rfl, rfl⟩ := h
    omega
  | .o :: p, .one t, _, _, h => offP_le p (t := t) h
  | .f :: p, .pair a b, _, _, h => by have := offP_le p (t := a) h; simp only [Ty.sz]; omega
  | .s :: p, .pair a b, _, _, h => by
    simp only [offP] at h
    split at h
    · rename_i n w e
      simp only [Option.some.injEq, Prod.mk.injEq] at h
      obtain ⟨rfl, rfl⟩ := h
      have := offP_le p e
      simp only [Ty.sz]
      omega
    · cases h
  | .i n :: p, .arr m t, _, _, h => by
    simp only [offP] at h
    split at h
    · rename_i hn
      split at h
      · rename_i j w e
        simp only [Option.some.injEq, Prod.mk.injEq] at h
        obtain ⟨rfl, rfl⟩ := h
        have := offP_le p e
        have h2 : (n.toNat + 1) * t.sz ≤ m * t.sz := Nat.mul_le_mul_right _ (by omega)
        rw [Nat.succ_mul] at h2
        simp only [Ty.sz]
        omega
      · cases h
    · cases h
  | .sub lo n :: p, .arr m t, _, _, h => by
    simp only [offP] at h
    split at h
    · rename_i hn
      split at h
      · rename_i j w e
        simp only [Option.some.injEq, Prod.mk.injEq] at h
        obtain ⟨rfl, rfl⟩ := h
        have := offP_le p e
        simp only [Ty.sz] at this
        have h2 : (lo + n) * t.sz ≤ m * t.sz := Nat.mul_le_mul_right _ hn
        rw [Nat.add_mul] at h2
        simp only [Ty.sz]
        omega
      · cases h
    · cases h

theorem PR.pure {w : World} {S : Nat → Nat → Prop} : ∀ {t : Ty} {x : t.den} {cs : List Value}, PR w S t x cs → t.pure = true
  | .int _, _, _, _ => rfl
  | .bool, _, _, _ => rfl
  | .str, _, _, _ => rfl
  | .unit, _, _, _ => rfl
  | .one t, _, _, k => PR.pure (t := t) k
  | .pair _ _, _, _, ⟨_, _, _, a, b⟩ => by simp only [Ty.pure, PR.pure a, PR.pure b, Bool.and_self]
  | .arr _ _, _, _, _ => rfl
  | .list _, _, _, _ => rfl
  | .full _, _, _, _ => rfl
  | .vec _, _, _, k => k.elim
  | .dead _, _, _, k => k.elim
  | .nil _, _, _, _ => rfl
  | .ref _, _, _, _ => rfl
  | .mp _ _, _, _, k => k.elim

/-- A part of pure data. -/
theorem getP_PR {w : World} {S : Nat → Nat → Prop} : ∀ (p : List Stp) {t u : Ty} {x : t.den} {y : u.den} {cs : List Value} {i : Nat} {u' : Ty}, PR w S t x cs → getP p t x = some ⟨u, y⟩ → offP p t = some (i, u') →
    u' = u ∧ PR w S u y ((cs.drop i).take u.sz)
  | [], t, _, x, _, cs, _, _, h, g, o => by
    simp only [getP, Option.some.injEq, DV.mk.injEq] at g
    obtain ⟨rfl, g⟩ := g
    cases g
    simp only [offP, Option.some.injEq, Prod.mk.injEq] at o
    obtain ⟨rfl, rfl⟩ := o
    refine ⟨rfl, ?_⟩
    rw [List.drop_zero, ← PR.length h, List.take_length]
    exact h
  | .o :: p, .one t, _, _, _, _, _, _, h, g, o => getP_PR p (t := t) h g o
  | .f :: p, .pair a b, _, x, _, cs, _, _, ⟨c, d, e, h1, h2⟩, g, o => by
    obtain ⟨e1, e2⟩ := getP_PR p (t := a) h1 g o
    refine ⟨e1, ?_⟩
    have hl := PR.length h1
    have hle := offP_le p (t := a) o
    subst e1
    rw [e, List.drop_append_of_le_length (by omega), List.take_append_of_le_length (by rw [List.length_drop]; omega)]
    exact e2
  | .s :: p, .pair a b, _, x, _, cs, _, _, ⟨c, d, e, h1, h2⟩, g, o => by
    simp only [offP] at o
    split at o
    · rename_i n v ho
      simp only [Option.some.injEq, Prod.mk.injEq] at o
      obtain ⟨rfl, rfl⟩ := o
      obtain ⟨e1, e2⟩ := getP_PR p (t := b) h2 g ho
      refine ⟨e1, ?_⟩
      rw [e, ← PR.length h1, List.drop_length_add_append]
      exact e2
    · cases o
  | .i n :: p, .arr m t, u, xs, _, cs, _, _, ⟨hl, h⟩, g, o => by
    simp only [offP] at o
    split at o
    · rename_i hn
      split at o
      · rename_i j v ho
        simp only [Option.some.injEq, Prod.mk.injEq] at o
        obtain ⟨rfl, rfl⟩ := o
        obtain ⟨c, hc, he⟩ := LR.get (fun _ _ => PR.length) t.zero (i := n.toNat) (by omega) h
        obtain ⟨e1, e2⟩ := getP_PR p (t := t) hc g ho
        refine ⟨e1, ?_⟩
        have hle := offP_le p ho
        subst e1
        rw [he, List.drop_take, List.take_take, List.drop_drop, Nat.min_eq_left (by omega)] at e2
        exact e2
      · cases o
    · cases o
  | .sub lo n :: p, .arr m t, u, xs, _, cs, _, _, ⟨hl, h⟩, g, o => by
    simp only [offP] at o
    split at o
    · rename_i hn
      split at o
      · rename_i j v ho
        simp only [Option.some.injEq, Prod.mk.injEq] at o
        obtain ⟨rfl, rfl⟩ := o
        have hc : PR w S (.arr n t) ((xs.drop lo).take n) ((cs.drop (lo * t.sz)).take (n * t.sz)) :=
          ⟨by rw [List.length_take, List.length_drop]; omega, LR.take (fun _ _ => PR.length) n (LR.drop (fun _ _ => PR.length) lo h)⟩
        obtain ⟨e1, e2⟩ := getP_PR p (t := .arr n t) hc g ho
        refine ⟨e1, ?_⟩
        have hle := offP_le p ho
        simp only [Ty.sz] at hle
        subst e1
        rw [List.drop_take, List.take_take, List.drop_drop, Nat.min_eq_left (by omega)] at e2
        exact e2
      · cases o
    · cases o

theorem CR.length {w : World} {G : Gh} {k : Nat} : ∀ {t : Ty} {p : List Bool} {x : t.den} {cs : List Value}, CR w G k p t x cs → cs.length = t.sz
  | .one t, _, _, _, h => CR.length (t := t) h
  | .pair _ _, _, _, _, ⟨c, d, e, a, b⟩ => by rw [e, List.length_append, CR.length a, CR.length b]; rfl
  | .vec _, _, _, _, ⟨v, e, _⟩ => by rw [e]; rfl
  | .dead _, _, _, _, ⟨A, n, c, e⟩ => by rw [e]; rfl
  | .int _, _, _, _, h => PR.length (t := .int _) h
  | .bool, _, _, _, h => PR.length (t := .bool) h
  | .str, _, _, _, h => PR.length (t := .str) h
  | .unit, _, _, _, h => PR.length (t := .unit) h
  | .arr n t, _, _, _, h => PR.length (t := .arr n t) h
  | .list t, _, _, _, h => PR.length (t := .list t) h
  | .full t, _, _, _, h => PR.length (t := .full t) h
  | .nil t, _, _, _, h => PR.length (t := .nil t) h
  | .ref t, _, _, _, h => PR.length (t := .ref t) h
  | .mp _ _, _, _, _, h => h.elim

/-- A part of a variable. -/
theorem getP_CR {w : World} {G : Gh} {k : Nat} : ∀ (p : List Stp) {t u : Ty} {q : List Bool} {x : t.den} {y : u.den} {cs : List Value} {i : Nat} {u' : Ty}, CR w G k q t x cs → getP p t x = some ⟨u, y⟩ → offP p t = some (i, u') →
    u' = u ∧ CR w G k (bits p q) u y ((cs.drop i).take u.sz)
  | [], t, _, _, x, _, cs, _, _, h, g, o => by
    simp only [getP, Option.some.injEq, DV.mk.injEq] at g
    obtain ⟨rfl, g⟩ := g
    cases g
    simp only [offP, Option.some.injEq, Prod.mk.injEq] at o
    obtain ⟨rfl, rfl⟩ := o
    refine ⟨rfl, ?_⟩
    rw [List.drop_zero, ← CR.length h, List.take_length]
    exact h
  | .o :: p, .one t, _, _, _, _, _, _, _, h, g, o => getP_CR p (t := t) h g o
  | .f :: p, .pair a b, _, _, x, _, cs, _, _, ⟨c, d, e, h1, h2⟩, g, o => by
    obtain ⟨e1, e2⟩ := getP_CR p (t := a) h1 g o
    refine ⟨e1, ?_⟩
    have hl := CR.length h1
    have hle := offP_le p (t := a) o
    subst e1
    rw [e, List.drop_append_of_le_length (by omega), List.take_append_of_le_length (by rw [List.length_drop]; omega)]
    exact e2
  | .s :: p, .pair a b, _, _, x, _, cs, _, _, ⟨c, d, e, h1, h2⟩, g, o => by
    simp only [offP] at o
    split at o
    · rename_i n v ho
      simp only [Option.some.injEq, Prod.mk.injEq] at o
      obtain ⟨rfl, rfl⟩ := o
      obtain ⟨e1, e2⟩ := getP_CR p (t := b) h2 g ho
      refine ⟨e1, ?_⟩
      rw [e, ← CR.length h1, List.drop_length_add_append]
      exact e2
    · cases o
  | .i n :: p, .arr m t, u, _, xs, _, cs, _, _, h, g, o => by
    obtain ⟨e1, e2⟩ := getP_PR (.i n :: p) (t := .arr m t) h g o
    exact ⟨e1, CR.of_PR e2⟩
  | .sub lo n :: p, .arr m t, u, _, xs, _, cs, _, _, h, g, o => by
    obtain ⟨e1, e2⟩ := getP_PR (.sub lo n :: p) (t := .arr m t) h g o
    exact ⟨e1, CR.of_PR e2⟩

end Go.Q

/- The value machine: writing into a part of a variable. -/
set_option linter.unusedVariables false
namespace Go.Q
open Go Go.RowKit

theorem erase_sz : ∀ {t u : Ty}, t.erase = u.erase → t.sz = u.sz := by
  have h : ∀ t : Ty, t.sz = t.erase.sz := by
    intro t
    induction t with
    | one t ih => simpa [Ty.sz, Ty.erase] using ih
    | pair a b h1 h2 => simp only [Ty.sz, Ty.erase, h1, h2]
    | _ => rfl
  intro t u e
  rw [h t, h u, e]

theorem erase_offP : ∀ (p : List Stp) {t t' u : Ty} {i : Nat}, t.erase = t'.erase → offP p t = some (i, u) → ∃ u', offP p t' = some (i, u') ∧ u.erase = u'.erase
  | [], t, t', _, _, e, h => by
    simp only [offP, Option.some.injEq, Prod.mk.injEq] at h
    obtain ⟨rfl, rfl⟩ := h
    exact ⟨t', rfl, e⟩
  | .o :: p, .one t, t', _, _, e, h => by
    cases t' <;> simp [Ty.erase] at e
    exact erase_offP p (t := t) e h
  | .f :: p, .pair a b, t', _, _, e, h => by
    cases t' <;> simp [Ty.erase] at e
    exact erase_offP p (t := a) e.1 h
  | .s :: p, .pair a b, t', _, _, e, h => by
    cases t' <;> simp [Ty.erase] at e
    rename_i a' b'
    simp only [offP] at h
    split at h
    · rename_i n w ho
      simp only [Option.some.injEq, Prod.mk.injEq] at h
      obtain ⟨rfl, rfl⟩ := h
      obtain ⟨u', h1, h2⟩ := erase_offP p (t := b) e.2 ho
      refine ⟨u', ?_, h2⟩
      simp only [offP, h1, erase_sz e.1]
    · cases h
  | .i n :: p, .arr m t, t', _, _, e, h => by
    cases t' <;> simp [Ty.erase] at e
    obtain ⟨rfl, rfl⟩ := e
    exact ⟨_, h, rfl⟩
  | .sub lo n :: p, .arr m t, t', _, _, e, h => by
    cases t' <;> simp [Ty.erase] at e
    obtain ⟨rfl, rfl⟩ := e
    exact ⟨_, h, rfl⟩

theorem setP_erase : ∀ (p : List Stp) {t : Ty} {x : t.den} {d d' : DV}, setP p t x d = some d' → d'.t.erase = t.erase
  | [], t, x, d, d', h => by
    simp only [setP] at h
    split at h
    · rename_i e; cases h; exact (Ty.eqb_eq e).symm
    · cases h
  | .o :: p, .one t, x, d, d', h => by
    simp only [setP] at h
    split at h
    · rename_i t' x' e; cases h; simp only [Ty.erase]; rw [setP_erase p (t := t) e]
    · cases h
  | .f :: p, .pair a b, x, d, d', h => by
    simp only [setP] at h
    split at h
    · rename_i t' x' e; cases h; simp only [Ty.erase]; rw [setP_erase p (t := a) e]
    · cases h
  | .s :: p, .pair a b, x, d, d', h => by
    simp only [setP] at h
    split at h
    · rename_i t' x' e; cases h; simp only [Ty.erase]; rw [setP_erase p (t := b) e]
    · cases h
  | .i n :: p, .arr m t, xs, d, d', h => by
    simp only [setP] at h
    split at h
    · split at h
      · split at h
        · cases h; rfl
        · cases h
      · cases h
    · cases h

def splice (cs : List Value) (i n : Nat) (ds : List Value) : List Value := cs.take i ++ (ds ++ cs.drop (i + n))

theorem splice_length {cs ds : List Value} {i n : Nat} (h : i + n ≤ cs.length) (hd : ds.length = n) : (splice cs i n ds).length = cs.length := by
  simp only [splice, List.length_append, List.length_take, List.length_drop]; omega

theorem splice_left {c d ds : List Value} {i n : Nat} (h : i + n ≤ c.length) : splice (c ++ d) i n ds = splice c i n ds ++ d := by
  simp only [splice]
  rw [List.take_append_of_le_length (by omega), List.drop_append_of_le_length (by omega)]
  simp

theorem splice_right {c d ds : List Value} {i n : Nat} : splice (c ++ d) (c.length + i) n ds = c ++ splice d i n ds := by
  simp only [splice]
  rw [List.take_length_add_append, Nat.add_assoc, List.drop_length_add_append]
  simp

theorem splice_all {c ds : List Value} : splice c 0 c.length ds = ds := by simp [splice]

theorem LR.set {α : Type} {R : α → List Value → Prop} {n : Nat} (hl : ∀ x c, R x c → c.length = n) {z : α} {ds : List Value} {j u : Nat} (hj : j + u ≤ n) : ∀ (i : Nat) {xs : List α} {cs : List Value}, i < xs.length → LR R xs cs →
    (∀ c, c = (cs.drop (i * n)).take n → R z (splice c j u ds)) → LR R (xs.set i z) (splice cs (i * n + j) u ds)
  | 0, [], _, hi, _, _ => by simp at hi
  | 0, x :: xs, _, hi, ⟨c, d, e, a, b⟩, h => by
    subst e
    have hc := hl _ _ a
    have := h c (by rw [Nat.zero_mul, List.drop_zero, List.take_append_of_le_length (by omega), ← hc, List.take_length])
    rw [Nat.zero_mul, Nat.zero_add, splice_left (by omega)]
    exact ⟨_, d, rfl, this, b⟩
  | i + 1, [], _, hi, _, _ => by simp at hi
  | i + 1, x :: xs, _, hi, ⟨c, d, e, a, b⟩, h => by
    subst e
    have hc := hl _ _ a
    have e2 : (i + 1) * n = c.length + i * n := by rw [hc, Nat.succ_mul]; omega
    have := LR.set hl hj i (xs := xs) (by simpa using hi) b (fun c' h' => h c' (by rw [e2, List.drop_length_add_append]; exact h'))
    rw [e2, Nat.add_assoc, splice_right]
    exact ⟨c, _, rfl, a, this⟩

/-- A part of pure data, written. -/
theorem setP_PR {w w' : World} {S S' : Nat → Nat → Prop} (hS : ∀ b o, S b o → S' b o ∧ w'.cell? ⟨b, o, none⟩ = w.cell? ⟨b, o, none⟩) :
    ∀ (p : List Stp) {t u : Ty} {x : t.den} {d d' : DV} {cs ds : List Value} {i : Nat}, PR w S t x cs → setP p t x d = some d' → offP p t = some (i, u) → PR w' S' d.t d.x ds → PR w' S' d'.t d'.x (splice cs i u.sz ds)
  | [], t, _, x, d, d', cs, ds, _, h, s, o, k => by
    simp only [setP] at s
    split at s
    · rename_i e
      cases s
      simp only [offP, Option.some.injEq, Prod.mk.injEq] at o
      obtain ⟨rfl, rfl⟩ := o
      rw [← PR.length h, splice_all]
      exact k
    · cases s
  | .o :: p, .one t, _, x, d, d', cs, ds, _, h, s, o, k => by
    simp only [setP] at s
    split at s
    · rename_i t' x' e
      cases s
      exact setP_PR hS p (t := t) (d' := ⟨t', x'⟩) h e o k
    · cases s
  | .f :: p, .pair a b, u, x, d, d', cs, ds, _, ⟨c, c', e, h1, h2⟩, s, o, k => by
    simp only [setP] at s
    split at s
    · rename_i t' x' e'
      cases s
      have := setP_PR hS p (t := a) h1 e' o k
      have hle := offP_le p (t := a) o
      subst e
      rw [splice_left (by rw [PR.length h1]; exact hle)]
      exact ⟨_, c', rfl, this, h2.mono hS⟩
    · cases s
  | .s :: p, .pair a b, u, x, d, d', cs, ds, _, ⟨c, c', e, h1, h2⟩, s, o, k => by
    simp only [setP] at s
    split at s
    · rename_i t' x' e'
      cases s
      simp only [offP] at o
      split at o
      · rename_i n v ho
        simp only [Option.some.injEq, Prod.mk.injEq] at o
        obtain ⟨rfl, rfl⟩ := o
        have := setP_PR hS p (t := b) h2 e' ho k
        subst e
        rw [← PR.length h1, splice_right]
        exact ⟨c, _, rfl, h1.mono hS, this⟩
      · cases o
    · cases s
  | .i n :: p, .arr m t, u, xs, d, d', cs, ds, _, ⟨hl, h⟩, s, o, k => by
    simp only [setP] at s
    split at s
    · split at s
      · rename_i t' y e
        split at s
        · rename_i z hz
          cases s
          obtain ⟨e1, e2⟩ := cast?_some hz
          simp only [offP] at o
          split at o
          · rename_i hn
            split at o
            · rename_i j v ho
              simp only [Option.some.injEq, Prod.mk.injEq] at o
              obtain ⟨rfl, rfl⟩ := o
              refine ⟨by rw [List.length_set]; exact hl, ?_⟩
              have hle := offP_le p ho
              refine LR.set (fun _ _ => PR.length) hle n.toNat (by omega) (LR.mono (fun _ _ => PR.mono hS) h) ?_
              intro c hc
              obtain ⟨c2, hc2, he2⟩ := LR.get (fun _ _ => PR.length) t.zero (i := n.toNat) (by omega) h
              rw [← he2] at hc
              have := setP_PR hS p (t := t) hc2 e ho k
              subst e1
              cases e2
              rw [hc]
              exact this
            · cases o
          · cases o
        · cases s
      · cases s
    · cases s

theorem append_cons_ne {r s : List Bool} {q : List Bool} (h : r ++ (true :: q) = s ++ (false :: q)) : False := by
  have h1 : (r ++ [true]) ++ q = (s ++ [false]) ++ q := by simpa using h
  have h2 := List.append_cancel_right h1
  have h3 := congrArg List.getLast? h2
  simp at h3

/-- A part of a variable, written. -/
theorem setP_CR {w w' : World} {G G' : Gh} {k : Nat} (hS : ∀ b o, G.S b o → G'.S b o ∧ w'.cell? ⟨b, o, none⟩ = w.cell? ⟨b, o, none⟩) :
    ∀ (p : List Stp) {t u : Ty} {q : List Bool} {x : t.den} {d d' : DV} {cs ds : List Value} {i : Nat}, CR w G k q t x cs → setP p t x d = some d' → offP p t = some (i, u) →
    (∀ g r, G.own g = some (.bx k (r ++ q)) → (¬ ∃ s, r ++ q = s ++ bits p q) → G'.own g = some (.bx k (r ++ q)) ∧ w'.heap[g]? = w.heap[g]?) →
    CR w' G' k (bits p q) d.t d.x ds → CR w' G' k q d'.t d'.x (splice cs i u.sz ds)
  | [], t, _, q, x, d, d', cs, ds, _, h, s, o, ho, k => by
    simp only [setP] at s
    split at s
    · rename_i e
      cases s
      simp only [offP, Option.some.injEq, Prod.mk.injEq] at o
      obtain ⟨rfl, rfl⟩ := o
      rw [← CR.length h, splice_all]
      exact k
    · cases s
  | .o :: p, .one t, _, q, x, d, d', cs, ds, _, h, s, o, ho, k => by
    simp only [setP] at s
    split at s
    · rename_i t' x' e
      cases s
      exact setP_CR hS p (t := t) (d' := ⟨t', x'⟩) h e o ho k
    · cases s
  | .f :: p, .pair a b, u, q, x, d, d', cs, ds, _, ⟨c, c', e, h1, h2⟩, s, o, ho, k => by
    simp only [setP] at s
    split at s
    · rename_i t' x' e'
      cases s
      have := setP_CR hS p (t := a) (q := false :: q) h1 e' o (fun g r hg hr => by
        have := ho g (r ++ [false]) (by simpa using hg) (fun ⟨s, hs⟩ => hr ⟨s, by simpa [bits] using hs⟩)
        simpa using this) k
      have hle := offP_le p (t := a) o
      subst e
      rw [splice_left (by rw [CR.length h1]; exact hle)]
      refine ⟨_, c', rfl, this, h2.mono2 hS (fun g r hg => ?_)⟩
      have := ho g (r ++ [true]) (by simpa using hg) (fun ⟨s, hs⟩ => by
        obtain ⟨r', hr'⟩ := bits_suffix p (false :: q)
        simp only [bits] at hs
        rw [hr'] at hs
        exact append_cons_ne (r := r) (s := s ++ r') (q := q) (by simpa using hs))
      simpa using this
    · cases s
  | .s :: p, .pair a b, u, q, x, d, d', cs, ds, _, ⟨c, c', e, h1, h2⟩, s, o, ho, k => by
    simp only [setP] at s
    split at s
    · rename_i t' x' e'
      cases s
      simp only [offP] at o
      split at o
      · rename_i n v hoff
        simp only [Option.some.injEq, Prod.mk.injEq] at o
        obtain ⟨rfl, rfl⟩ := o
        have := setP_CR hS p (t := b) (q := true :: q) h2 e' hoff (fun g r hg hr => by
          have := ho g (r ++ [true]) (by simpa using hg) (fun ⟨s, hs⟩ => hr ⟨s, by simpa [bits] using hs⟩)
          simpa using this) k
        subst e
        rw [← CR.length h1, splice_right]
        refine ⟨c, _, rfl, h1.mono2 hS (fun g r hg => ?_), this⟩
        have := ho g (r ++ [false]) (by simpa using hg) (fun ⟨s, hs⟩ => by
          obtain ⟨r', hr'⟩ := bits_suffix p (true :: q)
          simp only [bits] at hs
          rw [hr'] at hs
          exact append_cons_ne (r := s ++ r') (s := r) (q := q) (by simpa using hs.symm))
        simpa using this
      · cases o
    · cases s
  | .i n :: p, .arr m t, u, q, xs, d, d', cs, ds, _, h, s, o, ho, k => by
    have hp : d.t.pure = true := by
      simp only [setP] at s
      split at s
      · assumption
      · cases s
    exact CR.of_PR (setP_PR hS (.i n :: p) (t := .arr m t) h s o (k.to_PR hp))

end Go.Q

/- The value machine: a state and memory. -/
set_option linter.unusedVariables false
namespace Go.Q
open Go Go.RowKit

def tmv (a : Act) (i : Nat) : Value := a.tmps.getD i undef

def L2 {α β : Type} (R : α → β → Prop) : List α → List β → Prop
  | [], [] => True
  | a :: as, b :: bs => R a b ∧ L2 R as bs
  | _, _ => False

theorem L2.mono {α β : Type} {R R' : α → β → Prop} (h : ∀ a b, R a b → R' a b) : ∀ {as : List α} {bs : List β}, L2 R as bs → L2 R' as bs
  | [], [], _ => trivial
  | _ :: _, _ :: _, ⟨p, q⟩ => ⟨h _ _ p, L2.mono h q⟩
  | [], _ :: _, p => p.elim
  | _ :: _, [], p => p.elim

def DVR (w : World) (S : Nat → Nat → Prop) (d : DV) (v : Value) : Prop := ∃ cs, PR w S d.t d.x cs ∧ v = pack d.t cs

def AVR0 (w : World) (G : Gh) (σ : St) (a : Act) (i : Nat) : AV → Value → Prop
  | .any, _ => True
  | .und, v => v = undef
  | .data t x, v => DVR w G.S ⟨t, x⟩ v
  | .vec t xs, v => VecR w G (.sl i) t xs v
  | .bor s n t xs, v => n ≤ (σ.slot s).n ∧ ((σ.slot s).n = n → (σ.slot s).av = .vec t xs ∧ v = tmv a s)
  | .bbor k g n p t xs, v => (g < (σ.box k).g ∨ (g = (σ.box k).g ∧ n ≤ (σ.box k).n)) ∧ ((σ.box k).g = g → (σ.box k).n = n → ∃ d off, (σ.box k).d = some d ∧ getP p d.t d.x = some ⟨.vec t, xs⟩ ∧
      offP p d.t = some (off, .vec t) ∧ w.cell? ⟨G.β k, off, none⟩ = some v)
  | .ptr k g p, v => g ≤ (σ.box k).g ∧ ((σ.box k).g = g → ∃ d off u, (σ.box k).d = some d ∧ offP p d.t = some (off, u) ∧ v = .pointer (some ⟨G.β k, off, none⟩))
  | .vptr s n t xs j p, v => n ≤ (σ.slot s).n ∧ ((σ.slot s).n = n → (σ.slot s).av = .vec t xs ∧ 0 ≤ j ∧ j < (xs.length : Int) ∧ ∃ g cap off u, tmv a s = .slice (some ⟨g, 0, none⟩) xs.length cap ∧
      offP p t = some (off, u) ∧ v = .pointer (some ⟨g, j.toNat * t.sz + off, none⟩))
  | .bsl k g p lo hi, v => g ≤ (σ.box k).g ∧ ((σ.box k).g = g → ∃ d off m t, (σ.box k).d = some d ∧ offP p d.t = some (off, .arr m t) ∧ 0 ≤ lo ∧ lo ≤ hi ∧ hi ≤ (m : Int) ∧
      ∃ A cap, v = .slice A (hi - lo).toNat cap ∧ (hi - lo).toNat ≤ cap ∧ (lo < hi → A = some ⟨G.β k, off + lo.toNat * t.sz, none⟩))
  | .mref k g, v => g ≤ (σ.box k).g ∧ ((σ.box k).g = g → ∃ d, (σ.box k).d = some d ∧ v = .map (some (G.β k)))
  | .nil, v => v = .slice none 0 0
  | .fn _ _, _ => False
  | .tup ds, v => ∃ vs, v = .tuple vs ∧ L2 (DVR w G.S) ds vs.toList

/-- What a function value has captured. -/
def AVRS (w : World) (G : Gh) (σ : St) (a : Act) : AV → Value → Prop
  | .data t x, v => DVR w G.S ⟨t, x⟩ v
  | .ptr k g p, v => AVR0 w G σ a 0 (.ptr k g p) v
  | .nil, v => v = .slice none 0 0
  | _, _ => True

def AVR (w : World) (G : Gh) (σ : St) (a : Act) (i : Nat) : AV → Value → Prop
  | .fn f cs, v => ∃ vs, v = .func (.func f) #[] vs ∧ L2 (AVRS w G σ a) cs vs.toList
  | .any, v => AVR0 w G σ a i .any v
  | .und, v => AVR0 w G σ a i .und v
  | .data t x, v => AVR0 w G σ a i (.data t x) v
  | .vec t xs, v => AVR0 w G σ a i (.vec t xs) v
  | .bor s n t xs, v => AVR0 w G σ a i (.bor s n t xs) v
  | .bbor k g n p t xs, v => AVR0 w G σ a i (.bbor k g n p t xs) v
  | .ptr k g p, v => AVR0 w G σ a i (.ptr k g p) v
  | .vptr s n t xs j p, v => AVR0 w G σ a i (.vptr s n t xs j p) v
  | .bsl k g p lo hi, v => AVR0 w G σ a i (.bsl k g p lo hi) v
  | .mref k g, v => AVR0 w G σ a i (.mref k g) v
  | .nil, v => AVR0 w G σ a i .nil v
  | .tup ds, v => AVR0 w G σ a i (.tup ds) v

/-- What a run keeps: cells that stay as they are (f); blocks that nobody in it has (k); the deferred calls (d). -/
structure Sx where
  f : Nat → Nat → Prop
  k : Nat → Obj → Prop
  d : List Deferred

/-- A run that keeps its cells alone. -/
def Sx.of (f : Nat → Nat → Prop) : Sx := ⟨f, fun _ _ => False, []⟩

structure Inv (w0 : World) (S0 : Sx) (w : World) (G : Gh) : Prop where
  below : Below w0.heap.size w0 w
  st : ∀ b o, G.S b o → b < w.heap.size
  ex : ∀ b l, G.own b = some l → w0.heap.size ≤ b ∧ b < w.heap.size ∧ ∀ o, ¬ G.S b o
  s0 : ∀ b o, S0.f b o → G.S b o
  s1 : ∀ b o, G.S b o → b < w0.heap.size → S0.f b o
  kp : ∀ b o, S0.k b o → w.heap[b]? = some o ∧ G.own b = none

structure RelG (w0 : World) (S0 : Sx) (σ : St) (a : Act) (w : World) (G : Gh) : Prop where
  inv : Inv w0 S0 w G
  dfr : a.defers = S0.d
  szs : a.tmps.size = σ.sl.length
  szb : σ.bx.length = σ.sl.length
  sl : ∀ i, AVR w G σ a i (σ.slot i).av (tmv a i)
  bx : ∀ k d, (σ.box k).d = some d → BoxR w G k d.t d.x

def Rel (w0 : World) (S0 : Sx) (σ : St) (a : Act) (w : World) : Prop := ∃ G, RelG w0 S0 σ a w G

/-- What a step keeps, for what was said before it. -/
structure Keep (w : World) (G : Gh) (σ : St) (a : Act) (w' : World) (G' : Gh) (σ' : St) (a' : Act) : Prop where
  S : ∀ b o, G.S b o → G'.S b o ∧ w'.cell? ⟨b, o, none⟩ = w.cell? ⟨b, o, none⟩
  sl : ∀ s, (σ.slot s).n ≤ (σ'.slot s).n ∧ ((σ'.slot s).n = (σ.slot s).n → (σ'.slot s).av = (σ.slot s).av ∧ tmv a' s = tmv a s)
  bx : ∀ k, (σ.box k).g ≤ (σ'.box k).g ∧ ((σ'.box k).g = (σ.box k).g → (σ.box k).n ≤ (σ'.box k).n ∧ ∀ d, (σ.box k).d = some d → G'.β k = G.β k ∧ ∃ d', (σ'.box k).d = some d' ∧ d'.t.erase = d.t.erase ∧
      ((σ'.box k).n = (σ.box k).n → d' = d ∧ w'.heap[G.β k]? = w.heap[G.β k]?))

theorem DVR.mono {w w' : World} {S S' : Nat → Nat → Prop} (h : ∀ b o, S b o → S' b o ∧ w'.cell? ⟨b, o, none⟩ = w.cell? ⟨b, o, none⟩) {d : DV} {v : Value} (k : DVR w S d v) : DVR w' S' d v :=
  let ⟨cs, a, b⟩ := k; ⟨cs, a.mono h, b⟩

theorem arr_erase {u : Ty} {m : Nat} {t : Ty} (h : Ty.erase (.arr m t) = u.erase) : u = .arr m t := by
  cases u <;> simp [Ty.erase] at h
  obtain ⟨rfl, rfl⟩ := h
  rfl

theorem AVR0.keep {w w' : World} {G G' : Gh} {σ σ' : St} {a a' : Act} (K : Keep w G σ a w' G' σ' a') {i : Nat} (ho : ∀ g, G.own g = some (.sl i) → G'.own g = some (.sl i) ∧ w'.heap[g]? = w.heap[g]?) :
    ∀ {av : AV} {v : Value}, AVR0 w G σ a i av v → AVR0 w' G' σ' a' i av v
  | .any, _, h => h
  | .und, _, h => h
  | .data t x, _, h => DVR.mono K.S h
  | .vec t xs, _, h => VecR.mono K.S ho h
  | .bor s n t xs, v, ⟨h1, h2⟩ => by
    obtain ⟨k1, k2⟩ := K.sl s
    refine ⟨Nat.le_trans h1 k1, fun e => ?_⟩
    have e1 : (σ.slot s).n = n := by omega
    obtain ⟨k3, k4⟩ := k2 (by omega)
    obtain ⟨h3, h4⟩ := h2 e1
    exact ⟨k3.trans h3, h4.trans k4.symm⟩
  | .bbor k g n p t xs, v, ⟨h1, h2⟩ => by
    obtain ⟨k1, k2⟩ := K.bx k
    refine ⟨?_, fun e1 e2 => ?_⟩
    · by_cases e : (σ'.box k).g = (σ.box k).g
      · have := (k2 e).1
        omega
      · omega
    · have e3 : (σ.box k).g = g := by omega
      obtain ⟨k3, k4⟩ := k2 (by omega)
      have e4 : (σ.box k).n = n := by omega
      obtain ⟨d, off, a1, a2, a3, a4⟩ := h2 e3 e4
      obtain ⟨b1, d', b2, b3, b4⟩ := k4 d a1
      obtain ⟨rfl, b5⟩ := b4 (by omega)
      refine ⟨_, off, b2, a2, a3, ?_⟩
      rw [b1]
      exact (World.cell?_of_block (w := w) b5).trans a4
  | .ptr k g p, v, ⟨h1, h2⟩ => by
    obtain ⟨k1, k2⟩ := K.bx k
    refine ⟨Nat.le_trans h1 k1, fun e => ?_⟩
    have e1 : (σ.box k).g = g := by omega
    obtain ⟨k3, k4⟩ := k2 (by omega)
    obtain ⟨d, off, u, a1, a2, a3⟩ := h2 e1
    obtain ⟨b1, d', b2, b3, b4⟩ := k4 d a1
    obtain ⟨u', c1, c2⟩ := erase_offP p b3.symm a2
    exact ⟨d', off, u', b2, c1, by rw [b1]; exact a3⟩
  | .vptr s n t xs j p, v, ⟨h1, h2⟩ => by
    obtain ⟨k1, k2⟩ := K.sl s
    refine ⟨Nat.le_trans h1 k1, fun e => ?_⟩
    have e1 : (σ.slot s).n = n := by omega
    obtain ⟨k3, k4⟩ := k2 (by omega)
    obtain ⟨h3, h4, h5, g, cap, off, u, h6, h7, h8⟩ := h2 e1
    exact ⟨k3.trans h3, h4, h5, g, cap, off, u, k4.trans h6, h7, h8⟩
  | .bsl k g p lo hi, v, ⟨h1, h2⟩ => by
    obtain ⟨k1, k2⟩ := K.bx k
    refine ⟨Nat.le_trans h1 k1, fun e => ?_⟩
    have e1 : (σ.box k).g = g := by omega
    obtain ⟨k3, k4⟩ := k2 (by omega)
    obtain ⟨d, off, m, t, a1, a2, a3⟩ := h2 e1
    obtain ⟨b1, d', b2, b3, b4⟩ := k4 d a1
    obtain ⟨u', c1, c2⟩ := erase_offP p b3.symm a2
    obtain rfl := arr_erase c2
    exact ⟨d', off, m, t, b2, c1, by rw [b1]; exact a3⟩
  | .mref k g, v, ⟨h1, h2⟩ => by
    obtain ⟨k1, k2⟩ := K.bx k
    refine ⟨Nat.le_trans h1 k1, fun e => ?_⟩
    have e1 : (σ.box k).g = g := by omega
    obtain ⟨k3, k4⟩ := k2 (by omega)
    obtain ⟨d, a1, a3⟩ := h2 e1
    obtain ⟨b1, d', b2, b3, b4⟩ := k4 d a1
    exact ⟨d', b2, by rw [b1]; exact a3⟩
  | .nil, _, h => h
  | .fn _ _, _, h => h
  | .tup ds, v, ⟨vs, e, h⟩ => ⟨vs, e, L2.mono (fun _ _ => DVR.mono K.S) h⟩

theorem AVR0.ptr_keep {w w' : World} {G G' : Gh} {σ σ' : St} {a a' : Act} (K : Keep w G σ a w' G' σ' a') {i j : Nat} {k g : Nat} {p : List Stp} {v : Value} (h : AVR0 w G σ a i (.ptr k g p) v) : AVR0 w' G' σ' a' j (.ptr k g p) v := by
  have := AVR0.keep (i := i) (G := ⟨G.S, G.β, fun _ => none⟩) (w := w) (G' := ⟨G'.S, G'.β, fun _ => none⟩) (σ := σ) (σ' := σ') (a := a) (a' := a') ⟨K.S, K.sl, K.bx⟩ (fun _ h => by cases h) (av := .ptr k g p) h
  exact this

theorem AVRS.keep {w w' : World} {G G' : Gh} {σ σ' : St} {a a' : Act} (K : Keep w G σ a w' G' σ' a') {av : AV} {v : Value} (h : AVRS w G σ a av v) : AVRS w' G' σ' a' av v := by
  cases av with
  | data t x => exact DVR.mono K.S h
  | ptr k g p => exact AVR0.ptr_keep (i := 0) (j := 0) K h
  | nil => exact h
  | _ => trivial

theorem AVR.keep {w w' : World} {G G' : Gh} {σ σ' : St} {a a' : Act} (K : Keep w G σ a w' G' σ' a') {i : Nat} (ho : ∀ g, G.own g = some (.sl i) → G'.own g = some (.sl i) ∧ w'.heap[g]? = w.heap[g]?)
    {av : AV} {v : Value} (h : AVR w G σ a i av v) : AVR w' G' σ' a' i av v := by
  cases av with
  | fn f cs =>
    obtain ⟨vs, e, h⟩ := h
    exact ⟨vs, e, L2.mono (fun _ _ => AVRS.keep K) h⟩
  | _ => simp only [AVR] at h ⊢; exact AVR0.keep K ho h

theorem BoxR.mono {w w' : World} {G G' : Gh} {k : Nat} (hS : ∀ b o, G.S b o → G'.S b o ∧ w'.cell? ⟨b, o, none⟩ = w.cell? ⟨b, o, none⟩) (hβ : G'.β k = G.β k)
    (ho : ∀ g, (G.own g = some (.me k) ∨ ∃ p, G.own g = some (.bx k p)) → G'.own g = G.own g ∧ w'.heap[g]? = w.heap[g]?) {t : Ty} {x : t.den} (h : BoxR w G k t x) : BoxR w' G' k t x := by
  rcases h with ⟨arr, e, a1, a2, a3⟩ | ⟨kk, ek, m, e, a2, es, clock, a1, a3⟩
  · refine .inl ⟨arr, e, ?_, ?_, CR.mono hS (fun g p hg => ?_) a3⟩
    · rw [hβ]; exact (ho _ (.inl a2)).2.trans a1
    · rw [hβ]; exact (ho _ (.inl a2)).1.trans a2
    · have := ho g (.inr ⟨p, hg⟩)
      exact ⟨this.1.trans hg, this.2⟩
  · refine .inr ⟨kk, ek, m, e, ?_, es, clock, ?_, a3⟩
    · rw [hβ]; exact (ho _ (.inl a2)).1.trans a2
    · rw [hβ]; exact (ho _ (.inl a2)).2.trans a1

theorem RelG.step {w0 w w' : World} {S0 : Sx} {G G' : Gh} {σ σ' : St} {a a' : Act} (h : RelG w0 S0 σ a w G) (K : Keep w G σ a w' G' σ' a') (hI : Inv w0 S0 w' G') (hd : a'.defers = S0.d)
    (hz : a'.tmps.size = σ'.sl.length) (hzb : σ'.bx.length = σ'.sl.length)
    (hs : ∀ i, AVR w' G' σ' a' i (σ'.slot i).av (tmv a' i) ∨ ((σ'.slot i).av = (σ.slot i).av ∧ tmv a' i = tmv a i ∧ ∀ g, G.own g = some (.sl i) → G'.own g = some (.sl i) ∧ w'.heap[g]? = w.heap[g]?))
    (hb : ∀ k d, (σ'.box k).d = some d → BoxR w' G' k d.t d.x ∨ ((σ.box k).d = some d ∧ G'.β k = G.β k ∧ ∀ g, (G.own g = some (.me k) ∨ ∃ p, G.own g = some (.bx k p)) → G'.own g = G.own g ∧ w'.heap[g]? = w.heap[g]?)) :
    RelG w0 S0 σ' a' w' G' :=
  ⟨hI, hd, hz, hzb, fun i => (hs i).elim id fun ⟨e1, e2, ho⟩ => by rw [e1, e2]; exact (h.sl i).keep K ho, fun k d hk => (hb k d hk).elim id fun ⟨e1, e2, ho⟩ => (h.bx k d e1).mono K.S e2 ho⟩

/-! ### The state's own laws -/
theorem upd_length {α : Type} (l : List α) (i : Nat) (x : α) : (upd l i x).length = l.length := by
  induction l generalizing i with
  | nil => rfl
  | cons a l ih => cases i <;> simp [upd, ih]

theorem nth_upd {α : Type} (d : α) (l : List α) (i j : Nat) (x : α) : nth d (upd l i x) j = if j = i ∧ i < l.length then x else nth d l j := by
  induction l generalizing i j with
  | nil => simp [upd, nth]
  | cons a l ih => cases i <;> cases j <;> simp [upd, nth, ih]

theorem nth_out {α : Type} (d : α) (l : List α) (i : Nat) (h : l.length ≤ i) : nth d l i = d := by
  induction l generalizing i with
  | nil => rfl
  | cons a l ih => cases i with
    | zero => simp at h
    | succ i => simpa [nth] using ih i (by simpa using h)

theorem slot_sl (σ : St) (i j : Nat) (av : AV) : (σ.do1 (.sl i av)).slot j = if j = i ∧ i < σ.sl.length then ⟨av, (σ.slot i).n + 1⟩ else σ.slot j := by
  simp only [St.do1, St.slot, nth_upd]

theorem box_sl (σ : St) (i k : Nat) (av : AV) : (σ.do1 (.sl i av)).box k = σ.box k := rfl

theorem slot_bx (σ : St) (i k : Nat) (f : Bool) (d : DV) : (σ.do1 (.bx k f d)).slot i = σ.slot i := rfl

theorem box_bx (σ : St) (k j : Nat) (f : Bool) (d : DV) : (σ.do1 (.bx k f d)).box j = if j = k ∧ k < σ.bx.length then (if f then ⟨(σ.box k).g + 1, 0, some d⟩ else ⟨(σ.box k).g, (σ.box k).n + 1, some d⟩) else σ.box j := by
  simp only [St.do1, St.box, nth_upd]
  cases f <;> rfl

theorem len_sl (σ : St) (u : Upd) : (σ.do1 u).sl.length = σ.sl.length := by
  cases u <;> simp [St.do1, upd_length]

theorem len_bx (σ : St) (u : Upd) : (σ.do1 u).bx.length = σ.bx.length := by
  cases u <;> simp [St.do1, upd_length]

theorem tmv_put (a : Act) (d i : Nat) (v : Value) : tmv (a.put (some d) v) i = if i = d ∧ d < a.tmps.size then v else tmv a i := by
  simp only [tmv, Act.put, Array.getD_eq_getD_getElem?, Array.getElem?_setIfInBounds]
  by_cases h : d = i
  · subst h
    by_cases h2 : d < a.tmps.size
    · simp [h2]
    · simp [h2]
  · rw [if_neg h, if_neg (fun e => h e.1.symm)]

theorem put_size (a : Act) (d : Option Nat) (v : Value) : (a.put d v).tmps.size = a.tmps.size := by cases d <;> simp [Act.put]
theorem put_defers (a : Act) (d : Option Nat) (v : Value) : (a.put d v).defers = a.defers := by cases d <;> rfl

end Go.Q

/- The value machine: what an operand shows, and what it holds. -/
set_option linter.unusedVariables false
namespace Go.Q
open Go Go.RowKit

def OVR0 (w : World) (G : Gh) (σ : St) (a : Act) : OV → Value → Prop
  | .any, _ => True
  | .und, v => v = undef
  | .data t x, v => DVR w G.S ⟨t, x⟩ v
  | .own s n t xs, v => σ.slot s = ⟨.vec t xs, n⟩ ∧ v = tmv a s ∧ VecR w G (.sl s) t xs v
  | .ownb k p t xs d, v => (σ.box k).d = some d ∧ getP p d.t d.x = some ⟨.vec t, xs⟩ ∧ ∃ off, offP p d.t = some (off, .vec t) ∧ w.cell? ⟨G.β k, off, none⟩ = some v ∧ VecR w G (.bx k (bits p [])) t xs v
  | .ptr k g p d, v => (σ.box k).g = g ∧ (σ.box k).d = some d ∧ ∃ off u, offP p d.t = some (off, u) ∧ v = .pointer (some ⟨G.β k, off, none⟩)
  | .vptr s n t xs j p, v => σ.slot s = ⟨.vec t xs, n⟩ ∧ 0 ≤ j ∧ j < (xs.length : Int) ∧ ∃ g cap off u, tmv a s = .slice (some ⟨g, 0, none⟩) xs.length cap ∧ VecR w G (.sl s) t xs (tmv a s) ∧
      offP p t = some (off, u) ∧ v = .pointer (some ⟨g, j.toNat * t.sz + off, none⟩)
  | .bsl k g p lo hi d, v => (σ.box k).g = g ∧ (σ.box k).d = some d ∧ ∃ off m t, offP p d.t = some (off, .arr m t) ∧ 0 ≤ lo ∧ lo ≤ hi ∧ hi ≤ (m : Int) ∧
      ∃ A cap, v = .slice A (hi - lo).toNat cap ∧ (hi - lo).toNat ≤ cap ∧ (lo < hi → A = some ⟨G.β k, off + lo.toNat * t.sz, none⟩)
  | .mref k g d, v => (σ.box k).g = g ∧ (σ.box k).d = some d ∧ v = .map (some (G.β k))
  | .nil, v => v = .slice none 0 0
  | .fn _ _, _ => False
  | .tup ds, v => ∃ vs, v = .tuple vs ∧ L2 (DVR w G.S) ds vs.toList

def OVR (w : World) (G : Gh) (σ : St) (a : Act) : OV → Value → Prop
  | .fn f cs, v => ∃ vs, v = .func (.func f) #[] vs ∧ L2 (OVR0 w G σ a) cs vs.toList
  | .any, v => OVR0 w G σ a .any v
  | .und, v => OVR0 w G σ a .und v
  | .data t x, v => OVR0 w G σ a (.data t x) v
  | .own s n t xs, v => OVR0 w G σ a (.own s n t xs) v
  | .ownb k p t xs d, v => OVR0 w G σ a (.ownb k p t xs d) v
  | .ptr k g p d, v => OVR0 w G σ a (.ptr k g p d) v
  | .vptr s n t xs j p, v => OVR0 w G σ a (.vptr s n t xs j p) v
  | .bsl k g p lo hi d, v => OVR0 w G σ a (.bsl k g p lo hi d) v
  | .mref k g d, v => OVR0 w G σ a (.mref k g d) v
  | .nil, v => OVR0 w G σ a .nil v
  | .tup ds, v => OVR0 w G σ a (.tup ds) v

/-- The constant variables lie where they lie. -/
def GlR (gl : Nat → Option DV) (w0 : World) (S0 : Nat → Nat → Prop) : Prop :=
  (∀ b o, S0 b o → b < w0.heap.size) ∧ ∀ g d, gl g = some d → ∃ ds, PR w0 S0 d.t d.x ds ∧ Cells w0 S0 g 0 ds

def GlOK (e : Env) (w0 : World) (S0 : Sx) : Prop := GlR e.gl w0 S0.f

theorem vec_cell {w : World} {G : Gh} {k : Nat} {q : List Bool} {t : Ty} {xs : List t.den} {cs : List Value} (h : CR w G k q (.vec t) xs cs) : ∃ v, cs = [v] ∧ VecR w G (.bx k q) t xs v := h

theorem box_cells {w : World} {b : Nat} {arr : Array Value} {e : TypeId} {fr : Nat × Nat} (h : w.heap[b]? = some (.cells arr e fr)) (o : Nat) : w.cell? ⟨b, o, none⟩ = arr[o]? := by
  simp [World.cell?, h]

theorem drop_take_one {cs : List Value} {i : Nat} {v : Value} (h : (cs.drop i).take 1 = [v]) : cs[i]? = some v := by
  have h1 : ((cs.drop i).take 1)[0]? = some v := by rw [h]; rfl
  rw [List.getElem?_take_of_lt (by omega), List.getElem?_drop] at h1
  simpa using h1

section
variable {w0 w : World} {S0 : Sx} {σ : St} {a : Act} {G : Gh}

theorem look0_ok (h : RelG w0 S0 σ a w G) (s : Nat) {av : AV} (he : (σ.slot s).av = av) (hf : ∀ f cs, av ≠ .fn f cs) : OVR w G σ a (look0 σ s av) (tmv a s) := by
  have hv := h.sl s
  rw [he] at hv
  cases av with
  | any => trivial
  | und => exact hv
  | data t x => exact hv
  | vec t xs =>
    refine ⟨?_, rfl, hv⟩
    show σ.slot s = ⟨.vec t xs, (σ.slot s).n⟩
    rw [← he]
  | bor r n t xs =>
    simp only [look0]
    split
    · rename_i hb
      obtain ⟨h1, h2⟩ := hv
      have hb' : (σ.slot r).n = n := Nat.eq_of_beq_eq_true hb
      obtain ⟨e1, e2⟩ := h2 hb'
      have hr := h.sl r
      rw [e1] at hr
      refine ⟨?_, e2, ?_⟩
      · rw [← e1, ← hb']
      · rw [e2]; exact hr
    · trivial
  | bbor k g n p t xs =>
    simp only [look0]
    split
    · rename_i g' n' d hb
      split
      · rename_i hc
        simp only [Bool.and_eq_true] at hc
        have e1 : g = g' := Nat.eq_of_beq_eq_true hc.1
        have e2 : n = n' := Nat.eq_of_beq_eq_true hc.2
        have hbox : σ.box k = ⟨g', n', some d⟩ := hb
        obtain ⟨h1, h2⟩ := hv
        obtain ⟨d', off, a1, a2, a3, a4⟩ := h2 (by rw [hbox]; exact e1.symm) (by rw [hbox]; exact e2.symm)
        have : d' = d := by rw [hbox] at a1; exact (Option.some.inj a1).symm
        subst this
        obtain ⟨arr, ee, b1, b2, b3⟩ := (h.bx k d' a1).cells (fun kk ek e => by
          obtain ⟨dt, dx⟩ := d'
          simp only at e
          subst e
          cases p with
          | nil => simp [getP] at a2
          | cons q p => cases q <;> simp [getP] at a2)
        obtain ⟨_, c1⟩ := getP_CR p b3 a2 a3
        obtain ⟨v, c2, c3⟩ := vec_cell c1
        have c4 := drop_take_one c2
        rw [box_cells b1] at a4
        rw [Array.getElem?_toList, a4] at c4
        cases c4
        exact ⟨a1, a2, off, a3, by rw [box_cells b1]; exact a4, c3⟩
      · trivial
    · trivial
  | ptr k g p =>
    simp only [look0]
    split
    · rename_i g' n' d hb
      split
      · rename_i hc
        have e1 : g = g' := Nat.eq_of_beq_eq_true hc
        have hbox : σ.box k = ⟨g', n', some d⟩ := hb
        obtain ⟨h1, h2⟩ := hv
        obtain ⟨d', off, u, a1, a2, a3⟩ := h2 (by rw [hbox]; exact e1.symm)
        have : d' = d := by rw [hbox] at a1; exact (Option.some.inj a1).symm
        subst this
        exact ⟨by rw [hbox]; exact e1.symm, a1, off, u, a2, a3⟩
      · trivial
    · trivial
  | vptr r n t xs j p =>
    simp only [look0]
    split
    · rename_i hb
      obtain ⟨h1, h2⟩ := hv
      have hb' : (σ.slot r).n = n := Nat.eq_of_beq_eq_true hb
      obtain ⟨e1, e2, e3, g, cap, off, u, e4, e5, e6⟩ := h2 hb'
      have hr := h.sl r
      rw [e1] at hr
      exact ⟨by rw [← e1, ← hb'], e2, e3, g, cap, off, u, e4, hr, e5, e6⟩
    · trivial
  | bsl k g p lo hi =>
    simp only [look0]
    split
    · rename_i g' n' d hb
      split
      · rename_i hc
        have e1 : g = g' := Nat.eq_of_beq_eq_true hc
        have hbox : σ.box k = ⟨g', n', some d⟩ := hb
        obtain ⟨h1, h2⟩ := hv
        obtain ⟨d', off, m, t, a1, a2⟩ := h2 (by rw [hbox]; exact e1.symm)
        have : d' = d := by rw [hbox] at a1; exact (Option.some.inj a1).symm
        subst this
        exact ⟨by rw [hbox]; exact e1.symm, a1, off, m, t, a2⟩
      · trivial
    · trivial
  | mref k g =>
    simp only [look0]
    split
    · rename_i g' n' d hb
      split
      · rename_i hc
        have e1 : g = g' := Nat.eq_of_beq_eq_true hc
        have hbox : σ.box k = ⟨g', n', some d⟩ := hb
        obtain ⟨h1, h2⟩ := hv
        obtain ⟨d', a1, a3⟩ := h2 (by rw [hbox]; exact e1.symm)
        have : d' = d := by rw [hbox] at a1; exact (Option.some.inj a1).symm
        subst this
        exact ⟨by rw [hbox]; exact e1.symm, a1, a3⟩
      · trivial
    · trivial
  | nil => exact hv
  | fn f cs => exact absurd rfl (hf f cs)
  | tup ds => exact hv

theorem lookS_ok (h : RelG w0 S0 σ a w G) {av : AV} {v : Value} (hv : AVRS w G σ a av v) : OVR0 w G σ a (lookS σ av) v := by
  cases av with
  | data t x => exact hv
  | nil => exact hv
  | ptr k g p =>
    simp only [lookS, look0]
    split
    · rename_i g' n' d hb
      split
      · rename_i hc
        have e1 : g = g' := Nat.eq_of_beq_eq_true hc
        have hbox : σ.box k = ⟨g', n', some d⟩ := hb
        obtain ⟨h1, h2⟩ := hv
        obtain ⟨d', off, u, a1, a2, a3⟩ := h2 (by rw [hbox]; exact e1.symm)
        have : d' = d := by rw [hbox] at a1; exact (Option.some.inj a1).symm
        subst this
        exact ⟨by rw [hbox]; exact e1.symm, a1, off, u, a2, a3⟩
      · trivial
    · trivial
  | _ => trivial

theorem L2.map {α β γ : Type} {R : α → β → Prop} {R' : γ → β → Prop} (f : α → γ) (h : ∀ a b, R a b → R' (f a) b) : ∀ {as : List α} {bs : List β}, L2 R as bs → L2 R' (as.map f) bs
  | [], [], _ => trivial
  | _ :: _, _ :: _, ⟨p, q⟩ => ⟨h _ _ p, L2.map f h q⟩
  | [], _ :: _, p => p.elim
  | _ :: _, [], p => p.elim

theorem look_ok (h : RelG w0 S0 σ a w G) (s : Nat) : OVR w G σ a (look σ s (σ.slot s).av) (tmv a s) := by
  have hv := h.sl s
  generalize he : (σ.slot s).av = av at hv ⊢
  cases av with
  | fn f cs =>
    obtain ⟨vs, e1, e2⟩ := hv
    exact ⟨vs, e1, L2.map (lookS σ) (fun _ _ => lookS_ok h) e2⟩
  | _ => exact look0_ok h s he (fun _ _ e => by cases e)

theorem DVR.one {w : World} {S : Nat → Nat → Prop} {t : Ty} {x : t.den} {v : Value} (ht : t.agg = false) (h : PR w S t x [v]) : DVR w S ⟨t, x⟩ v :=
  ⟨[v], h, by simp [pack, ht]⟩

theorem constOV_ok (v : Value) : OVR w G σ a (constOV v) v := by
  cases v with
  | int k n => exact DVR.one rfl rfl
  | bool b => exact DVR.one rfl rfl
  | string s => exact DVR.one rfl rfl
  | slice A n c =>
    cases A with
    | some _ => trivial
    | none => cases n <;> cases c <;> first | rfl | trivial
  | _ => trivial

theorem view_ok {e : Env} (h : RelG w0 S0 σ a w G) (hg : GlOK e w0 S0) (x : Operand) : OVR w G σ a (view e σ x) (a.eval x) := by
  cases x with
  | tmp t => exact look_ok h t
  | const v => exact constOV_ok v
  | global g =>
    simp only [view]
    cases hd : e.gl g with
    | none => trivial
    | some d =>
      obtain ⟨ds, h1, h2⟩ := hg.2 g d hd
      have hm : ∀ b o, S0.f b o → G.S b o ∧ w.cell? ⟨b, o, none⟩ = w0.cell? ⟨b, o, none⟩ := fun b o hs =>
        ⟨h.inv.s0 b o hs, h.inv.below.cell (p := ⟨b, o, none⟩) (hg.1 b o hs)⟩
      exact DVR.one rfl ⟨g, 0, ds, rfl, PR.mono hm h1, Cells.mono hm h2⟩
  | func f => exact ⟨#[], rfl, trivial⟩
end

/-! ### Operations -/
theorem op_value {P : Program} {o : Oper} {a : Act} {w w' : World} {next : Act → World → Prop} {Q : Exit → Act → World → Prop} {v : Value} (hr : (execOp a.eval o).run P w = .ok (.value v) w') (h : next (a.put o.dst v) w') : o.wp P a w next Q := by
  unfold Oper.wp; rw [hr]; exact h
theorem op_skip {P : Program} {o : Oper} {a : Act} {w w' : World} {next : Act → World → Prop} {Q : Exit → Act → World → Prop} (hr : (execOp a.eval o).run P w = .ok .skip w') (h : next (a.put o.dst undef) w') : o.wp P a w next Q := by
  unfold Oper.wp; rw [hr]; exact h
theorem op_enter {P : Program} {o : Oper} {a : Act} {w w' : World} {next : Act → World → Prop} {Q : Exit → Act → World → Prop} {f : FuncId} {args : Array Value} (hr : (execOp a.eval o).run P w = .ok (.enter f args) w')
    (h : Calls P f args w' fun e w'' => ∃ v, e = .returned v ∧ next (a.put o.dst v) w'') : o.wp P a w next Q := by
  unfold Oper.wp; rw [hr]
  exact h.mono fun e w'' ⟨v, he, hn⟩ => by subst he; exact hn

section
variable {w0 w : World} {S0 : Sx} {σ : St} {a : Act} {G : Gh}

theorem AVR.keepN {w w' : World} {G G' : Gh} {σ σ' : St} {a a' : Act} (K : Keep w G σ a w' G' σ' a') {i j : Nat} {av : AV} (hn : ∀ t xs, av ≠ .vec t xs) {v : Value} (h : AVR0 w G σ a i av v) : AVR0 w' G' σ' a' j av v := by
  cases av with
  | vec t xs => exact absurd rfl (hn t xs)
  | bor s n t xs =>
    have := AVR0.keep (i := i) (G := ⟨G.S, G.β, fun _ => none⟩) (w := w) (G' := ⟨G'.S, G'.β, fun _ => none⟩) (σ := σ) (σ' := σ') (a := a) (a' := a') ⟨K.S, K.sl, K.bx⟩ (fun _ h => by cases h) (av := .bor s n t xs) h
    exact this
  | any => trivial
  | und => exact h
  | data t x => exact DVR.mono K.S h
  | bbor k g n p t xs =>
    have := AVR0.keep (i := i) (G := ⟨G.S, G.β, fun _ => none⟩) (w := w) (G' := ⟨G'.S, G'.β, fun _ => none⟩) (σ := σ) (σ' := σ') (a := a) (a' := a') ⟨K.S, K.sl, K.bx⟩ (fun _ h => by cases h) (av := .bbor k g n p t xs) h
    exact this
  | ptr k g p =>
    have := AVR0.keep (i := i) (G := ⟨G.S, G.β, fun _ => none⟩) (w := w) (G' := ⟨G'.S, G'.β, fun _ => none⟩) (σ := σ) (σ' := σ') (a := a) (a' := a') ⟨K.S, K.sl, K.bx⟩ (fun _ h => by cases h) (av := .ptr k g p) h
    exact this
  | vptr s n t xs jj p =>
    have := AVR0.keep (i := i) (G := ⟨G.S, G.β, fun _ => none⟩) (w := w) (G' := ⟨G'.S, G'.β, fun _ => none⟩) (σ := σ) (σ' := σ') (a := a) (a' := a') ⟨K.S, K.sl, K.bx⟩ (fun _ h => by cases h) (av := .vptr s n t xs jj p) h
    exact this
  | bsl k g p lo hi =>
    have := AVR0.keep (i := i) (G := ⟨G.S, G.β, fun _ => none⟩) (w := w) (G' := ⟨G'.S, G'.β, fun _ => none⟩) (σ := σ) (σ' := σ') (a := a) (a' := a') ⟨K.S, K.sl, K.bx⟩ (fun _ h => by cases h) (av := .bsl k g p lo hi) h
    exact this
  | mref k g =>
    have := AVR0.keep (i := i) (G := ⟨G.S, G.β, fun _ => none⟩) (w := w) (G' := ⟨G'.S, G'.β, fun _ => none⟩) (σ := σ) (σ' := σ') (a := a) (a' := a') ⟨K.S, K.sl, K.bx⟩ (fun _ h => by cases h) (av := .mref k g) h
    exact this
  | nil => exact h
  | fn f cs => exact h
  | tup ds => obtain ⟨vs, e, h⟩ := h; exact ⟨vs, e, L2.mono (fun _ _ => DVR.mono K.S) h⟩

/-- A slot that is set, memory as it was. -/
theorem keep_put (h : RelG w0 S0 σ a w G) (d : Nat) (av : AV) (v : Value) : Keep w G σ a w G (σ.do1 (.sl d av)) (a.put (some d) v) := by
  refine ⟨fun b o hs => ⟨hs, rfl⟩, fun s => ?_, fun k => ⟨Nat.le_refl _, fun _ => ⟨Nat.le_refl _, fun d' hd => ⟨rfl, d', hd, rfl, fun _ => ⟨rfl, rfl⟩⟩⟩⟩⟩
  rw [slot_sl, tmv_put, h.szs]
  by_cases hc : s = d ∧ d < σ.sl.length
  · rw [if_pos hc]
    obtain ⟨rfl, _⟩ := hc
    exact ⟨by simp, fun e => by simp at e⟩
  · rw [if_neg hc, if_neg hc]
    exact ⟨Nat.le_refl _, fun _ => ⟨rfl, rfl⟩⟩

theorem keep_drop (h : RelG w0 S0 σ a w G) (d : Nat) (av : AV) : Keep w G σ a w G (σ.do1 (.sl d av)) a := by
  refine ⟨fun b o hs => ⟨hs, rfl⟩, fun s => ?_, fun k => ⟨Nat.le_refl _, fun _ => ⟨Nat.le_refl _, fun d' hd => ⟨rfl, d', hd, rfl, fun _ => ⟨rfl, rfl⟩⟩⟩⟩⟩
  rw [slot_sl]
  by_cases hc : s = d ∧ d < σ.sl.length
  · rw [if_pos hc]
    obtain ⟨rfl, _⟩ := hc
    exact ⟨by simp, fun e => by simp at e⟩
  · rw [if_neg hc]
    exact ⟨Nat.le_refl _, fun _ => ⟨rfl, rfl⟩⟩

theorem rel_slot (h : RelG w0 S0 σ a w G) (d : Nat) (av : AV) {a' : Act} (hK : Keep w G σ a w G (σ.do1 (.sl d av)) a') (hd : a'.defers = S0.d) (hz : a'.tmps.size = a.tmps.size) (ht : ∀ i, i ≠ d → tmv a' i = tmv a i) (ho : σ.sl.length ≤ d → tmv a' d = tmv a d)
    (hv : d < σ.sl.length → AVR w G (σ.do1 (.sl d av)) a' d av (tmv a' d)) : RelG w0 S0 (σ.do1 (.sl d av)) a' w G := by
  refine h.step hK h.inv hd (by rw [hz, len_sl, h.szs]) (by rw [len_bx, len_sl, h.szb]) (fun i => ?_) (fun k dv hk => .inr ⟨hk, rfl, fun g _ => ⟨rfl, rfl⟩⟩)
  rw [slot_sl]
  by_cases hc : i = d ∧ d < σ.sl.length
  · rw [if_pos hc]
    obtain ⟨rfl, hlt⟩ := hc
    exact .inl (hv hlt)
  · rw [if_neg hc]
    refine .inr ⟨rfl, ?_, fun g hg => ⟨hg, rfl⟩⟩
    by_cases e : i = d
    · subst e; exact ho (by omega)
    · exact ht i e

theorem rel_put (h : RelG w0 S0 σ a w G) (d : Nat) {av : AV} {v : Value} (hv : AVR w G (σ.do1 (.sl d av)) (a.put (some d) v) d av v) : RelG w0 S0 (σ.do1 (.sl d av)) (a.put (some d) v) w G := by
  refine rel_slot h d av (keep_put h d av v) (by rw [put_defers]; exact h.dfr) (put_size _ _ _) (fun i hi => by rw [tmv_put, if_neg (fun e => hi e.1)]) (fun hl => by rw [tmv_put, if_neg (fun e => by rw [h.szs] at e; omega)]) (fun hl => ?_)
  rw [tmv_put, if_pos ⟨rfl, by rw [h.szs]; exact hl⟩]
  exact hv

theorem rel_drop (h : RelG w0 S0 σ a w G) (s : Nat) : RelG w0 S0 (σ.do1 (.sl s .any)) a w G :=
  rel_slot h s .any (keep_drop h s .any) h.dfr rfl (fun _ _ => rfl) (fun _ => rfl) (fun _ => trivial)

/-- A slot that is set to what is no owned slice. -/
theorem rel_sets (h : RelG w0 S0 σ a w G) (dst : Option Nat) {av : AV} {v : Value} (hn : ∀ t xs, av ≠ .vec t xs) (hv : AVR w G σ a 0 av v) : RelG w0 S0 (σ.app (sets dst av)) (a.put dst v) w G := by
  cases dst with
  | none => exact h
  | some d =>
    refine rel_put h d ?_
    have K := keep_put h d av v
    cases av with
    | fn f cs =>
      obtain ⟨vs, e1, e2⟩ := hv
      exact ⟨vs, e1, L2.mono (fun _ _ => AVRS.keep K) e2⟩
    | vec t xs => exact absurd rfl (hn t xs)
    | _ => simp only [AVR] at hv ⊢; exact AVR.keepN K (by simp) hv
end

end Go.Q

/- The value machine: memory's changes; the surroundings. -/
set_option linter.unusedVariables false
namespace Go.Q
open Go Go.RowKit

/-! ### Blocks -/
theorem Value.one' {v : Value} (h : Value.one v) : v.oneCell' = true := by cases v <;> simp_all [Value.one, Value.oneCell']

theorem add_none (b o n : Nat) : (⟨b, o, none⟩ : Addr).add n = ⟨b, o + n, none⟩ := by unfold Addr.add; split <;> simp_all

theorem heap_setCells_other (b : Nat) : ∀ (vs : List Value) (o : Nat) (w : World) (k : Nat), k ≠ b → (w.setCells b o vs).heap[k]? = w.heap[k]?
  | [], _, _, _, _ => rfl
  | v :: r, o, w, k, h => by rw [World.setCells, heap_setCells_other b r (o + 1) _ k h, Below.heap_setCell _ _ _ _ (by simpa using h)]

theorem splice_set : ∀ (o : Nat) (l r : List Value) (v : Value), o < l.length → splice (l.set o v) (o + 1) r.length r = splice l o (v :: r).length (v :: r)
  | _, [], _, _, h => by simp at h
  | 0, a :: l, r, v, _ => by simp [splice, Nat.add_comm]
  | o + 1, a :: l, r, v, h => by
    have ih := splice_set o l r v (by simpa using h)
    simp only [splice, List.set_cons_succ, List.take_succ_cons, List.cons_append] at ih ⊢
    rw [show o + 1 + 1 + r.length = (o + 1 + r.length) + 1 by omega, show o + 1 + (v :: r).length = (o + (v :: r).length) + 1 by omega, List.drop_succ_cons, List.drop_succ_cons, ih]

theorem heap_setCells_same (b : Nat) : ∀ (vs : List Value) (o : Nat) (w : World) (arr : Array Value) (e : TypeId) (fr : Nat × Nat), w.heap[b]? = some (.cells arr e fr) → o + vs.length ≤ arr.size →
    ∃ arr', (w.setCells b o vs).heap[b]? = some (.cells arr' e fr) ∧ arr'.toList = splice arr.toList o vs.length vs
  | [], o, w, arr, e, fr, h, hl => ⟨arr, h, by simp [splice]⟩
  | v :: r, o, w, arr, e, fr, h, hl => by
    simp only [List.length_cons] at hl
    have h1 : (w.setCell ⟨b, o, none⟩ v).heap[b]? = some (.cells (arr.setIfInBounds o v) e fr) := by
      simp [World.setCell, Array.getElem?_modify, h]
    obtain ⟨arr', h2, h3⟩ := heap_setCells_same b r (o + 1) _ _ e fr h1 (by simp; omega)
    refine ⟨arr', h2, ?_⟩
    rw [h3]
    have hs : (arr.setIfInBounds o v).toList = arr.toList.set o v := by simp
    rw [hs]
    exact splice_set o arr.toList r v (by simpa using (by omega : o < arr.size))

theorem setCells_below (w : World) (b o : Nat) (vs : List Value) {B : Nat} (h : B ≤ b) : Below B w (w.setCells b o vs) := by
  induction vs generalizing w o with
  | nil => exact Below.refl _ _
  | cons v r ih => exact ((Below.refl B w).setCell (p := ⟨b, o, none⟩) h v).trans (ih _ _)

theorem setCells_size (w : World) (b o : Nat) (vs : List Value) : (w.setCells b o vs).heap.size = w.heap.size := by
  induction vs generalizing w o with
  | nil => rfl
  | cons v r ih => rw [World.setCells, ih]; simp [World.setCell]

theorem alloc_new (w : World) (o : Obj) : (w.alloc o).heap[w.heap.size]? = some o := by
  show (w.heap.push o)[w.heap.size]? = _
  simp

section
variable {w0 w : World} {S0 : Sx} {σ : St} {a : Act} {G : Gh}

/-- More memory. -/
theorem rel_ext (h : RelG w0 S0 σ a w G) {w' : World} {G' : Gh} (hw : Below w.heap.size w w') (hβ : G'.β = G.β) (hS : ∀ b o, G.S b o → G'.S b o) (hS2 : ∀ b o, G'.S b o → G.S b o ∨ (w.heap.size ≤ b ∧ b < w'.heap.size))
    (ho : ∀ b, b < w.heap.size → G'.own b = G.own b) (ho2 : ∀ b l, G'.own b = some l → w.heap.size ≤ b → b < w'.heap.size ∧ ∀ o, ¬ G'.S b o) : RelG w0 S0 σ a w' G' := by
  have hwz := h.inv.below.size
  have K : Keep w G σ a w' G' σ a := by
    refine ⟨fun b o hs => ⟨hS b o hs, hw.cell (p := ⟨b, o, none⟩) (h.inv.st b o hs)⟩, fun s => ⟨Nat.le_refl _, fun _ => ⟨rfl, rfl⟩⟩, fun k => ⟨Nat.le_refl _, fun _ => ⟨Nat.le_refl _, fun d hd => ⟨by rw [hβ], d, hd, rfl, fun _ => ⟨rfl, ?_⟩⟩⟩⟩⟩
    have b2 := (h.bx k d hd).own
    exact hw.block _ (h.inv.ex _ _ b2).2.1
  refine h.step K ⟨h.inv.below.trans (hw.mono hwz), ?_, ?_, ?_, ?_, fun b o hk => ?_⟩ h.dfr h.szs h.szb (fun i => .inr ⟨rfl, rfl, ?_⟩) (fun k d hd => .inr ⟨hd, by rw [hβ], ?_⟩)
  · intro b o hs
    rcases hS2 b o hs with hs | hs
    · exact Nat.lt_of_lt_of_le (h.inv.st b o hs) hw.size
    · exact hs.2
  · intro b l hl
    by_cases hb : b < w.heap.size
    · rw [ho b hb] at hl
      obtain ⟨e1, e2, e3⟩ := h.inv.ex b l hl
      refine ⟨e1, Nat.lt_of_lt_of_le e2 hw.size, fun o hs => ?_⟩
      rcases hS2 b o hs with hs | hs
      · exact e3 o hs
      · omega
    · obtain ⟨e1, e2⟩ := ho2 b l hl (by omega)
      exact ⟨by omega, e1, e2⟩
  · exact fun b o hs => hS b o (h.inv.s0 b o hs)
  · intro b o hs hb
    rcases hS2 b o hs with hs | hs
    · exact h.inv.s1 b o hs hb
    · omega
  · obtain ⟨k1, k2⟩ := h.inv.kp b o hk
    have hb : b < w.heap.size := (Array.getElem?_eq_some_iff.1 k1).1
    exact ⟨(hw.block b hb).trans k1, by rw [ho b hb]; exact k2⟩
  · intro g hg
    have := (h.inv.ex g _ hg).2.1
    exact ⟨by rw [ho g this]; exact hg, hw.block g this⟩
  · intro g hg
    have : ∃ l, G.own g = some l := by
      rcases hg with hg | ⟨p, hg⟩
      · exact ⟨_, hg⟩
      · exact ⟨_, hg⟩
    obtain ⟨l, hl⟩ := this
    have := (h.inv.ex g _ hl).2.1
    exact ⟨ho g this, hw.block g this⟩

theorem rel_drew (h : RelG w0 S0 σ a w G) : RelG w0 S0 σ a w.drew G :=
  rel_ext h (Below.refl _ _).drew rfl (fun _ _ h => h) (fun _ _ h => .inl h) (fun _ _ => rfl) (fun b l hl hb => by have := (h.inv.ex b l hl).2.1; omega)

/-- A new block, somebody's. -/
def Gh.give (G : Gh) (g : Nat) (l : Loc) : Gh := ⟨G.S, G.β, fun b => if b = g then some l else G.own b⟩

theorem rel_give (h : RelG w0 S0 σ a w G) (o : Obj) (l : Loc) : RelG w0 S0 σ a (w.alloc o) (G.give w.heap.size l) := by
  refine rel_ext h ((Below.refl _ w).alloc (Nat.le_refl _) o) rfl (fun _ _ h => h) (fun _ _ h => .inl h) (fun b hb => by simp only [Gh.give]; rw [if_neg (by omega)]) (fun b l' hl hb => ?_)
  simp only [Gh.give] at hl
  split at hl
  · rename_i e
    subst e
    exact ⟨by simp, fun o hs => by have := h.inv.st _ _ hs; omega⟩
  · have := (h.inv.ex b l' hl).2.1; omega

/-- A block taken over from a place that holds it no more. -/
theorem rel_take (h : RelG w0 S0 σ a w G) {g s : Nat} (l : Loc) (hg : G.own g = some (.sl s)) (hs : ∀ t xs, (σ.slot s).av ≠ .vec t xs) : RelG w0 S0 σ a w (G.give g l) := by
  have K : Keep w G σ a w (G.give g l) σ a := ⟨fun b o hs => ⟨hs, rfl⟩, fun s => ⟨Nat.le_refl _, fun _ => ⟨rfl, rfl⟩⟩, fun k => ⟨Nat.le_refl _, fun _ => ⟨Nat.le_refl _, fun d hd => ⟨rfl, d, hd, rfl, fun _ => ⟨rfl, rfl⟩⟩⟩⟩⟩
  refine h.step K ⟨h.inv.below, h.inv.st, ?_, h.inv.s0, h.inv.s1, fun b o hk => ?_⟩ h.dfr h.szs h.szb (fun i => ?_) (fun k d hd => .inr ⟨hd, rfl, ?_⟩)
  · intro b l' hl
    simp only [Gh.give] at hl
    split at hl
    · rename_i e; subst e; exact h.inv.ex _ _ hg
    · exact h.inv.ex b l' hl
  · obtain ⟨k1, k2⟩ := h.inv.kp b o hk
    refine ⟨k1, ?_⟩
    simp only [Gh.give]
    rw [if_neg (fun e => by subst e; rw [hg] at k2; cases k2)]
    exact k2
  · by_cases hv : ∃ t xs, (σ.slot i).av = .vec t xs
    · refine .inr ⟨rfl, rfl, fun g' hg' => ⟨?_, rfl⟩⟩
      simp only [Gh.give]
      rw [if_neg]
      · exact hg'
      · intro e
        subst e
        rw [hg] at hg'
        cases hg'
        obtain ⟨t, xs, e⟩ := hv
        exact hs t xs e
    · left
      have hi := h.sl i
      generalize (σ.slot i).av = av at hi hv ⊢
      cases av with
      | vec t xs => exact absurd ⟨t, xs, rfl⟩ hv
      | fn f cs => obtain ⟨vs, e1, e2⟩ := hi; exact ⟨vs, e1, L2.mono (fun _ _ => AVRS.keep K) e2⟩
      | _ => simp only [AVR] at hi ⊢; exact AVR.keepN K (by simp) hi
  · intro g' hg'
    refine ⟨?_, rfl⟩
    simp only [Gh.give]
    rw [if_neg]
    intro e
    subst e
    rw [hg] at hg'
    rcases hg' with hg' | ⟨p, hg'⟩ <;> cases hg'

/-- A block that is held is written. -/
theorem rel_write (h : RelG w0 S0 σ a w G) {g s : Nat} (hg : G.own g = some (.sl s)) (hs : ∀ t xs, (σ.slot s).av ≠ .vec t xs) {w' : World} (hw : ∀ B, B ≤ g → Below B w w') (hz : w'.heap.size = w.heap.size) (ho : ∀ k, k ≠ g → w'.heap[k]? = w.heap[k]?) : RelG w0 S0 σ a w' G := by
  have hx := h.inv.ex g _ hg
  have K : Keep w G σ a w' G σ a := by
    refine ⟨fun b o hs => ⟨hs, World.cell?_of_block (w := w) (ho b (fun e => by subst e; exact hx.2.2 o hs))⟩, fun s => ⟨Nat.le_refl _, fun _ => ⟨rfl, rfl⟩⟩, fun k => ⟨Nat.le_refl _, fun _ => ⟨Nat.le_refl _, fun d hd => ⟨rfl, d, hd, rfl, fun _ => ⟨rfl, ?_⟩⟩⟩⟩⟩
    have b2 := (h.bx k d hd).own
    exact ho _ (fun e => by rw [e, hg] at b2; cases b2)
  refine h.step K ⟨h.inv.below.trans (hw _ hx.1), fun b o hs => by rw [hz]; exact h.inv.st b o hs, fun b l hl => by rw [hz]; exact h.inv.ex b l hl, h.inv.s0, h.inv.s1,
    fun b o hk => ⟨(ho b (fun e => by have := (h.inv.kp b o hk).2; subst e; rw [hg] at this; cases this)).trans (h.inv.kp b o hk).1, (h.inv.kp b o hk).2⟩⟩ h.dfr h.szs h.szb (fun i => ?_) (fun k d hd => .inr ⟨hd, rfl, ?_⟩)
  · by_cases hv : ∃ t xs, (σ.slot i).av = .vec t xs
    · refine .inr ⟨rfl, rfl, fun g' hg' => ⟨hg', ho g' fun e => ?_⟩⟩
      subst e
      rw [hg] at hg'
      cases hg'
      obtain ⟨t, xs, e⟩ := hv
      exact hs t xs e
    · left
      have hi := h.sl i
      generalize (σ.slot i).av = av at hi hv ⊢
      cases av with
      | vec t xs => exact absurd ⟨t, xs, rfl⟩ hv
      | fn f cs => obtain ⟨vs, e1, e2⟩ := hi; exact ⟨vs, e1, L2.mono (fun _ _ => AVRS.keep K) e2⟩
      | _ => simp only [AVR] at hi ⊢; exact AVR.keepN K (by simp) hi
  · intro g' hg'
    refine ⟨rfl, ho g' fun e => ?_⟩
    subst e
    rw [hg] at hg'
    rcases hg' with hg' | ⟨p, hg'⟩ <;> cases hg'

/-- An owned slice, given up: from now on it stays as it is. -/
theorem rel_freeze (h : RelG w0 S0 σ a w G) {s : Nat} {t : Ty} {xs : List t.den} (hv : (σ.slot s).av = .vec t xs) (ht : t.pure = true ∨ True) :
    ∃ G', RelG w0 S0 (σ.do1 (.sl s (.data (.list t) xs))) a w G' ∧ (∀ b o, G.S b o → G'.S b o) ∧ G'.β = G.β ∧ DVR w G'.S ⟨.list t, xs⟩ (tmv a s) ∧ (∀ g, G'.own g = some (.sl s) → False ∨ True) := by
  have hsv := h.sl s
  rw [hv] at hsv
  have hlt : s < σ.sl.length := by
    by_cases hlt : s < σ.sl.length
    · exact hlt
    · exfalso
      have : σ.slot s = slot0 := nth_out slot0 σ.sl s (by omega)
      rw [this] at hv
      cases hv
  rcases hsv with ⟨rfl, e⟩ | ⟨g, cap, arr, ee, fr, e1, e2, e3, e4, e5, e6, e7⟩
  · have hd : DVR w G.S ⟨.list t, []⟩ (tmv a s) := ⟨[.slice none 0 0], ⟨none, 0, rfl, Nat.le_refl _, .inl rfl⟩, by rw [e]; rfl⟩
    exact ⟨G, rel_slot h s _ (keep_drop h s _) h.dfr rfl (fun _ _ => rfl) (fun _ => rfl) (fun _ => hd), fun _ _ h => h, rfl, hd, fun _ _ => .inr trivial⟩
  · have hx := h.inv.ex g _ e6
    let n := xs.length * t.sz
    let G' : Gh := ⟨fun b o => G.S b o ∨ (b = g ∧ o < n), G.β, fun b => if b = g then none else G.own b⟩
    have hS : ∀ b o, G.S b o → G'.S b o ∧ w.cell? ⟨b, o, none⟩ = w.cell? ⟨b, o, none⟩ := fun b o hs => ⟨.inl hs, rfl⟩
    have hd : DVR w G'.S ⟨.list t, xs⟩ (tmv a s) := by
      refine ⟨[.slice (some ⟨g, 0, none⟩) xs.length cap], ⟨_, cap, rfl, e2, .inr ⟨g, 0, _, rfl, LR.mono (fun _ _ => PR.mono hS) e7, ?_⟩⟩, by rw [e1]; rfl⟩
      intro j v hj
      have hjn : j < n := by
        by_cases hjn : j < n
        · exact hjn
        · rw [List.getElem?_eq_none (by rw [List.length_take]; omega)] at hj; cases hj
      rw [List.getElem?_take_of_lt hjn] at hj
      refine ⟨?_, .inr ⟨rfl, by omega⟩⟩
      rw [box_cells e3, Nat.zero_add]
      simpa using hj
    have K : Keep w G σ a w G' (σ.do1 (.sl s (.data (.list t) xs))) a := by
      have K := keep_drop h s (.data (.list t) xs)
      exact ⟨hS, K.sl, K.bx⟩
    refine ⟨G', ?_, fun b o hs => .inl hs, rfl, hd, fun _ _ => .inr trivial⟩
    refine h.step K ⟨h.inv.below, ?_, ?_, ?_, ?_, fun b o hk => ?_⟩ h.dfr (by rw [len_sl, h.szs]) (by rw [len_bx, len_sl, h.szb]) (fun i => ?_) (fun k d hd => .inr ⟨hd, rfl, ?_⟩)
    · rintro b o (hs | ⟨rfl, _⟩)
      · exact h.inv.st b o hs
      · exact hx.2.1
    · intro b l hl
      have hb : b ≠ g := fun e => by subst e; simp [G'] at hl
      have hl' : G.own b = some l := by simpa [G', hb] using hl
      obtain ⟨x1, x2, x3⟩ := h.inv.ex b l hl'
      exact ⟨x1, x2, fun o hs => hs.elim (x3 o) fun e => hb e.1⟩
    · exact fun b o hs => .inl (h.inv.s0 b o hs)
    · rintro b o (hs | ⟨rfl, _⟩) hb
      · exact h.inv.s1 b o hs hb
      · omega
    · obtain ⟨k1, k2⟩ := h.inv.kp b o hk
      refine ⟨k1, ?_⟩
      simp only [G']
      split
      · rfl
      · exact k2
    · by_cases hi : i = s
      · subst hi
        left
        rw [slot_sl, if_pos ⟨rfl, hlt⟩]
        exact hd
      · rw [slot_sl, if_neg (fun e => hi e.1)]
        by_cases hvi : ∃ t xs, (σ.slot i).av = .vec t xs
        · refine .inr ⟨rfl, rfl, fun g' hg' => ⟨?_, rfl⟩⟩
          have : g' ≠ g := fun e => by subst e; rw [e6] at hg'; cases hg'; exact hi rfl
          simp only [G', if_neg this]
          exact hg'
        · left
          have hi := h.sl i
          generalize (σ.slot i).av = av at hi hvi ⊢
          cases av with
          | vec t xs => exact absurd ⟨t, xs, rfl⟩ hvi
          | fn f cs => obtain ⟨vs, e1, e2⟩ := hi; exact ⟨vs, e1, L2.mono (fun _ _ => AVRS.keep K) e2⟩
          | _ => simp only [AVR] at hi ⊢; exact AVR.keepN K (by simp) hi
    · intro g' hg'
      have : g' ≠ g := fun e => by
        subst e
        rw [e6] at hg'
        rcases hg' with hg' | ⟨p, hg'⟩ <;> cases hg'
      exact ⟨by simp only [G', if_neg this], rfl⟩
end

end Go.Q

/- The value machine: operations that only reckon. -/
set_option linter.unusedVariables false
namespace Go.Q
open Go Go.RowKit

/-! ### The types -/
def zc : Ty → List Value
  | .int k => [.int k 0]
  | .bool => [.bool false]
  | .str => [.string ByteArray.empty]
  | .unit => []
  | .one t => zc t
  | .pair a b => zc a ++ zc b
  | .arr n t => (List.replicate n (zc t)).flatten
  | .ref _ => [.pointer none]
  | _ => [.slice none 0 0]

def Ty.dep : Ty → Nat
  | .arr _ t => t.dep + 1
  | .one t => t.dep + 1
  | .pair a b => a.dep + b.dep + 1
  | _ => 0

/-- A type of the program's own. -/
def Ty.src : Ty → Bool
  | .int _ => true
  | .bool => true
  | .str => true
  | .unit => true
  | .one t => t.src
  | .pair a b => a.src && b.src
  | .arr _ t => t.src
  | .list t => t.src
  | _ => false

def TyB (P : Program) (t : TypeId) (T : Ty) : Prop :=
  ∃ i, P.info? t = some i ∧ i.size = T.sz ∧ i.bytes ≤ 65536 ∧ (∃ z, i.zero = some z ∧ z.cells.toList = zc T) ∧ (T.cmp = true → P.eqGuardType P.depth t = false ∧ P.stoodInHeld t = false) ∧ T.dep < 10000 ∧ T.src = true

def TyU (P : Program) (e : Env) (t : TypeId) : Ty → Prop
  | .int k => P.underlying t = some (.int k)
  | .bool => P.underlying t = some .bool
  | .str => P.underlying t = some .string
  | .list u => ∃ el, P.underlying t = some (.slice el) ∧ e.ty el = some u
  | .arr n u => ∃ el, P.underlying t = some (.array n el) ∧ e.ty el = some u
  | .unit => ∃ fs, P.underlying t = some (.struct fs) ∧ fs.size = e.nf t
  | .one _ => ∃ fs, P.underlying t = some (.struct fs) ∧ fs.size = e.nf t
  | .pair _ _ => ∃ fs, P.underlying t = some (.struct fs) ∧ fs.size = e.nf t
  | _ => False

/-- The fields from one on, of a type that may be compared. -/
def EQF (e : Env) : List Field → Nat → Ty → Prop
  | [], _, _ => False
  | [f], off, T => f.offset = off ∧ e.ty f.type = some T ∧ f.name ≠ "_"
  | f :: g :: l, off, .pair a b => f.offset = off ∧ e.ty f.type = some a ∧ f.name ≠ "_" ∧ EQF e (g :: l) (off + a.sz) b
  | _ :: _ :: _, _, _ => False

def EQS (e : Env) (fs : List Field) : Ty → Prop
  | .one t => fs.length = 1 ∧ EQF e fs 0 t
  | .pair a b => 2 ≤ fs.length ∧ EQF e fs 0 (.pair a b)
  | _ => True

structure EnvOK (P : Program) (e : Env) : Prop where
  mixed : P.follows .mixedOrders = true
  ty : ∀ t T, e.ty t = some T → TyB P t T ∧ TyU P e t T
  mp : ∀ t kk ek, e.mp t = some (kk, ek) → ∃ kt et, P.underlying t = some (.map kt et) ∧ P.underlying kt = some (.int kk) ∧ (P.info? et).bind (·.zero) = some (.int ek 0)
  eqf : ∀ t T fs, e.ty t = some T → T.cmp = true → P.underlying t = some (.struct fs) → EQS e fs.toList T
  nf : ∀ t T j, e.ty t = some T → j < e.nf t → ∃ fs f off v, P.underlying t = some (.struct fs) ∧ fs[j]? = some f ∧ offP (fpath (e.nf t) j) T = some (off, v) ∧ f.offset = off ∧ e.ty f.type = some v ∧ v.sz ≠ 0

theorem run_typeInfo {P : Program} {t : TypeId} {i : TypeInfo} (h : P.info? t = some i) (w : World) : (typeInfo t).run P w = .ok i w := by
  simp [typeInfo, h]
theorem run_underlying {P : Program} {t : TypeId} {d : TypeDesc} (h : P.underlying t = some d) (w : World) : (underlying t).run P w = .ok d w := by
  simp [underlying, h]
theorem run_sizeOf {P : Program} {t : TypeId} {T : Ty} (h : TyB P t T) (w : World) : (sizeOf t).run P w = .ok T.sz w := by
  obtain ⟨i, h1, h2, _⟩ := h
  simp [sizeOf, run_typeInfo h1, h2]
theorem run_zeroValue {P : Program} {t : TypeId} {T : Ty} (h : TyB P t T) (w : World) : ∃ z, (zeroValue t).run P w = .ok z w ∧ z.cells.toList = zc T := by
  obtain ⟨i, h1, _, _, ⟨z, h3, h4⟩, _⟩ := h
  exact ⟨z, by simp [zeroValue, run_typeInfo h1, h3], h4⟩
theorem run_zeroInt {P : Program} {t : TypeId} {k : IntKind} (h : (P.info? t).bind (·.zero) = some (.int k 0)) (w : World) : (zeroValue t).run P w = .ok (.int k 0) w := by
  obtain ⟨i, h1, h2⟩ := Option.bind_eq_some_iff.1 h
  simp [zeroValue, run_typeInfo h1, h2]
theorem run_isAgg {P : Program} {e : Env} {t : TypeId} {T : Ty} (h : TyU P e t T) (w : World) : (isAgg t).run P w = .ok T.agg w := by
  cases T <;> simp only [TyU] at h <;> first
    | exact h.elim
    | (simp [isAgg, run_underlying h, Ty.agg]; done)
    | (obtain ⟨el, h, _⟩ := h; simp [isAgg, run_underlying h, Ty.agg]; done)
    | (obtain ⟨el, h⟩ := h; simp [isAgg, run_underlying h, Ty.agg]; done)

theorem chk_eq {T : Option Ty} {u : Ty} (h : chk T u = true) : ∃ t, T = some t ∧ t.erase = u.erase := by
  unfold chk at h
  split at h
  · exact ⟨_, rfl, Ty.eqb_eq h⟩
  · cases h

theorem chkE_eq {T : Option Ty} {u : Ty} (h : chkE T u = true) : T = some u := by
  unfold chkE at h
  split at h
  · rw [Ty.eqb_eq h]
  · cases h

theorem erase_agg {t u : Ty} (h : t.erase = u.erase) : t.agg = u.agg := by
  cases t <;> cases u <;> simp [Ty.erase] at h <;> rfl

/-! ### Data as values -/
theorem DVR_int {w : World} {S : Nat → Nat → Prop} {k : IntKind} {x : Int} {v : Value} (h : DVR w S ⟨.int k, x⟩ v) : v = .int k x := by
  obtain ⟨cs, h1, h2⟩ := h
  cases h1
  exact h2
theorem DVR_bool {w : World} {S : Nat → Nat → Prop} {x : Bool} {v : Value} (h : DVR w S ⟨.bool, x⟩ v) : v = .bool x := by
  obtain ⟨cs, h1, h2⟩ := h
  cases h1
  exact h2
theorem DVR_str {w : World} {S : Nat → Nat → Prop} {x : ByteArray} {v : Value} (h : DVR w S ⟨.str, x⟩ v) : v = .string x := by
  obtain ⟨cs, h1, h2⟩ := h
  cases h1
  exact h2
theorem DVR_nil {w : World} {S : Nat → Nat → Prop} {t : Ty} {x : Unit} {v : Value} (h : DVR w S ⟨.nil t, x⟩ v) : v = .slice none 0 0 := by
  obtain ⟨cs, h1, h2⟩ := h
  cases h1
  exact h2
theorem DVR_list {w : World} {S : Nat → Nat → Prop} {t : Ty} {xs : List t.den} {v : Value} (h : DVR w S ⟨.list t, xs⟩ v) : ∃ A cap, v = .slice A xs.length cap ∧ xs.length ≤ cap ∧ SlR w S (PR w S t) A xs := by
  obtain ⟨cs, ⟨A, cap, h1, h3, h4⟩, h2⟩ := h
  subst h1
  exact ⟨A, cap, h2, h3, h4⟩
theorem DVR_full {w : World} {S : Nat → Nat → Prop} {t : Ty} {xs : List t.den} {v : Value} (h : DVR w S ⟨.full t, xs⟩ v) : ∃ A, v = .slice A xs.length xs.length ∧ SlR w S (PR w S t) A xs := by
  obtain ⟨cs, ⟨A, h1, h4⟩, h2⟩ := h
  subst h1
  exact ⟨A, h2, h4⟩
theorem DVR_ref {w : World} {S : Nat → Nat → Prop} {t : Ty} {x : t.den} {v : Value} (h : DVR w S ⟨.ref t, x⟩ v) : ∃ b o ds, v = .pointer (some ⟨b, o, none⟩) ∧ PR w S t x ds ∧ Cells w S b o ds := by
  obtain ⟨cs, ⟨b, o, ds, h1, h3, h4⟩, h2⟩ := h
  subst h1
  exact ⟨b, o, ds, h2, h3, h4⟩
theorem DVR_agg {w : World} {S : Nat → Nat → Prop} {t : Ty} {x : t.den} {v : Value} (ht : t.agg = true) (h : DVR w S ⟨t, x⟩ v) : ∃ cs, v = .agg cs.toArray ∧ PR w S t x cs := by
  obtain ⟨cs, h1, h2⟩ := h
  simp only [pack, ht, if_true] at h2
  exact ⟨cs, h2, h1⟩
theorem DVR_cells {w : World} {S : Nat → Nat → Prop} {t : Ty} {x : t.den} {v : Value} (h : DVR w S ⟨t, x⟩ v) : PR w S t x v.cells.toList := by
  obtain ⟨cs, h1, h2⟩ := h
  rw [h2, pack_cells (fun ht => by rw [PR.length h1]; exact agg_sz ht) (PR.one h1)]
  exact h1

/-- The same data, of another type. -/
theorem coe_ok {w : World} {S : Nat → Nat → Prop} : ∀ (a b : Ty) {x : a.den} {y : b.den} {cs : List Value}, coe? a b x = some y → PR w S a x cs → PR w S b y cs ∧ a.agg = b.agg := by
  have hc : ∀ (a b : Ty) {x : a.den} {y : b.den} {cs : List Value}, cast? a b x = some y → PR w S a x cs → PR w S b y cs ∧ a.agg = b.agg := by
    intro a b x y cs h k
    obtain ⟨e, rfl⟩ := cast?_some h
    subst e
    exact ⟨k, rfl⟩
  intro a
  induction a with
  | one a ih =>
    intro b x y cs h k
    cases b with
    | one b => exact ⟨(ih b (show coe? a b x = some y from h) k).1, rfl⟩
    | _ => exact hc _ _ h k
  | pair a1 a2 ih1 ih2 =>
    intro b x y cs h k
    cases b with
    | pair b1 b2 =>
      simp only [coe?] at h
      split at h
      · rename_i y1 e1
        split at h
        · rename_i y2 e2
          cases h
          obtain ⟨c, d, e, p, q⟩ := k
          exact ⟨⟨c, d, e, (ih1 _ e1 p).1, (ih2 _ e2 q).1⟩, rfl⟩
        · cases h
      · cases h
    | _ => exact hc _ _ h k
  | nil t ih =>
    intro b x y cs h k
    cases b with
    | list u => simp only [coe?] at h; cases h; cases k; exact ⟨⟨none, 0, rfl, Nat.le_refl _, .inl rfl⟩, rfl⟩
    | full u => simp only [coe?] at h; cases h; cases k; exact ⟨⟨none, rfl, .inl rfl⟩, rfl⟩
    | _ => exact hc _ _ h k
  | full t ih =>
    intro b x y cs h k
    cases b with
    | list u =>
      obtain ⟨A, e1, e2⟩ := k
      obtain ⟨k1, k2⟩ := hc (.list t) (.list u) (x := x) (y := y) h (cs := cs) ⟨A, _, e1, Nat.le_refl _, e2⟩
      exact ⟨k1, rfl⟩
    | _ => exact hc _ _ h k
  | _ => intro b x y cs h k; exact hc _ _ h k

theorem DVR.coe {w : World} {S : Nat → Nat → Prop} {a b : Ty} {x : a.den} {y : b.den} {v : Value} (h : coe? a b x = some y) (k : DVR w S ⟨a, x⟩ v) : DVR w S ⟨b, y⟩ v := by
  obtain ⟨cs, k1, k2⟩ := k
  obtain ⟨h1, h2⟩ := coe_ok a b h k1
  exact ⟨cs, h1, by rw [k2]; simp only [pack, h2]⟩

end Go.Q

/- The value machine: arithmetic. -/
set_option linter.unusedVariables false
namespace Go.Q
open Go Go.RowKit

def OpS (P : Program) (w0 : World) (S0 : Sx) (o : Oper) (σ : St) (a : Act) (w : World) (us : List Upd) : Prop :=
  ∀ (next : Act → World → Prop) (Q : Exit → Act → World → Prop), (∀ a' w', Rel w0 S0 (σ.app us) a' w' → next a' w') → o.wp P a w next Q

section
variable {P : Program} {w0 w : World} {S0 : Sx} {σ : St} {a : Act} {G : Gh} {o : Oper} {R : Type}

theorem op_reader (h : RelG w0 S0 σ a w G) {av : AV} {v : Value} (hr : (execOp a.eval o).run P w = .ok (.value v) w) (hn : ∀ t xs, av ≠ .vec t xs) (hv : AVR w G σ a 0 av v) : OpS P w0 S0 o σ a w (sets o.dst av) :=
  fun next Q k => op_value hr (k _ _ ⟨G, rel_sets h o.dst hn hv⟩)

theorem op_data (h : RelG w0 S0 σ a w G) {t : Ty} {x : t.den} {v : Value} (hr : (execOp a.eval o).run P w = .ok (.value v) w) (hv : DVR w G.S ⟨t, x⟩ v) : OpS P w0 S0 o σ a w (sets o.dst (.data t x)) :=
  op_reader h hr (fun _ _ e => by cases e) hv

theorem bool_ite {b : Bool} {x y : Option R} {r : R} (h : (if b = true then x else y) = some r) : (b = true ∧ x = some r) ∨ (b = false ∧ y = some r) := by
  split at h
  · rename_i e; exact .inl ⟨e, h⟩
  · rename_i e; exact .inr ⟨by simpa using e, h⟩

theorem DVR.int {S : Nat → Nat → Prop} (k : IntKind) (x : Int) : DVR w S ⟨.int k, x⟩ (.int k x) := ⟨[.int k x], rfl, rfl⟩
theorem DVR.bool {S : Nat → Nat → Prop} (x : Bool) : DVR w S ⟨.bool, x⟩ (.bool x) := ⟨[.bool x], rfl, rfl⟩
theorem DVR.str {S : Nat → Nat → Prop} (x : ByteArray) : DVR w S ⟨.str, x⟩ (.string x) := ⟨[.string x], rfl, rfl⟩

theorem eqGuard_plain {op : BinOp} {t : TypeId} {x y : Operand} {u v : Value} (hu : (∀ cs, u ≠ .agg cs) ∧ u ≠ .nilIface) : (eqGuard op t x y u v).run P w = .ok () w := by
  unfold eqGuard
  cases op <;> simp only [Bool.not_false, Bool.not_true, if_true, Sem.run_pure, Bool.false_eq_true, if_false] <;> first | rfl | skip
  all_goals
    cases u <;> first
      | rfl
      | exact absurd rfl (hu.1 _)
      | exact absurd rfl hu.2

theorem evInt_ok {op : BinOp} {ka kb : IntKind} {x y : Int} {k : AV → Option R} {r : R} {T : TypeId} (h : evInt op ka x kb y k = some r) : ∃ t z, k (.data t z) = some r ∧ ∃ v, (binOp op T (.int ka x) (.int kb y)).run P w = .ok v w ∧ ∀ S, DVR w S ⟨t, z⟩ v := by
  cases op with
  | shl =>
    simp only [evInt] at h
    rcases bool_ite h with ⟨_, h⟩ | ⟨e, h⟩
    · cases h
    · rw [ltI_eq, decide_eq_false_iff_not] at e
      exact ⟨_, _, h, _, by simp only [binOp, Op.shift, if_neg e, Sem.run_pure, shlI], fun S => DVR.int _ _⟩
  | shr =>
    simp only [evInt] at h
    rcases bool_ite h with ⟨_, h⟩ | ⟨e, h⟩
    · cases h
    · rw [ltI_eq, decide_eq_false_iff_not] at e
      exact ⟨_, _, h, _, by simp only [binOp, Op.shift, if_neg e, Sem.run_pure, shrI], fun S => DVR.int _ _⟩
  | _ =>
    simp only [evInt] at h
    split at h
    · cases h
    · rename_i hk
      obtain rfl := ikb_eq hk
      first
        | (refine ⟨_, _, h, _, ?_, fun S => DVR.int _ _⟩
           simp only [binOp, ne_eq, not_true_eq_false, if_false, Op.intArith, Op.intBits, Sem.run_pure, bitAnd, bitOr, bitXor, bitAndNot]
           done)
        | (refine ⟨_, _, h, _, ?_, fun S => DVR.bool _⟩
           simp only [binOp, ne_eq, not_true_eq_false, if_false, Op.intCmp, Sem.run_pure, ltI_eq, leI_eq, eqI_eq] <;> first | rfl | (congr 2; rw [Bool.eq_iff_iff]; simp))
        | (rcases bool_ite h with ⟨_, h⟩ | ⟨e, h⟩
           · cases h
           · rw [eqI_eq, decide_eq_false_iff_not] at e
             refine ⟨_, _, h, _, ?_, fun S => DVR.int _ _⟩
             simp only [binOp, ne_eq, not_true_eq_false, if_false, Op.intDiv, if_neg e, Sem.run_pure])
        | cases h

theorem evStr_ok {op : BinOp} {x y : ByteArray} {k : AV → Option R} {r : R} {T : TypeId} (h : evStr op x y k = some r) : ∃ t z, k (.data t z) = some r ∧ ∃ v, (binOp op T (.string x) (.string y)).run P w = .ok v w ∧ ∀ S, DVR w S ⟨t, z⟩ v := by
  cases op <;> simp only [evStr] at h <;> first
    | (cases h; done)
    | (rcases bool_ite h with ⟨e, h⟩ | ⟨_, h⟩
       · rw [strRoom_eq, decide_eq_true_eq] at e
         refine ⟨_, _, h, _, ?_, fun S => DVR.str _⟩
         simp only [binOp, Op.stringOp]
         rw [if_neg]
         · rfl
         · have : IntKind.i64.max = 9223372036854775807 := by decide
           rw [this]; omega
       · cases h)
    | exact ⟨_, _, h, _, by simp only [binOp, Op.stringOp, Sem.run_pure]; rfl, fun S => DVR.bool _⟩

theorem evUn_ok {op : UnOp} {ov : OV} {v0 : Value} {k : AV → Option R} {r : R} (h : evUn op ov k = some r) (hv : OVR w G σ a ov v0) : ∃ t z, k (.data t z) = some r ∧ ∃ v, (Op.unary op v0).run P w = .ok v w ∧ DVR w G.S ⟨t, z⟩ v := by
  unfold evUn at h
  split at h
  · rw [DVR_int hv]
    exact ⟨_, _, h, _, rfl, DVR.int _ _⟩
  · rw [DVR_int hv]
    exact ⟨_, _, h, _, rfl, DVR.int _ _⟩
  · rw [DVR_bool hv]
    exact ⟨_, _, h, _, rfl, DVR.bool _⟩
  · cases h
end

end Go.Q

/- The value machine: parts, comparisons, loads. -/
set_option linter.unusedVariables false
namespace Go.Q
open Go Go.RowKit

section
variable {P : Program} {e : Env} {w0 w : World} {S0 : Sx} {σ : St} {a : Act} {G : Gh} {o : Oper} {R : Type}

theorem one_list {cs : List Value} (h : cs.length = 1) : ∃ v, cs = [v] := by
  match cs, h with
  | [v], _ => exact ⟨v, rfl⟩

theorem extract_list (cs : Array Value) (i n : Nat) : (cs.extract i (i + n)) = ((cs.toList.drop i).take n).toArray := by
  apply Array.ext'
  simp [List.take_drop]

theorem run_part {t : TypeId} {T : Ty} (hT : TyB P t T) (hU : TyU P e t T) (cs : Array Value) (i : Nat) (hi : i + T.sz ≤ cs.size) (w : World) : (part t cs i).run P w = .ok (pack T ((cs.toList.drop i).take T.sz)) w := by
  simp only [part, Sem.run_bind, run_isAgg hU, Result.andThen_ok]
  cases hA : T.agg with
  | true =>
    simp only [if_true, Sem.run_bind, run_sizeOf hT, Result.andThen_ok, Sem.run_pure]
    simp only [pack, hA, if_true, extract_list]
  | false =>
    have h1 := agg_sz hA
    rw [h1] at hi ⊢
    simp only [Bool.false_eq_true, if_false]
    have hg : cs[i]? = some (cs[i]'(by omega)) := Array.getElem?_eq_getElem (by omega)
    rw [hg]
    simp only [Sem.run_pure, pack, hA, Bool.false_eq_true, if_false]
    have : (cs.toList.drop i).take 1 = [cs[i]'(by omega)] := by
      rw [List.drop_eq_getElem_cons (by simpa using (by omega : i < cs.size))]
      simp
    rw [this]
    rfl

theorem run_loadVar {t : TypeId} {T : Ty} (hT : TyB P t T) (hU : TyU P e t T) {b i : Nat} {cs : List Value} (hl : cs.length = T.sz) (hc : ∀ j v, cs[j]? = some v → w.cell? ⟨b, i + j, none⟩ = some v) : (loadVar t ⟨b, i, none⟩).run P w = .ok (pack T cs) w := by
  simp only [loadVar, Sem.run_bind, run_isAgg hU, Result.andThen_ok]
  cases hA : T.agg with
  | true =>
    have := run_loadCells_list (P := P) w ⟨b, i, none⟩ cs (fun j v hj => by rw [add_none]; exact hc j v hj)
    rw [hl] at this
    simp only [if_true, Sem.run_bind, run_sizeOf hT, Result.andThen_ok, this, Sem.run_pure, pack, hA]
  | false =>
    have h1 := agg_sz hA
    obtain ⟨v, rfl⟩ := one_list (hl.trans h1)
    have := hc 0 v rfl
    rw [Nat.add_zero] at this
    simp [pack, hA, this]

/-! ### Comparing -/
theorem eqItems_ok {el : TypeId} {u : Ty} {S : Nat → Nat → Prop} (hT : TyB P el u) (hU : TyU P e el u) {d : Nat} (heq : ∀ (x y : u.den) (cs ds : List Value), PR w S u x cs → PR w S u y ds → (Op.equalIn d el (pack u cs) (pack u ds)).run P w = .ok (u.beq x y) w) :
    ∀ (n i : Nat) (xs ys : List u.den) (cs ds : Array Value), LR (PR w S u) xs (cs.toList.drop (i * u.sz)) → LR (PR w S u) ys (ds.toList.drop (i * u.sz)) → xs.length = n → ys.length = n →
      (Op.eqItems d el u.sz cs ds (List.range' i n)).run P w = .ok (listBeq u.beq xs ys) w
  | 0, i, xs, ys, cs, ds, hx, hy, lx, ly => by
    obtain rfl := List.eq_nil_of_length_eq_zero lx
    obtain rfl := List.eq_nil_of_length_eq_zero ly
    rfl
  | n + 1, i, [], ys, cs, ds, hx, hy, lx, ly => by simp at lx
  | n + 1, i, _ :: _, [], cs, ds, hx, hy, lx, ly => by simp at ly
  | n + 1, i, x :: xs, y :: ys, cs, ds, ⟨c, c', ec, cx, hx⟩, ⟨d', d'', ed, dy, hy⟩, lx, ly => by
    have l1 := PR.length cx
    have l2 := PR.length dy
    have hc : i * u.sz + u.sz ≤ cs.size := by
      have := congrArg List.length ec
      simp only [List.length_drop, List.length_append, Array.length_toList, l1] at this
      by_cases h0 : u.sz = 0
      · rw [h0] at this ⊢
        by_cases h1 : i * 0 ≤ cs.size
        · omega
        · omega
      · omega
    have hd : i * u.sz + u.sz ≤ ds.size := by
      have := congrArg List.length ed
      simp only [List.length_drop, List.length_append, Array.length_toList, l2] at this
      by_cases h0 : u.sz = 0
      · rw [h0] at this ⊢
        omega
      · omega
    have e1 : (cs.toList.drop (i * u.sz)).take u.sz = c := by rw [ec, ← l1, List.take_left']; rfl
    have e2 : (ds.toList.drop (i * u.sz)).take u.sz = d' := by rw [ed, ← l2, List.take_left']; rfl
    have t1 : cs.toList.drop ((i + 1) * u.sz) = c' := by rw [Nat.succ_mul, ← List.drop_drop, ec, ← l1, List.drop_left']; rfl
    have t2 : ds.toList.drop ((i + 1) * u.sz) = d'' := by rw [Nat.succ_mul, ← List.drop_drop, ed, ← l2, List.drop_left']; rfl
    have ih := eqItems_ok hT hU heq n (i + 1) xs ys cs ds (by rw [t1]; exact hx) (by rw [t2]; exact hy) (by simpa using lx) (by simpa using ly)
    rw [List.range'_succ]
    simp only [Op.eqItems, Sem.run_bind, run_part hT hU cs _ hc, run_part hT hU ds _ hd, Result.andThen_ok, e1, e2, heq x y c d' cx dy]
    cases hb : u.beq x y with
    | true => simp only [listBeq, hb, Bool.true_and, Bool.not_true, Bool.false_eq_true, if_false, ih]
    | false => simp [listBeq, hb]

/-- How two structs' fields are compared. -/
def EqT (P : Program) (e : Env) (w : World) (S : Nat → Nat → Prop) (T : Ty) : Prop := ∀ (t : TypeId) (d : Nat) (x y : T.den) (cs ds : List Value), e.ty t = some T → T.cmp = true → T.dep < d → PR w S T x cs → PR w S T y ds →
    (Op.equalIn d t (pack T cs) (pack T ds)).run P w = .ok (T.beq x y) w

def EqL (P : Program) (e : Env) (w : World) (S : Nat → Nat → Prop) (T : Ty) : Prop := ∀ (l : List Field) (off d : Nat) (x y : T.den) (cs ds : Array Value), EQF e l off T → T.cmp = true → T.dep < d → off ≤ cs.size → off ≤ ds.size → PR w S T x (cs.toList.drop off) → PR w S T y (ds.toList.drop off) →
    (Op.eqFields d cs ds l).run P w = .ok (T.beq x y) w

theorem drop_size {cs : Array Value} {off n : Nat} (h : (cs.toList.drop off).length = n) (ho : off ≤ cs.size) : off + n = cs.size := by
  rw [List.length_drop, Array.length_toList] at h
  omega

theorem take_all {cs : Array Value} {off n : Nat} (h : (cs.toList.drop off).length = n) : (cs.toList.drop off).take n = cs.toList.drop off := by
  rw [← h, List.take_length]

theorem eqL_one (hE : EnvOK P e) {S : Nat → Nat → Prop} {T : Ty} (h : EqT P e w S T) {f : Field} {off d : Nat} {x y : T.den} {cs ds : Array Value} (hf : EQF e [f] off T) (hc : T.cmp = true) (hd : T.dep < d) (oc : off ≤ cs.size) (od : off ≤ ds.size) (hx : PR w S T x (cs.toList.drop off)) (hy : PR w S T y (ds.toList.drop off)) :
    (Op.eqFields d cs ds [f]).run P w = .ok (T.beq x y) w := by
  obtain ⟨rfl, h2, h3⟩ := hf
  obtain ⟨hT, hU⟩ := hE.ty _ _ h2
  have l1 := PR.length hx
  have l2 := PR.length hy
  have z1 := drop_size l1 oc
  have z2 := drop_size l2 od
  have he := h f.type d x y _ _ h2 hc hd hx hy
  simp only [Op.eqFields, h3, ne_eq, not_false_eq_true, if_true, Sem.run_bind, run_part hT hU cs _ (Nat.le_of_eq z1), run_part hT hU ds _ (Nat.le_of_eq z2), Result.andThen_ok, take_all l1, take_all l2, he]
  cases T.beq x y <;> rfl

theorem eqL_two (hE : EnvOK P e) {S : Nat → Nat → Prop} {a b : Ty} (ha : EqT P e w S a) (hb : EqL P e w S b) {f g : Field} {l : List Field} {off d : Nat} {x y : (Ty.pair a b).den} {cs ds : Array Value} (hf : EQF e (f :: g :: l) off (.pair a b)) (hc : (Ty.pair a b).cmp = true) (hd1 : a.dep < d) (hd2 : b.dep < d) (oc : off ≤ cs.size) (od : off ≤ ds.size) (hx : PR w S (.pair a b) x (cs.toList.drop off)) (hy : PR w S (.pair a b) y (ds.toList.drop off)) :
    (Op.eqFields d cs ds (f :: g :: l)).run P w = .ok ((Ty.pair a b).beq x y) w := by
  obtain ⟨rfl, h2, h3, h4⟩ := hf
  obtain ⟨hT, hU⟩ := hE.ty _ _ h2
  simp only [Ty.cmp, Bool.and_eq_true] at hc
  obtain ⟨c1, c2, ec, p1, p2⟩ := hx
  obtain ⟨d1, d2, ed, q1, q2⟩ := hy
  have l1 := PR.length p1
  have l2 := PR.length q1
  have z1 : f.offset + a.sz ≤ cs.size := by
    have := congrArg List.length ec
    rw [List.length_drop, Array.length_toList, List.length_append] at this
    omega
  have z2 : f.offset + a.sz ≤ ds.size := by
    have := congrArg List.length ed
    rw [List.length_drop, Array.length_toList, List.length_append] at this
    omega
  have e1 : (cs.toList.drop f.offset).take a.sz = c1 := by rw [ec, ← l1, List.take_left']; rfl
  have e2 : (ds.toList.drop f.offset).take a.sz = d1 := by rw [ed, ← l2, List.take_left']; rfl
  have t1 : cs.toList.drop (f.offset + a.sz) = c2 := by rw [← List.drop_drop, ec, ← l1, List.drop_left']; rfl
  have t2 : ds.toList.drop (f.offset + a.sz) = d2 := by rw [← List.drop_drop, ed, ← l2, List.drop_left']; rfl
  have he := ha f.type d x.1 y.1 _ _ h2 hc.1 hd1 p1 q1
  have ht := hb (g :: l) (f.offset + a.sz) d x.2 y.2 cs ds h4 hc.2 hd2 z1 z2 (by rw [t1]; exact p2) (by rw [t2]; exact q2)
  rw [Op.eqFields]
  simp only [h3, ne_eq, not_false_eq_true, if_true, Sem.run_bind, run_part hT hU cs _ z1, run_part hT hU ds _ z2, Result.andThen_ok, e1, e2, he]
  cases hb : a.beq x.1 y.1 with
  | true => simp [Ty.beq, hb, ht]
  | false => simp [Ty.beq, hb]

theorem fieldsOf_eq {t : TypeId} {fs : Array Field} (h : P.underlying t = some (.struct fs)) : P.fieldsOf t = fs := by
  simp [Program.fieldsOf, h]

theorem equal_all (hE : EnvOK P e) {S : Nat → Nat → Prop} : ∀ (T : Ty), EqT P e w S T ∧ EqL P e w S T := by
  have hone : ∀ {T : Ty}, EqT P e w S T → (∀ a b, T ≠ .pair a b) → EqL P e w S T := by
    intro T h hn l off d x y cs ds hf hc hd oc od hx hy
    match l, hf with
    | [f], hf => exact eqL_one hE h hf hc hd oc od hx hy
    | f :: g :: l, hf =>
      cases T with
      | pair a b => exact absurd rfl (hn a b)
      | _ => exact hf.elim
  intro T
  induction T with
  | int k =>
    have h1 : EqT P e w S (.int k) := by
      intro t d x y cs ds ht _ hd hx hy
      obtain ⟨d, rfl⟩ : ∃ m, d = m + 1 := ⟨d - 1, by omega⟩
      cases hx; cases hy
      have hu : P.underlying t = some (.int k) := (hE.ty t _ ht).2
      refine (run_equalIn_int w d t k k x y hu).trans ?_
      congr 1
      rw [Ty.beq, eqI_eq, Bool.eq_iff_iff]
      simp
    exact ⟨h1, hone h1 (fun _ _ h => Ty.noConfusion h)⟩
  | bool =>
    have h1 : EqT P e w S .bool := by
      intro t d x y cs ds ht _ hd hx hy
      obtain ⟨d, rfl⟩ : ∃ m, d = m + 1 := ⟨d - 1, by omega⟩
      cases hx; cases hy
      have hu : P.underlying t = some .bool := (hE.ty t _ ht).2
      exact run_equalIn_bool' w d t x y hu
    exact ⟨h1, hone h1 (fun _ _ h => Ty.noConfusion h)⟩
  | str =>
    have h1 : EqT P e w S .str := by
      intro t d x y cs ds ht _ hd hx hy
      obtain ⟨d, rfl⟩ : ∃ m, d = m + 1 := ⟨d - 1, by omega⟩
      cases hx; cases hy
      have hu : P.underlying t = some .string := (hE.ty t _ ht).2
      exact run_equalIn_string w d t x y hu
    exact ⟨h1, hone h1 (fun _ _ h => Ty.noConfusion h)⟩
  | arr n u ih =>
    have h1 : EqT P e w S (.arr n u) := by
      intro t d x y cs ds ht hc hd hx hy
      obtain ⟨d, rfl⟩ : ∃ m, d = m + 1 := ⟨d - 1, by omega⟩
      obtain ⟨el, hu, he⟩ := (hE.ty t _ ht).2
      obtain ⟨l1, h1⟩ := hx
      obtain ⟨l2, h2⟩ := hy
      obtain ⟨hT, hU⟩ := hE.ty el u he
      obtain ⟨i, hi, hsz, _⟩ := hT
      have hz : P.cellsOf el = u.sz := by simp [Program.cellsOf, hi, hsz]
      simp only [pack, Ty.agg, if_true]
      rw [run_equalIn_array w d cs.toArray ds.toArray hu hi, hz, List.range_eq_range']
      exact eqItems_ok (hE.ty el u he).1 hU (fun x y cs ds hx hy => ih.1 el d x y cs ds he hc (by simp only [Ty.dep] at hd; omega) hx hy) n 0 x y cs.toArray ds.toArray (by simpa using h1) (by simpa using h2) l1 l2
    exact ⟨h1, hone h1 (fun _ _ h => Ty.noConfusion h)⟩
  | one u ih =>
    have h1 : EqT P e w S (.one u) := by
      intro t d x y cs ds ht hc hd hx hy
      obtain ⟨d, rfl⟩ : ∃ m, d = m + 1 := ⟨d - 1, by omega⟩
      obtain ⟨fs, hu, _⟩ := (hE.ty t _ ht).2
      obtain ⟨_, _, _, _, _, hg, _, _⟩ := (hE.ty t _ ht).1
      obtain ⟨q1, q2⟩ := hE.eqf t _ fs ht hc hu
      simp only [pack, Ty.agg, if_true]
      rw [run_equalIn_struct w d t _ _ (by rw [fieldsOf_eq hu]; exact hu) (hg hc).2, fieldsOf_eq hu]
      obtain ⟨f, hf⟩ : ∃ f, fs.toList = [f] := by
        match fs.toList, q1 with
        | [f], _ => exact ⟨f, rfl⟩
      rw [hf] at q2 ⊢
      exact eqL_one hE ih.1 q2 hc (by simp only [Ty.dep] at hd; omega) (Nat.zero_le _) (Nat.zero_le _) (show PR w S u x cs from hx) (show PR w S u y ds from hy)
    exact ⟨h1, hone h1 (fun _ _ h => Ty.noConfusion h)⟩
  | pair a b iha ihb =>
    have h1 : EqT P e w S (.pair a b) := by
      intro t d x y cs ds ht hc hd hx hy
      obtain ⟨d, rfl⟩ : ∃ m, d = m + 1 := ⟨d - 1, by omega⟩
      obtain ⟨fs, hu, _⟩ := (hE.ty t _ ht).2
      obtain ⟨_, _, _, _, _, hg, _, _⟩ := (hE.ty t _ ht).1
      obtain ⟨q1, q2⟩ := hE.eqf t _ fs ht hc hu
      simp only [pack, Ty.agg, if_true]
      rw [run_equalIn_struct w d t _ _ (by rw [fieldsOf_eq hu]; exact hu) (hg hc).2, fieldsOf_eq hu]
      obtain ⟨f, g, l, hf⟩ : ∃ f g l, fs.toList = f :: g :: l := by
        match fs.toList, q1 with
        | f :: g :: l, _ => exact ⟨f, g, l, rfl⟩
        | [f], h => simp at h
        | [], h => simp at h
      rw [hf] at q2 ⊢
      simp only [Ty.dep] at hd
      exact eqL_two hE iha.1 ihb.2 q2 hc (by omega) (by omega) (Nat.zero_le _) (Nat.zero_le _) (by simpa using hx) (by simpa using hy)
    refine ⟨h1, ?_⟩
    intro l off d x y cs ds hf hc hd oc od hx hy
    match l, hf with
    | [f], hf => exact eqL_one hE h1 hf hc hd oc od hx hy
    | f :: g :: l, hf =>
      simp only [Ty.dep] at hd
      exact eqL_two hE iha.1 ihb.2 hf hc (by omega) (by omega) oc od hx hy
  | _ =>
    refine ⟨fun t d x y cs ds ht hc => (by simp [Ty.cmp] at hc), fun l off d x y cs ds hf hc => (by simp [Ty.cmp] at hc)⟩

theorem equal_ok (hE : EnvOK P e) {S : Nat → Nat → Prop} : ∀ (T : Ty) (t : TypeId) (d : Nat) (x y : T.den) (cs ds : List Value), e.ty t = some T → T.cmp = true → T.dep < d → PR w S T x cs → PR w S T y ds →
    (Op.equalIn d t (pack T cs) (pack T ds)).run P w = .ok (T.beq x y) w := fun T => (equal_all hE T).1

theorem cmpA_cases {t : Ty} (h : t.cmpA = true) : t = .bool ∨ (t.agg = true ∧ t.cmp = true) := by
  cases t <;> simp only [Ty.cmpA, Bool.false_eq_true] at h
  · exact .inl rfl
  · exact .inr ⟨rfl, h⟩
  · exact .inr ⟨rfl, h⟩
  · exact .inr ⟨rfl, h⟩

theorem evBin_eql {T : TypeId} {S : Nat → Nat → Prop} {t : Ty} {x : t.den} {cs : List Value} {v2 : Value} (hc : t.cmpA = true) (h : PR w S t x cs) :
    (binOp .eql T (pack t cs) v2).run P w = ((Op.equalIn 10000 T (pack t cs) v2).run P w).andThen fun b w' => .ok (.bool b) w' := by
  rcases cmpA_cases hc with rfl | ⟨ha, _⟩
  · cases h; simp [pack, Ty.agg, binOp, Op.equal, Op.maxDepth]
  · simp [pack, ha, binOp, Op.equal, Op.maxDepth]

theorem evBin_neq {T : TypeId} {S : Nat → Nat → Prop} {t : Ty} {x : t.den} {cs : List Value} {v2 : Value} (hc : t.cmpA = true) (h : PR w S t x cs) :
    (binOp .neq T (pack t cs) v2).run P w = ((Op.equalIn 10000 T (pack t cs) v2).run P w).andThen fun b w' => .ok (.bool !b) w' := by
  rcases cmpA_cases hc with rfl | ⟨ha, _⟩
  · cases h; simp [pack, Ty.agg, binOp, Op.equal, Op.maxDepth]
  · simp [pack, ha, binOp, Op.equal, Op.maxDepth]

theorem guard_int {op : BinOp} {t : TypeId} {x y : Operand} {k : IntKind} {n : Int} {v : Value} : (eqGuard op t x y (.int k n) v).run P w = .ok () w :=
  eqGuard_plain ⟨fun _ e => Value.noConfusion e, fun e => Value.noConfusion e⟩
theorem guard_str {op : BinOp} {t : TypeId} {x y : Operand} {n : ByteArray} {v : Value} : (eqGuard op t x y (.string n) v).run P w = .ok () w :=
  eqGuard_plain ⟨fun _ e => Value.noConfusion e, fun e => Value.noConfusion e⟩
theorem guard_bool {op : BinOp} {t : TypeId} {x y : Operand} {n : Bool} {v : Value} : (eqGuard op t x y (.bool n) v).run P w = .ok () w :=
  eqGuard_plain ⟨fun _ e => Value.noConfusion e, fun e => Value.noConfusion e⟩

theorem evBin_ok (hE : EnvOK P e) {op : BinOp} {T : TypeId} {x y : Operand} {ov1 ov2 : OV} {v1 v2 : Value} {k : AV → Option R} {r : R} (h : evBin (e.ty T) op ov1 ov2 k = some r) (h1 : OVR w G σ a ov1 v1) (h2 : OVR w G σ a ov2 v2) :
    ∃ t z, k (.data t z) = some r ∧ ∃ v, (do eqGuard op T x y v1 v2; binOp op T v1 v2 : Sem Value).run P w = .ok v w ∧ DVR w G.S ⟨t, z⟩ v := by
  unfold evBin at h
  split at h
  · obtain ⟨t, z, hk, v, hr, hd⟩ := evInt_ok (P := P) (w := w) (T := T) h
    rw [DVR_int h1, DVR_int h2]
    refine ⟨t, z, hk, v, ?_, hd _⟩
    simp only [Sem.run_bind, guard_int, Result.andThen_ok, hr]
  · obtain ⟨t, z, hk, v, hr, hd⟩ := evStr_ok (P := P) (w := w) (T := T) h
    rw [DVR_str h1, DVR_str h2]
    refine ⟨t, z, hk, v, ?_, hd _⟩
    simp only [Sem.run_bind, guard_str, Result.andThen_ok, hr]
  · rename_i t x1 u y1 _ _
    split at h
    · rename_i z hz
      split at h
      · rename_i hc
        simp only [Bool.and_eq_true] at hc
        have ht := chkE_eq hc.2
        have h2' : DVR w G.S ⟨t, z⟩ v2 := DVR.coe hz h2
        obtain ⟨_, _, _, _, _, hg, hdp, _⟩ := (hE.ty T t ht).1
        obtain ⟨cs, p1, p2⟩ := h1
        obtain ⟨ds, q1, q2⟩ := h2'
        subst p2 q2
        have hcmp : t.cmp = true := by
          rcases cmpA_cases hc.1 with rfl | ⟨_, hu⟩
          · rfl
          · exact hu
        have heq : (Op.equalIn 10000 T (pack t cs) (pack t ds)).run P w = .ok (t.beq x1 z) w := equal_ok hE t T 10000 x1 z cs ds ht hcmp hdp p1 q1
        have hgu : (eqGuard op T x y (pack t cs) (pack t ds)).run P w = .ok () w := by
          rcases cmpA_cases hc.1 with rfl | ⟨hu, _⟩
          · cases p1; exact guard_bool
          · rw [show pack t cs = .agg cs.toArray by simp only [pack, hu, if_true], show pack t ds = .agg ds.toArray by simp only [pack, hu, if_true]]
            exact run_eqGuard_agg w op T x y _ _ (hg hcmp).1
        split at h
        · refine ⟨_, _, h, _, ?_, DVR.bool _⟩
          rw [Sem.run_bind, hgu, Result.andThen_ok, evBin_eql hc.1 p1, heq]
          rfl
        · refine ⟨_, _, h, _, ?_, DVR.bool _⟩
          rw [Sem.run_bind, hgu, Result.andThen_ok, evBin_neq hc.1 p1, heq]
          rfl
        · cases h
      · cases h
    · cases h
  · cases h
end

end Go.Q

/- The value machine: moves; new variables. -/
set_option linter.unusedVariables false
namespace Go.Q
open Go Go.RowKit

section
variable {P : Program} {e : Env} {w0 w : World} {S0 : Sx} {σ : St} {a : Act} {G : Gh} {o : Oper} {R : Type}

theorem slot_lt {s : Nat} {t : Ty} {xs : List t.den} (h : (σ.slot s).av = .vec t xs) : s < σ.sl.length := by
  by_cases hlt : s < σ.sl.length
  · exact hlt
  · exfalso
    have : σ.slot s = slot0 := nth_out slot0 σ.sl s (by omega)
    rw [this] at h
    cases h

theorem drop_novec (s : Nat) (hs : s < σ.sl.length) : ∀ t xs, ((σ.do1 (.sl s .any)).slot s).av ≠ .vec t xs := by
  intro t xs
  rw [slot_sl, if_pos ⟨rfl, hs⟩]
  intro e
  cases e

/-- A slice that is owned, put into a slot: its block, if any, comes from a place that holds it no more. -/
theorem rel_vec (h : RelG w0 S0 σ a w G) (dst : Option Nat) {s : Nat} {t : Ty} {xs : List t.den} {v : Value} (hs : ∀ t xs, (σ.slot s).av ≠ .vec t xs) (hv : VecR w G (.sl s) t xs v) :
    Rel w0 S0 (σ.app (sets dst (.vec t xs))) (a.put dst v) w := by
  cases dst with
  | none => exact ⟨G, h⟩
  | some d =>
    rcases hv with ⟨e1, e2⟩ | ⟨g, cap, arr, ee, fr, e1, e2, e3, e4, e5, e6, e7⟩
    · exact ⟨G, rel_put h d (.inl ⟨e1, e2⟩)⟩
    · have h' := rel_take h (.sl d) e6 hs
      refine ⟨_, rel_put h' d (.inr ⟨g, cap, arr, ee, fr, e1, e2, e3, e4, e5, ?_, e7⟩)⟩
      simp [Gh.give]

theorem OVR0.toAV {ov : OV} {v : Value} (h : OVR0 w G σ a ov v) : AVRS w G σ a ov.toAV v := by
  cases ov with
  | data t x => exact h
  | nil => exact h
  | ptr k g p d =>
    obtain ⟨h1, h2, off, u, h3, h4⟩ := h
    exact ⟨by rw [h1]; exact Nat.le_refl _, fun _ => ⟨d, off, u, h2, h3, h4⟩⟩
  | _ => trivial

theorem evMove_ok {t : Option Ty} {ov : OV} {asg : Bool} {k : List Upd → Option R} {r : R} (h : RelG w0 S0 σ a w G) {vx : Value} (hr : (execOp a.eval o).run P w = .ok (.value vx) w) (hk : evMove t ov asg o.dst k = some r) (hv : OVR w G σ a ov vx) :
    ∃ us, k us = some r ∧ OpS P w0 S0 o σ a w us := by
  cases ov with
  | own s n u xs =>
    obtain ⟨e1, e2, e3⟩ := hv
    cases asg with
    | false =>
      simp only [evMove] at hk
      refine ⟨_, hk, op_reader h hr (fun _ _ e => by cases e) ?_⟩
      show n ≤ (σ.slot s).n ∧ _
      rw [e1]
      exact ⟨Nat.le_refl _, fun _ => ⟨rfl, e2⟩⟩
    | true =>
      simp only [evMove] at hk
      refine ⟨_, hk, fun next Q kk => op_value hr (kk _ _ ?_)⟩
      have hlt := slot_lt (σ := σ) (s := s) (t := u) (xs := xs) (by rw [e1])
      exact rel_vec (rel_drop h s) o.dst (drop_novec s hlt) e3
  | data u x => simp only [evMove] at hk; exact ⟨_, hk, op_data h hr hv⟩
  | ptr b g p d =>
    simp only [evMove] at hk
    obtain ⟨h1, h2, off, u, h3, h4⟩ := hv
    exact ⟨_, hk, op_reader h hr (fun _ _ e => by cases e) ⟨by rw [h1]; exact Nat.le_refl _, fun _ => ⟨d, off, u, h2, h3, h4⟩⟩⟩
  | bsl b g p lo hi d =>
    simp only [evMove] at hk
    obtain ⟨h1, h2, h3⟩ := hv
    obtain ⟨off, m, t, h4⟩ := h3
    exact ⟨_, hk, op_reader h hr (fun _ _ e => by cases e) ⟨by rw [h1]; exact Nat.le_refl _, fun _ => ⟨d, off, m, t, h2, h4⟩⟩⟩
  | mref b g d =>
    simp only [evMove] at hk
    obtain ⟨h1, h2, h4⟩ := hv
    exact ⟨_, hk, op_reader h hr (fun _ _ e => by cases e) ⟨by rw [h1]; exact Nat.le_refl _, fun _ => ⟨d, h2, h4⟩⟩⟩
  | nil =>
    have hnil : OpS P w0 S0 o σ a w (sets o.dst .nil) := op_reader h hr (fun _ _ e => by cases e) hv
    simp only [evMove] at hk
    split at hk
    · rename_i u
      cases asg with
      | false => exact ⟨_, hk, hnil⟩
      | true =>
        refine ⟨_, hk, fun next Q kk => op_value hr (kk _ _ ?_)⟩
        cases hd : o.dst with
        | none => exact ⟨G, h⟩
        | some d => exact ⟨G, rel_put h d (.inl ⟨rfl, hv⟩)⟩
    · exact ⟨_, hk, hnil⟩
  | fn f cs =>
    simp only [evMove] at hk
    obtain ⟨vs, e1, e2⟩ := hv
    exact ⟨_, hk, op_reader h hr (fun _ _ e => by cases e) ⟨vs, e1, L2.map OV.toAV (fun _ _ => OVR0.toAV) e2⟩⟩
  | tup vs => simp only [evMove] at hk; exact ⟨_, hk, op_reader h hr (fun _ _ e => by cases e) hv⟩
  | any => simp only [evMove] at hk; exact ⟨_, hk, op_reader h hr (fun _ _ e => by cases e) trivial⟩
  | _ => simp [evMove] at hk

/-! ### New variables -/
theorem rel_fresh (h : RelG w0 S0 σ a w G) (d : Nat) {t : Ty} {x : t.den} (ob : Obj) (av : AV) (v : Value)
    (hb : ∀ G' : Gh, (∀ b o, G.S b o → G'.S b o ∧ (w.alloc ob).cell? ⟨b, o, none⟩ = w.cell? ⟨b, o, none⟩) → G'.β d = w.heap.size → G'.own w.heap.size = some (.me d) → BoxR (w.alloc ob) G' d t x)
    (hav : ∀ (G' : Gh) (σ' : St) (a' : Act), G'.β d = w.heap.size → σ'.box d = ⟨(σ.box d).g + 1, 0, some ⟨t, x⟩⟩ → AVR (w.alloc ob) G' σ' a' d av v) :
    Rel w0 S0 ((σ.do1 (.bx d true ⟨t, x⟩)).do1 (.sl d av)) (a.put (some d) v) (w.alloc ob) := by
  let w' := w.alloc ob
  let G' : Gh := ⟨G.S, fun k => if k = d then w.heap.size else G.β k, fun b => if b = w.heap.size then some (.me d) else G.own b⟩
  have hB : Below w.heap.size w w' := (Below.refl _ w).alloc (Nat.le_refl _) _
  have hS : ∀ b o, G.S b o → G'.S b o ∧ w'.cell? ⟨b, o, none⟩ = w.cell? ⟨b, o, none⟩ := fun b o hs => ⟨hs, hB.cell (p := ⟨b, o, none⟩) (h.inv.st b o hs)⟩
  have hsz : (w.alloc ob).heap.size = w.heap.size + 1 := by simp
  have hwz := h.inv.below.size
  have hst := h.inv.st
  have hne : ∀ k dv, (σ.box k).d = some dv → G.own (G.β k) = some (.me k) ∧ G.β k < w.heap.size := fun k dv hk => by
    have b2 := (h.bx k dv hk).own
    exact ⟨b2, (h.inv.ex _ _ b2).2.1⟩
  let σ' := (σ.do1 (.bx d true ⟨t, x⟩)).do1 (.sl d av)
  let a' := a.put (some d) v
  have hslot : ∀ s, σ'.slot s = if s = d ∧ d < σ.sl.length then ⟨av, (σ.slot d).n + 1⟩ else σ.slot s := fun s => by
    show ((σ.do1 (.bx d true ⟨t, x⟩)).do1 (.sl d _)).slot s = _
    rw [slot_sl]
    rfl
  have hbox : ∀ k, σ'.box k = if k = d ∧ d < σ.sl.length then ⟨(σ.box d).g + 1, 0, some ⟨t, x⟩⟩ else σ.box k := fun k => by
    show ((σ.do1 (.bx d true ⟨t, x⟩)).do1 (.sl d _)).box k = _
    rw [box_sl, box_bx, h.szb]
    rfl
  have htm : ∀ s, tmv a' s = if s = d ∧ d < σ.sl.length then v else tmv a s := fun s => by
    show tmv (a.put _ _) s = _
    rw [tmv_put, h.szs]
  have K : Keep w G σ a w' G' σ' a' := by
    refine ⟨hS, fun s => ?_, fun k => ?_⟩
    · rw [hslot, htm]
      by_cases hc : s = d ∧ d < σ.sl.length
      · rw [if_pos hc]
        obtain ⟨rfl, _⟩ := hc
        exact ⟨by simp, fun e => by simp at e⟩
      · rw [if_neg hc, if_neg hc]
        exact ⟨Nat.le_refl _, fun _ => ⟨rfl, rfl⟩⟩
    · rw [hbox]
      by_cases hc : k = d ∧ d < σ.sl.length
      · rw [if_pos hc]
        obtain ⟨rfl, _⟩ := hc
        exact ⟨by simp, fun e => by simp at e⟩
      · rw [if_neg hc]
        refine ⟨Nat.le_refl _, fun _ => ⟨Nat.le_refl _, fun dv hd => ?_⟩⟩
        have hk : k ≠ d := fun e => by
          subst e
          have : σ.box k = box0 := nth_out box0 σ.bx k (by rw [h.szb]; omega)
          rw [this] at hd
          cases hd
        refine ⟨by simp [G', hk], dv, hd, rfl, fun _ => ⟨rfl, ?_⟩⟩
        exact hB.block _ (hne k dv hd).2
  refine ⟨G', h.step K ⟨h.inv.below.trans (hB.mono hwz), ?_, ?_, h.inv.s0, h.inv.s1, fun b o hk => ?_⟩ (by rw [put_defers]; exact h.dfr) ?_ ?_ (fun i => ?_) (fun k dv hk => ?_)⟩
  · intro b o hs
    have : b < w.heap.size := hst b o hs
    omega
  · intro b l hl
    simp only [G'] at hl
    split at hl
    · rename_i eb
      subst eb
      exact ⟨hwz, by omega, fun o hs => by have := hst _ _ hs; omega⟩
    · obtain ⟨x1, x2, x3⟩ := h.inv.ex b l hl
      exact ⟨x1, by omega, x3⟩
  · obtain ⟨k1, k2⟩ := h.inv.kp b o hk
    have hlt : b < w.heap.size := (Array.getElem?_eq_some_iff.1 k1).1
    refine ⟨(hB.block b hlt).trans k1, ?_⟩
    simp only [G']
    rw [if_neg (by omega)]
    exact k2
  · rw [put_size, h.szs, len_sl, len_sl]
  · rw [len_bx, len_bx, len_sl, len_sl, h.szb]
  · rw [hslot, htm]
    by_cases hc : i = d ∧ d < σ.sl.length
    · rw [if_pos hc, if_pos hc]
      obtain ⟨rfl, hlt⟩ := hc
      left
      have hb := hbox i
      rw [if_pos ⟨rfl, hlt⟩] at hb
      exact hav G' σ' a' (by simp [G']) hb
    · rw [if_neg hc, if_neg hc]
      refine .inr ⟨rfl, rfl, fun g hg => ?_⟩
      have := (h.inv.ex g _ hg).2.1
      exact ⟨by simp only [G']; rw [if_neg (by omega)]; exact hg, hB.block g this⟩
  · rw [hbox] at hk
    by_cases hc : k = d ∧ d < σ.sl.length
    · rw [if_pos hc] at hk
      obtain ⟨rfl, hlt⟩ := hc
      cases hk
      left
      exact hb G' hS (by simp [G']) (by simp [G'])
    · rw [if_neg hc] at hk
      have hkd : k ≠ d := fun e => by
        subst e
        have : σ.box k = box0 := nth_out box0 σ.bx k (by rw [h.szb]; omega)
        rw [this] at hk
        cases hk
      refine .inr ⟨hk, by simp [G', hkd], fun g hg => ?_⟩
      have : ∃ l, G.own g = some l := hg.elim (fun h => ⟨_, h⟩) fun ⟨p, h⟩ => ⟨_, h⟩
      obtain ⟨l, hl⟩ := this
      have := (h.inv.ex g l hl).2.1
      exact ⟨by simp only [G']; rw [if_neg (by omega)], hB.block g this⟩

theorem rel_box (h : RelG w0 S0 σ a w G) (d : Nat) {t : Ty} {x : t.den} {arr : Array Value} (el : TypeId) (hx : PR w G.S t x arr.toList) :
    Rel w0 S0 ((σ.do1 (.bx d true ⟨t, x⟩)).do1 (.sl d (.ptr d ((σ.box d).g + 1) []))) (a.put (some d) (.pointer (some ⟨w.heap.size, 0, none⟩))) (w.alloc (.cells arr el)) :=
  rel_fresh h d (.cells arr el) _ _ (fun G' hS hβ ho => .inl ⟨arr, el, by rw [hβ]; exact alloc_new w _, by rw [hβ]; exact ho, CR.of_PR (PR.mono hS hx)⟩)
    (fun G' σ' a' hβ hb => ⟨by rw [hb]; exact Nat.le_refl _, fun _ => ⟨⟨t, x⟩, 0, t, by rw [hb], rfl, by rw [hβ]⟩⟩)

/-- A new map. -/
theorem rel_map (h : RelG w0 S0 σ a w G) (d : Nat) (kk ek : IntKind) :
    Rel w0 S0 ((σ.do1 (.bx d true ⟨.mp kk ek, []⟩)).do1 (.sl d (.mref d ((σ.box d).g + 1)))) (a.put (some d) (.map (some w.heap.size))) (w.alloc (.map #[] 0)) :=
  rel_fresh h d (.map #[] 0) _ _ (fun G' hS hβ ho => .inr ⟨kk, ek, [], rfl, by rw [hβ]; exact ho, #[], 0, by rw [hβ]; exact alloc_new w _, rfl⟩)
    (fun G' σ' a' hβ hb => ⟨by rw [hb]; exact Nat.le_refl _, fun _ => ⟨⟨.mp kk ek, []⟩, by rw [hb], by rw [hβ]⟩⟩)
end

end Go.Q

/- The value machine: variables made, read, written. -/
set_option linter.unusedVariables false
namespace Go.Q
open Go Go.RowKit

section
variable {P : Program} {e : Env} {w0 w : World} {S0 : Sx} {σ : St} {a : Act} {G : Gh} {o : Oper} {R : Type}

theorem LR.rep {α : Type} {R : α → List Value → Prop} {x : α} {c : List Value} (h : R x c) : ∀ n, LR R (List.replicate n x) (List.replicate n c).flatten
  | 0 => rfl
  | n + 1 => ⟨c, _, by rw [List.replicate_succ, List.flatten_cons], h, LR.rep h n⟩

theorem zc_PR {S : Nat → Nat → Prop} : ∀ {t : Ty}, t.src = true → PR w S t t.zero (zc t)
  | .int _, _ => rfl
  | .bool, _ => rfl
  | .str, _ => rfl
  | .unit, _ => rfl
  | .one t, h => zc_PR (t := t) h
  | .pair a b, h => by
    simp only [Ty.src, Bool.and_eq_true] at h
    exact ⟨_, _, rfl, zc_PR h.1, zc_PR h.2⟩
  | .arr n t, h => ⟨by simp [Ty.zero], LR.rep (zc_PR (t := t) h) n⟩
  | .list _, _ => ⟨none, 0, rfl, Nat.le_refl _, .inl rfl⟩

theorem zc_up {S : Nat → Nat → Prop} : ∀ {t : Ty}, t.src = true → PR w S t.up t.up.zero (zc t)
  | .int _, _ => rfl
  | .bool, _ => rfl
  | .str, _ => rfl
  | .unit, _ => rfl
  | .one t, h => zc_up (t := t) h
  | .pair a b, h => by
    simp only [Ty.src, Bool.and_eq_true] at h
    exact ⟨_, _, rfl, zc_up h.1, zc_up h.2⟩
  | .arr n t, h => ⟨by simp [Ty.up, Ty.zero], LR.rep (zc_PR (t := t) h) n⟩
  | .list _, _ => rfl

theorem TyB.src {t : TypeId} {T : Ty} (h : TyB P t T) : T.src = true := by obtain ⟨_, _, _, _, _, _, _, h⟩ := h; exact h

theorem evAlloc_ok (hE : EnvOK P e) (h : RelG w0 S0 σ a w G) {t : TypeId} {u : Ty} (hu : e.ty t = some u) {d : Nat} (hd : o.dst = some d) (ho : o.op = .alloc t) :
    OpS P w0 S0 o σ a w [.bx d true ⟨u.up, u.up.zero⟩, .sl d (.ptr d ((σ.box d).g + 1) [])] := by
  obtain ⟨hB, hU⟩ := hE.ty t u hu
  obtain ⟨z, hz, hc⟩ := run_zeroValue hB w
  intro next Q kk
  have hr : (execOp a.eval o).run P w = .ok (.value (.pointer (some ⟨w.heap.size, 0, none⟩))) (w.alloc (.cells z.cells t)) := by
    simp [execOp, ho, Instr.alloc, hz, newVar, newRow, run_newObj]
  refine op_value hr (kk _ _ ?_)
  rw [hd]
  exact rel_box h d t (by rw [hc]; exact zc_up hB.src)

theorem asS_ok {t : Ty} {ov : OV} {y : DV} {us : List Upd} {v : Value} (hv : OVR w G σ a ov v) (h : asS t ov = some (y, us)) : us = [] ∧ DVR w G.S y v := by
  cases ov with
  | data u x => simp only [asS] at h; cases h; exact ⟨rfl, hv⟩
  | nil =>
    simp only [asS] at h
    split at h
    · cases h; exact ⟨rfl, [.slice none 0 0], rfl, by rw [show v = _ from hv]; rfl⟩
    · cases h
  | _ => simp [asS] at h

theorem evBox_ok (h : RelG w0 S0 σ a w G) {t : TypeId} {x : Operand} {d : Nat} (hd : o.dst = some d) (ho : o.op = .box t x) {y : DV} (hy : DVR w G.S y (a.eval x)) :
    OpS P w0 S0 o σ a w [.bx d true y, .sl d (.ptr d ((σ.box d).g + 1) [])] := by
  intro next Q kk
  have hr : (execOp a.eval o).run P w = .ok (.value (.pointer (some ⟨w.heap.size, 0, none⟩))) (w.alloc (.cells (a.eval x).cells t)) := by
    simp [execOp, ho, Instr.box, newVar, newRow, run_newObj]
  refine op_value hr (kk _ _ ?_)
  rw [hd]
  exact rel_box h d t (DVR_cells hy)

/-! ### Loads -/
theorem take_some {l : List Value} {n j : Nat} {v : Value} (h : (l.take n)[j]? = some v) : l[j]? = some v := by
  rw [List.getElem?_take] at h
  split at h
  · exact h
  · cases h
theorem drop_some {l : List Value} {n j : Nat} {v : Value} (h : (l.drop n)[j]? = some v) : l[n + j]? = some v := by
  rwa [List.getElem?_drop] at h

theorem load_at (hE : EnvOK P e) {tt : TypeId} {T u : Ty} (ht : e.ty tt = some T) (he : T.erase = u.erase) {x : u.den} {cs : List Value} {S : Nat → Nat → Prop} (hp : PR w S u x cs) {b i : Nat} (hc : ∀ j v, cs[j]? = some v → w.cell? ⟨b, i + j, none⟩ = some v) :
    ∃ v, (Instr.loadAt tt (.pointer (some ⟨b, i, none⟩))).run P w = .ok v w ∧ DVR w S ⟨u, x⟩ v := by
  obtain ⟨hB, hU⟩ := hE.ty tt T ht
  refine ⟨pack u cs, ?_, cs, hp, rfl⟩
  simp only [Instr.loadAt, Instr.sureAddr, Sem.run_bind, Sem.run_pure, Result.andThen_ok]
  rw [run_loadVar hB hU (by rw [PR.length hp, erase_sz he]) hc]
  simp only [pack, erase_agg he]

theorem src_mp {T u : Ty} (h : T.src = true) (he : T.erase = u.erase) : ∀ kk ek, u ≠ .mp kk ek := fun kk ek e => by
  subst e
  cases T <;> simp [Ty.erase] at he
  simp [Ty.src] at h
theorem chk_mp (hE : EnvOK P e) {t : TypeId} {u : Ty} (h : chk (e.ty t) u = true) : ∀ kk ek, u ≠ .mp kk ek := by
  obtain ⟨T, hT, he⟩ := chk_eq h
  exact src_mp (TyB.src (hE.ty t T hT).1) he

theorem box_ok (h : RelG w0 S0 σ a w G) {k : Nat} {d : DV} (hk : (σ.box k).d = some d) {p : List Stp} {u u0 : Ty} {x : u.den} {off : Nat} (hg : getP p d.t d.x = some ⟨u, x⟩) (ho : offP p d.t = some (off, u0)) (hn : ∀ kk ek, u ≠ .mp kk ek) :
    u0 = u ∧ ∃ cs, CR w G k (bits p []) u x cs ∧ ∀ j v, cs[j]? = some v → w.cell? ⟨G.β k, off + j, none⟩ = some v := by
  obtain ⟨arr, ee, b1, b2, b3⟩ := (h.bx k d hk).cells (fun kk ek e => by
    obtain ⟨dt, dx⟩ := d
    simp only at e
    subst e
    cases p with
    | nil => simp only [getP, Option.some.injEq, DV.mk.injEq] at hg; exact hn _ _ hg.1.symm
    | cons q p => cases q <;> simp [getP] at hg)
  obtain ⟨c1, c2⟩ := getP_CR p b3 hg ho
  refine ⟨c1, _, c2, fun j v hj => ?_⟩
  rw [box_cells b1, ← Array.getElem?_toList]
  exact drop_some (take_some hj)

theorem vec_part {t : Ty} {xs : List t.den} {l : Loc} {g n cap : Nat} (hv : VecR w G l t xs (.slice (some ⟨g, 0, none⟩) n cap)) {i : Int} (h0 : 0 ≤ i) (h1 : i < (xs.length : Int)) {p : List Stp} {u u0 : Ty} {x : u.den} {off : Nat} (hg : getP p t (nthD t xs i) = some ⟨u, x⟩) (ho : offP p t = some (off, u0)) :
    u0 = u ∧ ∃ cs, PR w G.S u x cs ∧ ∀ j v, cs[j]? = some v → w.cell? ⟨g, i.toNat * t.sz + off + j, none⟩ = some v := by
  rcases hv with ⟨_, e⟩ | ⟨g', cap', arr, ee, fr, e1, e2, e3, e4, e5, e6, e7⟩
  · cases e
  · simp only [Value.slice.injEq, Option.some.injEq, Addr.mk.injEq] at e1
    obtain ⟨⟨rfl, _⟩, rfl, rfl⟩ := e1
    obtain ⟨c, c1, c2⟩ := LR.get (fun _ _ => PR.length) t.zero (i := i.toNat) (by omega) e7
    obtain ⟨d1, d2⟩ := getP_PR p c1 hg ho
    refine ⟨d1, _, d2, fun j v hj => ?_⟩
    rw [box_cells e3, ← Array.getElem?_toList]
    have h2 := drop_some (take_some hj)
    rw [c2] at h2
    have h3 := take_some (drop_some (take_some h2))
    rw [Nat.add_assoc]
    exact h3
end

end Go.Q
