/- Digests of a book, and where two books differ: both sides. -/
import Derived.Test.YtcjjagkcdepgdaaDoorY3
set_option linter.unusedVariables false
set_option linter.unusedSimpArgs false
set_option maxRecDepth 100000
namespace Go.Proofs.YtcjjagkcdepgdaaDoor
open Go Go.Q

/-! ### Lists of integers -/
def encInts (l : List Int) : List Int := encInt l.length ++ l.flatMap encInt
theorem flat_len (l : List Int) : (l.flatMap encInt).length ≤ 11 * l.length := by
  induction l with
  | nil => simp
  | cons x l ih => have := encInt_len x; rw [List.flatMap_cons, List.length_append, List.length_cons]; omega
theorem encInts_len (l : List Int) : (encInts l).length ≤ 11 * (l.length + 1) := by
  have := flat_len l
  have := encInt_len (l.length : Int)
  rw [encInts, List.length_append]; omega
theorem list_own_go (K : Nat) (hK : 200000 ≤ K) (L : List Int) (hL : L.length ≤ 1000) (hI : ∀ x ∈ L, I64 x) (kx) : ∀ (r : List Int) (t m : Nat) (out : List Int), L.drop t = r → r.length < m → out.length + 11 * r.length ≤ 100000 →
    F50l0 K m out L (L.length : Int) (t : Int) kx = kx (out ++ r.flatMap encInt)
  | [], t, m, out, h, hm, ho => by
    obtain ⟨m, rfl⟩ : ∃ j, m = j + 1 := ⟨m - 1, by omega⟩
    have := drop_nil h
    rw [F50l0, B50l0, if_neg (show ¬ ltI (t : Int) (L.length : Int) = true by rw [ltF (by omega)]; decide), List.flatMap_nil, List.append_nil]
  | x :: r, t, m, out, h, hm, ho => by
    obtain ⟨m, rfl⟩ : ∃ j, m = j + 1 := ⟨m - 1, by omega⟩
    obtain ⟨g1, g2, g3⟩ := drop_cons 0 h
    simp only [List.length_cons] at hm ho
    have hx : I64 x := hI x (by have : x ∈ L.drop t := by rw [h]; exact .head _
                                exact List.mem_of_mem_drop this)
    have hl := encInt_len x
    rw [F50l0, B50l0, if_pos (show ltI (t : Int) (L.length : Int) = true from ltT (by omega)), if_pos (show inR (t : Int) (L.length : Int) = true from inT (by omega) (by omega))]
    rw [nthD_int, Int.toNat_natCast, g2]
    refine bindS (int_own K (by omega) x hx) ?_
    rw [if_pos (show room (out.length + (encInt x).length) = true from roomT (by omega)), wi64 (by omega) (by omega)]
    refine (list_own_go K hK L hL hI kx r (t + 1) m (out ++ encInt x) g3 (by omega) (by rw [List.length_append]; omega)).trans ?_
    rw [List.flatMap_cons, List.append_assoc]
theorem ints_own (K : Nat) (hK : 200000 ≤ K) (L : List Int) (hL : L.length ≤ 1000) (hI : ∀ x ∈ L, I64 x) : F32 K L = some (encInts L) := by
  unfold F32
  refine bindS (v := encInts L) ?_ rfl
  unfold F50
  refine bindS (int_own K (by omega) _ ⟨by omega, by omega⟩) ?_
  have := encInt_len (L.length : Int)
  exact list_own_go K hK L hL hI _ L 0 K _ rfl (by omega) (by omega)
theorem list_ref_go (K : Nat) (hK : 200000 ≤ K) (L : List Int) (hL : L.length ≤ 1000) (hI : ∀ x ∈ L, I64 x) (kx) : ∀ (r : List Int) (t m : Nat) (out : List Int), L.drop t = r → r.length < m → out.length + 11 * r.length ≤ 100000 →
    F36l0 K m L out (t : Int) kx = kx (out ++ r.flatMap encInt)
  | [], t, m, out, h, hm, ho => by
    obtain ⟨m, rfl⟩ : ∃ j, m = j + 1 := ⟨m - 1, by omega⟩
    have := drop_nil h
    rw [F36l0, B36l0, if_neg (show ¬ ltI (t : Int) (L.length : Int) = true by rw [ltF (by omega)]; decide), List.flatMap_nil, List.append_nil]
  | x :: r, t, m, out, h, hm, ho => by
    obtain ⟨m, rfl⟩ : ∃ j, m = j + 1 := ⟨m - 1, by omega⟩
    obtain ⟨g1, g2, g3⟩ := drop_cons 0 h
    simp only [List.length_cons] at hm ho
    have hx : I64 x := hI x (by have : x ∈ L.drop t := by rw [h]; exact .head _
                                exact List.mem_of_mem_drop this)
    have hl := encInt_len x
    rw [F36l0, B36l0, if_pos (show ltI (t : Int) (L.length : Int) = true from ltT (by omega)), if_pos (show inR (t : Int) (L.length : Int) = true from inT (by omega) (by omega))]
    rw [nthD_int, Int.toNat_natCast, g2]
    refine bindS (int_ref K (by omega) x hx) ?_
    rw [if_pos (show room (out.length + (encInt x).length) = true from roomT (by omega)), wi64 (by omega) (by omega)]
    refine (list_ref_go K hK L hL hI kx r (t + 1) m (out ++ encInt x) g3 (by omega) (by rw [List.length_append]; omega)).trans ?_
    rw [List.flatMap_cons, List.append_assoc]
theorem ints_ref (K : Nat) (hK : 200000 ≤ K) (L : List Int) (hL : L.length ≤ 1000) (hI : ∀ x ∈ L, I64 x) : F36 K L = some (encInts L) := by
  unfold F36
  refine bindS (int_ref K (by omega) _ ⟨by omega, by omega⟩) ?_
  have := encInt_len (L.length : Int)
  exact list_ref_go K hK L hL hI _ L 0 K _ rfl (by omega) (by omega)

/-! ### Digests -/
def pints (p : Pst) : List Int := [p.1, p.2.1, p.2.2.1, p.2.2.2.1, p.2.2.2.2.1, p.2.2.2.2.2]
def dig0 (a : Int) : List Int := dig 204 [mkStr (encInt a)]
def digS (d : List Int) (p : Pst) : List Int := dig 205 [mkStr d, mkStr (encInts (pints p))]
def digL : List Int → List Pst → List Int
  | d, [] => d
  | d, p :: l => digL (digS d p) l
theorem digS_len (d : List Int) (p : Pst) : (digS d p).length = 16 := dig_len _ _
theorem dig0_len (a : Int) : (dig0 a).length = 16 := dig_len _ _
theorem digL_len : ∀ (l : List Pst) (d : List Int), d.length = 16 → (digL d l).length = 16
  | [], d, h => h
  | p :: l, d, h => digL_len l _ (digS_len d p)
theorem digL_snoc : ∀ (l : List Pst) (d : List Int) (p : Pst), digL d (l ++ [p]) = digS (digL d l) p
  | [], d, p => rfl
  | q :: l, d, p => digL_snoc l _ p
theorem pints_i {a : Int} {p : Pst} (h : OneI a p) (ha : a ≤ 40) : ∀ x ∈ pints p, I64 x := by
  obtain ⟨h1, h2, h3, h4, h5, h6, h7⟩ := h
  intro x hx
  simp only [pints, List.mem_cons, List.not_mem_nil, or_false] at hx
  unfold I64
  rcases hx with rfl | rfl | rfl | rfl | rfl | rfl <;> omega
theorem step_sizes {a : Int} {p : Pst} (d : List Int) (hd : d.length = 16) : ∀ s ∈ [mkStr d, mkStr (encInts (pints p))], s.size ≤ 100 := by
  intro s hs
  have := encInts_len (pints p)
  have hp : (pints p).length = 6 := rfl
  simp only [List.mem_cons, List.not_mem_nil, or_false] at hs
  rcases hs with rfl | rfl <;> rw [mkStr_size] <;> omega
theorem dig_own_go (K : Nat) (hK : 200000 ≤ K) (a : Int) (ha : a ≤ 40) (L : List Pst) (hL : L.length ≤ 10000) (b4) (kx) : ∀ (r : List Pst) (t m : Nat) (last : Int) (d : List Int), L.drop t = r → r.length < m → chkL a last r = 0 → d.length = 16 →
    F13l0 K m L (L.length : Int) (t : Int) b4 d kx = kx b4 (digL d r)
  | [], t, m, last, d, h, hm, hc, hd => by
    obtain ⟨m, rfl⟩ : ∃ j, m = j + 1 := ⟨m - 1, by omega⟩
    have := drop_nil h
    rw [F13l0, B13l0, if_neg (show ¬ ltI (t : Int) (L.length : Int) = true by rw [ltF (by omega)]; decide), digL]
  | p :: r, t, m, last, d, h, hm, hc, hd => by
    obtain ⟨m, rfl⟩ : ∃ j, m = j + 1 := ⟨m - 1, by omega⟩
    obtain ⟨g1, g2, g3⟩ := drop_cons pst0 h
    obtain ⟨c1, c2, c3⟩ := chkL_cons hc
    simp only [List.length_cons] at hm
    rw [F13l0, B13l0, if_pos (show ltI (t : Int) (L.length : Int) = true from ltT (by omega)), if_pos (show inR (t : Int) (L.length : Int) = true from inT (by omega) (by omega))]
    rw [nthD_pst, Int.toNat_natCast, g2]
    refine bindS (ints_own K hK (pints p) (show (6 : Nat) ≤ 1000 by omega) (pints_i c1 ha)) ?_
    have ht : List.take (Int.toNat (((16 : Nat) : Int) - 0)) (List.drop (Int.toNat 0) d) = d := by
      show List.take 16 (List.drop 0 d) = d
      rw [List.drop_zero, List.take_of_length_le (by omega)]
    rw [ht]
    refine bindS (of_own K hK 205 [mkStr d, mkStr (encInts (pints p))] 100 (step_sizes (a := a) d hd) (show 2 * (100 + 11) ≤ 100000 by omega)) ?_
    rw [wi64 (by omega) (by omega)]
    exact dig_own_go K hK a ha L hL b4 kx r (t + 1) m _ _ g3 (by omega) c3 (dig_len _ _)
def digE (b : Bk) (n : Int) : List Int × Int := if chkE b ≠ 0 then (List.replicate 16 0, chkE b) else if n < 0 ∨ (b.2.length : Int) < n then (List.replicate 16 0, 1) else (digL (dig0 b.1) (b.2.take n.toNat), 0)
theorem digE_no {b : Bk} {n : Int} (h : chkE b ≠ 0) : digE b n = (List.replicate 16 0, chkE b) := by rw [digE, if_pos h]
theorem digE_out {b : Bk} {n : Int} (h : chkE b = 0) (h' : n < 0 ∨ (b.2.length : Int) < n) : digE b n = (List.replicate 16 0, 1) := by rw [digE, if_neg (fun k => k h), if_pos h']
theorem digE_ok {b : Bk} {n : Int} (h : chkE b = 0) (h0 : 0 ≤ n) (h1 : n ≤ (b.2.length : Int)) : digE b n = (digL (dig0 b.1) (b.2.take n.toNat), 0) := by rw [digE, if_neg (fun k => k h), if_neg (by omega)]
theorem chkL_take {a : Int} : ∀ {l : List Pst} {last : Int} (n : Nat), chkL a last l = 0 → chkL a last (l.take n) = 0
  | [], _, n, _ => by simp [chkL]
  | p :: l, last, 0, _ => rfl
  | p :: l, last, n + 1, h => by
    rw [List.take_succ_cons]
    rw [chkL] at h ⊢
    split at h
    · rename_i h1; exact absurd h h1
    · rename_i h1
      rw [if_neg h1]
      split at h
      · cases h
      · rename_i h2
        rw [if_neg h2]
        exact chkL_take n h
theorem begin_sizes (a : Int) : ∀ s ∈ [mkStr (encInt a)], s.size ≤ 100 := by
  intro s hs
  have := encInt_len a
  simp only [List.mem_cons, List.not_mem_nil, or_false] at hs
  subst hs
  rw [mkStr_size]; omega
theorem Digest_own (K : Nat) (hK : 200000 ≤ K) (b : Bk) (n : Int) : F13 K b n = some (digE b n) := by
  unfold F13
  refine bindS (chk_own K (by omega) b) ?_
  by_cases h : chkE b = 0
  · obtain ⟨h40, hl, hc⟩ := chkE_ok h
    rw [if_neg (eqZ h)]
    by_cases h0 : n < 0
    · rw [if_pos (show ltI n 0 = true from ltT h0), digE_out h (.inl h0)]
    · rw [if_neg (show ¬ ltI n 0 = true by rw [ltF (by omega)]; decide)]
      by_cases h1 : (b.2.length : Int) < n
      · rw [if_pos (show ltI (b.2.length : Int) n = true from ltT h1), digE_out h (.inr h1)]
      · rw [if_neg (show ¬ ltI (b.2.length : Int) n = true by rw [ltF (by omega)]; decide), digE_ok h (by omega) (by omega)]
        refine bindS (int_own K (by omega) b.1 ⟨by omega, by omega⟩) (bindS (of_own K hK 204 [mkStr (encInt b.1)] 100 (begin_sizes b.1) (show 1 * (100 + 11) ≤ 100000 by omega)) ?_)
        rw [if_pos (show inB 0 n (b.2.length : Int) = true from inBT (by omega) (by omega) (by omega))]
        have hcut : cut b.2 0 n = b.2.take n.toNat := by
          show List.take (n - 0).toNat (List.drop 0 b.2) = _
          rw [List.drop_zero, Int.sub_zero]
        rw [show cut b.2 0 n = b.2.take n.toNat from hcut]
        exact dig_own_go K hK b.1 h40.2 (b.2.take n.toNat) (by rw [List.length_take]; omega) _ _ _ 0 K 0 _ rfl (by rw [List.length_take]; omega) (chkL_take _ hc) (dig_len _ _)
  · rw [if_pos (eqN h), digE_no h]

theorem dig_ref_go (K : Nat) (hK : 200000 ≤ K) (a : Int) (ha : a ≤ 40) (b : Bk) (hL : b.2.length ≤ 10000) (N : Nat) (hN : N ≤ b.2.length) (b4) (kx) : ∀ (r : List Pst) (t m : Nat) (last : Int) (d : List Int), (b.2.take N).drop t = r → r.length < m → chkL a last r = 0 → d.length = 16 →
    F14l0 K m (N : Int) (t : Int) b b4 d kx = kx b4 (digL d r)
  | [], t, m, last, d, h, hm, hc, hd => by
    obtain ⟨m, rfl⟩ : ∃ j, m = j + 1 := ⟨m - 1, by omega⟩
    have := drop_nil h
    rw [List.length_take] at this
    rw [F14l0, B14l0, if_neg (show ¬ ltI (t : Int) (N : Int) = true by rw [ltF (by omega)]; decide), digL]
  | p :: r, t, m, last, d, h, hm, hc, hd => by
    obtain ⟨m, rfl⟩ : ∃ j, m = j + 1 := ⟨m - 1, by omega⟩
    obtain ⟨g1, g2, g3⟩ := drop_cons pst0 h
    obtain ⟨c1, c2, c3⟩ := chkL_cons hc
    simp only [List.length_cons] at hm
    rw [List.length_take] at g1
    have g2 : b.2.getD t pst0 = p := by
      rw [← g2, List.getD_eq_getElem?_getD, List.getD_eq_getElem?_getD, List.getElem?_take_of_lt (by omega)]
    rw [F14l0, B14l0, if_pos (show ltI (t : Int) (N : Int) = true from ltT (by omega)), if_pos (show inR (t : Int) (b.2.length : Int) = true from inT (by omega) (by omega))]
    refine bindS (text_ok K (by omega) d hd) ?_
    rw [nthD_pst, Int.toNat_natCast, g2]
    refine bindS (ints_ref K hK (pints p) (show (6 : Nat) ≤ 1000 by omega) (pints_i c1 ha)) ?_
    refine bindS (of_ref K hK 205 [mkStr d, mkStr (encInts (pints p))] 100 (step_sizes (a := a) d hd) (show 2 * (100 + 11) ≤ 100000 by omega)) ?_
    rw [wi64 (by omega) (by omega)]
    exact dig_ref_go K hK a ha b hL N hN b4 kx r (t + 1) m _ _ g3 (by omega) c3 (dig_len _ _)
theorem Digest_ref (K : Nat) (hK : 200000 ≤ K) (b : Bk) (n : Int) : F14 K b n = some (digE b n) := by
  unfold F14
  refine bindS (chk_ref K (by omega) b) ?_
  by_cases h : chkE b = 0
  · obtain ⟨h40, hl, hc⟩ := chkE_ok h
    rw [if_neg (eqZ h)]
    by_cases h0 : n < 0
    · rw [if_pos (show ltI n 0 = true from ltT h0), digE_out h (.inl h0)]
    · rw [if_neg (show ¬ ltI n 0 = true by rw [ltF (by omega)]; decide)]
      by_cases h1 : (b.2.length : Int) < n
      · rw [if_pos (show ltI (b.2.length : Int) n = true from ltT h1), digE_out h (.inr h1)]
      · rw [if_neg (show ¬ ltI (b.2.length : Int) n = true by rw [ltF (by omega)]; decide), digE_ok h (by omega) (by omega)]
        refine bindS (int_ref K (by omega) b.1 ⟨by omega, by omega⟩) (bindS (of_ref K hK 204 [mkStr (encInt b.1)] 100 (begin_sizes b.1) (show 1 * (100 + 11) ≤ 100000 by omega)) ?_)
        obtain ⟨N, rfl⟩ : ∃ N : Nat, n = (N : Int) := ⟨n.toNat, by omega⟩
        rw [Int.toNat_natCast]
        exact dig_ref_go K hK b.1 h40.2 b (by omega) N (by omega) _ _ _ 0 K 0 _ rfl (by rw [List.length_take]; omega) (chkL_take _ hc) (dig_len _ _)
  · rw [if_pos (eqN h), digE_no h]

/-! ### Where two books differ -/
def forkL : Int → List Pst → List Pst → Int × Int
  | _, [], [] => (0, 8)
  | k, [], _ :: _ => (k, 0)
  | k, _ :: _, [] => (k, 0)
  | k, p :: a, q :: b => if p = q then forkL (k + 1) a b else (k, 0)
theorem fork_own_go (K : Nat) (a b : Bk) (ha : a.2.length ≤ 10000) (hb : b.2.length ≤ 10000) : ∀ (r s : List Pst) (t m : Nat), a.2.drop t = r → b.2.drop t = s → t ≤ a.2.length → t ≤ b.2.length → r.length < m →
    F11l0 K m a.2 (a.2.length : Int) (t : Int) a b (fun y2 y3 => if ltI (y2.2.length : Int) (y3.2.length : Int) = true then some ((y2.2.length : Int), 0) else some (0, 8)) = some (forkL (t : Int) r s)
  | [], s, t, m, h, h', h1, h2, hm => by
    obtain ⟨m, rfl⟩ : ∃ j, m = j + 1 := ⟨m - 1, by omega⟩
    have := drop_nil h
    have e : a.2.length = t := by omega
    rw [F11l0, B11l0, if_neg (show ¬ ltI (t : Int) (a.2.length : Int) = true by rw [ltF (by omega)]; decide)]
    cases s with
    | nil =>
      have := drop_nil h'
      rw [if_neg (show ¬ ltI (a.2.length : Int) (b.2.length : Int) = true by rw [ltF (by omega)]; decide)]; rfl
    | cons q s =>
      have := (drop_cons pst0 h').1
      rw [if_pos (show ltI (a.2.length : Int) (b.2.length : Int) = true from ltT (by omega)), e]; rfl
  | p :: r, s, t, m, h, h', h1, h2, hm => by
    obtain ⟨m, rfl⟩ : ∃ j, m = j + 1 := ⟨m - 1, by omega⟩
    obtain ⟨g1, g2, g3⟩ := drop_cons pst0 h
    simp only [List.length_cons] at hm
    rw [F11l0, B11l0, if_pos (show ltI (t : Int) (a.2.length : Int) = true from ltT (by omega)), if_pos (show inR (t : Int) (a.2.length : Int) = true from inT (by omega) (by omega))]
    cases s with
    | nil =>
      have := drop_nil h'
      rw [if_pos (show eqI (t : Int) (b.2.length : Int) = true from eqT (by omega))]; rfl
    | cons q s =>
      obtain ⟨k1, k2, k3⟩ := drop_cons pst0 h'
      rw [if_neg (show ¬ eqI (t : Int) (b.2.length : Int) = true by rw [eqF (by omega)]; decide), if_pos (show inR (t : Int) (b.2.length : Int) = true from inT (by omega) (by omega))]
      simp only [nthD_pst, Int.toNat_natCast, g2, k2, eta_pst]
      rw [beq_pst p q, forkL, wi64 (by omega) (by omega)]
      by_cases e : p = q
      · rw [if_neg (by simp [e]), if_pos e]
        exact fork_own_go K a b ha hb r s (t + 1) m g3 k3 (by omega) (by omega) (by omega)
      · rw [if_pos (by simp [e]), if_neg e]
def forkE (a b : Bk) : Int × Int := if chkE a ≠ 0 then (0, chkE a) else if chkE b ≠ 0 then (0, chkE b) else if a.1 = b.1 then forkL 0 a.2 b.2 else (0, 1)
theorem forkE_no {a b : Bk} (h : chkE a ≠ 0) : forkE a b = (0, chkE a) := by rw [forkE, if_pos h]
theorem forkE_not {a b : Bk} (h : chkE a = 0) (h' : chkE b ≠ 0) : forkE a b = (0, chkE b) := by rw [forkE, if_neg (fun k => k h), if_pos h']
theorem forkE_ne {a b : Bk} (h : chkE a = 0) (h' : chkE b = 0) (e : a.1 ≠ b.1) : forkE a b = (0, 1) := by rw [forkE, if_neg (fun k => k h), if_neg (fun k => k h'), if_neg e]
theorem forkE_ok {a b : Bk} (h : chkE a = 0) (h' : chkE b = 0) (e : a.1 = b.1) : forkE a b = forkL 0 a.2 b.2 := by rw [forkE, if_neg (fun k => k h), if_neg (fun k => k h'), if_pos e]
theorem Fork_own (K : Nat) (hK : 20000 ≤ K) (a b : Bk) : F11 K a b = some (forkE a b) := by
  unfold F11
  refine bindS (chk_own K hK a) ?_
  by_cases h : chkE a = 0
  · rw [if_neg (eqZ h)]
    refine bindS (chk_own K hK b) ?_
    by_cases h' : chkE b = 0
    · rw [if_neg (eqZ h')]
      by_cases e : a.1 = b.1
      · rw [if_neg (show ¬ (!(eqI a.1 b.1)) = true by rw [eqT e]; decide), forkE_ok h h' e]
        have := chkE_len h
        have := chkE_len h'
        exact fork_own_go K a b (by omega) (by omega) a.2 b.2 0 K rfl rfl (by omega) (by omega) (by omega)
      · rw [if_pos (show (!(eqI a.1 b.1)) = true by rw [eqF (by omega)]; rfl), forkE_ne h h' e]
    · rw [if_pos (eqN h'), forkE_not h h']
  · rw [if_pos (eqN h), forkE_no h]
theorem fork_ref_go (K : Nat) (a b : Bk) (ha : a.2.length ≤ 10000) (hb : b.2.length ≤ 10000) (b4) : ∀ (r s : List Pst) (t m : Nat), a.2.drop t = r → b.2.drop t = s → t ≤ a.2.length → t ≤ b.2.length → r.length < m →
    F12l0 K m (t : Int) a b b4 (fun y2 => some (0, 8)) = some (forkL (t : Int) r s)
  | [], s, t, m, h, h', h1, h2, hm => by
    obtain ⟨m, rfl⟩ : ∃ j, m = j + 1 := ⟨m - 1, by omega⟩
    have := drop_nil h
    rw [F12l0, B12l0, if_neg (show ¬ ltI (t : Int) (a.2.length : Int) = true by rw [ltF (by omega)]; decide)]
    cases s with
    | nil =>
      have := drop_nil h'
      rw [if_neg (show ¬ ltI (t : Int) (b.2.length : Int) = true by rw [ltF (by omega)]; decide)]; rfl
    | cons q s =>
      have := (drop_cons pst0 h').1
      rw [if_pos (show ltI (t : Int) (b.2.length : Int) = true from ltT (by omega)), if_pos (show leI (a.2.length : Int) (t : Int) = true from leT (by omega))]; rfl
  | p :: r, s, t, m, h, h', h1, h2, hm => by
    obtain ⟨m, rfl⟩ : ∃ j, m = j + 1 := ⟨m - 1, by omega⟩
    obtain ⟨g1, g2, g3⟩ := drop_cons pst0 h
    simp only [List.length_cons] at hm
    rw [F12l0, B12l0, if_pos (show ltI (t : Int) (a.2.length : Int) = true from ltT (by omega)), if_neg (show ¬ leI (a.2.length : Int) (t : Int) = true by rw [leF (by omega)]; decide)]
    cases s with
    | nil =>
      have := drop_nil h'
      rw [if_pos (show leI (b.2.length : Int) (t : Int) = true from leT (by omega))]; rfl
    | cons q s =>
      obtain ⟨k1, k2, k3⟩ := drop_cons pst0 h'
      rw [if_neg (show ¬ leI (b.2.length : Int) (t : Int) = true by rw [leF (by omega)]; decide), if_pos (show inR (t : Int) (a.2.length : Int) = true from inT (by omega) (by omega)), if_pos (show inR (t : Int) (b.2.length : Int) = true from inT (by omega) (by omega))]
      simp only [nthD_pst, Int.toNat_natCast, g2, k2, eta_pst]
      rw [beq_pst p q, forkL, wi64 (by omega) (by omega)]
      by_cases e : p = q
      · rw [if_neg (by simp [e]), if_pos e]
        exact fork_ref_go K a b ha hb b4 r s (t + 1) m g3 k3 (by omega) (by omega) (by omega)
      · rw [if_pos (by simp [e]), if_neg e]
theorem Fork_ref (K : Nat) (hK : 20000 ≤ K) (a b : Bk) : F12 K a b = some (forkE a b) := by
  unfold F12
  refine bindS (chk_ref K hK a) ?_
  by_cases h : chkE a = 0
  · rw [if_neg (eqZ h)]
    refine bindS (chk_ref K hK b) ?_
    by_cases h' : chkE b = 0
    · rw [if_neg (eqZ h')]
      by_cases e : a.1 = b.1
      · rw [if_neg (show ¬ (!(eqI a.1 b.1)) = true by rw [eqT e]; decide), forkE_ok h h' e]
        have := chkE_len h
        have := chkE_len h'
        exact fork_ref_go K a b (by omega) (by omega) _ a.2 b.2 0 K rfl rfl (by omega) (by omega) (by omega)
      · rw [if_pos (show (!(eqI a.1 b.1)) = true by rw [eqF (by omega)]; rfl), forkE_ne h h' e]
    · rw [if_pos (eqN h'), forkE_not h h']
  · rw [if_pos (eqN h), forkE_no h]

end Go.Proofs.YtcjjagkcdepgdaaDoor
