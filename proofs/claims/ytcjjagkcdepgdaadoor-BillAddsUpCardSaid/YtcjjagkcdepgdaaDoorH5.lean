/- Encodings, digests, keyed hashes: both sides. -/
import Derived.Test.YtcjjagkcdepgdaaDoorRA
import Derived.Test.YtcjjagkcdepgdaaDoorH4
set_option linter.unusedVariables false
set_option linter.unusedSimpArgs false
set_option maxRecDepth 100000
namespace Go.Proofs.YtcjjagkcdepgdaaDoor
open Go Go.Q

/-! ### Integers -/
theorem int_own_go (K : Nat) (kx) : ∀ (f z n : Nat) (p : List Int), z < 128 ^ f * 128 → f < n → p.length + f ≤ 1000 →
    ∃ (y : Nat) (q : List Int), F31l0 K n (z : Int) p kx = kx (y : Int) q ∧ y < 128 ∧ q.length ≤ p.length + f ∧ q ++ [(y : Int)] = p ++ encN f z
  | f, z, n, p, hz, hn, hp => by
    obtain ⟨n, rfl⟩ : ∃ m, n = m + 1 := ⟨n - 1, by omega⟩
    by_cases h : 128 ≤ z
    · obtain ⟨f, rfl⟩ : ∃ g, f = g + 1 := ⟨f - 1, by
        rcases f with _ | f
        · simp at hz; omega
        · rfl⟩
      rw [Nat.pow_succ] at hz
      obtain ⟨y, q, h1, h2, h3, h4⟩ := int_own_go K kx f (z / 128) n (p ++ [((z % 128 + 128 : Nat) : Int)]) (by omega) (by omega) (by simp; omega)
      refine ⟨y, q, ?_, h2, by simp at h3; omega, ?_⟩
      · rw [← h1]
        have e : shrI .u64 (z : Int) 7 = ((z / 128 : Nat) : Int) := shr_nat z 7 (by omega)
        simp (disch := omega) only [F31l0, B31l0, ltT, roomT, or_128, e, ↓reduceIte, eq_self, List.length_cons, List.length_nil, List.length_replicate, List.replicate_zero]
      · rw [h4, encN, if_pos h, List.append_assoc, List.singleton_append]
    · refine ⟨z, p, ?_, by omega, by omega, ?_⟩
      · simp (disch := omega) only [F31l0, B31l0, ltF, ↓reduceIte, Bool.false_eq_true]
      · cases f with
        | zero => rfl
        | succ f => rw [encN, if_neg h]
termination_by f => f

theorem int_own (K : Nat) (hK : 12 ≤ K) (n : Int) (h : I64 n) : F31 K n = some (encInt n) := by
  unfold F31
  rw [zz_own h]
  have hz := zz_lt h
  obtain ⟨y, q, h1, h2, h3, h4⟩ := int_own_go K (fun y0 y1 => (if ((room ((List.length y1) + (List.length ((IntKind.wrap IntKind.u8 y0) :: (List.replicate 0 (0 : Int)))))) = true) then (some (y1 ++ ((IntKind.wrap IntKind.u8 y0) :: (List.replicate 0 (0 : Int))))) else none)) 10 (zz n) K [] (by simp only [Nat.reducePow, Nat.reduceMul]; omega) (by omega) (by simp)
  rw [h1]
  simp at h3
  simp (disch := omega) only [roomT, ↓reduceIte, eq_self, List.length_cons, List.length_nil, List.replicate_zero, wu8]
  rw [h4]; rfl

theorem int_ref_go (K : Nat) (kx) : ∀ (f z n : Nat) (p : List Int), z < 128 ^ f * 128 → f < n → p.length + f ≤ 1000 → z < 18446744073709551616 →
    ∃ (y : Nat) (q : List Int), F34l0 K n (z : Int) p kx = kx (y : Int) q ∧ y < 128 ∧ q.length ≤ p.length + f ∧ q ++ [(y : Int)] = p ++ encN f z
  | f, z, n, p, hz, hn, hp, hzz => by
    obtain ⟨n, rfl⟩ : ∃ m, n = m + 1 := ⟨n - 1, by omega⟩
    by_cases h : 128 ≤ z
    · obtain ⟨f, rfl⟩ : ∃ g, f = g + 1 := ⟨f - 1, by
        rcases f with _ | f
        · simp at hz; omega
        · rfl⟩
      rw [Nat.pow_succ] at hz
      obtain ⟨y, q, h1, h2, h3, h4⟩ := int_ref_go K kx f (z / 128) n (p ++ [((z % 128 + 128 : Nat) : Int)]) (by omega) (by omega) (by simp; omega) (by omega)
      refine ⟨y, q, ?_, h2, by simp at h3; omega, ?_⟩
      · rw [← h1]
        have e1 : (z : Int).tmod 128 = ((z % 128 : Nat) : Int) := by rw [Int.tmod_eq_emod_of_nonneg (by omega)]; omega
        have e2 : (z : Int).tdiv 128 = ((z / 128 : Nat) : Int) := by rw [Int.tdiv_eq_ediv_of_nonneg (by omega)]; omega
        have e3 : ((z % 128 : Nat) : Int) + 128 = ((z % 128 + 128 : Nat) : Int) := by omega
        simp (disch := omega) only [F34l0, B34l0, leT, roomT, e1, e2, e3, wu8, wu64, ↓reduceIte, eq_self, List.length_cons, List.length_nil, List.length_replicate, List.replicate_zero]
      · rw [h4, encN, if_pos h, List.append_assoc, List.singleton_append]
    · refine ⟨z, p, ?_, by omega, by omega, ?_⟩
      · simp (disch := omega) only [F34l0, B34l0, leF, ↓reduceIte, Bool.false_eq_true]
      · cases f with
        | zero => rfl
        | succ f => rw [encN, if_neg h]
termination_by f => f

theorem int_ref (K : Nat) (hK : 12 ≤ K) (n : Int) (h : I64 n) : F34 K n = some (encInt n) := by
  have hz := zz_lt h
  have he := zz_ref h
  obtain ⟨y, q, h1, h2, h3, h4⟩ := int_ref_go K (fun y0 y1 => (if ((room ((List.length y1) + (List.length ((IntKind.wrap IntKind.u8 y0) :: (List.replicate 0 (0 : Int)))))) = true) then (some (y1 ++ ((IntKind.wrap IntKind.u8 y0) :: (List.replicate 0 (0 : Int))))) else none)) 10 (zz n) K [] (by simp only [Nat.reducePow, Nat.reduceMul]; omega) (by omega) (by simp) (by omega)
  have fin : F34l0 K K (zz n : Int) [] (fun y0 y1 => (if ((room ((List.length y1) + (List.length ((IntKind.wrap IntKind.u8 y0) :: (List.replicate 0 (0 : Int)))))) = true) then (some (y1 ++ ((IntKind.wrap IntKind.u8 y0) :: (List.replicate 0 (0 : Int))))) else none)) = some (encInt n) := by
    rw [h1]
    simp at h3
    simp (disch := omega) only [roomT, ↓reduceIte, eq_self, List.length_cons, List.length_nil, List.replicate_zero, wu8]
    rw [h4]; rfl
  rw [← he] at fin
  unfold F34
  by_cases hn : n < 0
  · rw [ltT hn]; rw [if_pos hn] at fin; exact fin
  · rw [ltF (by omega)]; rw [if_neg hn] at fin; exact fin

theorem bytes_own (K : Nat) (hK : 12 ≤ K) (s : ByteArray) (h : s.size ≤ 1000000000) : F48 K s = some (encB s) := by
  unfold F48
  have := encInt_len (s.size : Int)
  rw [int_own K hK _ (I64.nat (by omega)), Option.bind_some, roomT (by rw [bytesOf_len]; omega)]
  rfl
theorem bytes_ref (K : Nat) (hK : 12 ≤ K) (s : ByteArray) (h : s.size ≤ 1000000000) : F56 K s = some (encB s) := by
  unfold F56
  have := encInt_len (s.size : Int)
  rw [int_ref K hK _ (I64.nat (by omega)), Option.bind_some, roomT (by rw [bytesOf_len]; omega)]
  rfl

/-! ### Digests -/
theorem getD_take {α : Type} {l : List α} {t : Nat} {d : α} (h : t < l.length) : l.take (t + 1) = l.take t ++ [l.getD t d] := by
  rw [List.take_add_one, List.getD_eq_getElem?_getD, List.getElem?_eq_getElem h]; rfl
theorem getD_mem {α : Type} {l : List α} {t : Nat} {d : α} (h : t < l.length) : l.getD t d ∈ l := by
  rw [List.getD_eq_getElem?_getD, List.getElem?_eq_getElem h]; exact List.getElem_mem h

theorem of_go (K : Nat) (l : List ByteArray) (N : Nat) (hl : ∀ s ∈ l, s.size ≤ N) (hN : l.length * (N + 11) ≤ 100000) (hK : 200000 ≤ K) (tag : Int) (b4 : List Int) (kx) : ∀ (r t n : Nat) (s), t + r = l.length → r < n → Str s (inOf tag (l.take t)) →
    ∃ s', F30l0 K n l (l.length : Int) (t : Int) b4 (s.1, (s.2.1, s.2.2)) kx = kx b4 s' ∧ Str s' (inOf tag l)
  | 0, t, n, s, h, hn, hs => by
    obtain ⟨n, rfl⟩ : ∃ m, n = m + 1 := ⟨n - 1, by omega⟩
    refine ⟨s, ?_, ?_⟩
    · simp (disch := omega) only [F30l0, B30l0, ltF, ↓reduceIte, Bool.false_eq_true]
    · rw [List.take_of_length_le (by omega)] at hs; exact hs
  | r + 1, t, n, s, h, hn, hs => by
    obtain ⟨n, rfl⟩ : ∃ m, n = m + 1 := ⟨n - 1, by omega⟩
    have hm := hl _ (getD_mem (d := ByteArray.empty) (show t < l.length by omega))
    have hml : l.length * 11 + l.length * N ≤ 100000 := by rw [Nat.mul_add] at hN; omega
    have hN' : N + 11 ≤ 100000 := Nat.le_trans (Nat.le_mul_of_pos_left _ (by omega)) hN
    have hb := encB_len (l.getD t ByteArray.empty)
    have hbl : (msgOf (l.take t)).length ≤ t * (N + 11) := by
      have := msgOf_len (n := N) (l := l.take t) (fun s hs => hl s (List.mem_of_mem_take hs))
      rwa [List.length_take, Nat.min_eq_left (by omega)] at this
    have hbt : t * (N + 11) + (N + 11) ≤ 100000 := by rw [← Nat.succ_mul]; exact Nat.le_trans (Nat.mul_le_mul_right _ (by omega)) hN
    have hil : (inOf tag (l.take t)).length = (msgOf (l.take t)).length + 1 := rfl
    have hlen := Nat.le_mul_of_pos_right l.length (show 0 < N + 11 by omega)
    obtain ⟨s', h1, h2⟩ := add_ok K s _ (mkStr (encB (l.getD t ByteArray.empty))) hs (by rw [mkStr_size]; omega) (by rw [mkStr_size]; omega)
    rw [bytesOf_mkStr (encB_byt (by omega))] at h2
    have h3 : Str s' (inOf tag (l.take (t + 1))) := by
      rw [getD_take (d := ByteArray.empty) (by omega), inOf, msgOf_snoc]; exact h2
    obtain ⟨s'', h4, h5⟩ := of_go K l N hl hN hK tag b4 kx r (t + 1) n s' (by omega) (by omega) h3
    refine ⟨s'', ?_, h5⟩
    rw [← h4]
    simp (disch := omega) only [F30l0, B30l0, ltT, inT, wi64, nthD_str, Int.toNat_natCast, ↓reduceIte, eq_self]
    rw [bytes_own K (by omega) _ (by omega), Option.bind_some, h1, Option.bind_some]
    rfl

theorem of_own (K : Nat) (hK : 200000 ≤ K) (tag : Int) (l : List ByteArray) (N : Nat) (hl : ∀ s ∈ l, s.size ≤ N) (hN : l.length * (N + 11) ≤ 100000) : F30 K tag l = some (dig tag l) := by
  unfold F30
  obtain ⟨s, h1, h2⟩ := Str.begin K
  obtain ⟨s', h3, h4⟩ := add_ok K s [] (mkStr [IntKind.wrap .u8 tag]) h2 (by rw [mkStr_size]; simp; omega) (by rw [mkStr_size]; simp)
  rw [bytesOf_mkStr (Byt.cons (Byt.w8 _) Byt.nil)] at h4
  have h5 : Str s' (inOf tag (l.take 0)) := h4
  obtain ⟨s'', h6, h7⟩ := of_go K l N hl hN hK tag (List.replicate 16 0) (fun y2 y3 => ((F49 K (y3.1, (y3.2.1, y3.2.2))).bind fun y4 => (some (List.take 16 (List.drop (Int.toNat (0 : Int)) y4))))) l.length 0 K s' (by omega) (by
    have := Nat.le_mul_of_pos_right l.length (show 0 < N + 11 by omega); omega) h5
  have hml := msgOf_len (n := N) hl
  rw [h1, Option.bind_some, List.replicate_zero, h3, Option.bind_some]
  refine h6.trans ?_
  show ((F49 K (s''.1, (s''.2.1, s''.2.2))).bind fun y4 => (some (List.take 16 (List.drop (Int.toNat (0 : Int)) y4)))) = _
  rw [ssum_ok K (by omega) s'' _ h7 (by show (msgOf l).length + 1 ≤ _; omega)]
  rfl

theorem input_go (K : Nat) (l : List ByteArray) (N : Nat) (hl : ∀ s ∈ l, s.size ≤ N) (hN : l.length * (N + 11) ≤ 100000) (hK : 12 ≤ K) (tag : Int) (kx) : ∀ (r t n : Nat), t + r = l.length → r < n →
    F52l0 K n l (inOf tag (l.take t)) (t : Int) kx = kx (inOf tag l)
  | 0, t, n, h, hn => by
    obtain ⟨n, rfl⟩ : ∃ m, n = m + 1 := ⟨n - 1, by omega⟩
    simp (disch := omega) only [F52l0, B52l0, ltF, ↓reduceIte, Bool.false_eq_true]
    rw [List.take_of_length_le (by omega)]
  | r + 1, t, n, h, hn => by
    obtain ⟨n, rfl⟩ : ∃ m, n = m + 1 := ⟨n - 1, by omega⟩
    have hm := hl _ (getD_mem (d := ByteArray.empty) (show t < l.length by omega))
    have hN' : N + 11 ≤ 100000 := Nat.le_trans (Nat.le_mul_of_pos_left _ (by omega)) hN
    have hb := encB_len (l.getD t ByteArray.empty)
    have hbl : (msgOf (l.take t)).length ≤ t * (N + 11) := by
      have := msgOf_len (n := N) (l := l.take t) (fun s hs => hl s (List.mem_of_mem_take hs))
      rwa [List.length_take, Nat.min_eq_left (by omega)] at this
    have hbt : t * (N + 11) + (N + 11) ≤ 100000 := by rw [← Nat.succ_mul]; exact Nat.le_trans (Nat.mul_le_mul_right _ (by omega)) hN
    have hil : (inOf tag (l.take t)).length = (msgOf (l.take t)).length + 1 := rfl
    have hlen := Nat.le_mul_of_pos_right l.length (show 0 < N + 11 by omega)
    have ih := input_go K l N hl hN hK tag kx r (t + 1) n (by omega) (by omega)
    rw [getD_take (d := ByteArray.empty) (by omega), inOf, msgOf_snoc] at ih
    rw [← ih]
    simp (disch := omega) only [F52l0, B52l0, ltT, inT, wi64, nthD_str, Int.toNat_natCast, ↓reduceIte, eq_self]
    rw [bytes_ref K hK _ (by omega), Option.bind_some, roomT (by omega), if_pos rfl]
    rfl

theorem input_ok (K : Nat) (hK : 200000 ≤ K) (tag : Int) (l : List ByteArray) (N : Nat) (hl : ∀ s ∈ l, s.size ≤ N) (hN : l.length * (N + 11) ≤ 100000) : F52 K tag l = some (inOf tag l) := by
  unfold F52
  have := input_go K l N hl hN (by omega) tag (fun y0 => some y0) l.length 0 K (by omega) (by
    have := Nat.le_mul_of_pos_right l.length (show 0 < N + 11 by omega); omega)
  exact this

theorem first_n {s : List Int} {n : Nat} (hs : n ≤ s.length) : (List.range n).map (fun i => s.getD i 0) = s.take n := by
  apply List.ext_getElem
  · simp; omega
  · intro i h1 h2
    simp only [List.getElem_map, List.getElem_range, List.getElem_take]
    rw [List.getD_eq_getElem?_getD, List.getElem?_eq_getElem (by simp at h1; omega)]
    rfl
end Go.Proofs.YtcjjagkcdepgdaaDoor
