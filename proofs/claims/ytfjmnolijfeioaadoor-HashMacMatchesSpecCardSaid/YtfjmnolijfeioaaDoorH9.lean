/- The laws of the hash chapter, as plain functions: each answers true. -/
import Derived.Test.YtfjmnolijfeioaaDoorH8
set_option linter.unusedVariables false
set_option linter.unusedSimpArgs false
set_option maxRecDepth 100000
namespace Go.Proofs.YtfjmnolijfeioaaDoor
open Go Go.Q

theorem decT {α : Type} [DecidableEq α] {a : α} : decide (a = a) = true := decide_eq_true rfl
theorem pure_sum (K : Nat) (hK : 200000 ≤ K) (b : List Int) : F3 K b = some true := law_sum K (by omega) (sanity_ok K hK) b

theorem few_bound {l : List ByteArray} (h : few l = true) : (∀ s ∈ l, s.size ≤ 400) ∧ l.length * (400 + 11) ≤ 100000 := by
  obtain ⟨h1, h2⟩ := few_of h
  exact ⟨h2, by omega⟩
theorem few_i64 {l : List ByteArray} (h : few l = true) : ∀ s ∈ l, s.size ≤ 9223372036854775807 := fun s hs => by
  have := (few_of h).2 s hs; omega
theorem inOf_len {tag : Int} {l : List ByteArray} (h : few l = true) : (inOf tag l).length ≤ 6000 := by
  have h1 := msgOf_len (few_of h).2
  have h2 := (few_of h).1
  show (msgOf l).length + 1 ≤ _
  have := Nat.mul_le_mul_right (400 + 11) h2
  omega

/-! ### Streams -/
theorem add_few (K : Nat) (hK : 200000 ≤ K) (s) (m : List Int) (x : ByteArray) (hs : Str s m) (hx : x.size ≤ 400) (hm : m.length ≤ 100000) :
    ∃ s', F17 K (s.1, (s.2.1, s.2.2)) x = some s' ∧ Str s' (m ++ bytesOf x) := add_ok K s m x hs (by omega) (by omega)

theorem streams_l0 (K : Nat) (hK : 200000 ≤ K) (l : List ByteArray) (h12 : l.length ≤ 12) (hl : ∀ s ∈ l, s.size ≤ 400) (x1 : ByteArray) (t7 : Bool) (k : Nat) (hk : k ≤ l.length) (kk) : ∀ (r t n : Nat) (s), t + r = k → r < n → Str s (joined (l.take t)) →
    ∃ s', F4l0 K n l x1 t7 (k : Int) (t : Int) (s.1, (s.2.1, s.2.2)) kk = kk l x1 t7 (k : Int) s' ∧ Str s' (joined (l.take k))
  | 0, t, n, s, h, hn, hs => by
    obtain ⟨n, rfl⟩ : ∃ m, n = m + 1 := ⟨n - 1, by omega⟩
    obtain rfl : t = k := by omega
    refine ⟨s, ?_, hs⟩
    simp (disch := omega) only [F4l0, B4l0, ltF, ↓reduceIte, Bool.false_eq_true]
  | r + 1, t, n, s, h, hn, hs => by
    obtain ⟨n, rfl⟩ : ∃ m, n = m + 1 := ⟨n - 1, by omega⟩
    have hj := joined_take_len hl t
    obtain ⟨s', h1, h2⟩ := add_few K hK s _ (l.getD t ByteArray.empty) hs (hl _ (getD_mem (by omega))) (by omega)
    rw [← joined_snoc, ← getD_take (by omega)] at h2
    obtain ⟨s'', h3, h4⟩ := streams_l0 K hK l h12 hl x1 t7 k hk kk r (t + 1) n s' (by omega) (by omega) h2
    refine ⟨s'', ?_, h4⟩
    rw [← h3]
    simp (disch := omega) only [F4l0, B4l0, ltT, inT, wi64, nthD_str, Int.toNat_natCast, ↓reduceIte, eq_self, h1, Option.bind_some]
    rfl
theorem streams_l2 (K : Nat) (hK : 200000 ≤ K) (l : List ByteArray) (h12 : l.length ≤ 12) (hl : ∀ s ∈ l, s.size ≤ 400) (x1 : ByteArray) (t7 : Bool) (k : Int) (e) (kk) : ∀ (r t n : Nat) (s), t + r = l.length → r < n → Str s (joined (l.take t)) →
    ∃ s', F4l2 K n l x1 t7 k (t : Int) (s.1, (s.2.1, s.2.2)) e kk = kk l x1 t7 k s' e ∧ Str s' (joined l)
  | 0, t, n, s, h, hn, hs => by
    obtain ⟨n, rfl⟩ : ∃ m, n = m + 1 := ⟨n - 1, by omega⟩
    refine ⟨s, ?_, by rw [List.take_of_length_le (by omega)] at hs; exact hs⟩
    simp (disch := omega) only [F4l2, B4l2, ltF, ↓reduceIte, Bool.false_eq_true]
  | r + 1, t, n, s, h, hn, hs => by
    obtain ⟨n, rfl⟩ : ∃ m, n = m + 1 := ⟨n - 1, by omega⟩
    have hj := joined_take_len hl t
    obtain ⟨s', h1, h2⟩ := add_few K hK s _ (l.getD t ByteArray.empty) hs (hl _ (getD_mem (by omega))) (by omega)
    rw [← joined_snoc, ← getD_take (by omega)] at h2
    obtain ⟨s'', h3, h4⟩ := streams_l2 K hK l h12 hl x1 t7 k e kk r (t + 1) n s' (by omega) (by omega) h2
    refine ⟨s'', ?_, h4⟩
    rw [← h3]
    simp (disch := omega) only [F4l2, B4l2, ltT, inT, wi64, nthD_str, Int.toNat_natCast, ↓reduceIte, eq_self, h1, Option.bind_some]
    rfl

theorem pure_streams (K : Nat) (hK : 200000 ≤ K) (l : List ByteArray) (x1 : ByteArray) (x2 : Int) (h2 : 0 ≤ x2 ∧ x2 ≤ 255) : F4 K l x1 x2 = some true := by
  unfold F4
  rw [sanity_ok K hK, Option.bind_some, few_ok K (by omega), Option.bind_some]
  cases hf : few l with
  | false => rfl
  | true =>
    obtain ⟨h12, hl⟩ := few_of hf
    rw [if_neg (by decide)]
    by_cases hx : 400 < (x1.size : Int)
    · rw [ltT hx, if_pos rfl]
    rw [ltF (by omega), if_neg (by decide), wi64 (x := (l.length : Int) + 1) (by omega) (by omega), wi64 (x := x2) (by omega) (by omega), eqF (by omega), if_neg (by decide)]
    obtain ⟨k, hk⟩ : ∃ k : Nat, x2.tmod ((l.length : Int) + 1) = (k : Int) := ⟨(x2.tmod ((l.length : Int) + 1)).toNat, by
      have := Int.tmod_nonneg ((l.length : Int) + 1) h2.1; omega⟩
    have hkl : k ≤ l.length := by
      have := Int.tmod_lt_of_pos x2 (show (0 : Int) < (l.length : Int) + 1 by omega); omega
    rw [hk]
    have hj0 := joined_take_len hl k
    have hjl := joined_len hl
    have htl : ∀ s ∈ l.take k, s.size ≤ 400 := fun s hs => hl s (List.mem_of_mem_take hs)
    obtain ⟨s, h1, h2⟩ := Str.begin K
    obtain ⟨s1, a1, b1⟩ := streams_l0 K hK l h12 hl x1 true k hkl (fun y3 y4 y5 y6 y7 => (F4l2 K K y3 y4 y5 y6 y6 (y7.1, (y7.2.1, y7.2.2)) (y7.1, (y7.2.1, y7.2.2)) (fun y8 y9 y10 y11 y12 y13 => ((F17 K (y13.1, (y13.2.1, y13.2.2)) y9).bind fun y14 => ((F18 K y8).bind fun y15 => (if ((inB (0 : Int) y11 (((List.length y8) : Nat) : Int)) = true) then ((F18 K (cut y8 (0 : Int) y11)).bind fun y16 => (if (y10 = true) then ((F19 K (y12.1, (y12.2.1, y12.2.2))).bind fun y17 => ((F13 K (bytesOf y15)).bind fun y18 => (if ((Ty.beq (Ty.arr 32 (Ty.int IntKind.u8)) y17 y18) = true) then ((F19 K (y13.1, (y13.2.1, y13.2.2))).bind fun y19 => ((F13 K (bytesOf y16)).bind fun y20 => (if ((Ty.beq (Ty.arr 32 (Ty.int IntKind.u8)) y19 y20) = true) then ((F19 K (y14.1, (y14.2.1, y14.2.2))).bind fun y21 => (if ((strRoom ((ByteArray.size y16) + (ByteArray.size y9))) = true) then ((F13 K (bytesOf (y16 ++ y9))).bind fun y22 => (some (Ty.beq (Ty.arr 32 (Ty.int IntKind.u8)) y21 y22))) else none)) else (some Bool.false)))) else (some Bool.false)))) else (some Bool.false))) else none)))))) k 0 K s (by omega) (by omega) h2
    rw [h1, Option.bind_some]
    refine a1.trans ?_
    obtain ⟨s2, a2, b2⟩ := streams_l2 K hK l h12 hl x1 true (k : Int) s1 (fun y8 y9 y10 y11 y12 y13 => ((F17 K (y13.1, (y13.2.1, y13.2.2)) y9).bind fun y14 => ((F18 K y8).bind fun y15 => (if ((inB (0 : Int) y11 (((List.length y8) : Nat) : Int)) = true) then ((F18 K (cut y8 (0 : Int) y11)).bind fun y16 => (if (y10 = true) then ((F19 K (y12.1, (y12.2.1, y12.2.2))).bind fun y17 => ((F13 K (bytesOf y15)).bind fun y18 => (if ((Ty.beq (Ty.arr 32 (Ty.int IntKind.u8)) y17 y18) = true) then ((F19 K (y13.1, (y13.2.1, y13.2.2))).bind fun y19 => ((F13 K (bytesOf y16)).bind fun y20 => (if ((Ty.beq (Ty.arr 32 (Ty.int IntKind.u8)) y19 y20) = true) then ((F19 K (y14.1, (y14.2.1, y14.2.2))).bind fun y21 => (if ((strRoom ((ByteArray.size y16) + (ByteArray.size y9))) = true) then ((F13 K (bytesOf (y16 ++ y9))).bind fun y22 => (some (Ty.beq (Ty.arr 32 (Ty.int IntKind.u8)) y21 y22))) else none)) else (some Bool.false)))) else (some Bool.false)))) else (some Bool.false))) else none)))) (l.length - k) k K s1 (by omega) (by omega) b1
    refine a2.trans ?_
    obtain ⟨s3, a3, b3⟩ := add_few K hK s1 _ x1 b1 (by omega) (by omega)
    show ((F17 K (s1.1, (s1.2.1, s1.2.2)) x1).bind _) = _
    rw [a3, Option.bind_some, joined_ok K (by omega) l h12 hl, Option.bind_some, inBT (by omega) (by omega) (by omega), if_pos rfl]
    have ec : cut l 0 (k : Int) = l.take k := by
      rw [cut, Int.sub_zero, Int.toNat_natCast, show (0 : Int).toNat = 0 from rfl, List.drop_zero]
    rw [ec, joined_ok K (by omega) _ (by rw [List.length_take]; omega) htl, Option.bind_some, if_pos rfl]
    rw [ssum_ok K (by omega) s2 _ b2 (by omega), Option.bind_some, bytesOf_mkStr (joined_byt _), sum_byt K _ (by omega) (by omega) (joined_byt _), Option.bind_some, beq_arr, decT, if_pos rfl]
    rw [ssum_ok K (by omega) s1 _ b1 (by omega), Option.bind_some, bytesOf_mkStr (joined_byt _), sum_byt K _ (by omega) (by omega) (joined_byt _), Option.bind_some, beq_arr, decT, if_pos rfl]
    rw [ssum_ok K (by omega) s3 _ b3 (by rw [List.length_append, bytesOf_len]; omega), Option.bind_some, strRoomT (by rw [mkStr_size]; omega), if_pos rfl]
    rw [bytesOf_append, bytesOf_mkStr (joined_byt _), sum_byt K _ (by rw [List.length_append, bytesOf_len]; omega) (by rw [List.length_append, bytesOf_len]; omega) ((joined_byt _).append (Byt.bytesOf _)), Option.bind_some, beq_arr, decT]

/-! ### Digests -/
theorem and_255 (x : Int) : IntKind.wrap .u8 (bitAnd .i64 x 255) = IntKind.wrap .u8 x := by
  have e : bitAnd .i64 x 255 = x % 256 := by
    show IntKind.wrap .i64 ((BitVec.ofInt 64 x &&& BitVec.ofInt 64 255).toNat : Int) = _
    rw [show BitVec.ofInt 64 255 = BitVec.ofNat 64 255 from rfl, BitVec.toNat_and, BitVec.toNat_ofInt, BitVec.toNat_ofNat, show 255 % 2 ^ 64 = 2 ^ 8 - 1 by decide, Nat.and_two_pow_sub_one_eq_mod, wi64 (by omega) (by omega)]
    omega
  rw [e, w8mod, w8mod]; omega
theorem dig_255 (x : Int) (l : List ByteArray) : dig (bitAnd .i64 x 255) l = dig x l := by
  rw [dig, dig, inOf, inOf, and_255]
theorem pure_of (K : Nat) (hK : 200000 ≤ K) (tag : Int) (l : List ByteArray) : F5 K tag l = some true := by
  unfold F5
  rw [sanity_ok K hK, Option.bind_some, few_ok K (by omega), Option.bind_some]
  cases hf : few l with
  | false => rfl
  | true =>
    obtain ⟨hl, hN⟩ := few_bound hf
    rw [if_neg (by decide), of_own K hK tag l 400 hl hN, Option.bind_some, if_pos rfl, of_ref K hK tag l 400 hl hN, Option.bind_some, beq_arr, decT, if_pos rfl,
      of_own K hK _ l 400 hl hN, Option.bind_some, dig_255, beq_arr, decT]

theorem inOf_inj {a b : Int} {l m : List ByteArray} (ha : 0 ≤ a ∧ a < 256) (hb : 0 ≤ b ∧ b < 256) (hl : few l = true) (hm : few m = true) (e : inOf a l = inOf b m) : a = b ∧ l = m := by
  rw [inOf, inOf, List.cons.injEq, wu8 (by omega) (by omega), wu8 (by omega) (by omega)] at e
  exact ⟨e.1, msgOf_inj (few_i64 hl) (few_i64 hm) e.2⟩
theorem pure_separates (K : Nat) (hK : 200000 ≤ K) (tags : List Int) (hB : Byt tags) (l m : List ByteArray) : F6 K tags l m = some true := by
  unfold F6
  rw [sanity_ok K hK, Option.bind_some, few_ok K (by omega), Option.bind_some]
  cases hl : few l with
  | false => rfl
  | true =>
    rw [if_neg (by decide), few_ok K (by omega), Option.bind_some]
    cases hm : few m with
    | false => rfl
    | true =>
      obtain ⟨hl1, hl2⟩ := few_bound hl
      obtain ⟨hm1, hm2⟩ := few_bound hm
      have ha := hB.getD 0
      have hb := hB.getD 1
      have i1 : (0 : Int).toNat = 0 := rfl
      have i2 : (1 : Int).toNat = 1 := rfl
      rw [if_neg (by decide)]
      simp only [nthD_int, i1, i2]
      generalize tags.getD 0 0 = a at ha
      generalize tags.getD 1 0 = b at hb
      have la := inOf_len (tag := a) hl
      have lb := inOf_len (tag := b) hm
      have ba : Byt (inOf a l) := inOf_byt (few_i64 hl)
      have bb : Byt (inOf b m) := inOf_byt (few_i64 hm)
      rw [wi64 (x := a) (by omega) (by omega), wi64 (x := b) (by omega) (by omega)]
      have tail : inOf a l ≠ inOf b m → (if ((!(strEq (mkStr (inOf a l)) (mkStr (inOf b m)))) = true) then ((F13 K (inOf a l)).bind fun y8 => ((F13 K (inOf b m)).bind fun y9 => ((F24 K y8 y9).bind fun y10 => (some (Ty.beq Ty.bool (Ty.beq (Ty.arr 16 (Ty.int IntKind.u8)) (dig a l) (dig b m)) y10))))) else (some Bool.false)) = some true := by
        intro hne
        rw [strEq_bytes, bytesOf_mkStr ba, bytesOf_mkStr bb, decide_eq_false hne, Bool.not_false, if_pos rfl, sum_byt K _ (by omega) (by omega) ba, Option.bind_some, sum_byt K _ (by omega) (by omega) bb, Option.bind_some,
          clash_ok K (by omega) _ _ (sha_len _) (sha_len _), Option.bind_some, beq_arr, beq_bool]
        exact congrArg some (decide_eq_true rfl)
      by_cases hab : a = b
      · rw [eqT hab, if_pos rfl, same_ok K l m (by have := (few_of hl).1; omega) (by have := (few_of hl).1; omega), Option.bind_some, input_ok K hK _ l 400 hl1 hl2, Option.bind_some, input_ok K hK _ m 400 hm1 hm2, Option.bind_some]
        by_cases hlm : l = m
        · rw [decide_eq_true hlm, if_pos rfl, if_pos trivial, hab, hlm, strEq_eq]; simp
        · rw [decide_eq_false hlm, if_neg (by decide), of_own K hK _ l 400 hl1 hl2, Option.bind_some, of_own K hK _ m 400 hm1 hm2, Option.bind_some, if_pos trivial]
          exact tail fun e => hlm (inOf_inj ha hb hl hm e).2
      · rw [eqF (by omega), if_neg (by decide), input_ok K hK _ l 400 hl1 hl2, Option.bind_some, input_ok K hK _ m 400 hm1 hm2, Option.bind_some, of_own K hK _ l 400 hl1 hl2, Option.bind_some, of_own K hK _ m 400 hm1 hm2, Option.bind_some, if_pos trivial]
        exact tail fun e => hab (inOf_inj ha hb hl hm e).1

/-! ### Keyed hashes -/
theorem pure_hmac (K : Nat) (hK : 200000 ≤ K) (key msg : ByteArray) : F7 K key msg = some true := by
  unfold F7
  rw [sanity_ok K hK, Option.bind_some]
  by_cases h1 : 400 < (key.size : Int)
  · rw [ltT h1, if_pos rfl]
  by_cases h2 : 400 < (msg.size : Int)
  · rw [ltF (by omega), if_neg (by decide), ltT h2, if_pos rfl]
  rw [ltF (by omega), if_neg (by decide), ltF (by omega), if_neg (by decide), if_pos rfl, hmac_own K hK _ _ (by omega) (by omega), Option.bind_some, hmac_ref K hK _ _ (by omega) (by omega), Option.bind_some, beq_arr, decT]

theorem kx_of {k k' : List Int} (h : kpad k = kpad k') (m : List Int) : hmac k m = hmac k' m := by
  unfold hmac kx; rw [h]
theorem pure_keys (K : Nat) (hK : 200000 ≤ K) (key msg : ByteArray) (z : Int) (hz : 0 ≤ z ∧ z ≤ 255) : F8 K key msg z = some true := by
  unfold F8
  rw [sanity_ok K hK, Option.bind_some]
  by_cases h1 : 200 < (key.size : Int)
  · rw [ltT h1, if_pos rfl]
  by_cases h2 : 400 < (msg.size : Int)
  · rw [ltF (by omega), if_neg (by decide), ltT h2, if_pos rfl]
  rw [ltF (x := 200) (by omega), if_neg (by decide), ltF (x := 400) (by omega), if_neg (by decide), hmac_own K hK _ _ (by omega) (by omega), Option.bind_some]
  by_cases h3 : 64 < (key.size : Int)
  · rw [ltT h3, if_pos rfl, sum_byt K _ (by rw [bytesOf_len]; omega) (by rw [bytesOf_len]; omega) (Byt.bytesOf _), Option.bind_some, if_pos rfl, b32_ok K (by omega) _ (sha_len _), Option.bind_some,
      hmac_own K hK _ _ (by rw [mkStr_size, sha_len]; omega) (by omega), Option.bind_some, bytesOf_mkStr (sha_byt _), beq_arr, kx_of (kpad_long (by rw [bytesOf_len]; omega)), decT]
  · have e1 : minI z (64 - (key.size : Int)) = ((min z.toNat (64 - key.size) : Nat) : Int) := by unfold minI; split <;> omega
    rw [ltF (by omega), if_neg (by decide), if_pos rfl, wi64 (x := z) (by omega) (by omega), wi64 (x := 64 - (key.size : Int)) (by omega) (by omega), e1, eqT rfl, inBT (by omega) (by omega) (by omega)]
    rw [show Bool.and true true = true from rfl, if_pos rfl, Int.toNat_natCast, strRoomT (by rw [mkStr_size, List.length_replicate]; omega), if_pos rfl]
    rw [hmac_own K hK _ _ (by rw [ByteArray.size_append, mkStr_size, List.length_replicate]; omega) (by omega), Option.bind_some, bytesOf_append, bytesOf_mkStr (Byt.rep (by omega) _), beq_arr,
      kx_of (kpad_zeros (by rw [bytesOf_len]; omega)), decT]

theorem pure_expand (K : Nat) (hK : 200000 ≤ K) (seed : ByteArray) (n : Int) : F9 K seed n = some true := by
  have both : ((F28 K seed n).bind fun y1 => ((F29 K seed n).bind fun y2 => (some (strEq y1 y2)))) = some true ∨ 400 < seed.size ∨ (300 < n ∧ n ≤ 1048576) := by
    by_cases h1 : 400 < seed.size
    · exact .inr (.inl h1)
    by_cases h2 : 300 < n ∧ n ≤ 1048576
    · exact .inr (.inr h2)
    left
    by_cases h3 : n < 1
    · unfold F28 F29
      rw [ltT h3, if_pos rfl, if_pos rfl, Option.bind_some, Option.bind_some, strEq_eq]; simp
    by_cases h4 : 1048576 < n
    · unfold F28 F29
      rw [ltF (x := n) (by omega), ltT h4, if_neg (by decide), if_pos rfl, if_neg (by decide), if_pos rfl, Option.bind_some, Option.bind_some, strEq_eq]; simp
    · obtain ⟨k, rfl⟩ := Int.eq_ofNat_of_zero_le (show 0 ≤ n by omega)
      rw [expand_own K hK seed (by omega) k (by omega) (by omega), Option.bind_some, expand_ref K hK seed (by omega) k (by omega) (by omega), Option.bind_some, strEq_eq]; simp
  unfold F9
  rw [sanity_ok K hK, Option.bind_some]
  by_cases h1 : 400 < (seed.size : Int)
  · rw [ltT h1, if_pos rfl]
  rw [ltF (by omega), if_neg (by decide), if_pos rfl]
  by_cases h2 : 300 < n
  · rw [ltT h2, if_pos rfl]
    by_cases h3 : n ≤ 1048576
    · rw [leT h3, if_pos rfl]
    · rw [leF (by omega), if_neg (by decide)]
      rcases both with h | h | h
      · exact h
      · omega
      · omega
  · rw [ltF (by omega), if_neg (by decide)]
    rcases both with h | h | h
    · exact h
    · omega
    · omega

theorem expd_pre (seed : List Int) : ∀ (r r' k : Nat), r ≤ r' → ∃ x, expd seed r' k = expd seed r k ++ x
  | 0, r', k, _ => ⟨_, rfl⟩
  | r + 1, r', k, h => by
    obtain ⟨r', rfl⟩ : ∃ m, r' = m + 1 := ⟨r' - 1, by omega⟩
    obtain ⟨x, hx⟩ := expd_pre seed r r' (k + 1) (by omega)
    exact ⟨x, by rw [expd, expd, hx, List.append_assoc]⟩
theorem expand_take (seed : List Int) {m n : Nat} (h : m ≤ n) : (expand seed n).take m = expand seed m := by
  obtain ⟨x, hx⟩ := expd_pre seed ((m + 31) / 32) ((n + 31) / 32) 0 (by omega)
  rw [expand, expand, List.take_take, Nat.min_eq_left h, hx, List.take_append_of_le_length (by rw [expd_len]; omega)]
theorem expand_first (seed : List Int) {m : Nat} (h0 : 1 ≤ m) {k : Nat} (h : k ≤ m) (h2 : k ≤ 32) : (expand seed m).take k = (hmac seed [0]).take k := by
  obtain ⟨x, hx⟩ := expd_pre seed 1 ((m + 31) / 32) 0 (by omega)
  rw [expand, List.take_take, Nat.min_eq_left h, hx, List.take_append_of_le_length (by rw [expd_len]; omega), expd, expd, List.append_nil]
  rfl
theorem pure_begins (K : Nat) (hK : 200000 ≤ K) (seed : ByteArray) (ns : List Int) (hB : Byt ns) : F10 K seed ns = some true := by
  unfold F10
  rw [sanity_ok K hK, Option.bind_some]
  by_cases h1 : 400 < (seed.size : Int)
  · rw [ltT h1, if_pos rfl]
  rw [ltF (by omega), if_neg (by decide)]
  have ha := hB.getD 0
  have hb := hB.getD 1
  have i1 : (0 : Int).toNat = 0 := rfl
  have i2 : (1 : Int).toNat = 1 := rfl
  simp only [nthD_int, i1, i2]
  generalize ns.getD 0 0 = a at ha
  generalize ns.getD 1 0 = b at hb
  have e1 : IntKind.wrap .i64 (1 + IntKind.wrap .i64 (minI a b)) = ((1 + (min a.toNat b.toNat) : Nat) : Int) := by
    have : minI a b = ((min a.toNat b.toNat : Nat) : Int) := by unfold minI; split <;> omega
    rw [this, wi64 (x := ((min a.toNat b.toNat : Nat) : Int)) (by omega) (by omega), wi64 (by omega) (by omega)]; omega
  have e2 : IntKind.wrap .i64 (1 + IntKind.wrap .i64 (maxI a b)) = ((1 + (max a.toNat b.toNat) : Nat) : Int) := by
    have : maxI a b = ((max a.toNat b.toNat : Nat) : Int) := by unfold maxI; split <;> omega
    rw [this, wi64 (x := ((max a.toNat b.toNat : Nat) : Int)) (by omega) (by omega), wi64 (by omega) (by omega)]; omega
  rw [e1, e2]
  obtain ⟨m, hm⟩ : ∃ m, m = 1 + min a.toNat b.toNat := ⟨_, rfl⟩
  obtain ⟨n, hn⟩ : ∃ n, n = 1 + max a.toNat b.toNat := ⟨_, rfl⟩
  rw [← hm, ← hn]
  have e3 : minI (m : Int) 32 = ((min m 32 : Nat) : Int) := by unfold minI; split <;> omega
  rw [expand_own K hK seed (by omega) m (by omega) (by omega), Option.bind_some, expand_own K hK seed (by omega) n (by omega) (by omega), Option.bind_some, mkStr_size, mkStr_size, expand_len, expand_len, eqT rfl, eqT rfl]
  rw [show (!true) = false from rfl, if_neg (by decide), if_neg (by decide), hmac_own K hK seed _ (by omega) (by show 1 ≤ _; omega), Option.bind_some, b32_ok K (by omega) _ (hmac_len _ _), Option.bind_some, if_pos trivial, mkStr_size, hmac_len, e3]
  rw [inBT (by omega) (by omega) (by omega), inBT (by omega) (by omega) (by omega), inBT (by omega) (by omega) (by omega)]
  have ex : ∀ (l : List Int) (k : Nat), Byt l → ByteArray.extract (mkStr l) 0 (Int.toNat (k : Int)) = mkStr (l.take k) := fun l k hl => by
    apply bytesOf_inj
    rw [bytesOf_extract, bytesOf_mkStr hl, bytesOf_mkStr (hl.take _), Int.toNat_natCast, List.drop_zero, Nat.sub_zero]
  rw [ex _ _ (expand_byt _ _), ex _ _ (expand_byt _ _), ex _ _ (hmac_byt _ _), expand_take _ (by omega), strEq_eq, decT, if_pos rfl, if_pos rfl, if_pos rfl, if_pos rfl]
  rw [expand_first _ (by omega) (by omega) (by omega), strEq_eq]
  exact congrArg some (decide_eq_true rfl)

theorem pure_mac (K : Nat) (hK : 200000 ≤ K) (key : ByteArray) (l m : List ByteArray) : F11 K key l m = some true := by
  unfold F11
  rw [sanity_ok K hK, Option.bind_some]
  by_cases h1 : 400 < (key.size : Int)
  · rw [ltT h1, if_pos rfl]
  rw [ltF (by omega), if_neg (by decide), few_ok K (by omega), Option.bind_some]
  cases hl : few l with
  | false => rfl
  | true =>
    rw [if_neg (by decide), few_ok K (by omega), Option.bind_some]
    cases hm : few m with
    | false => rfl
    | true =>
      obtain ⟨hl1, hl2⟩ := few_bound hl
      obtain ⟨hm1, hm2⟩ := few_bound hm
      have la := inOf_len (tag := 0) hl
      have lb := inOf_len (tag := 0) hm
      have la' : (msgOf l).length + 1 ≤ 6000 := la
      have lb' : (msgOf m).length + 1 ≤ 6000 := lb
      have ba : Byt (msgOf l) := msgOf_byt (few_i64 hl)
      have bb : Byt (msgOf m) := msgOf_byt (few_i64 hm)
      rw [if_neg (by decide), mac_own K hK key (by omega) l 400 hl1 hl2, Option.bind_some, mac_own K hK key (by omega) m 400 hm1 hm2, Option.bind_some, message_ok K hK l 400 hl1 hl2, Option.bind_some,
        hmac_own K hK key _ (by omega) (by rw [mkStr_size]; omega), Option.bind_some, message_ok K hK m 400 hm1 hm2, Option.bind_some, hmac_own K hK key _ (by omega) (by rw [mkStr_size]; omega), Option.bind_some,
        same_ok K l m (by have := (few_of hl).1; omega) (by have := (few_of hl).1; omega), Option.bind_some, if_pos rfl, mac_ref K hK key (by omega) l 400 hl1 hl2, Option.bind_some, beq_arr, decT, if_pos rfl,
        bytesOf_mkStr ba, bytesOf_mkStr bb, clash_ok K (by omega) _ _ (hmac_len _ _) (hmac_len _ _), Option.bind_some, beq_arr, beq_bool]
      rw [show decide (mac (bytesOf key) l = mac (bytesOf key) m) = decide (List.take 16 (hmac (bytesOf key) (msgOf l)) = List.take 16 (hmac (bytesOf key) (msgOf m))) from rfl, decT, if_pos rfl, Option.bind_some, Option.bind_some, beq_bool]
      refine congrArg some (decide_eq_true ?_)
      rw [strEq_bytes, bytesOf_mkStr ba, bytesOf_mkStr bb]
      exact decide_eq_decide.2 ⟨fun e => msgOf_inj (few_i64 hl) (few_i64 hm) e, fun e => by rw [e]⟩
end Go.Proofs.YtfjmnolijfeioaaDoor
