/- Digests, keyed hashes, derived bytes: both sides. -/
import Derived.Test.YtkgampbboffhmaaDoorH5
set_option linter.unusedVariables false
set_option linter.unusedSimpArgs false
set_option maxRecDepth 100000
namespace Go.Proofs.YtkgampbboffhmaaDoor
open Go Go.Q

theorem short_go (K : Nat) (b2 s : List Int) (kx) : ∀ (r t n : Nat), t + r = 16 → r < n →
    F61l0 K n (t : Int) b2 s ((List.range t).map (fun i => s.getD i 0) ++ List.replicate (16 - t) 0) kx = kx b2 ((List.range 16).map (fun i => s.getD i 0))
  | 0, t, n, h, hn => by
    obtain ⟨n, rfl⟩ : ∃ m, n = m + 1 := ⟨n - 1, by omega⟩
    obtain rfl : t = 16 := by omega
    simp (disch := omega) only [F61l0, B61l0, ltF, ↓reduceIte, Bool.false_eq_true]
    rw [fill_end]
  | r + 1, t, n, h, hn => by
    obtain ⟨n, rfl⟩ : ∃ m, n = m + 1 := ⟨n - 1, by omega⟩
    have ih := short_go K b2 s kx r (t + 1) n (by omega) (by omega)
    rw [← fill_step _ _ _ (by omega)] at ih
    simp (disch := omega) only [F61l0, B61l0, ltT, inT, wi64, ↓reduceIte, eq_self, Bool.false_eq_true, nthD_int, Int.toNat_natCast]
    exact ih
theorem short_ok (K : Nat) (m : List Int) (hB : Byt m) (hl : m.length ≤ 1000000) (hK : 200000 ≤ K) : F61 K m = some ((sha m).take 16) := by
  unfold F61
  rw [refsum_ok K m hB (by omega) (by omega), Option.bind_some]
  refine (short_go K _ (sha m) _ 16 0 K rfl (by omega)).trans ?_
  rw [first_n (by rw [sha_len]; omega)]
theorem of_ref (K : Nat) (hK : 200000 ≤ K) (tag : Int) (l : List ByteArray) (N : Nat) (hl : ∀ s ∈ l, s.size ≤ N) (hN : l.length * (N + 11) ≤ 100000) : F48 K tag l = some (dig tag l) := by
  have hml := msgOf_len (n := N) hl
  have hlen := Nat.le_mul_of_pos_right l.length (show 0 < N + 11 by omega)
  unfold F48
  rw [input_ok K hK tag l N hl hN, Option.bind_some, short_ok K _ (inOf_byt (fun s hs => by
    have h1 := hl s hs
    have h2 := Nat.le_mul_of_pos_left (N + 11) (List.length_pos_iff.2 (List.ne_nil_of_mem hs))
    omega)) (by show (msgOf l).length + 1 ≤ _; omega) hK]
  rfl

/-! ### Few, Same, Joined -/
def few (l : List ByteArray) : Bool := decide (l.length ≤ 12 ∧ ∀ s ∈ l, s.size ≤ 400)
theorem few_of {l : List ByteArray} (h : few l = true) : l.length ≤ 12 ∧ ∀ s ∈ l, s.size ≤ 400 := of_decide_eq_true h

def joined (l : List ByteArray) : List Int := l.flatMap bytesOf
theorem joined_len {N : Nat} : ∀ {l : List ByteArray}, (∀ s ∈ l, s.size ≤ N) → (joined l).length ≤ l.length * N
  | [], _ => by simp [joined]
  | s :: l, h => by
    have h1 := joined_len (l := l) (fun x hx => h x (.tail _ hx))
    have h3 := h s (.head _)
    have e : (joined (s :: l)).length = (bytesOf s).length + (joined l).length := by rw [joined, List.flatMap_cons, List.length_append]; rfl
    rw [e, List.length_cons, Nat.succ_mul, bytesOf_len]
    omega
theorem joined_byt (l : List ByteArray) : Byt (joined l) := fun y hy => by
  obtain ⟨s, hs, hy⟩ := List.mem_flatMap.1 hy
  exact Byt.bytesOf s y hy
theorem joined_snoc (l : List ByteArray) (s : ByteArray) : joined (l ++ [s]) = joined l ++ bytesOf s := by simp [joined, List.flatMap_append]
theorem joined_take_len {l : List ByteArray} {N : Nat} (h : ∀ s ∈ l, s.size ≤ N) (t : Nat) : (joined (l.take t)).length ≤ l.length * N := by
  refine Nat.le_trans (joined_len fun s hs => h s (List.mem_of_mem_take hs)) (Nat.mul_le_mul_right _ ?_)
  rw [List.length_take]; omega
/-! ### clash, Bytes32, Text -/
theorem b32_go (K : Nat) (s : List Int) (hs : s.length = 32) (kx) : ∀ (r t n : Nat), t + r = 32 → r < n →
    F67l0 K n (s.take t) (t : Int) s kx = kx s
  | 0, t, n, h, hn => by
    obtain ⟨n, rfl⟩ : ∃ m, n = m + 1 := ⟨n - 1, by omega⟩
    simp (disch := omega) only [F67l0, B67l0, ltF, ↓reduceIte, Bool.false_eq_true]
    rw [List.take_of_length_le (by omega)]
  | r + 1, t, n, h, hn => by
    obtain ⟨n, rfl⟩ : ∃ m, n = m + 1 := ⟨n - 1, by omega⟩
    have ih := b32_go K s hs kx r (t + 1) n (by omega) (by omega)
    rw [getD_take (d := 0) (by omega)] at ih
    simp (disch := omega) only [F67l0, B67l0, ltT, inT, wi64, roomT, ↓reduceIte, eq_self, nthD_int, Int.toNat_natCast, List.length_take, List.length_cons, List.length_nil, List.replicate_zero]
    exact ih
theorem b32_ok (K : Nat) (hK : 40 ≤ K) (s : List Int) (hs : s.length = 32) : F67 K s = some (mkStr s) := by
  unfold F67
  exact b32_go K s hs _ 32 0 K rfl (by omega)
theorem text_go (K : Nat) (s : List Int) (hs : s.length = 16) (kx) : ∀ (r t n : Nat), t + r = 16 → r < n →
    F47l0 K n (s.take t) (t : Int) s kx = kx s
  | 0, t, n, h, hn => by
    obtain ⟨n, rfl⟩ : ∃ m, n = m + 1 := ⟨n - 1, by omega⟩
    simp (disch := omega) only [F47l0, B47l0, ltF, ↓reduceIte, Bool.false_eq_true]
    rw [List.take_of_length_le (by omega)]
  | r + 1, t, n, h, hn => by
    obtain ⟨n, rfl⟩ : ∃ m, n = m + 1 := ⟨n - 1, by omega⟩
    have ih := text_go K s hs kx r (t + 1) n (by omega) (by omega)
    rw [getD_take (d := 0) (by omega)] at ih
    simp (disch := omega) only [F47l0, B47l0, ltT, inT, wi64, roomT, ↓reduceIte, eq_self, nthD_int, Int.toNat_natCast, List.length_take, List.length_cons, List.length_nil, List.replicate_zero]
    exact ih
theorem text_ok (K : Nat) (hK : 40 ≤ K) (s : List Int) (hs : s.length = 16) : F47 K s = some (mkStr s) := by
  unfold F47
  exact text_go K s hs _ 16 0 K rfl (by omega)

/-! ### Keyed hashes: the program -/
theorem map_set_step (f : Int → Int) (k : List Int) (t : Nat) (h : t < k.length) : ((k.take t).map f ++ k.drop t).set t (f (((k.take t).map f ++ k.drop t).getD t 0)) = (k.take (t + 1)).map f ++ k.drop (t + 1) := by
  have hl : ((k.take t).map f).length = t := by rw [List.length_map, List.length_take]; omega
  have e : ((k.take t).map f ++ k.drop t).getD t 0 = k.getD t 0 := by
    rw [List.getD_eq_getElem?_getD, List.getElem?_append_right (by omega), hl, Nat.sub_self, List.getElem?_drop, Nat.add_zero, List.getD_eq_getElem?_getD]
  rw [e, List.set_append_right _ _ (by omega), hl, Nat.sub_self, List.drop_eq_getElem_cons h, List.set_cons_zero, getD_take (d := 0) h, List.map_append, List.append_assoc]
  rfl
theorem pad_go (K : Nat) (x : Int) (k : List Int) (hk : k.length = 64) (kk) : ∀ (r t n : Nat), t + r = 64 → r < n →
    F71l0 K n x (t : Int) ((k.take t).map (fun c => bitXor .u8 c x) ++ k.drop t) kk = kk (k.map fun c => bitXor .u8 c x)
  | 0, t, n, h, hn => by
    obtain ⟨n, rfl⟩ : ∃ m, n = m + 1 := ⟨n - 1, by omega⟩
    simp (disch := omega) only [F71l0, B71l0, ltF, ↓reduceIte, Bool.false_eq_true]
    rw [List.take_of_length_le (by omega), List.drop_eq_nil_of_le (by omega), List.append_nil]
  | r + 1, t, n, h, hn => by
    obtain ⟨n, rfl⟩ : ∃ m, n = m + 1 := ⟨n - 1, by omega⟩
    have ih := pad_go K x k hk kk r (t + 1) n (by omega) (by omega)
    rw [← map_set_step _ _ _ (by omega)] at ih
    simp (disch := omega) only [F71l0, B71l0, ltT, inT, wi64, ↓reduceIte, eq_self, nthD_int, Int.toNat_natCast]
    exact ih
theorem pad_fill (k : List Int) (h : k.length ≤ 64) : List.take 0 (List.replicate 64 (0 : Int)) ++ (List.take 64 k ++ List.drop (0 + min 64 k.length) (List.replicate 64 0)) = k ++ List.replicate (64 - k.length) 0 := by
  rw [List.take_zero, List.nil_append, List.take_of_length_le h, List.drop_replicate, Nat.zero_add, Nat.min_eq_right h]
theorem pad_ok (K : Nat) (hK : 200000 ≤ K) (key : ByteArray) (hs : key.size ≤ 100000) (x : Int) : F71 K key x = some (mkStr (kx (bytesOf key) x)) := by
  unfold F71
  have e0 : (((64 : Nat) : Int) - (0 : Int)).toNat = 64 := rfl
  have e1 : (((32 : Nat) : Int) - (0 : Int)).toNat = 32 := rfl
  have e2 : (0 : Int).toNat = 0 := rfl
  have fin : F71l0 K K x 0 (kpad (bytesOf key)) (fun y0 => some (mkStr (List.take (Int.toNat (((64 : Nat) : Int) - (0 : Int))) (List.drop (Int.toNat (0 : Int)) y0)))) = some (mkStr (kx (bytesOf key) x)) := by
    have := pad_go K x (kpad (bytesOf key)) (kpad_len _) (fun y0 => some (mkStr (List.take (Int.toNat (((64 : Nat) : Int) - (0 : Int))) (List.drop (Int.toNat (0 : Int)) y0)))) 64 0 K rfl (by omega)
    refine this.trans ?_
    show some (mkStr (List.take (Int.toNat (((64 : Nat) : Int) - (0 : Int))) (List.drop (Int.toNat (0 : Int)) (kx (bytesOf key) x)))) = _
    rw [e0, e2, List.drop_zero, List.take_of_length_le (by rw [kx_len]; exact Nat.le_refl _)]
  rw [e0, e1, e2]
  simp only [List.drop_zero]
  by_cases h : 64 < key.size
  · rw [ltT (by omega), if_pos rfl, sum_byt K _ (by rw [bytesOf_len]; omega) (by rw [bytesOf_len]; omega) (Byt.bytesOf _), Option.bind_some]
    rw [List.take_of_length_le (Nat.le_of_eq (sha_len _)), bytesOf_mkStr (sha_byt _), pad_fill _ (by rw [sha_len]; omega)]
    have e : sha (bytesOf key) ++ List.replicate (64 - (sha (bytesOf key)).length) 0 = kpad (bytesOf key) := by
      rw [kpad, key0, if_pos (by rw [bytesOf_len]; omega)]
    rw [e]
    exact fin
  · rw [ltF (by omega), if_neg (by decide), pad_fill _ (by rw [bytesOf_len]; omega)]
    have e : bytesOf key ++ List.replicate (64 - (bytesOf key).length) 0 = kpad (bytesOf key) := by
      rw [kpad, key0, if_neg (by rw [bytesOf_len]; omega)]
    rw [e]
    exact fin

theorem hmac_own (K : Nat) (hK : 200000 ≤ K) (key msg : ByteArray) (hk : key.size ≤ 100000) (hm : msg.size ≤ 100000) : F63 K key msg = some (hmac (bytesOf key) (bytesOf msg)) := by
  unfold F63
  obtain ⟨s, h1, h2⟩ := Str.begin K
  have hx := kx_len (bytesOf key)
  obtain ⟨s1, a1, b1⟩ := add_ok K s [] (mkStr (kx (bytesOf key) 54)) h2 (by rw [mkStr_size, hx]; omega) (by rw [mkStr_size, hx]; simp)
  rw [bytesOf_mkStr (kx_byt _ _)] at b1
  obtain ⟨s2, a2, b2⟩ := add_ok K s1 _ msg b1 (by omega) (by rw [List.length_append, hx]; simp; omega)
  have a3 := ssum_ok K (by omega) s2 _ b2 (by rw [List.length_append, List.length_append, hx, bytesOf_len]; simp; omega)
  obtain ⟨s4, a4, b4⟩ := add_ok K s [] (mkStr (kx (bytesOf key) 92)) h2 (by rw [mkStr_size, hx]; omega) (by rw [mkStr_size, hx]; simp)
  rw [bytesOf_mkStr (kx_byt _ _)] at b4
  have e1 : (((32 : Nat) : Int) - (0 : Int)).toNat = 32 := rfl
  have e2 : (0 : Int).toNat = 0 := rfl
  rw [h1, Option.bind_some, pad_ok K hK key hk, Option.bind_some, a1, Option.bind_some, a2, Option.bind_some, a3, Option.bind_some, Option.bind_some, pad_ok K hK key hk, Option.bind_some, a4, Option.bind_some]
  rw [e1, e2, List.drop_zero, List.take_of_length_le (Nat.le_of_eq (sha_len _))]
  obtain ⟨s5, a5, b5⟩ := add_ok K s4 _ (mkStr (sha ([] ++ kx (bytesOf key) 54 ++ bytesOf msg))) b4 (by rw [mkStr_size, sha_len]; omega) (by rw [List.length_append, hx, mkStr_size, sha_len]; simp)
  rw [bytesOf_mkStr (sha_byt _)] at b5
  rw [a5, Option.bind_some, ssum_ok K (by omega) s5 _ b5 (by rw [List.length_append, List.length_append, hx, sha_len]; simp)]
  rfl
end Go.Proofs.YtkgampbboffhmaaDoor
