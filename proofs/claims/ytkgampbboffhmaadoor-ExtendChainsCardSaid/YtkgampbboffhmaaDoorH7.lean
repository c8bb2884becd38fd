/- Keyed hashes and derived bytes: the reference; the laws but for their examples. -/
import Derived.Test.YtkgampbboffhmaaDoorH6
set_option linter.unusedVariables false
set_option linter.unusedSimpArgs false
set_option maxRecDepth 100000
namespace Go.Proofs.YtkgampbboffhmaaDoor
open Go Go.Q

theorem block_go (K : Nat) (kk) : ∀ (r n : Nat) (k : List Int), k.length + r = 64 → r < n →
    F64l0 K n k kk = kk (k ++ List.replicate r 0)
  | 0, n, k, h, hn => by
    obtain ⟨n, rfl⟩ : ∃ m, n = m + 1 := ⟨n - 1, by omega⟩
    simp (disch := omega) only [F64l0, B64l0, ltF, ↓reduceIte, Bool.false_eq_true, List.replicate_zero, List.append_nil]
  | r + 1, n, k, h, hn => by
    obtain ⟨n, rfl⟩ : ∃ m, n = m + 1 := ⟨n - 1, by omega⟩
    have ih := block_go K kk r n (k ++ [0]) (by simp; omega) (by omega)
    rw [List.append_assoc, List.singleton_append, ← List.replicate_succ] at ih
    rw [← ih]
    simp (disch := omega) only [F64l0, B64l0, ltT, roomT, ↓reduceIte, eq_self, List.length_cons, List.length_nil, List.replicate_zero]
theorem block_ok (K : Nat) (hK : 200000 ≤ K) (key : ByteArray) (hs : key.size ≤ 100000) : F64 K key = some (kpad (bytesOf key)) := by
  unfold F64
  by_cases h : 64 < key.size
  · rw [ltT (by omega), if_pos rfl, refsum_ok K _ (Byt.bytesOf _) (by rw [bytesOf_len]; omega) (by rw [bytesOf_len]; omega), Option.bind_some, b32_ok K (by omega) _ (sha_len _), Option.bind_some, bytesOf_mkStr (sha_byt _)]
    rw [block_go K _ 32 K _ (by rw [sha_len]) (by omega), kpad, key0, if_pos (by rw [bytesOf_len]; omega), sha_len]
  · rw [ltF (by omega), if_neg (by decide), block_go K _ (64 - key.size) K _ (by rw [bytesOf_len]; omega) (by omega), kpad, key0, if_neg (by rw [bytesOf_len]; omega), bytesOf_len]

theorem with_go (K : Nat) (k : List Int) (hk : k.length = 64) (x : Int) (m : ByteArray) (kk) : ∀ (r t n : Nat), t + r = 64 → r < n →
    F66l0 K n k x m ((k.take t).map fun c => bitXor .u8 c x) (t : Int) kk = kk m (k.map fun c => bitXor .u8 c x)
  | 0, t, n, h, hn => by
    obtain ⟨n, rfl⟩ : ∃ m, n = m + 1 := ⟨n - 1, by omega⟩
    simp (disch := omega) only [F66l0, B66l0, ltF, ↓reduceIte, Bool.false_eq_true]
    rw [List.take_of_length_le (by omega)]
  | r + 1, t, n, h, hn => by
    obtain ⟨n, rfl⟩ : ∃ m, n = m + 1 := ⟨n - 1, by omega⟩
    have ih := with_go K k hk x m kk r (t + 1) n (by omega) (by omega)
    rw [getD_take (d := 0) (by omega), List.map_append] at ih
    simp (disch := omega) only [F66l0, B66l0, ltT, inT, wi64, roomT, ↓reduceIte, eq_self, nthD_int, Int.toNat_natCast, List.length_map, List.length_take, List.length_cons, List.length_nil, List.replicate_zero]
    exact ih
theorem with_ok (K : Nat) (hK : 200000 ≤ K) (k : List Int) (hk : k.length = 64) (x : Int) (m : ByteArray) (hm : m.size ≤ 1000000) : F66 K k x m = some ((k.map fun c => bitXor .u8 c x) ++ bytesOf m) := by
  unfold F66
  refine (with_go K k hk x m _ 64 0 K rfl (by omega)).trans ?_
  rw [roomT (by rw [List.length_map, bytesOf_len]; omega), if_pos rfl]
theorem hmac_ref (K : Nat) (hK : 200000 ≤ K) (key msg : ByteArray) (hk : key.size ≤ 100000) (hm : msg.size ≤ 100000) : F51 K key msg = some (hmac (bytesOf key) (bytesOf msg)) := by
  unfold F51
  have hx := kx_len (bytesOf key)
  rw [block_ok K hK key hk, Option.bind_some, with_ok K hK _ (kpad_len _) _ _ (by omega), Option.bind_some]
  rw [show ((kpad (bytesOf key)).map fun c => bitXor .u8 c 54) = kx (bytesOf key) 54 from rfl]
  rw [refsum_ok K _ ((kx_byt _ _).append (Byt.bytesOf _)) (by rw [List.length_append, hx, bytesOf_len]; omega) (by rw [List.length_append, hx, bytesOf_len]; omega), Option.bind_some]
  rw [b32_ok K (by omega) _ (sha_len _), Option.bind_some, with_ok K hK _ (kpad_len _) _ _ (by rw [mkStr_size, sha_len]; omega), Option.bind_some, bytesOf_mkStr (sha_byt _)]
  rw [show ((kpad (bytesOf key)).map fun c => bitXor .u8 c 92) = kx (bytesOf key) 92 from rfl]
  rw [refsum_ok K _ ((kx_byt _ _).append (sha_byt _)) (by rw [List.length_append, hx, sha_len]; omega) (by rw [List.length_append, hx, sha_len]; omega)]
  rfl

/-! ### Mac -/
def mac (k : List Int) (l : List ByteArray) : List Int := (hmac k (msgOf l)).take 16
theorem mac_go (K : Nat) (key : ByteArray) (l : List ByteArray) (N : Nat) (hl : ∀ s ∈ l, s.size ≤ N) (hN : l.length * (N + 11) ≤ 100000) (hK : 200000 ≤ K) (b4 : List Int) (kk) : ∀ (r t n : Nat), t + r = l.length → r < n →
    F50l0 K n key (mkStr (msgOf (l.take t))) l (l.length : Int) (t : Int) b4 kk = kk key (mkStr (msgOf l)) b4
  | 0, t, n, h, hn => by
    obtain ⟨n, rfl⟩ : ∃ m, n = m + 1 := ⟨n - 1, by omega⟩
    simp (disch := omega) only [F50l0, B50l0, ltF, ↓reduceIte, Bool.false_eq_true]
    rw [List.take_of_length_le (by omega)]
  | r + 1, t, n, h, hn => by
    obtain ⟨n, rfl⟩ : ∃ m, n = m + 1 := ⟨n - 1, by omega⟩
    have hm := hl _ (getD_mem (d := ByteArray.empty) (show t < l.length by omega))
    have hN' : N + 11 ≤ 100000 := Nat.le_trans (Nat.le_mul_of_pos_left _ (by omega)) hN
    have hb := encB_len (l.getD t ByteArray.empty)
    have hbl : (msgOf (l.take t)).length ≤ t * (N + 11) := by
      have := msgOf_len (n := N) (l := l.take t) (fun s hs => hl s (List.mem_of_mem_take hs))
      rwa [List.length_take, Nat.min_eq_left (by omega)] at this
    have hbt : t * (N + 11) + (N + 11) ≤ 100000 := by rw [← Nat.succ_mul]; exact Nat.le_trans (Nat.mul_le_mul_right _ (by omega)) hN
    have hlen := Nat.le_mul_of_pos_right l.length (show 0 < N + 11 by omega)
    have ih := mac_go K key l N hl hN hK b4 kk r (t + 1) n (by omega) (by omega)
    rw [getD_take (d := ByteArray.empty) (by omega), msgOf_snoc, mkStr_append] at ih
    rw [← ih]
    simp (disch := omega) only [F50l0, B50l0, ltT, inT, wi64, nthD_str, Int.toNat_natCast, ↓reduceIte, eq_self]
    rw [bytes_own K (by omega) _ (by omega), Option.bind_some, strRoomT (by rw [mkStr_size, mkStr_size]; omega), if_pos rfl]
    rfl
theorem mac_own (K : Nat) (hK : 200000 ≤ K) (key : ByteArray) (hk : key.size ≤ 100000) (l : List ByteArray) (N : Nat) (hl : ∀ s ∈ l, s.size ≤ N) (hN : l.length * (N + 11) ≤ 100000) : F50 K key l = some (mac (bytesOf key) l) := by
  have hlen := Nat.le_mul_of_pos_right l.length (show 0 < N + 11 by omega)
  have hml := msgOf_len (n := N) hl
  unfold F50
  refine (mac_go K key l N hl hN hK _ _ l.length 0 K (by omega) (by omega)).trans ?_
  rw [hmac_own K hK key _ hk (by rw [mkStr_size]; omega), Option.bind_some, bytesOf_mkStr (msgOf_byt fun s hs => by
    have h1 := hl s hs
    have h2 := Nat.le_mul_of_pos_left (N + 11) (List.length_pos_iff.2 (List.ne_nil_of_mem hs))
    omega)]
  rfl
theorem message_go (K : Nat) (l : List ByteArray) (N : Nat) (hl : ∀ s ∈ l, s.size ≤ N) (hN : l.length * (N + 11) ≤ 100000) (hK : 12 ≤ K) (kk) : ∀ (r t n : Nat), t + r = l.length → r < n →
    F52l0 K n l (msgOf (l.take t)) (t : Int) kk = kk (msgOf l)
  | 0, t, n, h, hn => by
    obtain ⟨n, rfl⟩ : ∃ m, n = m + 1 := ⟨n - 1, by omega⟩
    simp (disch := omega) only [F52l0, B52l0, ltF, ↓reduceIte, Bool.false_eq_true]
    rw [List.take_of_length_le (by omega)]
  | r + 1, t, n, h, hn => by
    obtain ⟨n, rfl⟩ : ∃ m, n = m + 1 := ⟨n - 1, by omega⟩
    have hm := hl _ (getD_mem (d := ByteArray.empty) (show t < l.length by omega))
    have hN' : N + 11 ≤ 100000 := Nat.le_trans (Nat.le_mul_of_pos_left _ (by omega)) hN
    have hb := encB_len (l.getD t ByteArray.empty)
    have hbl : (msgOf (l.take t)).length ≤ t * (N + 11) := by
      have := msgOf_len (n := N) (l := l.take t) (fun s hs => hl s (List.mem_of_mem_take hs))
      rwa [List.length_take, Nat.min_eq_left (by omega)] at this
    have hbt : t * (N + 11) + (N + 11) ≤ 100000 := by rw [← Nat.succ_mul]; exact Nat.le_trans (Nat.mul_le_mul_right _ (by omega)) hN
    have hlen := Nat.le_mul_of_pos_right l.length (show 0 < N + 11 by omega)
    have ih := message_go K l N hl hN hK kk r (t + 1) n (by omega) (by omega)
    rw [getD_take (d := ByteArray.empty) (by omega), msgOf_snoc] at ih
    rw [← ih]
    simp (disch := omega) only [F52l0, B52l0, ltT, inT, wi64, nthD_str, Int.toNat_natCast, ↓reduceIte, eq_self]
    rw [bytes_ref K hK _ (by omega), Option.bind_some, roomT (by omega), if_pos rfl]
    rfl
theorem message_ok (K : Nat) (hK : 200000 ≤ K) (l : List ByteArray) (N : Nat) (hl : ∀ s ∈ l, s.size ≤ N) (hN : l.length * (N + 11) ≤ 100000) : F52 K l = some (mkStr (msgOf l)) := by
  have hlen := Nat.le_mul_of_pos_right l.length (show 0 < N + 11 by omega)
  unfold F52
  exact message_go K l N hl hN (by omega) _ l.length 0 K (by omega) (by omega)
theorem rmac_go (K : Nat) (b4 s : List Int) (kk) : ∀ (r t n : Nat), t + r = 16 → r < n →
    F36l0 K n (t : Int) b4 s ((List.range t).map (fun i => s.getD i 0) ++ List.replicate (16 - t) 0) kk = kk b4 ((List.range 16).map (fun i => s.getD i 0))
  | 0, t, n, h, hn => by
    obtain ⟨n, rfl⟩ : ∃ m, n = m + 1 := ⟨n - 1, by omega⟩
    obtain rfl : t = 16 := by omega
    simp (disch := omega) only [F36l0, B36l0, ltF, ↓reduceIte, Bool.false_eq_true]
    rw [fill_end]
  | r + 1, t, n, h, hn => by
    obtain ⟨n, rfl⟩ : ∃ m, n = m + 1 := ⟨n - 1, by omega⟩
    have ih := rmac_go K b4 s kk r (t + 1) n (by omega) (by omega)
    rw [← fill_step _ _ _ (by omega)] at ih
    simp (disch := omega) only [F36l0, B36l0, ltT, inT, wi64, ↓reduceIte, eq_self, Bool.false_eq_true, nthD_int, Int.toNat_natCast]
    exact ih
theorem mac_ref (K : Nat) (hK : 200000 ≤ K) (key : ByteArray) (hk : key.size ≤ 100000) (l : List ByteArray) (N : Nat) (hl : ∀ s ∈ l, s.size ≤ N) (hN : l.length * (N + 11) ≤ 100000) : F36 K key l = some (mac (bytesOf key) l) := by
  have hml := msgOf_len (n := N) hl
  unfold F36
  rw [message_ok K hK l N hl hN, Option.bind_some, hmac_ref K hK key _ hk (by rw [mkStr_size]; omega), Option.bind_some, bytesOf_mkStr (msgOf_byt fun s hs => by
    have h1 := hl s hs
    have h2 := Nat.le_mul_of_pos_left (N + 11) (List.length_pos_iff.2 (List.ne_nil_of_mem hs))
    omega)]
  refine (rmac_go K _ _ _ 16 0 K rfl (by omega)).trans ?_
  rw [first_n (by rw [hmac_len]; omega)]
  rfl

/-! ### Expand -/
def expand (seed : List Int) (n : Nat) : List Int := (expd seed ((n + 31) / 32) 0).take n
theorem expand_byt (seed : List Int) (n : Nat) : Byt (expand seed n) := (expd_byt _ _ _).take _
theorem expand_len (seed : List Int) (n : Nat) : (expand seed n).length = n := by rw [expand, List.length_take, expd_len]; omega
end Go.Proofs.YtkgampbboffhmaaDoor
