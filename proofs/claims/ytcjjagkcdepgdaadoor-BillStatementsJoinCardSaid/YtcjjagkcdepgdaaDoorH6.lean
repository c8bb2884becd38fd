/- Digests, keyed hashes, derived bytes: both sides. -/
import Derived.Test.YtcjjagkcdepgdaaDoorH5
set_option linter.unusedVariables false
set_option linter.unusedSimpArgs false
set_option maxRecDepth 100000
namespace Go.Proofs.YtcjjagkcdepgdaaDoor
open Go Go.Q

theorem short_go (K : Nat) (b2 s : List Int) (kx) : ∀ (r t n : Nat), t + r = 16 → r < n →
    F51l0 K n (t : Int) b2 s ((List.range t).map (fun i => s.getD i 0) ++ List.replicate (16 - t) 0) kx = kx b2 ((List.range 16).map (fun i => s.getD i 0))
  | 0, t, n, h, hn => by
    obtain ⟨n, rfl⟩ : ∃ m, n = m + 1 := ⟨n - 1, by omega⟩
    obtain rfl : t = 16 := by omega
    simp (disch := omega) only [F51l0, B51l0, ltF, ↓reduceIte, Bool.false_eq_true]
    rw [fill_end]
  | r + 1, t, n, h, hn => by
    obtain ⟨n, rfl⟩ : ∃ m, n = m + 1 := ⟨n - 1, by omega⟩
    have ih := short_go K b2 s kx r (t + 1) n (by omega) (by omega)
    rw [← fill_step _ _ _ (by omega)] at ih
    simp (disch := omega) only [F51l0, B51l0, ltT, inT, wi64, ↓reduceIte, eq_self, Bool.false_eq_true, nthD_int, Int.toNat_natCast]
    exact ih
theorem short_ok (K : Nat) (m : List Int) (hB : Byt m) (hl : m.length ≤ 1000000) (hK : 200000 ≤ K) : F51 K m = some ((sha m).take 16) := by
  unfold F51
  rw [refsum_ok K m hB (by omega) (by omega), Option.bind_some]
  refine (short_go K _ (sha m) _ 16 0 K rfl (by omega)).trans ?_
  rw [first_n (by rw [sha_len]; omega)]
theorem of_ref (K : Nat) (hK : 200000 ≤ K) (tag : Int) (l : List ByteArray) (N : Nat) (hl : ∀ s ∈ l, s.size ≤ N) (hN : l.length * (N + 11) ≤ 100000) : F33 K tag l = some (dig tag l) := by
  have hml := msgOf_len (n := N) hl
  have hlen := Nat.le_mul_of_pos_right l.length (show 0 < N + 11 by omega)
  unfold F33
  rw [input_ok K hK tag l N hl hN, Option.bind_some, short_ok K _ (inOf_byt (fun s hs => by
    have h1 := hl s hs
    have h2 := Nat.le_mul_of_pos_left (N + 11) (List.length_pos_iff.2 (List.ne_nil_of_mem hs))
    omega)) (by show (msgOf l).length + 1 ≤ _; omega) hK]
  rfl

/-! ### Few, Same, Joined -/
def few (l : List ByteArray) : Bool := decide (l.length ≤ 12 ∧ ∀ s ∈ l, s.size ≤ 400)
theorem few_of {l : List ByteArray} (h : few l = true) : l.length ≤ 12 ∧ ∀ s ∈ l, s.size ≤ 400 := of_decide_eq_true h

def joined (l : List ByteArray) : List Int := l.flatMap bytesOf
theorem joined_len {N : Nat} : ∀ {l : List ByteArray}, (∀ s ∈ l, s.size ≤ N) → (joined l).length ≤ l.length * N
  | [], _ => by simp [joined]
  | s :: l, h => by
    have h1 := joined_len (l := l) (fun x hx => h x (.tail _ hx))
    have h3 := h s (.head _)
    have e : (joined (s :: l)).length = (bytesOf s).length + (joined l).length := by rw [joined, List.flatMap_cons, List.length_append]; rfl
    rw [e, List.length_cons, Nat.succ_mul, bytesOf_len]
    omega
theorem joined_byt (l : List ByteArray) : Byt (joined l) := fun y hy => by
  obtain ⟨s, hs, hy⟩ := List.mem_flatMap.1 hy
  exact Byt.bytesOf s y hy
theorem joined_snoc (l : List ByteArray) (s : ByteArray) : joined (l ++ [s]) = joined l ++ bytesOf s := by simp [joined, List.flatMap_append]
theorem joined_take_len {l : List ByteArray} {N : Nat} (h : ∀ s ∈ l, s.size ≤ N) (t : Nat) : (joined (l.take t)).length ≤ l.length * N := by
  refine Nat.le_trans (joined_len fun s hs => h s (List.mem_of_mem_take hs)) (Nat.mul_le_mul_right _ ?_)
  rw [List.length_take]; omega
/-! ### clash, Bytes32, Text -/
theorem text_go (K : Nat) (s : List Int) (hs : s.length = 16) (kx) : ∀ (r t n : Nat), t + r = 16 → r < n →
    F35l0 K n (s.take t) (t : Int) s kx = kx s
  | 0, t, n, h, hn => by
    obtain ⟨n, rfl⟩ : ∃ m, n = m + 1 := ⟨n - 1, by omega⟩
    simp (disch := omega) only [F35l0, B35l0, ltF, ↓reduceIte, Bool.false_eq_true]
    rw [List.take_of_length_le (by omega)]
  | r + 1, t, n, h, hn => by
    obtain ⟨n, rfl⟩ : ∃ m, n = m + 1 := ⟨n - 1, by omega⟩
    have ih := text_go K s hs kx r (t + 1) n (by omega) (by omega)
    rw [getD_take (d := 0) (by omega)] at ih
    simp (disch := omega) only [F35l0, B35l0, ltT, inT, wi64, roomT, ↓reduceIte, eq_self, nthD_int, Int.toNat_natCast, List.length_take, List.length_cons, List.length_nil, List.replicate_zero]
    exact ih
theorem text_ok (K : Nat) (hK : 40 ≤ K) (s : List Int) (hs : s.length = 16) : F35 K s = some (mkStr s) := by
  unfold F35
  exact text_go K s hs _ 16 0 K rfl (by omega)

/-! ### Keyed hashes: the program -/
theorem map_set_step (f : Int → Int) (k : List Int) (t : Nat) (h : t < k.length) : ((k.take t).map f ++ k.drop t).set t (f (((k.take t).map f ++ k.drop t).getD t 0)) = (k.take (t + 1)).map f ++ k.drop (t + 1) := by
  have hl : ((k.take t).map f).length = t := by rw [List.length_map, List.length_take]; omega
  have e : ((k.take t).map f ++ k.drop t).getD t 0 = k.getD t 0 := by
    rw [List.getD_eq_getElem?_getD, List.getElem?_append_right (by omega), hl, Nat.sub_self, List.getElem?_drop, Nat.add_zero, List.getD_eq_getElem?_getD]
  rw [e, List.set_append_right _ _ (by omega), hl, Nat.sub_self, List.drop_eq_getElem_cons h, List.set_cons_zero, getD_take (d := 0) h, List.map_append, List.append_assoc]
  rfl
theorem pad_fill (k : List Int) (h : k.length ≤ 64) : List.take 0 (List.replicate 64 (0 : Int)) ++ (List.take 64 k ++ List.drop (0 + min 64 k.length) (List.replicate 64 0)) = k ++ List.replicate (64 - k.length) 0 := by
  rw [List.take_zero, List.nil_append, List.take_of_length_le h, List.drop_replicate, Nat.zero_add, Nat.min_eq_right h]
end Go.Proofs.YtcjjagkcdepgdaaDoor
