/- The examples of the hash chapter. -/
import Derived.Test.YtfjmnolijfeioaaDoorRA
import Derived.Test.YtfjmnolijfeioaaDoorH7
set_option linter.unusedVariables false
set_option linter.unusedSimpArgs false
set_option maxRecDepth 100000
namespace Go.Proofs.YtfjmnolijfeioaaDoor
open Go Go.Q

def hexD : List Int := [48, 49, 50, 51, 52, 53, 54, 55, 56, 57, 97, 98, 99, 100, 101, 102]
def hexB (x : Int) : List Int := [hexD.getD (x / 16).toNat 0, hexD.getD (x % 16).toNat 0]
def hexL (l : List Int) : List Int := l.flatMap hexB

theorem hex_bt (xs : List Int) (h : Byt xs) (t : Nat) : bt (mkStr xs) (t : Int) = xs.getD t 0 := by
  unfold bt
  have e : (mkStr xs).data.toList = xs.map fun n => UInt8.ofNat n.toNat := rfl
  rw [e, Int.toNat_natCast, List.getD_eq_getElem?_getD, List.getD_eq_getElem?_getD, List.getElem?_map]
  cases hx : xs[t]? with
  | none => rfl
  | some y =>
    have := h y (List.mem_of_getElem? hx)
    show ((UInt8.ofNat y.toNat).toNat : Int) = y
    rw [UInt8.toNat_ofNat']
    omega
theorem mk_digits : ByteArray.mk (Array.mk [(48 : UInt8), (49 : UInt8), (50 : UInt8), (51 : UInt8), (52 : UInt8), (53 : UInt8), (54 : UInt8), (55 : UInt8), (56 : UInt8), (57 : UInt8), (97 : UInt8), (98 : UInt8), (99 : UInt8), (100 : UInt8), (101 : UInt8), (102 : UInt8)]) = mkStr hexD := by kernel_rfl
theorem hexD_byt : Byt hexD := by unfold hexD Byt; decide

theorem hex_go (K : Nat) (s : List Int) (hB : Byt s) (hs : s.length ≤ 100) (kk) : ∀ (r t n : Nat), t + r = s.length → r < n →
    F33l0 K n (mkStr s) (mkStr hexD) (hexL (s.take t)) (t : Int) kk = kk (hexL s)
  | 0, t, n, h, hn => by
    obtain ⟨n, rfl⟩ : ∃ m, n = m + 1 := ⟨n - 1, by omega⟩
    simp (disch := omega) only [F33l0, B33l0, mkStr_size, ltF, ↓reduceIte, Bool.false_eq_true]
    rw [List.take_of_length_le (by omega)]
  | r + 1, t, n, h, hn => by
    obtain ⟨n, rfl⟩ : ∃ m, n = m + 1 := ⟨n - 1, by omega⟩
    have ih := hex_go K s hB hs kk r (t + 1) n (by omega) (by omega)
    have hx := hB.getD t
    have e1 : (s.getD t 0).tdiv 16 = (((s.getD t 0).toNat / 16 : Nat) : Int) := by rw [Int.tdiv_eq_ediv_of_nonneg (by omega)]; omega
    have e2 : (s.getD t 0).tmod 16 = (((s.getD t 0).toNat % 16 : Nat) : Int) := by rw [Int.tmod_eq_emod_of_nonneg (by omega)]; omega
    have hl : hexD.length = 16 := rfl
    have hl2 : ∀ l : List Int, (hexL l).length = 2 * l.length := by
      intro l
      induction l with
      | nil => rfl
      | cons x l ih => rw [hexL, List.flatMap_cons, List.length_append, List.length_cons]; rw [hexL] at ih; rw [ih]; simp [hexB]; omega
    have hl3 := hl2 (s.take t)
    rw [List.length_take] at hl3
    rw [getD_take (d := 0) (by omega), hexL, List.flatMap_append] at ih
    simp (disch := omega) only [F33l0, B33l0, mkStr_size, ltT, inT, wi64, wu8, hex_bt _ hB, hex_bt _ hexD_byt, e1, e2, hl, roomT, ↓reduceIte, eq_self, List.length_cons, List.length_nil, List.replicate_zero]
    refine Eq.trans ?_ ih
    have e3 : (s.getD t 0).toNat / 16 = (s.getD t 0 / 16).toNat := by omega
    have e4 : (s.getD t 0).toNat % 16 = (s.getD t 0 % 16).toNat := by omega
    rw [e3, e4]
    rfl
theorem hex_ok (K : Nat) (s : List Int) (hB : Byt s) (hs : s.length ≤ 100) (hK : 200 ≤ K) : F33 K (mkStr s) = some (mkStr (hexL s)) := by
  unfold F33
  rw [mk_digits]
  exact hex_go K s hB hs _ s.length 0 K (by omega) (by omega)

theorem bytes_mk (l : List UInt8) : bytesOf (ByteArray.mk (Array.mk l)) = l.map fun b => (b.toNat : Int) := rfl

theorem sha_1 : sha [1] = [75, 245, 18, 47, 52, 69, 84, 197, 59, 222, 46, 187, 140, 210, 183, 227, 209, 96, 10, 214, 49, 195, 133, 165, 215, 204, 226, 60, 119, 133, 69, 154] := sha_is (by kernel_rfl)
theorem hmac_jefe : hmac [74, 101, 102, 101] [119, 104, 97, 116, 32, 100, 111, 32, 121, 97, 32, 119, 97, 110, 116, 32, 102, 111, 114, 32, 110, 111, 116, 104, 105, 110, 103, 63] =
    [91, 220, 193, 70, 191, 96, 117, 78, 106, 4, 36, 38, 8, 149, 117, 199, 90, 0, 63, 8, 157, 39, 57, 131, 157, 236, 88, 185, 100, 236, 56, 67] := hmac_is (by kernel_rfl)

theorem sanity_ok (K : Nat) (hK : 200000 ≤ K) : F12 K = some true := by
  have b0 : Byt [97, 98, 99] := by unfold Byt; decide
  obtain ⟨s, h1, h2⟩ := Str.begin K
  obtain ⟨s1, a1, b1⟩ := add_ok K s [] (ByteArray.mk (Array.mk [(97 : UInt8)])) h2 (by show 1 + 65 ≤ K; omega) (by show 0 + 1 ≤ _; omega)
  obtain ⟨s2, a2, b2⟩ := add_ok K s1 _ (ByteArray.mk (Array.mk [(98 : UInt8), (99 : UInt8)])) b1 (by show 2 + 65 ≤ K; omega) (by show 0 + 1 + 2 ≤ _; omega)
  have a3 := ssum_ok K (by omega) s2 _ b2 (by show 0 + 1 + 2 ≤ _; omega)
  have e3 : [] ++ bytesOf (ByteArray.mk (Array.mk [(97 : UInt8)])) ++ bytesOf (ByteArray.mk (Array.mk [(98 : UInt8), (99 : UInt8)])) = [97, 98, 99] := by kernel_rfl
  rw [e3] at a3
  have a4 := of_own K hK 1 [] 0 (fun s hs => by cases hs) (by simp)
  have e4 : dig 1 [] = [75, 245, 18, 47, 52, 69, 84, 197, 59, 222, 46, 187, 140, 210, 183, 227] := by
    rw [dig, show inOf 1 [] = [1] from rfl, sha_1]; rfl
  have a5 := fun x y (h1 : x.size ≤ 100000) (h2 : y.size ≤ 100000) => hmac_own K hK x y h1 h2
  have a6 := expand_own K hK (ByteArray.mk (Array.mk [(97 : UInt8)])) (by show 1 ≤ _; omega) 33 (by omega) (by omega)
  have a7 : F28 K (ByteArray.mk (Array.mk [(97 : UInt8)])) 0 = some (ByteArray.mk (Array.mk [])) := by
    unfold F28
    rw [ltT (by omega), if_pos rfl]
  unfold F12
  rw [List.replicate_zero, sum_byt K _ (by simp; omega) (by simp) b0, Option.bind_some, h1, Option.bind_some, a1, Option.bind_some, a2, Option.bind_some, a3, Option.bind_some, a4, Option.bind_some]
  rw [a5 _ _ (by show 4 ≤ _; omega) (by show 28 ≤ _; omega), Option.bind_some]
  rw [b32_ok K (by omega) _ (sha_len _), Option.bind_some, hex_ok K _ (sha_byt _) (by rw [sha_len]; omega) (by omega), Option.bind_some, sha_abc, if_pos (by kernel_rfl)]
  rw [if_pos (by kernel_rfl), e4, text_ok K (by omega) _ rfl, Option.bind_some, hex_ok K _ (by unfold Byt; decide) (by decide) (by omega), Option.bind_some, if_pos (by kernel_rfl)]
  rw [bytes_mk, bytes_mk]
  rw [b32_ok K (by omega) _ (hmac_len _ _), Option.bind_some, hex_ok K _ (hmac_byt _ _) (by rw [hmac_len]; omega) (by omega), Option.bind_some]
  have e5 : hmac (List.map (fun b : UInt8 => (b.toNat : Int)) [(74 : UInt8), (101 : UInt8), (102 : UInt8), (101 : UInt8)]) (List.map (fun b : UInt8 => (b.toNat : Int)) [(119 : UInt8), (104 : UInt8), (97 : UInt8), (116 : UInt8), (32 : UInt8), (100 : UInt8), (111 : UInt8), (32 : UInt8), (121 : UInt8), (97 : UInt8), (32 : UInt8), (119 : UInt8), (97 : UInt8), (110 : UInt8), (116 : UInt8), (32 : UInt8), (102 : UInt8), (111 : UInt8), (114 : UInt8), (32 : UInt8), (110 : UInt8), (111 : UInt8), (116 : UInt8), (104 : UInt8), (105 : UInt8), (110 : UInt8), (103 : UInt8), (63 : UInt8)]) = _ := hmac_jefe
  rw [e5, if_pos (by kernel_rfl), show (33 : Int) = ((33 : Nat) : Int) from rfl, a6, Option.bind_some, mkStr_size, expand_len, eqT rfl, if_pos rfl, a7, Option.bind_some]
  rw [strEq_eq]; simp
end Go.Proofs.YtfjmnolijfeioaaDoor
