import Derived.Test.YtcjjagkcdepgdaaDoorQC
import Derived.IntWalk
import Derived.KernelRfl
set_option linter.unusedVariables false
set_option linter.unusedSimpArgs false
/- Plain lemmas: running the printed functions by rewriting. -/
set_option linter.unusedVariables false
namespace Go.Q
open Go

/-! ### Conditions -/
theorem ltT {x y : Int} (h : x < y) : ltI x y = true := by rw [ltI_eq]; exact decide_eq_true h
theorem ltF {x y : Int} (h : y ≤ x) : ltI x y = false := by rw [ltI_eq]; exact decide_eq_false (by omega)
theorem leT {x y : Int} (h : x ≤ y) : leI x y = true := by rw [leI_eq]; exact decide_eq_true h
theorem leF {x y : Int} (h : y < x) : leI x y = false := by rw [leI_eq]; exact decide_eq_false (by omega)
theorem eqT {x y : Int} (h : x = y) : eqI x y = true := by rw [eqI_eq]; exact decide_eq_true h
theorem eqF {x y : Int} (h : x < y ∨ y < x) : eqI x y = false := by rw [eqI_eq]; exact decide_eq_false (by omega)
theorem inT {i n : Int} (h0 : 0 ≤ i) (h1 : i < n) : inR i n = true := by rw [inR_eq]; exact decide_eq_true ⟨h0, h1⟩
theorem inBT {l h n : Int} (h0 : 0 ≤ l) (h1 : l ≤ h) (h2 : h ≤ n) : inB l h n = true := by rw [inB_eq]; exact decide_eq_true ⟨h0, h1, h2⟩
theorem roomT {n : Nat} (h : n ≤ 1073741824) : room n = true := by rw [room_eq]; exact decide_eq_true h
theorem strRoomT {n : Nat} (h : n ≤ 9223372036854775807) : strRoom n = true := by rw [strRoom_eq]; exact decide_eq_true h
theorem minL {x y : Int} (h : x ≤ y) : min x y = x := Int.min_eq_left h
theorem minR {x y : Int} (h : y ≤ x) : min x y = y := Int.min_eq_right h

/-! ### Wraps -/
theorem wi64 {x : Int} (h : -9223372036854775808 ≤ x) (h' : x ≤ 9223372036854775807) : IntKind.wrap .i64 x = x := IntWalk.i64_in x ⟨h, h'⟩
theorem wu64 {x : Int} (h : 0 ≤ x) (h' : x ≤ 18446744073709551615) : IntKind.wrap .u64 x = x := IntWalk.u64_in x ⟨h, h'⟩
theorem wu32 {x : Int} (h : 0 ≤ x) (h' : x ≤ 4294967295) : IntKind.wrap .u32 x = x := IntWalk.u32_in x ⟨h, h'⟩
theorem wu8 {x : Int} (h : 0 ≤ x) (h' : x ≤ 255) : IntKind.wrap .u8 x = x := IntWalk.u8_in x ⟨h, h'⟩
theorem w8mod (x : Int) : IntKind.wrap .u8 x = x % 256 := by simp [IntKind.wrap, IntKind.signed, IntKind.bits]
theorem w32mod (x : Int) : IntKind.wrap .u32 x = x % 4294967296 := by simp [IntKind.wrap, IntKind.signed, IntKind.bits]
theorem w64mod (x : Int) : IntKind.wrap .u64 x = x % 18446744073709551616 := by simp [IntKind.wrap, IntKind.signed, IntKind.bits]

/-! ### Bytes -/
def Byt (xs : List Int) : Prop := ∀ x ∈ xs, 0 ≤ x ∧ x < 256

theorem Byt.nil : Byt [] := fun _ h => by cases h
theorem Byt.cons {x : Int} {xs : List Int} (h : 0 ≤ x ∧ x < 256) (hs : Byt xs) : Byt (x :: xs) := fun y hy => by
  rcases List.mem_cons.1 hy with rfl | hy
  · exact h
  · exact hs y hy
theorem Byt.append {xs ys : List Int} (h : Byt xs) (h' : Byt ys) : Byt (xs ++ ys) := fun y hy => (List.mem_append.1 hy).elim (h y) (h' y)
theorem Byt.take {xs : List Int} (h : Byt xs) (n : Nat) : Byt (xs.take n) := fun y hy => h y (List.mem_of_mem_take hy)
theorem Byt.drop {xs : List Int} (h : Byt xs) (n : Nat) : Byt (xs.drop n) := fun y hy => h y (List.mem_of_mem_drop hy)
theorem Byt.rep {x : Int} (h : 0 ≤ x ∧ x < 256) (n : Nat) : Byt (List.replicate n x) := fun y hy => by
  rw [(List.mem_replicate.1 hy).2]; exact h
theorem Byt.w8 (x : Int) : 0 ≤ IntKind.wrap .u8 x ∧ IntKind.wrap .u8 x < 256 := by rw [w8mod]; omega
theorem Byt.map8 {α : Type} (f : α → Int) (l : List α) : Byt (l.map fun a => IntKind.wrap .u8 (f a)) := fun y hy => by
  obtain ⟨a, _, rfl⟩ := List.mem_map.1 hy
  exact Byt.w8 _
theorem Byt.getD {xs : List Int} (h : Byt xs) (n : Nat) : 0 ≤ xs.getD n 0 ∧ xs.getD n 0 < 256 := by
  rw [List.getD_eq_getElem?_getD]
  cases e : xs[n]? with
  | none => exact ⟨Int.le_refl _, by decide⟩
  | some y => exact h y (List.mem_of_getElem? e)

theorem Byt.bytesOf (s : ByteArray) : Byt (bytesOf s) := fun y hy => by
  obtain ⟨a, _, rfl⟩ := List.mem_map.1 hy
  have := a.toNat_lt
  exact ⟨by omega, by omega⟩

theorem bytesOf_len (s : ByteArray) : (bytesOf s).length = s.size := by simp [bytesOf]
theorem mkStr_size (xs : List Int) : (mkStr xs).size = xs.length := by
  show (xs.map _).toArray.size = _
  simp
theorem bytesOf_mkStr {xs : List Int} (h : Byt xs) : bytesOf (mkStr xs) = xs := by
  simp only [bytesOf, mkStr, List.map_map]
  refine (List.map_congr_left (g := id) fun x hx => ?_).trans (List.map_id xs)
  have := h x hx
  show ((UInt8.ofNat x.toNat).toNat : Int) = x
  rw [UInt8.toNat_ofNat']
  omega
theorem mkStr_bytesOf (s : ByteArray) : mkStr (bytesOf s) = s := by
  simp only [bytesOf, mkStr, List.map_map]
  have : (List.map ((fun n : Int => UInt8.ofNat n.toNat) ∘ fun b : UInt8 => (b.toNat : Int)) s.data.toList) = s.data.toList := by
    refine (List.map_congr_left (g := id) fun x hx => ?_).trans (List.map_id _)
    simp
  rw [this]
theorem bytesOf_inj {a b : ByteArray} (h : bytesOf a = bytesOf b) : a = b := by rw [← mkStr_bytesOf a, h, mkStr_bytesOf]
theorem bytesOf_append (a b : ByteArray) : bytesOf (a ++ b) = bytesOf a ++ bytesOf b := by simp [bytesOf]
theorem mkStr_append (a b : List Int) : mkStr (a ++ b) = mkStr a ++ mkStr b := by
  apply ByteArray.ext
  simp [mkStr]
theorem bytesOf_extract (s : ByteArray) (i j : Nat) : bytesOf (s.extract i j) = ((bytesOf s).drop i).take (j - i) := by
  simp only [bytesOf, ByteArray.data_extract, Array.toList_extract, List.extract_eq_take_drop, List.map_take, List.map_drop]
theorem toList_data (s : ByteArray) : s.toList = s.data.toList := by
  have key : ∀ (n i : Nat) (r : List UInt8), s.size - i = n → ByteArray.toList.loop s i r = r.reverse ++ s.data.toList.drop i := by
    intro n
    induction n with
    | zero =>
      intro i r h
      unfold ByteArray.toList.loop
      rw [if_neg (by omega), List.drop_eq_nil_of_le (by simp only [Array.length_toList, ByteArray.size_data]; omega), List.append_nil]
    | succ n ih =>
      intro i r h
      unfold ByteArray.toList.loop
      rw [if_pos (by omega), ih (i + 1) _ (by omega), List.reverse_cons, List.append_assoc, List.singleton_append]
      rw [List.drop_eq_getElem_cons (i := i) (by simp only [Array.length_toList, ByteArray.size_data]; omega)]
      congr 2
      simp only [ByteArray.get!, Array.getElem_toList]
      exact getElem!_pos s.data i (by rw [ByteArray.size_data]; omega)
  exact (key _ 0 [] rfl).trans (by simp)
theorem strEq_eq (a b : ByteArray) : strEq a b = decide (a = b) := by
  unfold strEq
  rw [toList_data, toList_data, Bool.eq_iff_iff]
  simp only [beq_iff_eq, decide_eq_true_eq, Array.toList_inj]
  exact ⟨ByteArray.ext, fun h => by rw [h]⟩
theorem strEq_bytes (a b : ByteArray) : strEq a b = decide (bytesOf a = bytesOf b) := by
  rw [strEq_eq]
  exact decide_eq_decide.2 ⟨fun h => by rw [h], bytesOf_inj⟩
theorem listBeq_int (k : IntKind) : ∀ (a b : List Int), listBeq (Ty.beq (.int k)) a b = decide (a = b)
  | [], [] => rfl
  | [], _ :: _ => by simp [listBeq]
  | _ :: _, [] => by simp [listBeq]
  | x :: a, y :: b => by
    simp only [listBeq]
    rw [listBeq_int k a b]
    show (eqI x y && _) = _
    rw [eqI_eq, Bool.eq_iff_iff]
    simp
theorem beq_arr (n : Nat) (k : IntKind) (a b : List Int) : Ty.beq (.arr n (.int k)) a b = decide (a = b) := listBeq_int k a b
theorem beq_bool (a b : Bool) : Ty.beq .bool a b = decide (a = b) := by cases a <;> cases b <;> rfl

theorem nthD_nat (t : Ty) (xs : List t.den) (i : Nat) : nthD t xs (i : Int) = xs.getD i t.zero := by simp [nthD]
theorem nthD_int (k : IntKind) (xs : List Int) (i : Int) : nthD (.int k) xs i = xs.getD i.toNat 0 := rfl
theorem nthD_str (xs : List ByteArray) (i : Int) : nthD .str xs i = xs.getD i.toNat ByteArray.empty := rfl

/-! ### A list filled from the left -/
theorem fill_step (f : Nat → Int) (n t : Nat) (h : t < n) : ((List.range t).map f ++ List.replicate (n - t) 0).set t (f t) = (List.range (t + 1)).map f ++ List.replicate (n - (t + 1)) 0 := by
  have e : n - t = (n - (t + 1)) + 1 := by omega
  rw [e, List.replicate_succ, List.set_append_right _ _ (by simp)]
  simp only [List.length_map, List.length_range, Nat.sub_self, List.set_cons_zero, List.range_succ, List.map_append, List.map_cons, List.map_nil, List.append_assoc, List.singleton_append]
theorem fill_end (f : Nat → Int) (n : Nat) : (List.range n).map f ++ List.replicate (n - n) 0 = (List.range n).map f := by simp
theorem fill_begin (f : Nat → Int) (n : Nat) : List.replicate n (0 : Int) = (List.range 0).map f ++ List.replicate (n - 0) 0 := by simp

end Go.Q

/- Plain lemmas: SHA-256 as a list function. -/
set_option linter.unusedVariables false
namespace Go.Q
open Go

def shaK : List Int := [1116352408, 1899447441, 3049323471, 3921009573, 961987163, 1508970993, 2453635748, 2870763221, 3624381080, 310598401, 607225278, 1426881987, 1925078388, 2162078206, 2614888103, 3248222580, 3835390401, 4022224774, 264347078, 604807628, 770255983, 1249150122, 1555081692, 1996064986, 2554220882, 2821834349, 2952996808, 3210313671, 3336571891, 3584528711, 113926993, 338241895, 666307205, 773529912, 1294757372, 1396182291, 1695183700, 1986661051, 2177026350, 2456956037, 2730485921, 2820302411, 3259730800, 3345764771, 3516065817, 3600352804, 4094571909, 275423344, 430227734, 506948616, 659060556, 883997877, 958139571, 1322822218, 1537002063, 1747873779, 1955562222, 2024104815, 2227730452, 2361852424, 2428436474, 2756734187, 3204031479, 3329325298]
def shaH : List Int := [1779033703, 3144134277, 1013904242, 2773480762, 1359893119, 2600822924, 528734635, 1541459225]

def u32 (x : Int) : Int := IntKind.wrap .u32 x
def rr (x l r : Int) : Int := bitOr .u32 (shlI .u32 x l) (shrI .u32 x r)
def sg0 (x : Int) : Int := bitXor .u32 (bitXor .u32 (rr x 25 7) (rr x 14 18)) (shrI .u32 x 3)
def sg1 (x : Int) : Int := bitXor .u32 (bitXor .u32 (rr x 15 17) (rr x 13 19)) (shrI .u32 x 10)
def bs0 (x : Int) : Int := bitXor .u32 (bitXor .u32 (rr x 30 2) (rr x 19 13)) (rr x 10 22)
def bs1 (x : Int) : Int := bitXor .u32 (bitXor .u32 (rr x 26 6) (rr x 21 11)) (rr x 7 25)
def chI (e f g : Int) : Int := bitXor .u32 (bitAnd .u32 e f) (bitAnd .u32 (bitXor .u32 4294967295 e) g)
def mjI (a b c : Int) : Int := bitXor .u32 (bitXor .u32 (bitAnd .u32 a b) (bitAnd .u32 a c)) (bitAnd .u32 b c)

def word4 (a b c d : Int) : Int := a * 16777216 + b * 65536 + c * 256 + d
def word (b : List Int) (t : Nat) : Int := word4 (b.getD (4 * t) 0) (b.getD (4 * t + 1) 0) (b.getD (4 * t + 2) 0) (b.getD (4 * t + 3) 0)
def ent (w : List Int) (t : Nat) : Int := u32 (u32 (u32 (w.getD (t - 16) 0 + sg0 (w.getD (t - 15) 0)) + w.getD (t - 7) 0) + sg1 (w.getD (t - 2) 0))
def schedGo (b : List Int) : Nat → Nat → List Int → List Int
  | 0, _, w => w
  | r + 1, t, w => schedGo b r (t + 1) (w.set t (if t < 16 then word b t else ent w t))
def sched (b : List Int) : List Int := schedGo b 64 0 (List.replicate 64 0)

def rnd (w : List Int) : Nat → Nat → Int → Int → Int → Int → Int → Int → Int → Int → List Int
  | 0, _, a, b, c, d, e, f, g, h => [a, b, c, d, e, f, g, h]
  | r + 1, t, a, b, c, d, e, f, g, h =>
    rnd w r (t + 1) (u32 (u32 (u32 (u32 (u32 (h + bs1 e) + chI e f g) + shaK.getD t 0) + w.getD t 0) + u32 (bs0 a + mjI a b c))) a b c
      (u32 (d + u32 (u32 (u32 (u32 (h + bs1 e) + chI e f g) + shaK.getD t 0) + w.getD t 0))) e f g
def comp (s b : List Int) : List Int :=
  List.zipWith (fun x y => u32 (x + y)) s (rnd (sched b) 64 0 (s.getD 0 0) (s.getD 1 0) (s.getD 2 0) (s.getD 3 0) (s.getD 4 0) (s.getD 5 0) (s.getD 6 0) (s.getD 7 0))

/-- n blocks. -/
def runB : Nat → List Int → List Int → List Int
  | 0, s, _ => s
  | n + 1, s, m => runB n (comp s (m.take 64)) (m.drop 64)

def be (n : Int) (i : Nat) : Int := IntKind.wrap .u8 (shrI .u64 n (56 - 8 * i))
def zers (n : Nat) : Nat := (119 - n % 64) % 64
def padT (n : Nat) : List Int := 128 :: (List.replicate (zers n) 0 ++ (List.range 8).map (be (8 * n : Nat)))
def outI (s : List Int) (i : Nat) : Int := IntKind.wrap .u8 (shrI .u32 (s.getD (i / 4) 0) (24 - 8 * (i % 4 : Nat)))
def outL (s : List Int) : List Int := (List.range 32).map (outI s)
def sha (m : List Int) : List Int := outL (runB ((m ++ padT m.length).length / 64) shaH (m ++ padT m.length))

theorem padT_len (n : Nat) : (padT n).length = zers n + 9 := by simp [padT]
theorem pad_mod (n : Nat) : (n + (padT n).length) % 64 = 0 := by
  rw [padT_len]; unfold zers; omega
theorem sha_len (m : List Int) : (sha m).length = 32 := by simp [sha, outL]
theorem sha_byt (m : List Int) : Byt (sha m) := Byt.map8 _ _
theorem padT_byt (n : Nat) : Byt (padT n) := Byt.cons (by omega) (Byt.append (Byt.rep (by omega) _) (Byt.map8 _ _))

theorem rnd_len (w : List Int) : ∀ (r t : Nat) (a b c d e f g h : Int), (rnd w r t a b c d e f g h).length = 8
  | 0, _, _, _, _, _, _, _, _, _ => rfl
  | r + 1, t, a, b, c, d, e, f, g, h => rnd_len w r (t + 1) _ _ _ _ _ _ _ _
theorem comp_len {s : List Int} (h : s.length = 8) (b : List Int) : (comp s b).length = 8 := by simp [comp, rnd_len, h]
theorem schedGo_len (b : List Int) : ∀ (r t : Nat) (w : List Int), (schedGo b r t w).length = w.length
  | 0, _, _ => rfl
  | r + 1, t, w => by rw [schedGo, schedGo_len b r, List.length_set]
theorem sched_len (b : List Int) : (sched b).length = 64 := by rw [sched, schedGo_len]; simp
theorem runB_len : ∀ (n : Nat) {s : List Int} (m : List Int), s.length = 8 → (runB n s m).length = 8
  | 0, _, _, h => h
  | n + 1, s, m, h => runB_len n _ (comp_len h _)
theorem runB_add : ∀ (n k : Nat) (s m : List Int), runB (n + k) s m = runB k (runB n s m) (m.drop (64 * n))
  | 0, k, s, m => by simp [runB]
  | n + 1, k, s, m => by
    rw [show n + 1 + k = (n + k) + 1 by omega, runB, runB_add n k, List.drop_drop, runB, show 64 + 64 * n = 64 * (n + 1) by omega]
/-- What stands behind the blocks does not count. -/
theorem runB_app : ∀ (n : Nat) (s m l : List Int), 64 * n ≤ m.length → runB n s (m ++ l) = runB n s m
  | 0, _, _, _, _ => rfl
  | n + 1, s, m, l, h => by
    rw [runB, runB, List.take_append_of_le_length (by omega), List.drop_append_of_le_length (by omega), runB_app n _ _ _ (by rw [List.length_drop]; omega)]

/-! ### Bits -/
theorem bitOr_comm (k : IntKind) (x y : Int) : bitOr k x y = bitOr k y x := by simp only [bitOr, BitVec.or_comm]
theorem bitXor_comm (k : IntKind) (x y : Int) : bitXor k x y = bitXor k y x := by simp only [bitXor, BitVec.xor_comm]
theorem bitOr_nat (a b : Nat) (ha : a < 4294967296) (hb : b < 4294967296) : bitOr .u32 (a : Int) (b : Int) = ((a ||| b : Nat) : Int) := by
  have h : a ||| b < 2 ^ 32 := Nat.or_lt_two_pow ha hb
  show IntKind.wrap .u32 ((BitVec.ofInt 32 (a : Int) ||| BitVec.ofInt 32 (b : Int)).toNat : Int) = _
  rw [BitVec.toNat_or, BitVec.ofInt_natCast, BitVec.ofInt_natCast, BitVec.toNat_ofNat, BitVec.toNat_ofNat, Nat.mod_eq_of_lt ha, Nat.mod_eq_of_lt hb, wu32 (by omega) (by omega)]
theorem or_add (a b i : Nat) (h : b < 2 ^ i) : 2 ^ i * a ||| b = 2 ^ i * a + b := (Nat.two_pow_add_eq_or_of_lt h a).symm
theorem shl_nat (a i : Nat) (h : a * 2 ^ i < 4294967296) (hi : i ≤ 32) : shlI .u32 (a : Int) (i : Int) = ((a * 2 ^ i : Nat) : Int) := by
  unfold shlI
  have : min (Int.toNat (i : Int)) (IntKind.bits .u32) = i := by simp [IntKind.bits]; omega
  rw [this, wu32]
  · simp
  · exact Int.mul_nonneg (by omega) (Int.pow_nonneg (by omega))
  · have : ((a : Int) * 2 ^ i) = ((a * 2 ^ i : Nat) : Int) := by simp
    rw [this]; omega

theorem word_ref {a b c d : Int} (ha : 0 ≤ a ∧ a < 256) (hb : 0 ≤ b ∧ b < 256) (hc : 0 ≤ c ∧ c < 256) (hd : 0 ≤ d ∧ d < 256) :
    bitOr .u32 (bitOr .u32 (bitOr .u32 (shlI .u32 (u32 a) 24) (shlI .u32 (u32 b) 16)) (shlI .u32 (u32 c) 8)) (u32 d) = word4 a b c d := by
  obtain ⟨a, rfl⟩ := Int.eq_ofNat_of_zero_le ha.1
  obtain ⟨b, rfl⟩ := Int.eq_ofNat_of_zero_le hb.1
  obtain ⟨c, rfl⟩ := Int.eq_ofNat_of_zero_le hc.1
  obtain ⟨d, rfl⟩ := Int.eq_ofNat_of_zero_le hd.1
  simp only [u32, wu32 (show (0 : Int) ≤ (a : Int) by omega) (show (a : Int) ≤ 4294967295 by omega), wu32 (show (0 : Int) ≤ (b : Int) by omega) (show (b : Int) ≤ 4294967295 by omega),
    wu32 (show (0 : Int) ≤ (c : Int) by omega) (show (c : Int) ≤ 4294967295 by omega), wu32 (show (0 : Int) ≤ (d : Int) by omega) (show (d : Int) ≤ 4294967295 by omega)]
  rw [show (24 : Int) = ((24 : Nat) : Int) from rfl, show (16 : Int) = ((16 : Nat) : Int) from rfl, show (8 : Int) = ((8 : Nat) : Int) from rfl]
  rw [shl_nat a 24 (by omega) (by omega), shl_nat b 16 (by omega) (by omega), shl_nat c 8 (by omega) (by omega)]
  rw [bitOr_nat _ _ (by omega) (by omega)]
  rw [show a * 2 ^ 24 ||| b * 2 ^ 16 = 2 ^ 24 * a + b * 2 ^ 16 by rw [Nat.mul_comm a, or_add _ _ _ (by omega)]]
  rw [bitOr_nat _ _ (by omega) (by omega)]
  rw [show (2 ^ 24 * a + b * 2 ^ 16) ||| c * 2 ^ 8 = 2 ^ 24 * a + b * 2 ^ 16 + c * 2 ^ 8 by rw [show 2 ^ 24 * a + b * 2 ^ 16 = 2 ^ 16 * (256 * a + b) by omega, or_add _ _ _ (by omega)]]
  rw [bitOr_nat _ _ (by omega) (by omega)]
  rw [show (2 ^ 24 * a + b * 2 ^ 16 + c * 2 ^ 8) ||| d = 2 ^ 24 * a + b * 2 ^ 16 + c * 2 ^ 8 + d by rw [show 2 ^ 24 * a + b * 2 ^ 16 + c * 2 ^ 8 = 2 ^ 8 * (65536 * a + 256 * b + c) by omega, or_add _ _ _ (by omega)]]
  unfold word4
  omega

theorem or_byte (a b : Int) (ha : 0 ≤ a ∧ a < 16777216) (hb : 0 ≤ b ∧ b < 256) : bitOr .u32 (shlI .u32 a 8) (u32 b) = a * 256 + b := by
  obtain ⟨a, rfl⟩ := Int.eq_ofNat_of_zero_le ha.1
  obtain ⟨b, rfl⟩ := Int.eq_ofNat_of_zero_le hb.1
  simp only [u32, wu32 (show (0 : Int) ≤ (b : Int) by omega) (show (b : Int) ≤ 4294967295 by omega)]
  rw [show (8 : Int) = ((8 : Nat) : Int) from rfl, shl_nat a 8 (by omega) (by omega), bitOr_nat _ _ (by omega) (by omega), Nat.mul_comm a, or_add _ _ _ (by omega)]
  omega

theorem word_own {a b c d : Int} (ha : 0 ≤ a ∧ a < 256) (hb : 0 ≤ b ∧ b < 256) (hc : 0 ≤ c ∧ c < 256) (hd : 0 ≤ d ∧ d < 256) :
    bitOr .u32 (shlI .u32 (bitOr .u32 (shlI .u32 (bitOr .u32 (shlI .u32 (bitOr .u32 (shlI .u32 0 8) (u32 a)) 8) (u32 b)) 8) (u32 c)) 8) (u32 d) = word4 a b c d := by
  rw [or_byte 0 a (by omega) ha, or_byte _ b (by omega) hb, or_byte _ c (by omega) hc, or_byte _ d (by omega) hd]
  unfold word4; omega

end Go.Q

/- Plain lemmas: encodings, digests, keyed hashes. -/
set_option linter.unusedVariables false
set_option linter.unusedSimpArgs false
namespace Go.Q
open Go

/-! ### Integers -/
def zz (n : Int) : Nat := if n < 0 then (-1 - n).toNat * 2 + 1 else n.toNat * 2
def encN : Nat → Nat → List Int
  | 0, z => [(z : Int)]
  | f + 1, z => if 128 ≤ z then ((z % 128 + 128 : Nat) : Int) :: encN f (z / 128) else [(z : Int)]
def encInt (n : Int) : List Int := encN 10 (zz n)
def encB (s : ByteArray) : List Int := encInt (s.size : Int) ++ bytesOf s

def I64 (n : Int) : Prop := -9223372036854775808 ≤ n ∧ n ≤ 9223372036854775807

theorem zz_lt {n : Int} (h : I64 n) : zz n < 18446744073709551616 := by
  obtain ⟨h1, h2⟩ := h
  unfold zz; split <;> omega
theorem zz_inj {n m : Int} (h : zz n = zz m) : n = m := by
  unfold zz at h; split at h <;> split at h <;> omega

theorem encN_len : ∀ (f z : Nat), (encN f z).length ≤ f + 1
  | 0, z => by simp [encN]
  | f + 1, z => by
    rw [encN]; split
    · have := encN_len f (z / 128); simp; omega
    · simp
theorem encN_pos : ∀ (f z : Nat), 0 < (encN f z).length
  | 0, z => by simp [encN]
  | f + 1, z => by rw [encN]; split <;> simp
theorem encInt_len (n : Int) : (encInt n).length ≤ 11 := encN_len 10 _
theorem encN_byt : ∀ (f z : Nat), z < 128 ^ f * 128 → Byt (encN f z)
  | 0, z, h => Byt.cons (by omega) Byt.nil
  | f + 1, z, h => by
    rw [encN]; split
    · exact Byt.cons (by omega) (encN_byt f _ (by rw [Nat.pow_succ] at h; omega))
    · exact Byt.cons (by omega) Byt.nil
theorem encInt_byt {n : Int} (h : I64 n) : Byt (encInt n) := encN_byt 10 _ (by have := zz_lt h; simp only [Nat.reducePow, Nat.reduceMul]; omega)

theorem encN_inj : ∀ (f z z' : Nat) (r r' : List Int), z < 128 ^ f * 128 → z' < 128 ^ f * 128 → encN f z ++ r = encN f z' ++ r' → z = z' ∧ r = r'
  | 0, z, z', r, r', h, h', e => by
    simp only [encN, List.singleton_append, List.cons.injEq] at e
    exact ⟨by omega, e.2⟩
  | f + 1, z, z', r, r', h, h', e => by
    rw [Nat.pow_succ] at h h'
    rw [encN, encN] at e
    split at e
    · split at e
      · simp only [List.cons_append, List.cons.injEq] at e
        obtain ⟨e1, e2⟩ := encN_inj f _ _ r r' (by omega) (by omega) e.2
        exact ⟨by omega, e2⟩
      · simp only [List.cons_append, List.nil_append, List.cons.injEq] at e
        omega
    · split at e
      · simp only [List.cons_append, List.nil_append, List.cons.injEq] at e
        omega
      · simp only [List.cons_append, List.nil_append, List.cons.injEq] at e
        exact ⟨by omega, e.2⟩
theorem encInt_inj {n m : Int} {r r' : List Int} (hn : I64 n) (hm : I64 m) (e : encInt n ++ r = encInt m ++ r') : n = m ∧ r = r' := by
  have h1 := zz_lt hn
  have h2 := zz_lt hm
  obtain ⟨e1, e2⟩ := encN_inj 10 _ _ r r' (by simp only [Nat.reducePow, Nat.reduceMul]; omega) (by simp only [Nat.reducePow, Nat.reduceMul]; omega) e
  exact ⟨zz_inj e1, e2⟩
theorem I64.nat {n : Nat} (h : n ≤ 9223372036854775807) : I64 (n : Int) := ⟨by omega, by omega⟩

theorem encB_byt {s : ByteArray} (h : s.size ≤ 9223372036854775807) : Byt (encB s) := (encInt_byt (I64.nat h)).append (Byt.bytesOf s)
theorem encB_len (s : ByteArray) : (encB s).length ≤ s.size + 11 := by
  have := encInt_len (s.size : Int)
  rw [encB, List.length_append, bytesOf_len]; omega
theorem encB_inj {s t : ByteArray} {r r' : List Int} (hs : s.size ≤ 9223372036854775807) (ht : t.size ≤ 9223372036854775807) (e : encB s ++ r = encB t ++ r') : s = t ∧ r = r' := by
  rw [encB, encB, List.append_assoc, List.append_assoc] at e
  obtain ⟨e1, e2⟩ := encInt_inj (I64.nat hs) (I64.nat ht) e
  obtain ⟨e3, e4⟩ := List.append_inj e2 (by rw [bytesOf_len, bytesOf_len]; omega)
  exact ⟨bytesOf_inj e3, e4⟩
theorem encB_pos (s : ByteArray) : 0 < (encB s).length := by
  have := encN_pos 10 (zz (s.size : Int))
  have h : (encB s).length = (encN 10 (zz (s.size : Int))).length + (bytesOf s).length := by rw [encB, List.length_append]; rfl
  omega

def msgOf (l : List ByteArray) : List Int := l.flatMap encB
theorem msgOf_inj : ∀ {a b : List ByteArray}, (∀ s ∈ a, s.size ≤ 9223372036854775807) → (∀ s ∈ b, s.size ≤ 9223372036854775807) → msgOf a = msgOf b → a = b
  | [], [], _, _, _ => rfl
  | [], t :: b, _, _, e => by
    have := congrArg List.length e
    have h := encB_pos t
    simp only [msgOf, List.flatMap_nil, List.flatMap_cons, List.length_nil, List.length_append] at this
    omega
  | s :: a, [], _, _, e => by
    have := congrArg List.length e
    have h := encB_pos s
    simp only [msgOf, List.flatMap_nil, List.flatMap_cons, List.length_nil, List.length_append] at this
    omega
  | s :: a, t :: b, ha, hb, e => by
    rw [msgOf, msgOf, List.flatMap_cons, List.flatMap_cons] at e
    obtain ⟨e1, e2⟩ := encB_inj (ha s (.head _)) (hb t (.head _)) e
    rw [e1, msgOf_inj (fun x hx => ha x (.tail _ hx)) (fun x hx => hb x (.tail _ hx)) e2]
theorem msgOf_byt {l : List ByteArray} (h : ∀ s ∈ l, s.size ≤ 9223372036854775807) : Byt (msgOf l) := fun y hy => by
  obtain ⟨s, hs, hy⟩ := List.mem_flatMap.1 hy
  exact encB_byt (h s hs) y hy
theorem msgOf_snoc (l : List ByteArray) (s : ByteArray) : msgOf (l ++ [s]) = msgOf l ++ encB s := by simp [msgOf, List.flatMap_append]
theorem msgOf_len {n : Nat} : ∀ {l : List ByteArray}, (∀ s ∈ l, s.size ≤ n) → (msgOf l).length ≤ l.length * (n + 11)
  | [], _ => by simp [msgOf]
  | s :: l, h => by
    have h1 := msgOf_len (l := l) (fun x hx => h x (.tail _ hx))
    have h2 := encB_len s
    have h3 := h s (.head _)
    have e : (msgOf (s :: l)).length = (encB s).length + (msgOf l).length := by rw [msgOf, List.flatMap_cons, List.length_append]; rfl
    rw [e, List.length_cons, Nat.succ_mul]
    omega

/-- What a digest hashes. -/
def inOf (tag : Int) (l : List ByteArray) : List Int := IntKind.wrap .u8 tag :: msgOf l
def dig (tag : Int) (l : List ByteArray) : List Int := (sha (inOf tag l)).take 16
theorem inOf_byt {tag : Int} {l : List ByteArray} (h : ∀ s ∈ l, s.size ≤ 9223372036854775807) : Byt (inOf tag l) := Byt.cons (Byt.w8 _) (msgOf_byt h)
theorem dig_len (tag : Int) (l : List ByteArray) : (dig tag l).length = 16 := by simp [dig, sha_len]
theorem dig_byt (tag : Int) (l : List ByteArray) : Byt (dig tag l) := (sha_byt _).take _

/-! ### Keyed hashes -/
def key0 (k : List Int) : List Int := if 64 < k.length then sha k else k
def kpad (k : List Int) : List Int := key0 k ++ List.replicate (64 - (key0 k).length) 0
def kx (k : List Int) (x : Int) : List Int := (kpad k).map fun c => bitXor .u8 c x
def hmac (k m : List Int) : List Int := sha (kx k 92 ++ sha (kx k 54 ++ m))

theorem key0_len (k : List Int) : (key0 k).length ≤ 64 := by
  unfold key0; split
  · rw [sha_len]; omega
  · omega
theorem key0_byt {k : List Int} (h : Byt k) : Byt (key0 k) := by
  unfold key0; split
  · exact sha_byt _
  · exact h
theorem kpad_len (k : List Int) : (kpad k).length = 64 := by
  have := key0_len k
  rw [kpad, List.length_append, List.length_replicate]; omega
theorem kpad_byt {k : List Int} (h : Byt k) : Byt (kpad k) := (key0_byt h).append (Byt.rep (by omega) _)
theorem kx_len (k : List Int) (x : Int) : (kx k x).length = 64 := by rw [kx, List.length_map, kpad_len]
theorem kx_byt (k : List Int) (x : Int) : Byt (kx k x) := Byt.map8 _ _
theorem hmac_len (k m : List Int) : (hmac k m).length = 32 := sha_len _
theorem hmac_byt (k m : List Int) : Byt (hmac k m) := sha_byt _
theorem kpad_zeros {k : List Int} {n : Nat} (h : k.length + n ≤ 64) : kpad (k ++ List.replicate n 0) = kpad k := by
  have h1 : key0 (k ++ List.replicate n 0) = k ++ List.replicate n 0 := by rw [key0, if_neg (by simp; omega)]
  have h2 : key0 k = k := by rw [key0, if_neg (by omega)]
  rw [kpad, kpad, h1, h2, List.append_assoc, List.replicate_append_replicate, List.length_append, List.length_replicate]
  congr 2
  omega
theorem kpad_long {k : List Int} (h : 64 < k.length) : kpad (sha k) = kpad k := by
  have h1 : key0 (sha k) = sha k := by rw [key0, if_neg (by rw [sha_len]; omega)]
  have h2 : key0 k = sha k := by rw [key0, if_pos h]
  rw [kpad, kpad, h1, h2]

/-! ### Derived bytes -/
def expd (seed : List Int) : Nat → Nat → List Int
  | 0, _ => []
  | r + 1, k => hmac seed (encInt (k : Int)) ++ expd seed r (k + 1)
theorem expd_len (seed : List Int) : ∀ r k, (expd seed r k).length = 32 * r
  | 0, _ => rfl
  | r + 1, k => by rw [expd, List.length_append, expd_len seed r, hmac_len]; omega
theorem expd_byt (seed : List Int) : ∀ r k, Byt (expd seed r k)
  | 0, _ => Byt.nil
  | r + 1, k => (hmac_byt _ _).append (expd_byt seed r _)
theorem expd_snoc (seed : List Int) : ∀ r k, expd seed (r + 1) k = expd seed r k ++ hmac seed (encInt ((k + r : Nat) : Int))
  | 0, k => by simp [expd]
  | r + 1, k => by
    rw [expd, expd_snoc seed r (k + 1), expd, List.append_assoc, show k + 1 + r = k + (r + 1) by omega]

/-! ### The program's way to write an integer -/
theorem or128 : ∀ y, y < 256 → y ||| 128 = y % 128 + 128 := by decide +kernel
theorem or_128 (z : Nat) : bitOr .u8 (IntKind.wrap .u8 (z : Int)) 128 = ((z % 128 + 128 : Nat) : Int) := by
  have e : IntKind.wrap .u8 (z : Int) = ((z % 256 : Nat) : Int) := by rw [w8mod]; omega
  rw [e]
  show IntKind.wrap .u8 ((BitVec.ofInt 8 ((z % 256 : Nat) : Int) ||| BitVec.ofInt 8 ((128 : Nat) : Int)).toNat : Int) = _
  rw [BitVec.toNat_or, BitVec.ofInt_natCast, BitVec.ofInt_natCast, BitVec.toNat_ofNat, BitVec.toNat_ofNat, show z % 256 % 2 ^ 8 = z % 256 by omega, show 128 % 2 ^ 8 = 128 by decide, or128 _ (by omega), w8mod]
  omega
theorem zz_own {n : Int} (h : I64 n) : bitXor .u64 (shlI .u64 (IntKind.wrap .u64 n) 1) (IntKind.wrap .u64 (shrI .i64 n 63)) = (zz n : Int) := by
  obtain ⟨h1, h2⟩ := h
  have e1 : shlI .u64 (IntKind.wrap .u64 n) 1 = (2 * n) % 18446744073709551616 := by
    show IntKind.wrap .u64 (IntKind.wrap .u64 n * 2 ^ 1) = _
    rw [w64mod, w64mod]; omega
  have e2 : shrI .i64 n 63 = n.fdiv 9223372036854775808 := rfl
  rw [e1, e2]
  by_cases hn : n < 0
  · have e3 : IntKind.wrap .u64 (n.fdiv 9223372036854775808) = 18446744073709551615 := by
      rw [Int.fdiv_eq_ediv_of_nonneg _ (by omega), w64mod]; omega
    rw [e3]
    have e4 : (2 * n) % 18446744073709551616 = ((2 * n + 18446744073709551616).toNat : Int) := by omega
    rw [e4]
    show IntKind.wrap .u64 ((BitVec.ofInt 64 ((2 * n + 18446744073709551616).toNat : Int) ^^^ BitVec.ofInt 64 18446744073709551615).toNat : Int) = _
    rw [show BitVec.ofInt 64 18446744073709551615 = BitVec.allOnes 64 by decide, BitVec.xor_allOnes, BitVec.toNat_not, BitVec.ofInt_natCast, BitVec.toNat_ofNat, Nat.mod_eq_of_lt (by omega), w64mod, zz, if_pos hn]
    omega
  · have e3 : IntKind.wrap .u64 (n.fdiv 9223372036854775808) = 0 := by
      rw [Int.fdiv_eq_ediv_of_nonneg _ (by omega), w64mod]; omega
    rw [e3]
    have e4 : (2 * n) % 18446744073709551616 = ((2 * n.toNat : Nat) : Int) := by omega
    rw [e4]
    show IntKind.wrap .u64 ((BitVec.ofInt 64 ((2 * n.toNat : Nat) : Int) ^^^ BitVec.ofInt 64 0).toNat : Int) = _
    rw [show BitVec.ofInt 64 0 = 0#64 by decide, BitVec.xor_zero, BitVec.ofInt_natCast, BitVec.toNat_ofNat, Nat.mod_eq_of_lt (by omega), w64mod, zz, if_neg hn]
    omega
theorem zz_ref {n : Int} (h : I64 n) : (if n < 0 then IntKind.wrap .u64 (IntKind.wrap .u64 (IntKind.wrap .u64 (IntKind.wrap .i64 (-1 - n)) * 2) + 1) else IntKind.wrap .u64 (IntKind.wrap .u64 n * 2)) = (zz n : Int) := by
  obtain ⟨h1, h2⟩ := h
  split
  · rename_i hn
    rw [wi64 (by omega) (by omega), wu64 (x := -1 - n) (by omega) (by omega), wu64 (x := (-1 - n) * 2) (by omega) (by omega), wu64 (by omega) (by omega), zz, if_pos hn]; omega
  · rename_i hn
    rw [wu64 (x := n) (by omega) (by omega), wu64 (by omega) (by omega), zz, if_neg hn]; omega
theorem shr_nat (z i : Nat) (hi : i ≤ 64) : shrI .u64 (z : Int) (i : Int) = ((z / 2 ^ i : Nat) : Int) := by
  unfold shrI
  have : min (Int.toNat (i : Int)) (IntKind.bits .u64) = i := by simp [IntKind.bits]; omega
  rw [this, Int.fdiv_eq_ediv_of_nonneg _ (Int.pow_nonneg (by omega))]
  simp
end Go.Q

/- Plain lemmas: the hash, reckoned by the kernel. -/
set_option linter.unusedVariables false
set_option linter.unusedSimpArgs false
set_option maxRecDepth 100000
namespace Go.Q
open Go

section
variable {α : Type}
def fN (n : Nat) (k : Nat → α) : α := match n with
  | 0 => k 0
  | m + 1 => k (m + 1)
def fI (x : Int) (k : Int → α) : α := match x with
  | .ofNat n => fN n fun n => k (.ofNat n)
  | .negSucc n => k (.negSucc n)
def fL (l : List Int) (k : List Int → α) : α := match l with
  | [] => k []
  | x :: xs => fI x fun x => fL xs fun xs => k (x :: xs)
theorem fN_eq (n : Nat) (k : Nat → α) : fN n k = k n := by cases n <;> rfl
theorem fI_eq (x : Int) (k : Int → α) : fI x k = k x := by
  cases x with
  | ofNat a => exact fN_eq a fun n => k (.ofNat n)
  | negSucc a => rfl
theorem fL_eq : ∀ (l : List Int) (k : List Int → α), fL l k = k l
  | [], _ => rfl
  | x :: xs, k => by rw [fL, fI_eq, fL_eq xs]

def schedE (b : List Int) : Nat → Nat → List Int → (List Int → α) → α
  | 0, _, w, k => k w
  | r + 1, t, w, k => fL (w.set t (if t < 16 then word b t else ent w t)) fun w => schedE b r (t + 1) w k
theorem schedE_eq (b : List Int) (k : List Int → α) : ∀ (r t : Nat) (w : List Int), schedE b r t w k = k (schedGo b r t w)
  | 0, _, _ => rfl
  | r + 1, t, w => by rw [schedE, fL_eq, schedE_eq b k r, schedGo]

def rndE (w : List Int) (k : List Int → α) : Nat → Nat → Int → Int → Int → Int → Int → Int → Int → Int → α
  | 0, _, a, b, c, d, e, f, g, h => k [a, b, c, d, e, f, g, h]
  | r + 1, t, a, b, c, d, e, f, g, h =>
    fI (u32 (u32 (u32 (u32 (h + bs1 e) + chI e f g) + shaK.getD t 0) + w.getD t 0)) fun x =>
    fI (u32 (x + u32 (bs0 a + mjI a b c))) fun a' => fI (u32 (d + x)) fun e' => rndE w k r (t + 1) a' a b c e' e f g
theorem rndE_eq (w : List Int) (k : List Int → α) : ∀ (r t : Nat) (a b c d e f g h : Int), rndE w k r t a b c d e f g h = k (rnd w r t a b c d e f g h)
  | 0, _, _, _, _, _, _, _, _, _ => rfl
  | r + 1, t, a, b, c, d, e, f, g, h => by rw [rndE, fI_eq, fI_eq, fI_eq, rndE_eq w k r, rnd]

def compE (s b : List Int) (k : List Int → α) : α :=
  schedE b 64 0 (List.replicate 64 0) fun w => rndE w (fun l => fL (List.zipWith (fun x y => u32 (x + y)) s l) k) 64 0 (s.getD 0 0) (s.getD 1 0) (s.getD 2 0) (s.getD 3 0) (s.getD 4 0) (s.getD 5 0) (s.getD 6 0) (s.getD 7 0)
theorem compE_eq (s b : List Int) (k : List Int → α) : compE s b k = k (comp s b) := by
  rw [compE, schedE_eq, rndE_eq, fL_eq]; rfl
def runE : Nat → List Int → List Int → (List Int → α) → α
  | 0, s, _, k => k s
  | n + 1, s, m, k => fL (m.take 64) fun b => fL (m.drop 64) fun m => compE s b fun s => runE n s m k
theorem runE_eq : ∀ (n : Nat) (s m : List Int) (k : List Int → α), runE n s m k = k (runB n s m)
  | 0, _, _, _ => rfl
  | n + 1, s, m, k => by rw [runE, fL_eq, fL_eq, compE_eq, runE_eq n, runB]
def shaE (m : List Int) (k : List Int → α) : α :=
  fL (m ++ padT m.length) fun p => runE (p.length / 64) shaH p fun s => fL (outL s) k
theorem shaE_eq (m : List Int) (k : List Int → α) : shaE m k = k (sha m) := by
  rw [shaE, fL_eq, runE_eq, fL_eq]; rfl
def hmacE (key m : List Int) (k : List Int → α) : α :=
  fL (kx key 54 ++ m) fun a => shaE a fun i => fL (kx key 92) fun c => shaE (c ++ i) k
theorem hmacE_eq (key m : List Int) (k : List Int → α) : hmacE key m k = k (hmac key m) := by
  rw [hmacE, fL_eq, shaE_eq, fL_eq, shaE_eq]; rfl
end

/-- What is reckoned: is it this list? -/
def eqL : List Int → List Int → Bool
  | [], [] => true
  | x :: xs, y :: ys => eqI x y && eqL xs ys
  | _, _ => false
theorem eqL_eq : ∀ {a b : List Int}, eqL a b = true → a = b
  | [], [], _ => rfl
  | [], _ :: _, h => by cases h
  | _ :: _, [], h => by cases h
  | x :: xs, y :: ys, h => by
    simp only [eqL, Bool.and_eq_true, eqI_eq, decide_eq_true_eq] at h
    rw [h.1, eqL_eq h.2]
theorem sha_is {m d : List Int} (h : shaE m (fun s => eqL s d) = true) : sha m = d := by
  rw [shaE_eq] at h; exact eqL_eq h
theorem hmac_is {k m d : List Int} (h : hmacE k m (fun s => eqL s d) = true) : hmac k m = d := by
  rw [hmacE_eq] at h; exact eqL_eq h

theorem sha_abc : sha [97, 98, 99] = [186, 120, 22, 191, 143, 1, 207, 234, 65, 65, 64, 222, 93, 174, 34, 35, 176, 3, 97, 163, 150, 23, 122, 156, 180, 16, 255, 97, 242, 0, 21, 173] := sha_is (by kernel_rfl)
end Go.Q
