/- SHA-256: the reference's and the program's sums. -/
import Derived.Test.YtcjjagkcdepgdaaDoorH2
set_option linter.unusedVariables false
set_option linter.unusedSimpArgs false
set_option maxRecDepth 100000
namespace Go.Proofs.YtcjjagkcdepgdaaDoor
open Go Go.Q

/-! ### The reference -/
theorem padded_zeros (K : Nat) (x0 : List Int) (kx) : ∀ (r n : Nat) (m : List Int), r < n → m.length + r ≤ 1000000000 → (m.length + r) % 64 = 56 → r < 64 →
    F59l0 K n x0 m kx = kx x0 (m ++ List.replicate r 0)
  | 0, n, m, hn, hl, hm, hr => by
    obtain ⟨n, rfl⟩ : ∃ m, n = m + 1 := ⟨n - 1, by omega⟩
    have e : (m.length : Int).tmod 64 = 56 := by rw [Int.tmod_eq_emod_of_nonneg (by omega)]; omega
    simp (disch := omega) only [F59l0, B59l0, e, eqT, Bool.not_true, ↓reduceIte, Bool.false_eq_true, List.replicate_zero, List.append_nil]
  | r + 1, n, m, hn, hl, hm, hr => by
    obtain ⟨n, rfl⟩ : ∃ m, n = m + 1 := ⟨n - 1, by omega⟩
    have e : (m.length : Int).tmod 64 < 56 ∨ 56 < (m.length : Int).tmod 64 := by rw [Int.tmod_eq_emod_of_nonneg (by omega)]; omega
    have ih := padded_zeros K x0 kx r n (m ++ [0]) (by omega) (by simp; omega) (by simp; omega) (by omega)
    rw [List.append_assoc, List.singleton_append, ← List.replicate_succ] at ih
    rw [← ih]
    simp (disch := omega) only [F59l0, B59l0, eqF e, Bool.not_false, roomT, ↓reduceIte, eq_self, List.length_cons, List.length_nil, List.length_replicate, List.replicate_zero]

theorem padded_len (K : Nat) (v : Int) (kx) (m : List Int) (hl : m.length ≤ 1000000000) : ∀ (r t n : Nat), t + r = 8 → r < n →
    F59l2 K n (m ++ (List.range t).map (be v)) v (t : Int) kx = kx (m ++ (List.range 8).map (be v))
  | 0, t, n, h, hn => by
    obtain ⟨n, rfl⟩ : ∃ m, n = m + 1 := ⟨n - 1, by omega⟩
    obtain rfl : t = 8 := by omega
    simp (disch := omega) only [F59l2, B59l2, ltF, ↓reduceIte, Bool.false_eq_true]
  | r + 1, t, n, h, hn => by
    obtain ⟨n, rfl⟩ : ∃ m, n = m + 1 := ⟨n - 1, by omega⟩
    have ih := padded_len K v kx m hl r (t + 1) n (by omega) (by omega)
    rw [List.range_succ, List.map_append, ← List.append_assoc] at ih
    simp (disch := omega) only [F59l2, B59l2, ltT, ltF, wi64, roomT, ↓reduceIte, eq_self, Bool.false_eq_true, List.length_append, List.length_map, List.length_range, List.length_cons, List.length_nil, List.length_replicate, List.replicate_zero]
    exact ih

theorem padded_ok (K : Nat) (hK : 65 ≤ K) (m : List Int) (hl : m.length ≤ 100000000) : F59 K m = some (m ++ padT m.length) := by
  unfold F59
  simp (disch := omega) only [roomT, ↓reduceIte, eq_self, List.length_append, List.length_replicate, List.length_cons, List.length_nil, List.replicate_zero, List.nil_append]
  have hz : (m.length + 1 + zers m.length) % 64 = 56 := by unfold zers; omega
  have hz' : zers m.length < 64 := by unfold zers; omega
  rw [padded_zeros K m _ (zers m.length) K (m ++ [128]) (by omega) (by simp; omega) (by simpa using hz) hz']
  have := padded_len K (IntKind.wrap .u64 (8 * IntKind.wrap .u64 (m.length : Int))) (fun y => some y) (m ++ [128] ++ List.replicate (zers m.length) 0) (by simp; omega) 8 0 K rfl (by omega)
  simp only [List.range_zero, List.map_nil, List.append_nil] at this
  refine this.trans ?_
  rw [wu64 (x := (m.length : Int)) (by omega) (by omega), wu64 (by omega) (by omega)]
  simp only [padT, List.append_assoc, List.cons_append, List.nil_append]
  rfl

theorem ref_blocks (K : Nat) (hK : 65 ≤ K) (m : List Int) (hB : Byt m) (hl : m.length ≤ 1000000000) (b2 : List Int) (kx) : ∀ (r t n : Nat) (s : List Int), 64 * (t + r) = m.length → r < n → s.length = 8 →
    F55l0 K n m ((64 * t : Nat) : Int) b2 s kx = kx b2 (runB r s (m.drop (64 * t)))
  | 0, t, n, s, h, hn, hs => by
    obtain ⟨n, rfl⟩ : ∃ m, n = m + 1 := ⟨n - 1, by omega⟩
    simp (disch := omega) only [F55l0, B55l0, ltF, ↓reduceIte, Bool.false_eq_true, runB]
  | r + 1, t, n, s, h, hn, hs => by
    obtain ⟨n, rfl⟩ : ∃ m, n = m + 1 := ⟨n - 1, by omega⟩
    have hc : cut m ((64 * t : Nat) : Int) (((64 * t : Nat) : Int) + 64) = (m.drop (64 * t)).take 64 := by
      unfold cut
      rw [show (((64 * t : Nat) : Int) + 64 - ((64 * t : Nat) : Int)).toNat = 64 by omega, Int.toNat_natCast]
    have hcl : ((m.drop (64 * t)).take 64).length = 64 := by simp only [List.length_take, List.length_drop]; omega
    have ih := ref_blocks K hK m hB hl b2 kx r (t + 1) n (comp s ((m.drop (64 * t)).take 64)) (by omega) (by omega) (comp_len hs _)
    rw [runB, List.drop_drop, show 64 * t + 64 = 64 * (t + 1) by omega, ← ih]
    simp (disch := omega) only [F55l0, B55l0, ltT, inBT, wi64, ↓reduceIte, eq_self, hc]
    rw [words_ok K hK _ hcl ((hB.drop _).take _), Option.bind_some]
    obtain ⟨s0, s1, s2, s3, s4, s5, s6, s7, rfl⟩ := eight hs
    refine (ref_go K _ _ _ _ _ _ 64 0 K s0 s1 s2 s3 s4 s5 s6 s7 rfl (by omega)).trans ?_
    unfold comp
    simp only [List.getD_cons_zero, List.getD_cons_succ]
    obtain ⟨a, b', c, d, e, f, g, h', hr⟩ := eight (rnd_len (sched ((m.drop (64 * t)).take 64)) 64 0 s0 s1 s2 s3 s4 s5 s6 s7)
    rw [hr]
    refine (ref_add K K (by omega) _ _ _ s0 s1 s2 s3 s4 s5 s6 s7 a b' c d e f g h' _).trans ?_
    rw [wi64 (by omega) (by omega), show ((64 * t : Nat) : Int) + 64 = ((64 * (t + 1) : Nat) : Int) by omega]
    rfl

theorem refsum_ok (K : Nat) (m : List Int) (hB : Byt m) (hl : m.length ≤ 100000000) (hK : m.length / 64 + 65 ≤ K) : F55 K m = some (sha m) := by
  unfold F55
  rw [padded_ok K (by omega) m hl, Option.bind_some]
  have hp := pad_mod m.length
  have hpl := padT_len m.length
  have hz' : zers m.length < 64 := by unfold zers; omega
  have := ref_blocks K (by omega) (m ++ padT m.length) (hB.append (padT_byt _)) (by rw [List.length_append]; omega) (List.replicate 32 0)
    (fun y1 y2 => F55l6 K K 0 y1 y2 (List.replicate 32 0) fun y3 y4 => some y4) ((m ++ padT m.length).length / 64) 0 K shaH (by rw [List.length_append]; omega) (by rw [List.length_append]; omega) rfl
  refine this.trans ?_
  exact out_go K _ _ (runB_len _ _ rfl) _ 32 0 K rfl (by omega)

/-! ### The program's streams -/
structure Str (s : List Int × (List Int × Int)) (m : List Int) : Prop where
  st : s.1 = runB (m.length / 64) shaH m
  bl : s.2.1.length = 64
  bt : s.2.1.take (m.length % 64) = m.drop (64 * (m.length / 64))
  by_ : Byt s.2.1
  n : s.2.2 = m.length

theorem Str.begin (K : Nat) : ∃ s, F46 K = some s ∧ Str s [] := ⟨_, rfl, rfl, by simp, by simp, Byt.rep (by omega) _, rfl⟩

theorem add_go (K : Nat) (hK : 65 ≤ K) (b4) (kx) : ∀ (r n : Nat) (x : List Int) (s) (m : List Int), x.length ≤ r → r < n → Str s m → Byt x → m.length + x.length ≤ 1000000000 →
    ∃ s' b4', F47l0 K n (mkStr x) s b4 kx = kx s' b4' ∧ Str s' (m ++ x) := by
  intro r
  induction r generalizing b4 with
  | zero =>
    intro n x s m hx hn hs hb hl
    obtain ⟨n, rfl⟩ : ∃ m, n = m + 1 := ⟨n - 1, by omega⟩
    obtain rfl := List.eq_nil_of_length_eq_zero (Nat.le_zero.1 hx)
    refine ⟨s, b4, ?_, by rw [List.append_nil]; exact hs⟩
    simp (disch := omega) only [F47l0, B47l0, strEq_eq]
    rw [if_neg (by simp [mkStr])]
  | succ r ih =>
    intro n x s m hx hn hs hb hl
    by_cases hx0 : x = []
    · subst hx0
      obtain ⟨n, rfl⟩ : ∃ m, n = m + 1 := ⟨n - 1, by omega⟩
      refine ⟨s, b4, ?_, by rw [List.append_nil]; exact hs⟩
      simp (disch := omega) only [F47l0, B47l0, strEq_eq]
      rw [if_neg (by simp [mkStr])]
    have hxl : 0 < x.length := List.length_pos_iff.2 hx0
    obtain ⟨n, rfl⟩ : ∃ m, n = m + 1 := ⟨n - 1, by omega⟩
    have hne : strEq (mkStr x) (ByteArray.mk (Array.mk [])) = false := by
      rw [strEq_eq]
      refine decide_eq_false fun h => ?_
      have := congrArg ByteArray.size h
      rw [mkStr_size] at this
      have e0 : (ByteArray.mk (Array.mk [])).size = 0 := rfl
      omega
    have hat : IntKind.wrap .i64 (Int.tmod s.2.2 64) = ((m.length % 64 : Nat) : Int) := by
      rw [hs.n, Int.tmod_eq_emod_of_nonneg (by omega), wi64 (by omega) (by omega)]; omega
    have hk : min (((64 : Nat) : Int) - ((m.length % 64 : Nat) : Int)) ((x.length : Nat) : Int) = ((min (64 - m.length % 64) x.length : Nat) : Int) := by omega
    have hbs := bytesOf_mkStr hb
    have hex : ∀ k : Nat, ByteArray.extract (mkStr x) k x.length = mkStr (x.drop k) := fun k => by
      apply bytesOf_inj
      rw [bytesOf_extract, hbs, bytesOf_mkStr (hb.drop k), List.take_of_length_le (by simp)]
    -- the new block
    have key : ∀ (k : Nat), k = min (64 - m.length % 64) x.length → ∀ bl : List Int,
        bl = List.take (m.length % 64) s.2.1 ++ (List.take (64 - m.length % 64) x ++ List.drop (m.length % 64 + k) s.2.1) →
        bl.length = 64 ∧ Byt bl ∧ bl.take (m.length % 64 + k) = m.drop (64 * (m.length / 64)) ++ x.take k := by
      intro k hk' bl hbl
      subst hbl
      have h1 := hs.bl
      have h2 : (List.take (m.length % 64) s.2.1).length = m.length % 64 := by rw [List.length_take]; omega
      have h3 : List.take (64 - m.length % 64) x = List.take k x := by
        by_cases hc : x.length ≤ 64 - m.length % 64
        · rw [List.take_of_length_le hc, List.take_of_length_le (by omega)]
        · rw [show k = 64 - m.length % 64 by omega]
      have h4 : (List.take k x).length = k := by rw [List.length_take]; omega
      rw [h3]
      refine ⟨?_, (hs.by_.take _).append ((hb.take _).append (hs.by_.drop _)), ?_⟩
      · simp only [List.length_append, h2, h4, List.length_drop]; omega
      · rw [← List.append_assoc, List.take_append_of_le_length (by rw [List.length_append, h2, h4]; exact Nat.le_refl _), List.take_of_length_le (by rw [List.length_append, h2, h4]; exact Nat.le_refl _), hs.bt]
    obtain ⟨k, hk'⟩ : ∃ k, k = min (64 - m.length % 64) x.length := ⟨_, rfl⟩
    rw [← hk'] at hk
    have hkx : k ≤ x.length := by omega
    obtain ⟨q1, q2, q3⟩ := key k hk' _ rfl
    obtain ⟨bl, hbl⟩ : ∃ bl, bl = List.take (m.length % 64) s.2.1 ++ (List.take (64 - m.length % 64) x ++ List.drop (m.length % 64 + k) s.2.1) := ⟨_, rfl⟩
    rw [← hbl] at q1 q2 q3
    have hml : (m ++ x.take k).length = m.length + k := by rw [List.length_append, List.length_take]; omega
    have hmd : m.drop (64 * (m.length / 64)) ++ x.take k = (m ++ x.take k).drop (64 * (m.length / 64)) := by
      rw [List.drop_append_of_le_length (by omega)]
    have hn' : IntKind.wrap .u64 (s.2.2 + IntKind.wrap .u64 ((k : Nat) : Int)) = ((m.length + k : Nat) : Int) := by
      rw [hs.n, wu64 (x := ((k : Nat) : Int)) (by omega) (by omega), wu64 (by omega) (by omega)]; omega
    have hcat : m ++ x = (m ++ x.take k) ++ x.drop k := by rw [List.append_assoc, List.take_append_drop]
    have hdl : (x.drop k).length ≤ r := by rw [List.length_drop]; omega
    by_cases hfull : m.length % 64 + k = 64
    · -- a whole block
      have hcomp := compress_ok K hK s.1 bl (by rw [hs.st]; exact runB_len _ _ rfl) q1 q2
      have hnew : Str (comp s.1 bl, (bl, ((m.length + k : Nat) : Int))) (m ++ x.take k) := by
        have e1 : (m ++ x.take k).length / 64 = m.length / 64 + 1 := by omega
        have e2 : (m ++ x.take k).length % 64 = 0 := by omega
        refine ⟨?_, q1, ?_, q2, by rw [hml]⟩
        · show comp s.1 bl = _
          rw [e1, runB_add, runB_app _ _ _ _ (by omega), ← hs.st, runB, ← hmd]
          rw [hfull, List.take_of_length_le (by omega)] at q3
          rw [← q3, List.take_of_length_le (by omega)]
          rfl
        · rw [e2, e1, List.take_zero, List.drop_eq_nil_of_le (by omega)]
      obtain ⟨s', b', p1, p2⟩ := ih (b4.1, (b4.2.1, b4.2.2)) n (x.drop k) _ _ hdl (by omega) hnew (hb.drop k) (by rw [hml, List.length_drop]; omega)
      refine ⟨s', b', ?_, by rw [hcat]; exact p2⟩
      rw [← p1]
      simp (disch := omega) only [F47l0, B47l0, hne, Bool.not_false, ↓reduceIte, eq_self, hat, bytesOf_len, mkStr_size, hbs, hk, inBT, eqT, wi64, Int.toNat_natCast, hex, Int.sub_zero, Int.toNat_zero, List.drop_zero,
        show (((64 : Nat) : Int) - ((m.length % 64 : Nat) : Int)).toNat = 64 - m.length % 64 by omega, ← hk', ← hbl, hn', List.take_of_length_le (Nat.le_of_eq q1), hcomp, Option.bind_some]
    · have hnew : Str (s.1, (bl, ((m.length + k : Nat) : Int))) (m ++ x.take k) := by
        have e1 : (m ++ x.take k).length / 64 = m.length / 64 := by omega
        have e2 : (m ++ x.take k).length % 64 = m.length % 64 + k := by omega
        refine ⟨?_, q1, ?_, q2, by rw [hml]⟩
        · show s.1 = _
          rw [e1, runB_app _ _ _ _ (by omega), ← hs.st]
        · rw [e2, e1, ← hmd]; exact q3
      obtain ⟨s', b', p1, p2⟩ := ih (b4.1, (b4.2.1, b4.2.2)) n (x.drop k) _ _ hdl (by omega) hnew (hb.drop k) (by rw [hml, List.length_drop]; omega)
      refine ⟨s', b', ?_, by rw [hcat]; exact p2⟩
      rw [← p1]
      simp (disch := omega) only [F47l0, B47l0, hne, Bool.not_false, ↓reduceIte, eq_self, Bool.false_eq_true, hat, bytesOf_len, mkStr_size, hbs, hk, inBT, eqF, wi64, Int.toNat_natCast, hex,
        show (((64 : Nat) : Int) - ((m.length % 64 : Nat) : Int)).toNat = 64 - m.length % 64 by omega, ← hk', ← hbl, hn']
end Go.Proofs.YtcjjagkcdepgdaaDoor
