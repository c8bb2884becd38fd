/- SHA-256: the program's sums. -/
import Derived.Test.YtcjjagkcdepgdaaDoorH3
set_option linter.unusedVariables false
set_option linter.unusedSimpArgs false
set_option maxRecDepth 100000
namespace Go.Proofs.YtcjjagkcdepgdaaDoor
open Go Go.Q

theorem add_ok (K : Nat) (s) (m : List Int) (x : ByteArray) (hs : Str s m) (hK : x.size + 65 ≤ K) (hl : m.length + x.size ≤ 1000000000) :
    ∃ s', F47 K (s.1, (s.2.1, s.2.2)) x = some s' ∧ Str s' (m ++ bytesOf x) := by
  obtain ⟨s', b', h1, h2⟩ := add_go K (by omega) (List.replicate 8 (0 : Int), (List.replicate 64 (0 : Int), (0 : Int))) (fun y0 y1 => some (y0.1, (y0.2.1, y0.2.2))) (bytesOf x).length K (bytesOf x) s m (Nat.le_refl _) (by rw [bytesOf_len]; omega) hs (Byt.bytesOf x) (by rw [bytesOf_len]; omega)
  refine ⟨s', ?_, h2⟩
  rw [mkStr_bytesOf] at h1
  exact h1

theorem ssum_zeros (K : Nat) (t3 : Int) (s) (b2 : List Int) (l : Nat) (hl : s.2.2 = (l : Int)) (hl' : l ≤ 1000000000) (kx) : ∀ (r n : Nat) (p : List Int), r < n → p.length + r ≤ 64 → (l + p.length + r) % 64 = 56 → r < 64 →
    F49l0 K n t3 p s b2 kx = kx t3 (p ++ List.replicate r 0) s b2
  | 0, n, p, hn, hp, hm, hr => by
    obtain ⟨n, rfl⟩ : ∃ m, n = m + 1 := ⟨n - 1, by omega⟩
    have e : (IntKind.wrap .i64 (IntKind.wrap .i64 s.2.2 + ((p.length : Nat) : Int))).tmod 64 = 56 := by
      rw [hl, wi64 (x := (l : Int)) (by omega) (by omega), wi64 (by omega) (by omega), Int.tmod_eq_emod_of_nonneg (by omega)]; omega
    simp (disch := omega) only [F49l0, B49l0, e, eqT, Bool.not_true, ↓reduceIte, Bool.false_eq_true, List.replicate_zero, List.append_nil]
  | r + 1, n, p, hn, hp, hm, hr => by
    obtain ⟨n, rfl⟩ : ∃ m, n = m + 1 := ⟨n - 1, by omega⟩
    have e : (IntKind.wrap .i64 (IntKind.wrap .i64 s.2.2 + ((p.length : Nat) : Int))).tmod 64 < 56 ∨ 56 < (IntKind.wrap .i64 (IntKind.wrap .i64 s.2.2 + ((p.length : Nat) : Int))).tmod 64 := by
      rw [hl, wi64 (x := (l : Int)) (by omega) (by omega), wi64 (by omega) (by omega), Int.tmod_eq_emod_of_nonneg (by omega)]; omega
    have ih := ssum_zeros K t3 s b2 l hl hl' kx r n (p ++ [0]) (by omega) (by simp; omega) (by simp; omega) (by omega)
    rw [List.append_assoc, List.singleton_append, ← List.replicate_succ] at ih
    rw [← ih]
    simp (disch := omega) only [F49l0, B49l0, eqF e, Bool.not_false, roomT, ↓reduceIte, eq_self, List.length_cons, List.length_nil, List.length_replicate, List.replicate_zero]

theorem ssum_len (K : Nat) (v : Int) (s) (b2 : List Int) (kx) (m : List Int) (hl : m.length ≤ 1000000000) : ∀ (r t n : Nat), t + r = 8 → r < n →
    F49l2 K n v (m ++ (List.range t).map (be v)) (t : Int) s b2 kx = kx (m ++ (List.range 8).map (be v)) s b2
  | 0, t, n, h, hn => by
    obtain ⟨n, rfl⟩ : ∃ m, n = m + 1 := ⟨n - 1, by omega⟩
    obtain rfl : t = 8 := by omega
    simp (disch := omega) only [F49l2, B49l2, ltF, ↓reduceIte, Bool.false_eq_true]
  | r + 1, t, n, h, hn => by
    obtain ⟨n, rfl⟩ : ∃ m, n = m + 1 := ⟨n - 1, by omega⟩
    have ih := ssum_len K v s b2 kx m hl r (t + 1) n (by omega) (by omega)
    rw [List.range_succ, List.map_append, ← List.append_assoc] at ih
    simp (disch := omega) only [F49l2, B49l2, ltT, ltF, wi64, roomT, ↓reduceIte, eq_self, Bool.false_eq_true, List.length_append, List.length_map, List.length_range, List.length_cons, List.length_nil, List.length_replicate, List.replicate_zero]
    exact ih

theorem ssum_out (K : Nat) (s) (b2 : List Int) (hs : s.1.length = 8) (kx) : ∀ (r t n : Nat), t + r = 32 → r < n →
    F49l4 K n (t : Int) s b2 ((List.range t).map (outI s.1) ++ List.replicate (32 - t) 0) kx = kx b2 (outL s.1)
  | 0, t, n, h, hn => by
    obtain ⟨n, rfl⟩ : ∃ m, n = m + 1 := ⟨n - 1, by omega⟩
    obtain rfl : t = 32 := by omega
    simp (disch := omega) only [F49l4, B49l4, ltF, ↓reduceIte, Bool.false_eq_true]
    rw [fill_end]; rfl
  | r + 1, t, n, h, hn => by
    obtain ⟨n, rfl⟩ : ∃ m, n = m + 1 := ⟨n - 1, by omega⟩
    have e1 : (t : Int).tdiv 4 = ((t / 4 : Nat) : Int) := by rw [Int.tdiv_eq_ediv_of_nonneg (by omega)]; omega
    have e2 : (t : Int).tmod 4 = ((t % 4 : Nat) : Int) := by rw [Int.tmod_eq_emod_of_nonneg (by omega)]; omega
    have ih := ssum_out K s b2 hs kx r (t + 1) n (by omega) (by omega)
    rw [← fill_step _ _ _ (by omega)] at ih
    simp (disch := omega) only [F49l4, B49l4, e1, e2, ltT, ltF, inT, wi64, ↓reduceIte, eq_self, Bool.false_eq_true, nthD_int, Int.toNat_natCast]
    exact ih

theorem ssum_ok (K : Nat) (hK : 200 ≤ K) (s) (m : List Int) (hs : Str s m) (hl : m.length ≤ 100000000) : F49 K (s.1, (s.2.1, s.2.2)) = some (sha m) := by
  have hz : (m.length + 1 + zers m.length) % 64 = 56 := by unfold zers; omega
  have hz' : zers m.length < 64 := by unfold zers; omega
  have hp := pad_mod m.length
  have hpl := padT_len m.length
  unfold F49
  refine (ssum_zeros K _ s _ m.length hs.n (by omega) _ (zers m.length) K [128] (by omega) (by simp; omega) (by simpa using hz) hz').trans ?_
  have := ssum_len K (IntKind.wrap .u64 (8 * s.2.2)) s (List.replicate 32 0)
    (fun y4 y5 y6 => (F47 K (y5.1, (y5.2.1, y5.2.2)) (mkStr y4)).bind fun y7 => F49l4 K K 0 (y7.1, (y7.2.1, y7.2.2)) y6 (List.replicate 32 0) fun y8 y9 => some y9)
    ([128] ++ List.replicate (zers m.length) 0) (by simp; omega) 8 0 K rfl (by omega)
  simp only [List.range_zero, List.map_nil, List.append_nil] at this
  refine this.trans ?_
  have e : [128] ++ List.replicate (zers m.length) 0 ++ (List.range 8).map (be (IntKind.wrap .u64 (8 * s.2.2))) = padT m.length := by
    rw [hs.n, wu64 (by omega) (by omega)]
    simp only [padT, List.append_assoc, List.cons_append, List.nil_append]
    rfl
  rw [e]
  obtain ⟨s', h1, h2⟩ := add_ok K s m (mkStr (padT m.length)) hs (by rw [mkStr_size]; omega) (by rw [mkStr_size]; omega)
  rw [bytesOf_mkStr (padT_byt _)] at h2
  rw [h1, Option.bind_some]
  refine (ssum_out K s' _ (by rw [h2.st]; exact runB_len _ _ rfl) _ 32 0 K rfl (by omega)).trans ?_
  rw [h2.st]
  rfl

end Go.Proofs.YtcjjagkcdepgdaaDoor
