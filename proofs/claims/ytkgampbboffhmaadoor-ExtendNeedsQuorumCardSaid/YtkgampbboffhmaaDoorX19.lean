/- The law of the chains. -/
import Derived.Test.YtkgampbboffhmaaDoorX18
set_option linter.unusedVariables false
set_option linter.unusedSimpArgs false
set_option maxRecDepth 100000
namespace Go.Proofs.YtkgampbboffhmaaDoor
open Go Go.Q

/-! ### Chains of decisions, by their sources -/
abbrev Src := Nat → Plea × Int
def dg (ps : Src) : Nat → List Int
  | 0 => z16
  | k + 1 => recD (dg ps k) (ps k).1 (ps k).2
def mkE (ps : Src) (k : Nat) : Ext := ((ps k).1, ((ps k).2, dg ps (k + 1)))
def chn (ps : Src) (n : Nat) : List Ext := (List.range n).map (mkE ps)
theorem dg_len (ps : Src) : ∀ k, (dg ps k).length = 16
  | 0 => rfl
  | k + 1 => dig_len _ _
theorem chn_len (ps : Src) (n : Nat) : (chn ps n).length = n := by simp [chn]
theorem chn_getD (ps : Src) {n t : Nat} (h : t < n) : (chn ps n).getD t e0 = mkE ps t := by
  simp [chn, List.getD_eq_getElem?_getD, List.getElem?_map, List.getElem?_range h]
theorem chn_snoc (ps : Src) (n : Nat) : chn ps (n + 1) = chn ps n ++ [mkE ps n] := by simp [chn, List.range_succ]
theorem chn_take (ps : Src) {k n : Nat} (h : k ≤ n) : (chn ps n).take k = chn ps k := by
  rw [chn, ← List.map_take, List.take_range, Nat.min_eq_left h]; rfl

def GoodS (c : Cou) (p : Plea × Int) : Prop := PleaI p.1 ∧ BalsI p.1.2.2.2.2 ∧ SealW p.1.2.2.2.2 ∧ p.1.2.2.2.2.length ≤ 100 ∧ I64 p.2 ∧ p.1.1 = 7 ∧ (decP c p.1 p.2).2 = 0
theorem chn_ext {c : Cou} {ps : Src} {n : Nat} (h : ∀ k, k < n → GoodS c (ps k)) : ∀ x ∈ chn ps n, ExtI x := fun x hx => by
  obtain ⟨k, hk, rfl⟩ := List.mem_map.1 hx
  obtain ⟨h1, h2, h3, h4, h5, _, _⟩ := h k (List.mem_range.1 hk)
  exact ⟨h1, h2, h3, h4, h5, dg_len ps (k + 1)⟩

theorem lastU_chn {c : Cou} {ps : Src} {n : Nat} (h : ∀ k, k < n → GoodS c (ps k)) : ∀ t, t ≤ n → lastU (chn ps n) 7 t = if t = 0 then none else some (ps (t - 1)).1.2.2.1
  | 0, _ => rfl
  | t + 1, ht => by
    rw [lastU_succ, chn_getD ps (show t < n by omega)]
    show (if (ps t).1.1 = 7 then some (ps t).1.2.2.1 else _) = _
    rw [if_pos (h t (by omega)).2.2.2.2.2.1, if_neg (by omega), Nat.add_sub_cancel]

theorem extE_chn {c : Cou} {ps : Src} {n : Nat} (h : ∀ k, k < n → GoodS c (ps k)) {t : Nat} (ht : t < n) : extE c (chn ps n) t (dg ps t) = if t = 0 then 0 else if (ps (t - 1)).1.2.2.1 = (ps t).1.2.1 then 0 else 4 := by
  obtain ⟨_, _, _, _, _, h6, h7⟩ := h t ht
  unfold extE
  rw [chn_getD ps ht]
  show (if dg ps (t + 1) = recD (dg ps t) (ps t).1 (ps t).2 then (if (decP c (ps t).1 (ps t).2).2 = 0 then (match lastU (chn ps n) (ps t).1.1 t with | some n => if n = (ps t).1.2.1 then 0 else 4 | none => 0) else (decP c (ps t).1 (ps t).2).2) else 23) = _
  rw [if_pos (show dg ps (t + 1) = recD (dg ps t) (ps t).1 (ps t).2 from rfl), if_pos h7, h6, lastU_chn h t (by omega)]
  by_cases h0 : t = 0
  · rw [if_pos h0, if_pos h0]
  · rw [if_neg h0, if_neg h0]

theorem ver_chn {c : Cou} {ps : Src} {n : Nat} (h : ∀ k, k < n → GoodS c (ps k)) (hm : ∀ k, 0 < k → k < n → (ps (k - 1)).1.2.2.1 = (ps k).1.2.1) : ∀ r t, t + r = n → verFrom c (chn ps n) r t (dg ps t) = ((n : Int), 0)
  | 0, t, _ => by rw [verFrom, chn_len]
  | r + 1, t, ht => by
    rw [verFrom, extE_chn h (by omega), chn_getD ps (show t < n by omega)]
    have e : (if t = 0 then (0 : Int) else if (ps (t - 1)).1.2.2.1 = (ps t).1.2.1 then 0 else 4) = 0 := by
      by_cases h0 : t = 0
      · rw [if_pos h0]
      · rw [if_neg h0, if_pos (hm t (by omega) (by omega))]
    rw [e, if_pos rfl]
    exact ver_chn h hm r (t + 1) (by omega)
theorem ver_gap {c : Cou} {ps : Src} {n : Nat} (h : ∀ k, k < n → GoodS c (ps k)) (a : Nat) (h0 : 0 < a) (ha : a < n) (hm : ∀ k, 0 < k → k < a → (ps (k - 1)).1.2.2.1 = (ps k).1.2.1) (hn : (ps (a - 1)).1.2.2.1 ≠ (ps a).1.2.1) : ∀ r t, t + r = n → t ≤ a → verFrom c (chn ps n) r t (dg ps t) = ((a : Int), 4)
  | 0, t, _, _ => by omega
  | r + 1, t, ht, hta => by
    rw [verFrom, extE_chn h (by omega), chn_getD ps (show t < n by omega)]
    by_cases e : t = a
    · subst e
      have e : (if t = 0 then (0 : Int) else if (ps (t - 1)).1.2.2.1 = (ps t).1.2.1 then 0 else 4) = 4 := by rw [if_neg (by omega), if_neg hn]
      rw [e, if_neg (by decide)]
    · have e : (if t = 0 then (0 : Int) else if (ps (t - 1)).1.2.2.1 = (ps t).1.2.1 then 0 else 4) = 0 := by
        by_cases h0 : t = 0
        · rw [if_pos h0]
        · rw [if_neg h0, if_pos (hm t (by omega) (by omega))]
      rw [e, if_pos rfl]
      exact ver_gap h a h0 ha hm hn r (t + 1) (by omega) (by omega)
theorem verP_chn {c : Cou} (hc : okC c = true) {ps : Src} {n : Nat} (h : ∀ k, k < n → GoodS c (ps k)) (hm : ∀ k, 0 < k → k < n → (ps (k - 1)).1.2.2.1 = (ps k).1.2.1) : verP c (chn ps n) = ((n : Int), 0) := by
  rw [verP, if_pos hc]
  exact ver_chn h hm _ 0 (by rw [chn_len]; omega)
theorem verP_gap {c : Cou} (hc : okC c = true) {ps : Src} {n : Nat} (h : ∀ k, k < n → GoodS c (ps k)) (a : Nat) (h0 : 0 < a) (ha : a < n) (hm : ∀ k, 0 < k → k < a → (ps (k - 1)).1.2.2.1 = (ps k).1.2.1) (hn : (ps (a - 1)).1.2.2.1 ≠ (ps a).1.2.1) : verP c (chn ps n) = ((a : Int), 4) := by
  rw [verP, if_pos hc]
  exact ver_gap h a h0 ha hm hn _ 0 (by rw [chn_len]; omega) (by omega)

/-! ### The chain of the law -/
def laS (c : Cou) (more : List Int) : Nat → Int
  | 0 => 10
  | k + 1 => laS c more k + 1 + Int.tmod (more.getD k 0) c.2.2.2
def yesF : Nat → Bool := fun _ => true
def opnS (c : Cou) (more : List Int) (k : Nat) : Plea := (7, (laS c more k, (laS c more (k + 1), (laS c more k, []))))
def srcS (c : Cou) (more : List Int) : Src := fun k => (plOf c (opnS c more k) (laS c more k) yesF (List.range c.1.length), laS c more k)

theorem laS_step {c : Cou} (hc : okC c = true) {more : List Int} (hx : ∀ x ∈ more, 0 ≤ x ∧ x ≤ 65535) (k : Nat) : 0 ≤ Int.tmod (more.getD k 0) c.2.2.2 ∧ Int.tmod (more.getD k 0) c.2.2.2 < c.2.2.2 ∧ 0 ≤ more.getD k 0 ∧ more.getD k 0 ≤ 65535 := by
  have hb := (okC_b hc).2.2.2.2.2.1
  have h0 : 0 ≤ more.getD k 0 ∧ more.getD k 0 ≤ 65535 := by
    by_cases h : k < more.length
    · exact hx _ (getD_mem h)
    · rw [List.getD_eq_getElem?_getD, List.getElem?_eq_none (by omega)]; exact ⟨by decide, by decide⟩
  rw [Int.tmod_eq_emod_of_nonneg h0.1]
  exact ⟨Int.emod_nonneg _ (by omega), Int.emod_lt_of_pos _ (by omega), h0⟩
theorem laS_mono {c : Cou} (hc : okC c = true) {more : List Int} (hx : ∀ x ∈ more, 0 ≤ x ∧ x ≤ 65535) : ∀ (d k : Nat), laS c more k + (d : Int) ≤ laS c more (k + d)
  | 0, k => by simp
  | d + 1, k => by
    have h1 := laS_mono hc hx d k
    have h2 := (laS_step hc hx (k + d)).1
    show _ ≤ laS c more (k + d) + 1 + Int.tmod (more.getD (k + d) 0) c.2.2.2
    omega
theorem laS_ge {c : Cou} (hc : okC c = true) {more : List Int} (hx : ∀ x ∈ more, 0 ≤ x ∧ x ≤ 65535) (k : Nat) : 10 ≤ laS c more k := by
  have := laS_mono hc hx k 0
  rw [Nat.zero_add] at this
  have e : laS c more 0 = 10 := rfl
  omega

theorem yesN_all (c : Cou) (m : Plea) (tk : Int) (ks : List Nat) : yesN (ks.map (bal c m tk yesF)) = (ks.length : Int) := by
  induction ks with
  | nil => rfl
  | cons k ks ih =>
    simp only [yesN, List.map_cons, List.sum_cons, List.length_cons] at ih ⊢
    rw [ih]
    show (1 : Int) + _ = _
    omega

theorem opn_frame {c : Cou} (hc : okC c = true) {more : List Int} (hx : ∀ x ∈ more, 0 ≤ x ∧ x ≤ 65535) {k : Nat} (hk : laS c more (k + 1) ≤ 1000000) : framB c (opnS c more k) := by
  have h1 := laS_ge hc hx k
  have h2 := laS_step hc hx k
  have e : laS c more (k + 1) = laS c more k + 1 + Int.tmod (more.getD k 0) c.2.2.2 := rfl
  exact ⟨by show (0 : Int) ≤ 7; decide, by show (7 : Int) ≤ 1099511627776; decide, by show 0 ≤ laS c more k; omega, Int.le_refl (laS c more k), by show laS c more k < laS c more (k + 1); omega, hk, by show laS c more (k + 1) - laS c more k ≤ c.2.2.2; omega⟩
theorem opn_right {c : Cou} (hc : okC c = true) {more : List Int} (hx : ∀ x ∈ more, 0 ≤ x ∧ x ≤ 65535) {k : Nat} (hk : laS c more (k + 1) ≤ 1000000) : rightB c (opnS c more k) = true := start_right hc (opn_frame hc hx hk) rfl
theorem opn_i {c : Cou} (hc : okC c = true) {more : List Int} (hx : ∀ x ∈ more, 0 ≤ x ∧ x ≤ 65535) {k : Nat} (hk : laS c more (k + 1) ≤ 1000000) : PleaI (opnS c more k) := by
  have h1 := laS_ge hc hx k
  have h2 := laS_step hc hx k
  have e : laS c more (k + 1) = laS c more k + 1 + Int.tmod (more.getD k 0) c.2.2.2 := rfl
  exact ⟨⟨by show _ ≤ (7 : Int); decide, by show (7 : Int) ≤ _; decide⟩, ⟨by show _ ≤ laS c more k; omega, by show laS c more k ≤ _; omega⟩, ⟨by show _ ≤ laS c more (k + 1); omega, by show laS c more (k + 1) ≤ _; omega⟩, ⟨by show _ ≤ laS c more k; omega, by show laS c more k ≤ _; omega⟩⟩
theorem la_i {c : Cou} (hc : okC c = true) {more : List Int} (hx : ∀ x ∈ more, 0 ≤ x ∧ x ≤ 65535) {k : Nat} (hk : laS c more (k + 1) ≤ 1000000) : I64 (laS c more k) := (opn_i hc hx hk).2.1
theorem opn_open {c : Cou} (hc : okC c = true) {more : List Int} (hx : ∀ x ∈ more, 0 ≤ x ∧ x ≤ 65535) {k : Nat} (hk : laS c more (k + 1) ≤ 1000000) : openP c 7 (laS c more k) (laS c more (k + 1)) (laS c more k) = (opnS c more k, 0) := by
  have hf := opn_frame hc hx hk
  rw [openP, if_pos hc, if_neg (by omega), if_pos (show framB c (7, (laS c more k, (laS c more (k + 1), (laS c more k, [])))) from hf)]; rfl
theorem src_dec {c : Cou} (hc : okC c = true) {more : List Int} {k : Nat} (hr : rightB c (srcS c more k).1 = true) : decP c (srcS c more k).1 (laS c more k) = (laS c more (k + 1), 0) := by
  have hl : lastV (srcS c more k).1 ≤ laS c more k := plOf_last c (opnS c more k) (laS c more k) yesF _ (Int.le_refl _)
  have hb := (okC_b hc).2.2.2.2.1
  have hy : yesN (srcS c more k).1.2.2.2.2 = (c.1.length : Int) := (yesN_all c (opnS c more k) (laS c more k) _).trans (by rw [List.length_range])
  rw [decP_of hr, hy, if_neg (c := laS c more k < lastV _) (by omega), if_neg (c := (c.1.length : Int) < c.2.2.1) (by omega), if_neg (show ¬ (srcS c more k).1.2.1 < laS c more k from Int.lt_irrefl _)]
  rfl
theorem src_good {c : Cou} (hc : okC c = true) {more : List Int} (hx : ∀ x ∈ more, 0 ≤ x ∧ x ≤ 65535) {k : Nat} (hk : laS c more (k + 1) ≤ 1000000) (hr : rightB c (srcS c more k).1 = true) : GoodS c (srcS c more k) := by
  have hl : c.1.length ≤ 12 := (okC_b hc).2.1
  refine ⟨opn_i hc hx hk, plOf_bi hc _ (la_i hc hx hk) yesF (fun i hi => List.mem_range.1 hi), fun v hv => ?_, ?_, la_i hc hx hk, rfl, congrArg Prod.snd (src_dec hc hr)⟩
  · obtain ⟨j, _, rfl⟩ := List.mem_map.1 (show v ∈ (List.range c.1.length).map (bal c (opnS c more k) (laS c more k) yesF) from hv)
    exact sealV_len _ _ _ _ _
  · show ((List.range c.1.length).map _).length ≤ 100
    rw [List.length_map, List.length_range]; omega
theorem all_go (K : Nat) (hK : 200000 ≤ K) (c : Cou) (hc : okC c = true) (m : Plea) (hm : PleaI m) (tk : Int) (hti : I64 tk) (ho : m.2.2.2.1 ≤ tk) (hl : tk ≤ m.2.1) (t1 : List Int) (t2 : Int) (t8 : List Ext) (t11 t12 : Int) (bf : List Int) (kx) : ∀ (r t n : Nat), t + r = c.1.length → r < n → rightB c (plOf c m tk yesF (List.range t)) = true →
    rightB c (plOf c m tk yesF (List.range c.1.length)) = true ∧ F7l2 K n t1 t2 t8 tk t11 t12 (t : Int) c bf (plOf c m tk yesF (List.range t)) kx = kx t1 t2 t8 tk t11 t12 c bf (plOf c m tk yesF (List.range c.1.length))
  | 0, t, n, hh, hn, hr => by
    obtain ⟨n, rfl⟩ : ∃ m, n = m + 1 := ⟨n - 1, by omega⟩
    obtain rfl : t = c.1.length := by omega
    refine ⟨hr, ?_⟩
    rw [F7l2, B7l2, ltF (by omega), if_neg (by decide)]
  | r + 1, t, n, hh, hn, hr => by
    obtain ⟨n, rfl⟩ : ∃ m, n = m + 1 := ⟨n - 1, by omega⟩
    have h12 := (okC_b hc).2.1
    have e1 : IntKind.wrap .i64 ((t : Int) + 1) = ((t + 1 : Nat) : Int) := by rw [wi64 (by omega) (by omega)]; omega
    have k1 : ∀ i ∈ List.range t, i < c.1.length := fun i hi => by have := List.mem_range.1 hi; omega
    have v1 := bal_ok hc ho hl yesF k1 (show t < c.1.length by omega) (by simp)
    have hr' := right_snoc hr v1
    rw [plOf_snoc, ← List.range_succ] at hr'
    obtain ⟨q1, q2⟩ := all_go K hK c hc m hm tk hti ho hl t1 t2 t8 t11 t12 bf kx r (t + 1) n (by omega) (by omega) hr'
    refine ⟨q1, Eq.trans ?_ q2⟩
    have hg := okC_range hc (getD_mem (d := 0) (show t < c.1.length by omega))
    have hs : 0 ≤ seat c.1 (c.1.getD t 0) := (seat_iff _ _).2 (getD_mem (by omega))
    have hi : I64 (c.1.getD t 0) := ⟨by omega, by omega⟩
    have bl : F30 K c (plOf c m tk yesF (List.range t)) (c.1.getD t 0) tk true = some (bal c m tk yesF t) :=
      (ballot_own K hK c (by omega) (plOf c m tk yesF (List.range t)) _ tk _ hm hi hti).trans (by rw [sealP_in hc hs]; rfl)
    have vo : F14 K c (plOf c m tk yesF (List.range t)) (bal c m tk yesF t) = some (plOf c m tk yesF (List.range (t + 1)), 0) :=
      (Vote_own K hK c (by omega) (plOf c m tk yesF (List.range t)) (bal c m tk yesF t) (by simp [plOf]; omega) hm (plOf_bi hc m hti yesF k1) ⟨hi, hti⟩).trans (by rw [voteP_ok hr v1, plOf_snoc, ← List.range_succ])
    rw [F7l2, B7l2, ltT (by omega), if_pos rfl, inT (by omega) (by omega), if_pos rfl, nthD_int, Int.toNat_natCast]
    refine bindS bl ?_
    refine bindS vo ?_
    rw [if_neg (by show ¬ (!(eqI (0 : Int) 0)) = true; decide), e1]

theorem chains_go (K : Nat) (hK : 200000 ≤ K) (c : Cou) (hc : okC c = true) (more : List Int) (hl : more.length ≤ 5) (hx : ∀ x ∈ more, 0 ≤ x ∧ x ≤ 65535) (sk : Int) (kx) : ∀ (r t n : Nat), t + r = more.length → r < n → laS c more t ≤ 1000000 → (∀ k, k < t → rightB c (srcS c more k).1 = true) →
    F7l0 K n more sk (chn (srcS c more) t) (laS c more t) (t : Int) c (dg (srcS c more) t) kx = some true ∨
    ((laS c more more.length ≤ 1000000 ∧ ∀ k, k < more.length → rightB c (srcS c more k).1 = true) ∧ F7l0 K n more sk (chn (srcS c more) t) (laS c more t) (t : Int) c (dg (srcS c more) t) kx = kx sk (chn (srcS c more) more.length) c (dg (srcS c more) more.length))
  | 0, t, n, hh, hn, h1, h2 => by
    obtain ⟨n, rfl⟩ : ∃ m, n = m + 1 := ⟨n - 1, by omega⟩
    obtain rfl : t = more.length := by omega
    refine .inr ⟨⟨h1, h2⟩, ?_⟩
    rw [F7l0, B7l0, ltF (by omega), if_neg (by decide)]
  | r + 1, t, n, hh, hn, h1, h2 => by
    obtain ⟨n, rfl⟩ : ∃ m, n = m + 1 := ⟨n - 1, by omega⟩
    have e1 : IntKind.wrap .i64 ((t : Int) + 1) = ((t + 1 : Nat) : Int) := by rw [wi64 (by omega) (by omega)]; omega
    have hb := okC_b hc
    have hst := laS_step hc hx t
    have hge := laS_ge hc hx t
    have els : laS c more (t + 1) = laS c more t + 1 + Int.tmod (more.getD t 0) c.2.2.2 := rfl
    have hbd := hb.2.2.2.2.2
    have h12 := hb.2.1
    have eun : IntKind.wrap .i64 (IntKind.wrap .i64 (laS c more t + 1) + Int.tmod (IntKind.wrap .i64 (more.getD t 0)) c.2.2.2) = laS c more (t + 1) := by
      rw [wi64 (x := laS c more t + 1) (by omega) (by omega), wi64 (x := more.getD t 0) (by omega) (by omega), wi64 (by omega) (by omega), els]
    rw [F7l0, B7l0, ltT (by omega), if_pos rfl, inT (by omega) (by omega), if_pos rfl, nthD_int, Int.toNat_natCast, eqF (.inr (by omega)), if_neg (by decide), eun]
    by_cases hk : laS c more (t + 1) ≤ 1000000
    · rw [ltF hk, if_neg (by decide)]
      obtain ⟨hr, hall⟩ := all_go K hK c hc (opnS c more t) (opn_i hc hx hk) (laS c more t) (la_i hc hx hk) (Int.le_refl _) (Int.le_refl _) more sk (chn (srcS c more) t) (t : Int) (laS c more (t + 1)) (dg (srcS c more) t) (fun y1 y2 y3 y4 y5 y6 y7 y8 y9 => ((F16 K y7 y9 y4).bind fun y10 => if (!(eqI y10.2 0)) = true then some false else if (!(eqI y10.1 y6)) = true then some false else ((F25 K y8 y9 y4).bind fun y11 => if room (y3.length + [(y9, (y4, y11))].length) = true then F7l0 K n y1 y2 (y3 ++ [(y9, (y4, y11))]) y6 (IntKind.wrap .i64 (y5 + 1)) y7 y11 kx else none))) c.1.length 0 K (by omega) (by omega) (opn_right hc hx hk)
      have hg := src_good hc hx hk hr
      have hd := src_dec hc hr
      have key : (F10 K c 7 (laS c more t) (laS c more (t + 1)) (laS c more t)).bind (fun y0 => if (!(eqI y0.2 0)) = true then some false else F7l2 K K more sk (chn (srcS c more) t) (laS c more t) (t : Int) (laS c more (t + 1)) 0 c (dg (srcS c more) t) y0.1 (fun y1 y2 y3 y4 y5 y6 y7 y8 y9 => ((F16 K y7 y9 y4).bind fun y10 => if (!(eqI y10.2 0)) = true then some false else if (!(eqI y10.1 y6)) = true then some false else ((F25 K y8 y9 y4).bind fun y11 => if room (y3.length + [(y9, (y4, y11))].length) = true then F7l0 K n y1 y2 (y3 ++ [(y9, (y4, y11))]) y6 (IntKind.wrap .i64 (y5 + 1)) y7 y11 kx else none)))) = F7l0 K n more sk (chn (srcS c more) (t + 1)) (laS c more (t + 1)) ((t + 1 : Nat) : Int) c (dg (srcS c more) (t + 1)) kx := by
        refine bindS ((Open_own K hK c (by omega) 7 _ _ _).trans (congrArg some (opn_open hc hx hk))) ?_
        rw [if_neg (by show ¬ (!(eqI (0 : Int) 0)) = true; decide)]
        refine hall.trans ?_
        refine bindS ((Decide_own K hK c (by omega) (srcS c more t).1 (laS c more t) (by have := hg.2.2.2.1; omega) hg.1 hg.2.1).trans (congrArg some hd)) ?_
        rw [if_neg (by show ¬ (!(eqI (0 : Int) 0)) = true; decide), if_neg (by simp [eqI_eq])]
        refine bindS (record_own K hK (dg (srcS c more) t) (srcS c more t).1 (laS c more t) (dg_len _ _) hg.1 hg.2.2.2.2.1 hg.2.2.2.1 hg.2.1 hg.2.2.1) ?_
        rw [roomT (by rw [chn_len]; simp; omega), if_pos rfl, e1, chn_snoc]
        rfl
      have ih := chains_go K hK c hc more hl hx sk kx r (t + 1) n (by omega) (by omega) hk (fun k hk' => by
        by_cases e : k = t
        · subst e; exact hr
        · exact h2 k (by omega))
      rcases ih with h | ⟨h3, h4⟩
      · exact .inl (Eq.trans key h)
      · exact .inr ⟨h3, Eq.trans key h4⟩
    · rw [ltT (by omega), if_pos rfl]
      exact .inl rfl

end Go.Proofs.YtkgampbboffhmaaDoor
