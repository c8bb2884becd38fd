import Derived.RangeFuncBound
import Derived.RangeFuncLeaves
import Derived.Shelf.Abstract
import Derived.Shelf.RegionOpen
import Derived.WalkKit
import Derived.OwnWalkIn
import Derived.TacticsInMore
import Derived.LoopNIn
import Derived.LoopIn
import Derived.Test.YtcjjagkcdepgdaaDoorEnv
set_option linter.unusedVariables false
namespace Go.Proofs.YtcjjagkcdepgdaaDoor
open Go Go.RowKit Go.Shelf Go.Q
attribute [local go_sem] Oper.semAt_some

theorem cell_lt {w : World} {p : Addr} {v : Value} (h : w.cell? p = some v) : p.block < w.heap.size := by
  unfold World.cell? at h
  cases hb : w.heap[p.block]? with
  | none => rw [hb] at h; cases h
  | some o => exact (Array.getElem?_eq_some_iff.1 hb).1
theorem same_lt {w w' : World} {b : Nat} (h : w'.heap[b]? = w.heap[b]?) (hb : b < w.heap.size) : b < w'.heap.size := by
  rw [Array.getElem?_eq_getElem hb] at h
  exact (Array.getElem?_eq_some_iff.1 h).1
def gives (n k : Int) (p : Int × Int × Int × Int × Int × Int) : List (Int × Int) :=
  (if p.1 = n then [(k, p.2.2.1)] else []) ++ (if p.2.1 = n then [(k, wrap64 (-p.2.2.1))] else [])
def givesL (n bf : Int) : Int → List (Int × Int × Int × Int × Int × Int) → List (Int × Int)
  | _, [] => []
  | k, p :: l => if bf ≤ p.2.2.2.1 then [] else gives n k p ++ givesL n bf (k + 1) l

set_option maxRecDepth 100000 in
set_option maxHeartbeats 2000000 in
theorem of_runs (b1 o1 b2 o2 b3 o3 b o cap : Nat) (bf n : Int) (ps : List (Int × Int × Int × Int × Int × Int)) (hroom : ps.length ≤ 1073741824) (l : Nat) (J : (Nat → Prop) → Nat → World → Prop) (Jx : World → Prop) (hJ : Grows J) (hX : ∀ A B, Jx A → Below A.heap.size A B → Jx B) (Z : Nat → Prop) (W : World)
    (hY : ∀ Z1 i vs W1, (∀ b, Z b → Z1 b) → (givesL n bf 0 ps)[i]? = some vs → J Z1 i W1 → YieldAt Fence.wide 0 Tryd.prog l #[.int .i64 vs.1, .int .i64 vs.2] W1 fun e W' =>
      (e = .returned (.bool true) ∧ J Z1 (i + 1) W' ∧ KeepZ Z1 W1 W') ∨ (e = .returned (.bool false) ∧ Jx W'))
    (h0 : J Z 0 W) (z1 : Z b1) (z2 : Z b2) (z3 : Z b3) (A : Option Addr) (hA : ps ≠ [] → A = some ⟨b, o, none⟩ ∧ Z b)
    (c1 : W.cell? ⟨b1, o1 + 1, none⟩ = some (.slice A ps.length cap)) (c2 : W.cell? ⟨b2, o2, none⟩ = some (.int .i64 bf)) (c3 : W.cell? ⟨b3, o3, none⟩ = some (.int .i64 n))
    (hc : ∀ k p, ps[k]? = some p → W.cell? ⟨b, o + k * 6, none⟩ = some (.int .i64 p.1) ∧ W.cell? ⟨b, o + k * 6 + 1, none⟩ = some (.int .i64 p.2.1) ∧ W.cell? ⟨b, o + k * 6 + 2, none⟩ = some (.int .i64 p.2.2.1) ∧
      W.cell? ⟨b, o + k * 6 + 3, none⟩ = some (.int .i64 p.2.2.2.1) ∧ W.cell? ⟨b, o + k * 6 + 4, none⟩ = some (.int .i64 p.2.2.2.2.1) ∧ W.cell? ⟨b, o + k * 6 + 5, none⟩ = some (.int .i64 p.2.2.2.2.2)) :
    CallsIn Fence.wide 0 Tryd.prog 53 #[.func (.yield l) #[] #[], .pointer (some ⟨b1, o1, none⟩), .pointer (some ⟨b2, o2, none⟩), .pointer (some ⟨b3, o3, none⟩)] W fun e W' => (∃ v, e = .returned v) ∧ ((∃ Z', J Z' (givesL n bf 0 ps).length W') ∨ Jx W') := by
  generalize hN : givesL n bf 0 ps = N at hY ⊢
  have hN := hN.symm
  refine callsIn_of_wp Tryd.func53 rfl trivial ?_ rfl
  simp only [Tryd.ntmps53, List.size_toArray, List.length_cons, List.length_nil, Nat.reduceAdd, Nat.reduceSub, Array.replicate_succ, Array.replicate_zero, List.push_toArray, List.append_toArray, List.nil_append, List.cons_append]
  gi_wp2
  gi_loopw [10] (fun i wr => ∃ (k : Nat) (pre : List (Int × Int)) (Z1 : Nat → Prop), k ≤ ps.length ∧ i = .int .i64 k ∧ pre ++ givesL n bf k (ps.drop k) = N ∧ (∀ b, Z b → Z1 b) ∧ (∀ b, b < W.heap.size → Z b → wr.heap[b]? = W.heap[b]?) ∧ J Z1 pre.length wr)
    (fun i _ => ps.length - (intOf i).toNat)
  case atStart => exact ⟨0, [], Z, Nat.zero_le _, rfl, hN.symm, fun _ h => h, fun _ _ _ => rfl, h0⟩
  case round =>
    obtain ⟨k, pre, Z1, hk, rfl, hg, hZ, hkeep, hJ1⟩ := hrel
    by_cases hlt : k < ps.length
    · obtain ⟨p, hp⟩ : ∃ p, ps[k]? = some p := ⟨_, List.getElem?_eq_getElem hlt⟩
      obtain ⟨rfl, zb⟩ := hA (by intro e; subst e; simp at hlt)
      have e2 : wr.cell? ⟨b2, o2, none⟩ = some (.int .i64 bf) := (World.cell?_of_block (w := W) (hkeep _ (cell_lt c2) z2)).trans c2
      have e3 : wr.cell? ⟨b3, o3, none⟩ = some (.int .i64 n) := (World.cell?_of_block (w := W) (hkeep _ (cell_lt c3) z3)).trans c3
      obtain ⟨p0, p1, p2, p3, p4, p5⟩ := p
      obtain ⟨q0, q1, q2, q3, q4, q5⟩ := hc k _ hp
      have kb : ∀ j v, W.cell? ⟨b, j, none⟩ = some v → wr.cell? ⟨b, j, none⟩ = some v := fun j v h => (World.cell?_of_block (w := W) (hkeep _ (cell_lt h) zb)).trans h
      have q0 := kb _ _ q0
      have q1 := kb _ _ q1
      have q2 := kb _ _ q2
      have q3 := kb _ _ q3
      have q4 := kb _ _ q4
      have q5 := kb _ _ q5
      obtain ⟨W4, hW4⟩ : ∃ W4, wr.alloc (.cells #[.int .i64 p0, .int .i64 p1, .int .i64 p2, .int .i64 p3, .int .i64 p4, .int .i64 p5] 26) = W4 := ⟨_, rfl⟩
      have hB4 : Below wr.heap.size wr W4 := by rw [← hW4]; exact (Below.refl _ wr).alloc (Nat.le_refl _) _
      have f2 : W4.cell? ⟨b2, o2, none⟩ = some (.int .i64 bf) := (hB4.cell (p := ⟨b2, o2, none⟩) (cell_lt e2)).trans e2
      have f3 : W4.cell? ⟨b3, o3, none⟩ = some (.int .i64 n) := (hB4.cell (p := ⟨b3, o3, none⟩) (cell_lt e3)).trans e3
      have hn4 : ∀ j, W4.cell? ⟨wr.heap.size, j, none⟩ = (#[.int .i64 p0, .int .i64 p1, .int .i64 p2, .int .i64 p3, .int .i64 p4, .int .i64 p5] : Array Value)[j]? := fun j => by rw [← hW4]; exact box_cells (alloc_new wr _) j
      have hs4 : wr.heap.size < W4.heap.size := by rw [← hW4]; simp
      have n0 : W4.cell? ⟨wr.heap.size, 0, none⟩ = some (.int .i64 p0) := hn4 0
      have n1 : W4.cell? ⟨wr.heap.size, 1, none⟩ = some (.int .i64 p1) := hn4 1
      have n2 : W4.cell? ⟨wr.heap.size, 2, none⟩ = some (.int .i64 p2) := hn4 2
      have n3 : W4.cell? ⟨wr.heap.size, 3, none⟩ = some (.int .i64 p3) := hn4 3
      have hJ4 := hJ _ _ _ _ hJ1 hB4
      obtain ⟨Z4, hZ4⟩ : ∃ Z4 : Nat → Prop, Z4 = fun b => Z1 b ∨ (wr.heap.size ≤ b ∧ b < W4.heap.size) := ⟨_, rfl⟩
      rw [← hZ4] at hJ4
      have hZZ : ∀ b, Z b → Z4 b := fun b hb => by rw [hZ4]; exact .inl (hZ b hb)
      have hZn : Z4 wr.heap.size := by rw [hZ4]; exact .inr ⟨Nat.le_refl _, hs4⟩
      have hk4 : ∀ b, b < W.heap.size → Z b → W4.heap[b]? = W.heap[b]? := fun b hlt hb => by
        have := hkeep b hlt hb
        exact (hB4.block b (same_lt this hlt)).trans this
      have hdr : ps.drop k = (p0, p1, p2, p3, p4, p5) :: ps.drop (k + 1) := by
        obtain ⟨h1, h2⟩ := List.getElem?_eq_some_iff.1 hp
        rw [List.drop_eq_getElem_cons hlt, h2]
      have hwk : wrap64 ((k : Int) + 1) = (k : Int) + 1 := by have : ps.length ≤ 1073741824 := hroom; simp only [wrap64]; omega
      rw [hdr] at hg
      have k5 : ∀ {A B : World} {b j : Nat} {v : Value}, KeepZ Z4 A B → Z4 b → A.cell? ⟨b, j, none⟩ = some v → B.cell? ⟨b, j, none⟩ = some v := fun hk hz hv => (World.cell?_of_block (hk _ hz)).trans hv
      by_cases hbf : bf ≤ p3
      · obtain rfl : pre = N := by simpa [givesL, hbf] using hg
        clear hg hN
        gi_wp2
        refine bodyPost_ret (results_none rfl _ _ _) rfl ?_
        exact ⟨⟨_, rfl⟩, .inl ⟨_, hJ4⟩⟩
      · have hg : pre ++ (gives n k (p0, p1, p2, p3, p4, p5) ++ givesL n bf (k + 1 : Nat) (ps.drop (k + 1))) = N := by rw [← hg]; simp [givesL, hbf]
        have hN2 : k = k → pre ++ (gives n k (p0, p1, p2, p3, p4, p5) ++ givesL n bf (k + 1 : Nat) (ps.drop (k + 1))) = N := fun _ => hg
        by_cases hd : p0 = n
        · subst hd
          obtain ⟨fn, tmps, assign, body, hy, hR⟩ := hY Z4 pre.length (k, p2) W4 hZZ (by rw [← hg]; simp [gives]) hJ4
          dsimp only at hy
          gi_wp2
          refine ⟨rfl, hR.mono ?_⟩
          rintro e W5 (⟨rfl, hJ5, hk5⟩ | ⟨rfl, hX5⟩)
          · have m1 := k5 hk5 hZn n1
            have m2 := k5 hk5 hZn n2
            have m3 := k5 hk5 (hZZ _ z3) f3
            by_cases hcr : p1 = p0
            · subst hcr
              obtain ⟨fn2, tmps2, assign2, body2, hy2, hR2⟩ := hY Z4 (pre.length + 1) (k, wrap64 (-p2)) W5 hZZ (by rw [← hg]; simp [gives]) hJ5
              dsimp only at hy2
              clear hg hN
              gi_wp2
              refine ⟨rfl, hR2.mono ?_⟩
              rintro e W6 (⟨rfl, hJ6, hk6⟩ | ⟨rfl, hX6⟩)
              · gi_wp2
                go_roundw
                case rel => exact ⟨k + 1, pre ++ [((k : Int), p2), ((k : Int), wrap64 (-p2))], Z4, by omega, by simp, by have := hN2 trivial; simpa [gives] using this, hZZ, fun b h1 h2 => (hk6 b (hZZ b h2)).trans ((hk5 b (hZZ b h2)).trans (hk4 b h1 h2)), by simpa using hJ6⟩
                case measure => simp [intOf]; omega
              · gi_wp2
                refine bodyPost_ret (results_none rfl _ _ _) rfl ?_
                exact ⟨⟨_, rfl⟩, .inr hX6⟩
            · have hcb : (p1 == p0) = false := by simp [hcr]
              clear hg hN
              gi_wp2
              all_goals try (exfalso; have hno := ‹some undef = some (Value.bool _)›; simp [undef] at hno; done)
              refine ⟨fun _ h => (by cases h), ?_⟩
              gi_wp2
              go_roundw
              case rel => exact ⟨k + 1, pre ++ [((k : Int), p2)], Z4, by omega, by simp, by have := hN2 trivial; simpa [gives, hcr] using this, hZZ, fun b h1 h2 => (hk5 b (hZZ b h2)).trans (hk4 b h1 h2), by simpa using hJ5⟩
              case measure => simp [intOf]; omega
          · clear hg hN
            gi_wp2
            all_goals try (exfalso; have hno := ‹some undef = some (Value.bool _)›; simp [undef] at hno; done)
            refine ⟨fun _ h => (by cases h), ?_⟩
            gi_wp2
            refine bodyPost_ret (results_none rfl _ _ _) rfl ?_
            exact ⟨⟨_, rfl⟩, .inr hX5⟩
        · have hdb : (p0 == n) = false := by simp [hd]
          by_cases hcr : p1 = n
          · subst hcr
            obtain ⟨fn2, tmps2, assign2, body2, hy2, hR2⟩ := hY Z4 pre.length (k, wrap64 (-p2)) W4 hZZ (by rw [← hg]; simp [gives, hd]) hJ4
            dsimp only at hy2
            clear hg hN
            gi_wp2
            all_goals try (exfalso; have hno := ‹some undef = some (Value.bool _)›; simp [undef] at hno; done)
            refine ⟨fun _ h => (by cases h), ?_⟩
            gi_wp2
            refine ⟨rfl, hR2.mono ?_⟩
            rintro e W6 (⟨rfl, hJ6, hk6⟩ | ⟨rfl, hX6⟩)
            · gi_wp2
              go_roundw
              case rel => exact ⟨k + 1, pre ++ [((k : Int), wrap64 (-p2))], Z4, by omega, by simp, by have := hN2 trivial; simpa [gives, hd] using this, hZZ, fun b h1 h2 => (hk6 b (hZZ b h2)).trans (hk4 b h1 h2), by simpa using hJ6⟩
              case measure => simp [intOf]; omega
            · gi_wp2
              refine bodyPost_ret (results_none rfl _ _ _) rfl ?_
              exact ⟨⟨_, rfl⟩, .inr hX6⟩
          · have hcb : (p1 == n) = false := by simp [hcr]
            clear hg hN
            gi_wp2
            all_goals try (exfalso; have hno := ‹some undef = some (Value.bool _)›; simp [undef] at hno; done)
            refine ⟨fun _ h => (by cases h), ?_⟩
            gi_wp2
            go_roundw
            case rel => exact ⟨k + 1, pre, Z4, by omega, by simp, by have := hN2 trivial; simpa [gives, hd, hcr] using this, hZZ, fun b h1 h2 => hk4 b h1 h2, by simpa using hJ4⟩
            case measure => simp [intOf]; omega
    · obtain rfl : k = ps.length := by omega
      obtain rfl : pre = N := by simpa [givesL] using hg
      clear hg hN
      gi_wp2
      go_end0
      exact ⟨⟨_, rfl⟩, .inl ⟨_, hJ1⟩⟩

def It53 (K : Nat) (b : Int × List (Int × Int × Int × Int × Int × Int)) (bf n : Int) : Option (List (TDen IE53)) :=
  if room b.2.length = true then some ((givesL n bf 0 b.2).map fun x => (x.1, x.2, ())) else none

theorem lr_cells {α : Type} {w : World} {S : Nat → Nat → Prop} {R : α → List Value → Prop} {n : Nat} (h : ∀ x c, R x c → c.length = n) {b o : Nat} {xs : List α} {ds : List Value} (hl : LR R xs ds) (hc : Cells w S b o ds) {k : Nat} {x : α} (hx : xs[k]? = some x) :
    ∃ c, R x c ∧ ∀ j v, c[j]? = some v → w.cell? ⟨b, o + k * n + j, none⟩ = some v ∧ S b (o + k * n + j) := by
  obtain ⟨hk, e⟩ := List.getElem?_eq_some_iff.1 hx
  obtain ⟨c, h1, h2⟩ := LR.get h x hk hl
  rw [List.getD_eq_getElem?_getD, hx] at h1
  refine ⟨c, h1, fun j v hj => ?_⟩
  rw [h2] at hj
  have := drop_some (take_some hj)
  have := hc _ _ this
  rw [Nat.add_assoc]
  exact this

theorem itok53 (K : Nat) (gl : Nat → Option DV) : ItOK Tryd.prog gl 53 ⟨IC53, IE53, fun x => It53 K x.1 x.2.1 x.2.2.1⟩ := by
  refine ⟨enters_of Tryd.func53 (by kernel_rfl) rfl, ?_⟩
  rintro ⟨bk, bf, n, u⟩ xs hx W S Z caps hgl hcaps hSZ
  simp only [It53] at hx
  split at hx
  · rename_i hroom
    cases hx
    rw [room_eq, decide_eq_true_eq] at hroom
    obtain ⟨caps⟩ := caps
    obtain ⟨p1, r1, e1, d1, p2, r2, e2, d2, p3, r3, e3, d3, e4⟩ := hcaps
    simp only at e1
    have e4 : r3 = [] := e4
    subst e4 e3 e2 e1
    obtain ⟨b1, o1, ds1, rfl, ⟨c, d, rfl, hc1, A, cap, hd1, hcap, hsl⟩, k1⟩ := DVR_ref d1
    obtain ⟨b2, o2, ds2, rfl, q2, k2⟩ := DVR_ref d2
    obtain ⟨b3, o3, ds3, rfl, q3, k3⟩ := DVR_ref d3
    have hc1 : c = [.int .i64 bk.1] := hc1
    have q2 : ds2 = [.int .i64 bf] := q2
    have q3 : ds3 = [.int .i64 n] := q3
    subst hc1 hd1 q2 q3
    have x1 := k1 1 (.slice A bk.2.length cap) rfl
    have x2 := k2 0 (.int .i64 bf) rfl
    have x3 := k3 0 (.int .i64 n) rfl
    intro l J Jx hJ hX hY h0
    have hY' : ∀ Z1 i (vs : Int × Int) W1, (∀ b, Z b → Z1 b) → (givesL n bf 0 bk.2)[i]? = some vs → J Z1 i W1 → YieldAt Fence.wide 0 Tryd.prog l #[.int .i64 vs.1, .int .i64 vs.2] W1 fun e W' =>
        (e = .returned (.bool true) ∧ J Z1 (i + 1) W' ∧ KeepZ Z1 W1 W') ∨ (e = .returned (.bool false) ∧ Jx W') := fun Z1 i vs W1 hz hv hj => hY Z1 i _ W1 hz (by
      rw [List.getElem?_map, List.getElem?_map, hv]
      rfl) hj
    have hlen : (((givesL n bf 0 bk.2).map fun x => (x.1, x.2, ())).map fun el => (encs IE53 el).toArray).length = (givesL n bf 0 bk.2).length := by simp
    rw [hlen]
    show CallsIn Fence.wide 0 Tryd.prog 53 #[.func (.yield l) #[] #[], .pointer (some ⟨b1, o1, none⟩), .pointer (some ⟨b2, o2, none⟩), .pointer (some ⟨b3, o3, none⟩)] W _
    rcases hsl with hnil | ⟨b, o, ds, rfl, hl, hcs⟩
    · exact of_runs b1 o1 b2 o2 b3 o3 0 0 cap bf n bk.2 hroom l J Jx hJ hX Z W hY' h0 (hSZ _ _ x1.2) (hSZ _ _ x2.2) (hSZ _ _ x3.2) A (fun h => absurd hnil h) x1.1 x2.1 x3.1 (fun k p hp => by rw [hnil] at hp; simp at hp)
    · have hcell : ∀ k p, bk.2[k]? = some p → ∀ j v, ([.int .i64 p.1, .int .i64 p.2.1, .int .i64 p.2.2.1, .int .i64 p.2.2.2.1, .int .i64 p.2.2.2.2.1, .int .i64 p.2.2.2.2.2] : List Value)[j]? = some v → W.cell? ⟨b, o + k * 6 + j, none⟩ = some v ∧ S b (o + k * 6 + j) := by
        intro k p hp j v hj
        obtain ⟨c, hc, hcc⟩ := lr_cells (fun _ _ => PR.length) hl hcs hp
        have : c = [.int .i64 p.1, .int .i64 p.2.1, .int .i64 p.2.2.1, .int .i64 p.2.2.2.1, .int .i64 p.2.2.2.2.1, .int .i64 p.2.2.2.2.2] := by
          obtain ⟨_, _, rfl, h1, _, _, rfl, h2, _, _, rfl, h3, _, _, rfl, h4, _, _, rfl, h5, h6⟩ := hc
          rw [show _ = _ from h1, show _ = _ from h2, show _ = _ from h3, show _ = _ from h4, show _ = _ from h5, show _ = _ from h6]
          rfl
        subst this
        exact hcc j v hj
      refine of_runs b1 o1 b2 o2 b3 o3 b o cap bf n bk.2 hroom l J Jx hJ hX Z W hY' h0 (hSZ _ _ x1.2) (hSZ _ _ x2.2) (hSZ _ _ x3.2) (some ⟨b, o, none⟩) (fun h => ⟨rfl, ?_⟩) x1.1 x2.1 x3.1 (fun k p hp => ⟨(hcell k p hp 0 _ rfl).1, (hcell k p hp 1 _ rfl).1, (hcell k p hp 2 _ rfl).1, (hcell k p hp 3 _ rfl).1, (hcell k p hp 4 _ rfl).1, (hcell k p hp 5 _ rfl).1⟩)
      obtain ⟨p, hp⟩ : ∃ p, bk.2[0]? = some p := ⟨_, List.getElem?_eq_getElem (List.length_pos_iff.2 h)⟩
      exact hSZ _ _ (hcell 0 p hp 0 _ rfl).2
  · cases hx
end Go.Proofs.YtcjjagkcdepgdaaDoor
