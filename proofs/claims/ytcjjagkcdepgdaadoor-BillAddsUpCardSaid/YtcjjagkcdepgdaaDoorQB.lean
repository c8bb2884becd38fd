import Derived.Test.YtcjjagkcdepgdaaDoorQA
import Derived.Laws.BitsLemmas
import Derived.Laws.Append
import Derived.Laws.BytesString
import Derived.MapKept
set_option linter.unusedVariables false
set_option linter.unusedSimpArgs false
/- The value machine: structs, arrays and slices that are built. -/
set_option linter.unusedVariables false
namespace Go.Q
open Go Go.RowKit

section
variable {P : Program} {e : Env} {w0 w : World} {S0 : Sx} {σ : St} {a : Act} {G : Gh} {o : Oper} {R : Type}

theorem asD_ok {t : Ty} {ov : OV} {y : t.den} {us : List Upd} {v : Value} (hv : OVR w G σ a ov v) (h : asD t ov = some (y, us)) : us = [] ∧ DVR w G.S ⟨t, y⟩ v := by
  cases ov with
  | data u x =>
    simp only [asD] at h
    split at h
    · rename_i y' hc; cases h; exact ⟨rfl, DVR.coe hc hv⟩
    · cases h
  | nil =>
    have hv' : v = .slice none 0 0 := hv
    subst hv'
    simp only [asD] at h
    split at h
    · cases h; exact ⟨rfl, [.slice none 0 0], ⟨none, 0, rfl, Nat.le_refl _, .inl rfl⟩, rfl⟩
    · cases h; exact ⟨rfl, [.slice none 0 0], ⟨none, rfl, .inl rfl⟩, rfl⟩
    · cases h; exact ⟨rfl, [.slice none 0 0], rfl, rfl⟩
    · cases h
  | _ => simp [asD] at h

theorem fold_splice : ∀ (vs : List Value) (i off : Nat) (cs : Array Value), off + i + vs.length ≤ cs.size →
    ((vs.zipIdx i).foldl (fun cs (c, j) => cs.setIfInBounds (off + j) c) cs).toList = splice cs.toList (off + i) vs.length vs
  | [], i, off, cs, h => by simp [splice]
  | v :: vs, i, off, cs, h => by
    simp only [List.length_cons] at h
    rw [List.zipIdx_cons, List.foldl_cons, fold_splice vs (i + 1) off _ (by simp; omega)]
    have hs : (cs.setIfInBounds (off + i) v).toList = cs.toList.set (off + i) v := by simp
    rw [hs, ← Nat.add_assoc]
    exact splice_set (off + i) cs.toList vs v (by simpa using (by omega : off + i < cs.size))

theorem fill_one {place : Nat → Option (Nat × Nat)} {cells : Array Value} {j : Nat} {v : Value} {l : List (Nat × Value)} {off size : Nat} (hp : place j = some (off, size)) (h1 : v.cells.size = size) (h2 : off + size ≤ cells.size) :
    ∃ cells', Instr.fill place cells ((j, v) :: l) = Instr.fill place cells' l ∧ cells'.toList = splice cells.toList off size v.cells.toList := by
  subst h1
  refine ⟨v.cells.zipIdx.foldl (fun cs (c, j) => cs.setIfInBounds (off + j) c) cells, ?_, ?_⟩
  · rw [Instr.fill, hp]
    simp only
    rw [if_neg (by simp; omega)]
  · have := fold_splice v.cells.toList 0 off cells (by simpa using h2)
    rw [← Array.foldl_toList, Array.toList_zipIdx]
    simpa using this

theorem upd_eq_set {α : Type} (l : List α) (i : Nat) (x : α) : upd l i x = l.set i x := by
  induction l generalizing i with
  | nil => rfl
  | cons a l ih => cases i <;> simp [upd, ih]

theorem DVR_size {S : Nat → Nat → Prop} {t : Ty} {x : t.den} {v : Value} (h : DVR w S ⟨t, x⟩ v) : v.cells.size = t.sz := by
  have := PR.length (DVR_cells h)
  simpa using this

theorem fillA_ok {v : Operand → OV} (hv : ∀ x, OVR w G σ a (v x) (a.eval x)) {n : Nat} {t : Ty} : ∀ (l : List (Nat × Operand)) (xs : List t.den) (us : List Upd) (cells : Array Value) {ys : List t.den} {vs : List Upd}, xs.length = n → LR (PR w G.S t) xs cells.toList →
    fillA v n t l xs us = some (ys, vs) → vs = us ∧ ys.length = n ∧ ∃ cells', Instr.fill (fun i => some (i * t.sz, t.sz)) cells (l.map fun p => (p.1, a.eval p.2)) = some cells' ∧ LR (PR w G.S t) ys cells'.toList
  | [], xs, us, cells, ys, vs, hl, hx, h => by
    simp only [fillA, Option.some.injEq, Prod.mk.injEq] at h
    obtain ⟨rfl, rfl⟩ := h
    exact ⟨rfl, hl, cells, rfl, hx⟩
  | (j, x) :: l, xs, us, cells, ys, vs, hl, hx, h => by
    simp only [fillA] at h
    split at h
    · cases h
    · rename_i hj
      have hj := Nat.le_of_ble_eq_true hj
      split at h
      · cases h
      · rename_i y vs' hy
        obtain ⟨rfl, hd⟩ := asD_ok (hv x) hy
        rw [List.append_nil] at h
        have hlen := LR.length (fun _ _ => PR.length) hx
        have hsz : j * t.sz + t.sz ≤ cells.size := by
          have : (j + 1) * t.sz ≤ xs.length * t.sz := Nat.mul_le_mul_right _ (by omega)
          rw [Nat.succ_mul] at this
          simp only [Array.length_toList] at hlen
          omega
        obtain ⟨cells', f1, f2⟩ := fill_one (place := fun i => some (i * t.sz, t.sz)) (l := l.map fun p => (p.1, a.eval p.2)) (j := j) (cells := cells) rfl (DVR_size hd) hsz
        have hset : LR (PR w G.S t) (upd xs j y) cells'.toList := by
          rw [upd_eq_set, f2]
          have := LR.set (R := PR w G.S t) (n := t.sz) (fun _ _ => PR.length) (z := y) (ds := (a.eval x).cells.toList) (j := 0) (u := t.sz) (by omega) j (xs := xs) (cs := cells.toList) (by omega) hx (fun c hc => by
            have hcl : c.length = t.sz := by
              rw [hc, List.length_take, List.length_drop, Array.length_toList]
              omega
            rw [← hcl, splice_all]
            exact DVR_cells hd)
          simpa using this
        obtain ⟨g1, g2, cells'', g3, g4⟩ := fillA_ok hv l (upd xs j y) us cells' (by rw [upd_length]; exact hl) hset h
        exact ⟨g1, g2, cells'', by rw [List.map_cons, f1]; exact g3, g4⟩

theorem fillF_ok {v : Operand → OV} (hv : ∀ x, OVR w G σ a (v x) (a.eval x)) {nf : Nat} {T : Ty} (hT : T.src = true) {place : Nat → Option (Nat × Nat)}
    (hp : ∀ j, j < nf → ∃ off u', place j = some (off, u'.sz) ∧ offP (fpath nf j) T = some (off, u')) : ∀ (l : List (Nat × Operand)) (d : DV) (us : List Upd) (cells : Array Value) {d' : DV} {vs : List Upd},
    d.t.erase = T.erase → PR w G.S d.t d.x cells.toList → fillF nf v (tyAt T) l d us = some (d', vs) →
    vs = us ∧ d'.t.erase = T.erase ∧ ∃ cells', Instr.fill place cells (l.map fun p => (p.1, a.eval p.2)) = some cells' ∧ PR w G.S d'.t d'.x cells'.toList
  | [], d, us, cells, d', vs, he, hx, h => by
    simp only [fillF, Option.some.injEq, Prod.mk.injEq] at h
    obtain ⟨rfl, rfl⟩ := h
    exact ⟨rfl, he, cells, rfl, hx⟩
  | (j, x) :: l, d, us, cells, d', vs, he, hx, h => by
    simp only [fillF] at h
    split at h
    · cases h
    rename_i hj
    have hj := Nat.le_of_ble_eq_true hj
    split at h
    · cases h
    · rename_i t ht
      split at h
      · cases h
      · rename_i y vs' hy
        obtain ⟨rfl, hd⟩ := asD_ok (hv x) hy
        rw [List.append_nil] at h
        split at h
        · cases h
        · rename_i d1 hd1
          unfold tyAt at ht
          split at ht
          · rename_i u z hg
            cases ht
            obtain ⟨off, u', p1, p2⟩ := hp j hj
            obtain ⟨rfl, _⟩ := getP_PR (w := w) (S := G.S) _ (zc_PR hT) hg p2
            obtain ⟨u2, q1, q2⟩ := erase_offP (fpath nf j) he.symm p2
            have hle := offP_le _ q1
            rw [← erase_sz q2] at hle
            have hcl := PR.length hx
            rw [Array.length_toList] at hcl
            obtain ⟨cells', f1, f2⟩ := fill_one (l := l.map fun p => (p.1, a.eval p.2)) (cells := cells) p1 (DVR_size hd) (by omega)
            have hset := setP_PR (fun b o hs => ⟨hs, rfl⟩) (fpath nf j) hx hd1 q1 (DVR_cells hd)
            rw [← erase_sz q2, ← f2] at hset
            obtain ⟨g1, g2, cells'', g3, g4⟩ := fillF_ok hv hT hp l d1 us cells' ((setP_erase _ hd1).trans he) hset h
            exact ⟨g1, g2, cells'', by rw [List.map_cons, f1]; exact g3, g4⟩
          · cases ht
end

end Go.Q

/- The value machine: what is built; new slices; stores. -/
set_option linter.unusedVariables false
namespace Go.Q
open Go Go.RowKit

section
variable {P : Program} {e : Env} {w0 w : World} {S0 : Sx} {σ : St} {a : Act} {G : Gh} {o : Oper} {R : Type}

theorem run_places (fs : Array Field) (hf : ∀ (j : Nat) (f : Field), fs[j]? = some f → ∃ v, e.ty f.type = some v) (hE : EnvOK P e) :
    ∃ pl : Array (Nat × Nat), (fs.mapM fun (f : Field) => do pure (f.offset, ← sizeOf f.type) : Sem (Array (Nat × Nat))).run P w = .ok pl w ∧ ∀ (j : Nat) (f : Field) (v : Ty), fs[j]? = some f → e.ty f.type = some v → pl[j]? = some (f.offset, v.sz) := by
  have hl : ∀ l : List Field, (∀ (j : Nat) (f : Field), l[j]? = some f → ∃ v, e.ty f.type = some v) → ∃ pl : List (Nat × Nat), (l.mapM fun (f : Field) => do pure (f.offset, ← sizeOf f.type) : Sem (List (Nat × Nat))).run P w = .ok pl w ∧ ∀ (j : Nat) (f : Field) (v : Ty), l[j]? = some f → e.ty f.type = some v → pl[j]? = some (f.offset, v.sz) := by
    intro l
    induction l with
    | nil => intro _; exact ⟨[], by simp, fun j f v h => by simp at h⟩
    | cons f l ih =>
      intro h
      obtain ⟨v, hv⟩ := h 0 f rfl
      obtain ⟨pl, h1, h2⟩ := ih fun j f' h' => h (j + 1) f' (by simpa using h')
      refine ⟨(f.offset, v.sz) :: pl, ?_, ?_⟩
      · simp only [List.mapM_cons, Sem.run_bind, run_sizeOf (hE.ty _ _ hv).1, Result.andThen_ok, Sem.run_pure]
        rw [h1]
        rfl
      · intro j f' v' hj hv'
        cases j with
        | zero =>
          simp only [List.getElem?_cons_zero, Option.some.injEq] at hj
          subst hj
          rw [hv] at hv'
          cases hv'
          rfl
        | succ j => exact h2 j f' v' (by simpa using hj) hv'
  obtain ⟨pl, h1, h2⟩ := hl fs.toList (fun j f h => hf j f (by simpa using h))
  refine ⟨pl.toArray, ?_, fun j f v h hv => by simpa using h2 j f v (by simpa using h) hv⟩
  rw [Array.mapM_eq_mapM_toList, Sem.run_map, h1]
  rfl

theorem zero_fill {z : Array Value} (n : Nat) : ((Array.range (n * z.size)).map (z[· % z.size]!)).toList = (List.replicate n z.toList).flatten := by
  rw [Array.toList_map, Array.toList_range]
  induction n with
  | zero => simp
  | succ n ih =>
    rw [Nat.succ_mul, Nat.add_comm, List.range_add, List.map_append, List.map_map, List.replicate_succ, List.flatten_cons, ← ih]
    congr 1
    · apply List.ext_getElem
      · simp
      · intro i h1 h2
        simp only [List.length_map, List.length_range] at h1
        simp [Nat.mod_eq_of_lt h1, h1]
    · apply List.map_congr_left
      intro i hi
      simp

theorem zrow {t : TypeId} {T : Ty} (hT : TyB P t T) {z : Value} (hz : z.cells.toList = zc T) (n : Nat) {S : Nat → Nat → Prop} :
    LR (PR w S T) (List.replicate n T.zero) ((Array.range (n * T.sz)).map ((if n * T.sz = 0 then #[] else z.cells)[· % (if n * T.sz = 0 then #[] else z.cells : Array Value).size]!)).toList := by
  have hl : z.cells.size = T.sz := by
    have := PR.length (zc_PR (w := w) (S := S) hT.src)
    rw [← hz] at this
    simpa using this
  have hr := LR.rep (zc_PR (w := w) (S := S) hT.src) n
  by_cases h0 : n * T.sz = 0
  · rw [if_pos h0, h0]
    have hh : (List.replicate n (zc T)).flatten = [] := by
      have := LR.length (fun _ _ => PR.length) hr
      rw [List.length_replicate, h0] at this
      exact List.eq_nil_of_length_eq_zero this
    rw [hh] at hr
    simpa using hr
  · rw [if_neg h0, ← hl, zero_fill, hz]
    exact hr

theorem parts_list (a : Act) (parts : Array (Nat × Operand)) : (parts.map fun (i, x) => (i, a.eval x)).toList = parts.toList.map fun p => (p.1, a.eval p.2) := by
  rw [Array.toList_map]

theorem evBuild_ok (hE : EnvOK P e) (h : RelG w0 S0 σ a w G) {v : Operand → OV} (hv : ∀ x, OVR w G σ a (v x) (a.eval x)) {t : TypeId} {parts : Array (Nat × Operand)} {k : List Upd → Option R} {r : R} (ho : o.op = .build t parts)
    (hk : evBuild (e.nf t) (e.ty t) v parts.toList o.dst k = some r) : ∃ us, k us = some r ∧ OpS P w0 S0 o σ a w us := by
  unfold evBuild at hk
  split at hk
  · cases hk
  · rename_i n u hT
    obtain ⟨hB, el, hu, he⟩ := hE.ty t _ hT
    obtain ⟨z, hz, hc⟩ := run_zeroValue hB w
    have hBe := (hE.ty el u he).1
    split at hk
    · rename_i xs us hf
      have h0 : LR (PR w G.S u) (List.replicate n u.zero) z.cells.toList := by
        rw [hc]
        exact LR.rep (zc_PR hBe.src) n
      obtain ⟨rfl, h1, cells, h2, h3⟩ := fillA_ok hv _ _ _ _ (by simp) h0 hf
      refine ⟨_, hk, op_data h (v := .agg cells) ?_ ⟨cells.toList, ⟨h1, h3⟩, rfl⟩⟩
      simp only [execOp, ho, Sem.run_bind, Instr.build, hz, Result.andThen_ok, run_underlying hu, run_sizeOf hBe, parts_list, h2, Sem.run_pure]
    · cases hk
  · rename_i T hna hT
    obtain ⟨hB, hU⟩ := hE.ty t T hT
    obtain ⟨z, hz, hc⟩ := run_zeroValue hB w
    split at hk
    · cases hk
    · rename_i hA
      split at hk
      · rename_i u x us hf
        have hs : ∃ fs, P.underlying t = some (.struct fs) ∧ fs.size = e.nf t := by
          cases T with
          | arr n u => exact (hna n u rfl).elim
          | unit => exact hU
          | one u => exact hU
          | pair u v => exact hU
          | _ => simp [Ty.agg] at hA
        obtain ⟨fs, hu, hsz⟩ := hs
        have hfs : ∀ (j : Nat) (f : Field), fs[j]? = some f → ∃ off v, offP (fpath (e.nf t) j) T = some (off, v) ∧ f.offset = off ∧ e.ty f.type = some v := fun j f hj => by
          have hlt : j < fs.size := by
            by_cases hlt : j < fs.size
            · exact hlt
            · rw [Array.getElem?_eq_none (by omega)] at hj; cases hj
          obtain ⟨fs', f', off, v, q1, q2, q3, q4, q5, _⟩ := hE.nf t T j hT (by omega)
          rw [hu] at q1
          cases q1
          rw [hj] at q2
          cases q2
          exact ⟨off, v, q3, q4, q5⟩
        obtain ⟨pl, p1, p2⟩ := run_places (w := w) fs (fun j f hj => by obtain ⟨_, v, _, _, q⟩ := hfs j f hj; exact ⟨v, q⟩) hE
        have h0 : PR w G.S T.up T.up.zero z.cells.toList := by rw [hc]; exact zc_up hB.src
        have hup : T.up.erase = T.erase := by
          clear hf hna hT hB hU hz hc hA hfs h0
          induction T with
          | one t ih => simp [Ty.up, Ty.erase, ih]
          | pair a b ih1 ih2 => simp [Ty.up, Ty.erase, ih1, ih2]
          | _ => rfl
        obtain ⟨rfl, h1, cells, h2, h3⟩ := fillF_ok hv hB.src (place := (pl[·]?)) (fun j hj => by
          have hj' : j < fs.size := by omega
          obtain ⟨off, v, q1, q2, q3⟩ := hfs j fs[j] (Array.getElem?_eq_getElem hj')
          exact ⟨off, v, by rw [← q2]; exact p2 j _ v (Array.getElem?_eq_getElem hj') q3, q1⟩) _ _ _ _ hup h0 hf
        refine ⟨_, hk, op_data h (v := .agg cells) ?_ ⟨cells.toList, h3, ?_⟩⟩
        · simp only [execOp, ho, Sem.run_bind, Instr.build, hz, Result.andThen_ok, run_underlying hu, p1, parts_list, h2, Sem.run_pure]
        · simp only [pack, erase_agg h1, hA, if_true]
      · cases hk
end

end Go.Q

/- The value machine: new slices; stores. -/
set_option linter.unusedVariables false
namespace Go.Q
open Go Go.RowKit

section
variable {P : Program} {e : Env} {w0 w : World} {S0 : Sx} {σ : St} {a : Act} {G : Gh} {o : Oper} {R : Type}

theorem rel_new (h : RelG w0 S0 σ a w G) (dst : Option Nat) {t : Ty} {xs : List t.den} {n cap : Nat} {arr : Array Value} {el : TypeId} {fr : Nat × Nat} (hn : n = xs.length) (hc : xs.length ≤ cap) (hz : arr.size = cap * t.sz) (hu : Unfrozen fr arr.size) (hx : LR (PR w G.S t) xs (arr.toList.take (xs.length * t.sz))) :
    Rel w0 S0 (σ.app (sets dst (.vec t xs))) (a.put dst (.slice (some ⟨w.heap.size, 0, none⟩) n cap)) (w.alloc (.cells arr el fr)) := by
  subst hn
  have hB : Below w.heap.size w (w.alloc (.cells arr el fr)) := (Below.refl _ w).alloc (Nat.le_refl _) _
  cases dst with
  | none => exact ⟨_, rel_give h (.cells arr el fr) (.sl 0)⟩
  | some d =>
    have h' := rel_give h (.cells arr el fr) (.sl d)
    refine ⟨_, rel_put h' d (.inr ⟨_, cap, arr, el, fr, rfl, hc, alloc_new w _, hz, hu, by simp [Gh.give], LR.mono (fun _ _ => PR.mono fun b o hs => ⟨hs, hB.cell (p := ⟨b, o, none⟩) (h.inv.st b o hs)⟩) hx⟩)⟩

theorem evBuildSlice_ok (hE : EnvOK P e) (h : RelG w0 S0 σ a w G) {v : Operand → OV} (hv : ∀ x, OVR w G σ a (v x) (a.eval x)) {t : TypeId} {n : Nat} {parts : Array (Nat × Operand)} {k : List Upd → Option R} {r : R} (ho : o.op = .buildSlice t n parts)
    (hk : evBuildSlice (e.ty t) v n parts.toList o.dst k = some r) : ∃ us, k us = some r ∧ OpS P w0 S0 o σ a w us := by
  unfold evBuildSlice at hk
  split at hk
  · rename_i T u hT
    split at hk
    · cases hk
    · rename_i hle
      have hle := Nat.le_of_ble_eq_true hle
      split at hk
      · rename_i xs us hf
        obtain ⟨hB, el, hu, he⟩ := hE.ty t _ hT
        have hBe := (hE.ty el u he).1
        obtain ⟨z, hz, hc⟩ := run_zeroValue hBe w
        obtain ⟨rfl, h1, cells, h2, h3⟩ := fillA_ok hv _ _ _ _ (by simp) (zrow hBe hc n) hf
        refine ⟨_, hk, ?_⟩
        intro next Q kk
        have hcs : cells.size = n * u.sz := by
          have := LR.length (fun _ _ => PR.length) h3
          rw [h1] at this
          simpa using this
        have hr : (execOp a.eval o).run P w = .ok (.value (.slice (some ⟨w.heap.size, 0, none⟩) n n)) (w.alloc (.cells cells el)) := by
          simp only [execOp, ho, Sem.run_bind, Instr.buildSlice, Result.andThen_ok, run_underlying hu, run_sizeOf hBe, parts_list]
          rw [if_neg (by omega)]
          by_cases h0 : n * u.sz = 0
          · rw [if_pos h0] at h2 ⊢
            simp only [Sem.run_bind, Sem.run_pure, Result.andThen_ok, h2, newRow, run_newObj, World.alloc_eq]
          · rw [if_neg h0] at h2 ⊢
            simp only [Sem.run_bind, Sem.run_pure, Result.andThen_ok, hz, h2, newRow, run_newObj, World.alloc_eq]
        refine op_value hr (kk _ _ ?_)
        refine rel_new h o.dst h1.symm (by omega) hcs (.inl rfl) ?_
        rw [h1, ← hcs, ← Array.length_toList, List.take_length]
        exact h3
      · cases hk
  · cases hk

theorem asI_ok {ov : OV} {n : Int} {v : Value} (hv : OVR w G σ a ov v) (h : asI ov = some n) : ∃ k, v = .int k n := by
  cases ov with
  | data t x =>
    cases t <;> simp only [asI] at h <;> first | (cases h; exact ⟨_, DVR_int hv⟩) | cases h
  | _ => simp [asI] at h

theorem wrap_small {n : Int} (h0 : 0 ≤ n) (h1 : n ≤ 1073741824) : IntKind.i64.wrap n = n := by
  rw [IntKind.wrap_i64]; omega

theorem evMakeSlice_ok (hE : EnvOK P e) (h : RelG w0 S0 σ a w G) {t : TypeId} {u : Ty} (hT : e.ty t = some (.list u)) {l c : Operand} (ho : o.op = .makeSlice t l c) {n : Int} (h0 : 0 ≤ n) (h1 : n ≤ 1073741824) (hl : a.eval l = .int .i64 n) (hc : a.eval c = .int .i64 n) :
    OpS P w0 S0 o σ a w (sets o.dst (.vec u (List.replicate n.toNat u.zero))) := by
  obtain ⟨hB, el, hu, he⟩ := hE.ty t _ hT
  have hBe := (hE.ty el u he).1
  obtain ⟨z, hz, hzc⟩ := run_zeroValue hBe w
  obtain ⟨i, hi1, hi2, hi3, _⟩ := hBe
  have hbytes : ¬ ((i.bytes : Int) * n > 2 ^ 48) := by
    have : (i.bytes : Int) * n ≤ 65536 * 1073741824 := Int.mul_le_mul (by omega) h1 h0 (by omega)
    omega
  have hbz : ¬ (n.toNat * i.bytes > roomBytes) := by
    have : n.toNat * i.bytes ≤ 1073741824 * 65536 := Nat.mul_le_mul (by omega) hi3
    simp only [roomBytes]
    omega
  intro next Q kk
  have hrow := zrow (w := w) (S := G.S) (hE.ty el u he).1 hzc n.toNat
  generalize hcells : ((Array.range (n.toNat * u.sz)).map ((if n.toNat * u.sz = 0 then #[] else z.cells)[· % (if n.toNat * u.sz = 0 then #[] else z.cells : Array Value).size]!)) = cells at hrow
  have hr : (execOp a.eval o).run P w = .ok (.value (.slice (some ⟨w.heap.size, 0, none⟩) n.toNat n.toNat)) (w.alloc (.cells cells el)) := by
    simp only [execOp, ho, Sem.run_bind, Instr.makeSlice, Result.andThen_ok, run_underlying hu, hl, hc, asInt, asIntOf, Sem.run_pure, run_typeInfo hi1, wrap_small h0 h1]
    rw [if_neg (by simp; omega)]
    simp only [askRoom, if_neg hbz, Sem.run_pure, Result.andThen_ok, Sem.run_bind, run_sizeOf (hE.ty el u he).1]
    by_cases hz0 : n.toNat * u.sz = 0
    · rw [if_pos hz0] at hcells ⊢
      simp only [Sem.run_bind, Sem.run_pure, Result.andThen_ok, hcells, newRow, run_newObj, World.alloc_eq]
    · rw [if_neg hz0] at hcells ⊢
      simp only [Sem.run_bind, Sem.run_pure, Result.andThen_ok, hz, hcells, newRow, run_newObj, World.alloc_eq]
  have hcs : cells.size = n.toNat * u.sz := by rw [← hcells]; simp
  refine op_value hr (kk _ _ ?_)
  refine rel_new h o.dst (by simp) (by simp) hcs (.inl rfl) ?_
  rw [List.length_replicate, ← hcs, ← Array.length_toList, List.take_length]
  exact hrow

/-! ### Stores -/
theorem setP_ty : ∀ (p : List Stp) {t : Ty} {x : t.den} {d d' : DV} {i : Nat} {u : Ty}, setP p t x d = some d' → offP p t = some (i, u) → u.erase = d.t.erase
  | [], t, x, d, d', i, u, h, k => by
    simp only [offP, Option.some.injEq, Prod.mk.injEq] at k
    obtain ⟨_, rfl⟩ := k
    simp only [setP] at h
    split at h
    · rename_i e; exact Ty.eqb_eq e
    · cases h
  | .o :: p, .one t, x, d, d', i, u, h, k => by
    simp only [setP] at h
    split at h
    · rename_i e; exact setP_ty p e k
    · cases h
  | .f :: p, .pair a b, x, d, d', i, u, h, k => by
    simp only [setP] at h
    split at h
    · rename_i e; exact setP_ty p e k
    · cases h
  | .s :: p, .pair a b, x, d, d', i, u, h, k => by
    simp only [setP] at h
    simp only [offP] at k
    split at h
    · rename_i e
      split at k
      · rename_i e2
        simp only [Option.some.injEq, Prod.mk.injEq] at k
        obtain ⟨_, rfl⟩ := k
        exact setP_ty p e e2
      · cases k
    · cases h
  | .i n :: p, .arr m t, x, d, d', i, u, h, k => by
    simp only [setP] at h
    simp only [offP] at k
    split at k
    · split at k
      · rename_i e2
        simp only [Option.some.injEq, Prod.mk.injEq] at k
        obtain ⟨_, rfl⟩ := k
        split at h
        · split at h
          · rename_i e
            exact setP_ty p e e2
          · cases h
        · cases h
      · cases k
    · cases k

theorem not_mp {d d' y : DV} {p : List Stp} (hs : setP p d.t d.x y = some d') {S : Nat → Nat → Prop} {cs : List Value} (hy : PR w S y.t y.x cs) : ∀ kk ek, d.t ≠ .mp kk ek := by
  intro kk ek e
  obtain ⟨dt, dx⟩ := d
  obtain ⟨yt, yx⟩ := y
  simp only at e
  subst e
  cases p with
  | nil =>
    simp only [setP] at hs
    split at hs
    · rename_i he
      have he := Ty.eqb_eq he
      cases yt <;> simp [Ty.erase] at he
      exact hy.elim
    · cases hs
  | cons q p => cases q <;> simp [setP] at hs

/-- A part of a variable is written: what it holds then is what it may hold. -/
theorem rel_bxC (h : RelG w0 S0 σ a w G) {k : Nat} {d d' : DV} (hk : (σ.box k).d = some d) {p : List Stp} {u : Ty} {off : Nat} {cs : List Value} {y : DV} (hs : setP p d.t d.x y = some d') (ho : offP p d.t = some (off, u))
    {ji : Nat} {news : List Value} {arr : Array Value} {ee : TypeId} (b1 : w.heap[G.β k]? = some (.cells arr ee (0, 0))) (hji : ji + news.length ≤ arr.size) (hcs : splice arr.toList ji news.length news = splice arr.toList off u.sz cs)
    (hy : CR w G k (bits p []) y.t y.x cs) : RelG w0 S0 (σ.do1 (.bx k false d')) a (w.setCells (G.β k) ji news) G := by
  obtain ⟨arr0, ee0, b1', b2, b3⟩ : ∃ arr e, w.heap[G.β k]? = some (.cells arr e (0, 0)) ∧ G.own (G.β k) = some (.me k) ∧ CR w G k [] d.t d.x arr.toList := by
    rcases h.bx k d hk with q | ⟨_, _, _, _, _, es, clock, m1, _⟩
    · exact q
    · rw [b1] at m1; cases m1
  rw [b1] at b1'
  cases b1'
  obtain ⟨x1, x2, x3⟩ := h.inv.ex _ _ b2
  obtain ⟨arr', c1, c2⟩ := heap_setCells_same (G.β k) news ji w arr ee (0, 0) b1 hji
  have hoth : ∀ g, g ≠ G.β k → (w.setCells (G.β k) ji news).heap[g]? = w.heap[g]? := fun g hg => heap_setCells_other _ news ji w g hg
  have hkl : k < σ.bx.length := by
    by_cases hlt : k < σ.bx.length
    · exact hlt
    · exfalso
      have : σ.box k = box0 := nth_out box0 σ.bx k (by omega)
      rw [this] at hk
      cases hk
  have hbox : ∀ j, (σ.do1 (.bx k false d')).box j = if j = k then ⟨(σ.box k).g, (σ.box k).n + 1, some d'⟩ else σ.box j := fun j => by
    rw [box_bx]
    by_cases hj : j = k
    · rw [if_pos ⟨hj, hkl⟩, if_pos hj]; rfl
    · rw [if_neg (fun e => hj e.1), if_neg hj]
  have hS : ∀ b o, G.S b o → G.S b o ∧ (w.setCells (G.β k) ji news).cell? ⟨b, o, none⟩ = w.cell? ⟨b, o, none⟩ := fun b o hs =>
    ⟨hs, World.cell?_of_block (w := w) (hoth b fun e => by subst e; exact x3 o hs)⟩
  have hne : ∀ j dv, (σ.box j).d = some dv → j ≠ k → G.β j ≠ G.β k := fun j dv hj hjk e => by
    have f2 := (h.bx j dv hj).own
    rw [e, b2] at f2
    cases f2
    exact hjk rfl
  have K : Keep w G σ a (w.setCells (G.β k) ji news) G (σ.do1 (.bx k false d')) a := by
    refine ⟨hS, fun s => ⟨Nat.le_refl _, fun _ => ⟨rfl, rfl⟩⟩, fun j => ?_⟩
    rw [hbox]
    by_cases hj : j = k
    · rw [if_pos hj]
      subst hj
      refine ⟨Nat.le_refl _, fun _ => ⟨by simp, fun dv hd => ⟨rfl, d', rfl, ?_, fun e => by simp at e⟩⟩⟩
      rw [hk] at hd
      cases hd
      exact setP_erase p hs
    · rw [if_neg hj]
      exact ⟨Nat.le_refl _, fun _ => ⟨Nat.le_refl _, fun dv hd => ⟨rfl, dv, hd, rfl, fun _ => ⟨rfl, hoth _ (hne j dv hd hj)⟩⟩⟩⟩
  have hown : ∀ g l, G.own g = some l → l ≠ .me k → g ≠ G.β k := fun g l hg hl e => by
    rw [e, b2] at hg
    cases hg
    exact hl rfl
  refine h.step K ⟨h.inv.below.trans (setCells_below w _ ji news x1), fun b o hs => by rw [setCells_size]; exact h.inv.st b o hs, fun b l hl => by rw [setCells_size]; exact h.inv.ex b l hl, h.inv.s0, h.inv.s1,
    fun b o hk => ⟨(hoth b (fun e => by have := (h.inv.kp b o hk).2; rw [e, b2] at this; cases this)).trans (h.inv.kp b o hk).1, (h.inv.kp b o hk).2⟩⟩ h.dfr h.szs (by rw [len_bx, len_sl, h.szb]) (fun i => .inr ⟨rfl, rfl, fun g hg => ⟨hg, hoth g (hown g _ hg (fun e => by cases e))⟩⟩) (fun j dv hd => ?_)
  rw [hbox] at hd
  by_cases hj : j = k
  · rw [if_pos hj] at hd
    subst hj
    cases hd
    left
    refine .inl ⟨arr', ee, c1, b2, ?_⟩
    rw [c2, hcs]
    exact setP_CR hS p b3 hs ho (fun g r hg _ => ⟨hg, hoth g (hown g _ hg (fun e => by cases e))⟩) (CR.mono hS (fun g q hg => ⟨hg, hoth g (hown g _ hg (fun e => by cases e))⟩) hy)
  · rw [if_neg hj] at hd
    refine .inr ⟨hd, rfl, fun g hg => ⟨rfl, hoth g ?_⟩⟩
    rcases hg with hg | ⟨q, hg⟩
    · exact hown g _ hg (fun e => by cases e; exact hj rfl)
    · exact hown g _ hg (fun e => by cases e)

theorem rel_bx' (h : RelG w0 S0 σ a w G) {k : Nat} {d d' : DV} (hk : (σ.box k).d = some d) {p : List Stp} {u : Ty} {off : Nat} {cs : List Value} {y : DV} (hs : setP p d.t d.x y = some d') (ho : offP p d.t = some (off, u))
    {ji : Nat} {news : List Value} {arr : Array Value} {ee : TypeId} (b1 : w.heap[G.β k]? = some (.cells arr ee (0, 0))) (hji : ji + news.length ≤ arr.size) (hcs : splice arr.toList ji news.length news = splice arr.toList off u.sz cs)
    (hy : PR w G.S y.t y.x cs) : RelG w0 S0 (σ.do1 (.bx k false d')) a (w.setCells (G.β k) ji news) G :=
  rel_bxC h hk hs ho b1 hji hcs (CR.of_PR hy)

theorem rel_bx (h : RelG w0 S0 σ a w G) {k : Nat} {d d' : DV} (hk : (σ.box k).d = some d) {p : List Stp} {u : Ty} {off : Nat} {cs : List Value} {y : DV} (hs : setP p d.t d.x y = some d') (ho : offP p d.t = some (off, u)) (hl : cs.length = u.sz)
    (hy : PR w G.S y.t y.x cs) : RelG w0 S0 (σ.do1 (.bx k false d')) a (w.setCells (G.β k) off cs) G := by
  obtain ⟨arr, ee, b1, b2, b3⟩ := (h.bx k d hk).cells (not_mp hs hy)
  have hle := offP_le p ho
  have hal := CR.length b3
  rw [Array.length_toList] at hal
  exact rel_bx' h hk hs ho b1 (by omega) (by rw [hl]) hy

theorem run_store_box (h : RelG w0 S0 σ a w G) {k : Nat} {d : DV} (hk : (σ.box k).d = some d) {p : List Stp} {u : Ty} {off : Nat} {cs : List Value} (ho : offP p d.t = some (off, u)) (hl : cs.length = u.sz) (h1 : One cs) (hn : ∀ kk ek, d.t ≠ .mp kk ek) :
    (storeCells ⟨G.β k, off, none⟩ cs).run P w = .ok () (w.setCells (G.β k) off cs) := by
  obtain ⟨arr, ee, b1, b2, b3⟩ := (h.bx k d hk).cells hn
  have hle := offP_le p ho
  have hal := CR.length b3
  rw [Array.length_toList] at hal
  exact run_storeCells_cells (G.β k) off cs 0 w (fun j hj => by rw [box_cells b1, Nat.add_zero, Array.getElem?_eq_getElem (by omega)]; rfl) (fun j hj => by simp [World.frozen?, b1]) (fun v hv => Value.one' (h1 v hv))

theorem evStore_ok (hE : EnvOK P e) (h : RelG w0 S0 σ a w G) {v : Operand → OV} (hv : ∀ x, OVR w G σ a (v x) (a.eval x)) {t : TypeId} {ad x : Operand} {k : List Upd → Option R} {r : R} (ho : o.op = .store t ad x) (hd : o.dst = none)
    (hk : evStore (e.ty t) (v ad) (v x) k = some r) : ∃ us, k us = some r ∧ OpS P w0 S0 o σ a w us := by
  unfold evStore at hk
  split at hk
  · cases hk
  · rename_i T hT
    split at hk
    · cases hk
    · rename_i y us hy
      obtain ⟨rfl, hyd⟩ := asS_ok (hv x) hy
      split at hk
      · cases hk
      · rename_i hc
        obtain ⟨T', e1, he⟩ := chk_eq hc
        cases e1
        split at hk
        · rename_i b g p d had
          split at hk
          · rename_i d' hs
            refine ⟨_, hk, ?_⟩
            have hva := hv ad
            rw [had] at hva
            obtain ⟨f1, f2, off, u, f3, f4⟩ := hva
            obtain ⟨hB, hU⟩ := hE.ty t T hT
            have hyc := DVR_cells hyd
            have hyl := PR.length hyc
            rw [Array.length_toList] at hyl
            have hty : u.sz = y.t.sz := erase_sz (setP_ty p hs f3)
            intro next Q kk
            have hr : (execOp a.eval o).run P w = .ok .skip (w.setCells (G.β b) off (a.eval x).cells.toList) := by
              simp only [execOp, ho, Sem.run_bind, Instr.storeAt, f4, Instr.sureAddr, Sem.run_pure, Result.andThen_ok, storeVar, run_sizeOf hB, hyl, erase_sz he]
              rw [if_neg (by simp)]
              rw [run_store_box h f2 f3 (by rw [hty, ← hyl, Array.length_toList]) (PR.one hyc) (not_mp hs hyc)]
              rfl
            refine op_skip hr (kk _ _ ?_)
            rw [hd]
            exact ⟨G, rel_bx h f2 hs f3 (by rw [hty, ← hyl, Array.length_toList]) hyc⟩
          · cases hk
        · cases hk
end

end Go.Q

/- The value machine: slices of slices; places. -/
set_option linter.unusedVariables false
namespace Go.Q
open Go Go.RowKit

section
variable {P : Program} {e : Env} {w0 w : World} {S0 : Sx} {σ : St} {a : Act} {G : Gh} {o : Oper} {R : Type}

theorem list_erase {T t : Ty} {d : TypeId} (h : T.erase = Ty.erase (.list t)) (hU : TyU P e d T) : T = .list t := by
  cases T <;> simp only [Ty.erase, Ty.list.injEq, reduceCtorEq] at h <;> first | (subst h; rfl) | exact hU.elim

theorem chk_list (hE : EnvOK P e) {t : TypeId} {u : Ty} (h : chk (e.ty t) (.list u) = true) : ∃ el, P.underlying t = some (.slice el) ∧ e.ty el = some u := by
  obtain ⟨T, hT, he⟩ := chk_eq h
  obtain ⟨hB, hU⟩ := hE.ty t T hT
  obtain rfl := list_erase he hU
  exact hU

theorem chk_arr (hE : EnvOK P e) {t : TypeId} {n : Nat} {u : Ty} (h : chk (e.ty t) (.arr n u) = true) : ∃ el, P.underlying t = some (.array n el) ∧ e.ty el = some u := by
  obtain ⟨T, hT, he⟩ := chk_eq h
  obtain ⟨hB, hU⟩ := hE.ty t T hT
  obtain rfl := arr_erase he.symm
  exact hU

theorem chk_str (hE : EnvOK P e) {t : TypeId} (h : chk (e.ty t) .str = true) : P.underlying t = some .string := by
  obtain ⟨T, hT, he⟩ := chk_eq h
  obtain ⟨hB, hU⟩ := hE.ty t T hT
  cases T <;> simp only [Ty.erase, reduceCtorEq] at he
  exact hU

/-! ### Bounds -/
theorem run_bound {k : IntKind} {i : Int} {y : Nat} {code : BoundsCode} (h0 : 0 ≤ i) (h1 : i ≤ (y : Int)) : (Instr.sliceBound (.int k i) y code).run P w = .ok i.toNat w := by
  simp [Instr.sliceBound, asIntOf, h0, h1]

theorem bounds2 {v : Operand → OV} (hv : ∀ x, OVR w G σ a (v x) (a.eval x)) {lo hi : Option Operand} {l h : Int} {isS : Bool} {len cap : Nat} (hlo : bnd v 0 lo = some l) (hhi : bnd v len hi = some h) (h0 : 0 ≤ l) (h1 : l ≤ h) (h2 : h ≤ (len : Int)) (hc : len ≤ cap) :
    (Instr.sliceBounds isS len cap (lo.map a.eval) (hi.map a.eval) none).run P w = .ok (l.toNat, h.toNat, cap) w := by
  unfold Instr.sliceBounds
  cases hi with
  | none =>
    simp only [bnd, Option.some.injEq] at hhi
    subst hhi
    cases lo with
    | none =>
      simp only [bnd, Option.some.injEq] at hlo
      subst hlo
      simp
    | some x =>
      obtain ⟨k, hx⟩ := asI_ok (hv x) hlo
      simp only [Option.map_some, Option.map_none, hx, Sem.run_bind, Sem.run_pure, Result.andThen_ok]
      rw [run_bound h0 (by omega)]
      simp
  | some y =>
    obtain ⟨ky, hy⟩ := asI_ok (hv y) hhi
    cases lo with
    | none =>
      simp only [bnd, Option.some.injEq] at hlo
      subst hlo
      simp only [Option.map_some, Option.map_none, hy, Sem.run_bind, Sem.run_pure, Result.andThen_ok]
      rw [run_bound (by omega) (by omega)]
      simp
    | some x =>
      obtain ⟨k, hx⟩ := asI_ok (hv x) hlo
      simp only [Option.map_some, hx, hy, Sem.run_bind, Sem.run_pure, Result.andThen_ok]
      rw [run_bound (by omega) (by omega)]
      simp only [Result.andThen_ok]
      rw [run_bound h0 (by omega)]
      simp

theorem bounds3 {v : Operand → OV} (hv : ∀ x, OVR w G σ a (v x) (a.eval x)) {lo : Option Operand} {x m : Operand} {l h : Int} {isS : Bool} {len cap : Nat} (hlo : bnd v 0 lo = some l) (hhi : asI (v x) = some h) (hm : asI (v m) = some h) (h0 : 0 ≤ l) (h1 : l ≤ h) (h2 : h ≤ (len : Int)) (hc : len ≤ cap) :
    (Instr.sliceBounds isS len cap (lo.map a.eval) (some (a.eval x)) (some (a.eval m))).run P w = .ok (l.toNat, h.toNat, h.toNat) w := by
  obtain ⟨k1, hx⟩ := asI_ok (hv x) hhi
  obtain ⟨k2, hmx⟩ := asI_ok (hv m) hm
  unfold Instr.sliceBounds
  cases lo with
  | none =>
    simp only [bnd, Option.some.injEq] at hlo
    subst hlo
    simp only [Option.map_none, hx, hmx, Sem.run_bind, Sem.run_pure, Result.andThen_ok]
    rw [run_bound (by omega) (by omega)]
    simp only [Result.andThen_ok]
    rw [run_bound (by omega) (by omega)]
    simp
  | some z =>
    obtain ⟨k, hz⟩ := asI_ok (hv z) hlo
    simp only [Option.map_some, hx, hmx, hz, Sem.run_bind, Sem.run_pure, Result.andThen_ok]
    rw [run_bound (by omega) (by omega)]
    simp only [Result.andThen_ok]
    rw [run_bound (by omega) (by omega)]
    simp only [Result.andThen_ok]
    rw [run_bound h0 (by omega)]
    simp

theorem evSliceB_ok {v : Operand → OV} {len : Int} {lo hi : Option Operand} {k : Int → Int → Option R} {r : R} (h : evSliceB v len lo hi k = some r) : ∃ l h, bnd v 0 lo = some l ∧ bnd v len hi = some h ∧ 0 ≤ l ∧ l ≤ h ∧ h ≤ len ∧ k l h = some r := by
  unfold evSliceB at h
  split at h
  · cases h
  · rename_i l hl
    split at h
    · cases h
    · rename_i hh hhe
      rcases bool_ite h with ⟨e, h⟩ | ⟨_, h⟩
      · rw [inB_eq, decide_eq_true_eq] at e
        exact ⟨l, hh, hl, hhe, e.1, e.2.1, e.2.2, h⟩
      · cases h

theorem cut_length {α : Type} {xs : List α} {l h : Int} (h0 : 0 ≤ l) (h1 : l ≤ h) (h2 : h ≤ (xs.length : Int)) : (cut xs l h).length = h.toNat - l.toNat := by
  simp only [cut, List.length_take, List.length_drop]; omega

theorem sl_cut {S : Nat → Nat → Prop} {t : Ty} {A : Option Addr} {xs : List t.den} (h : SlR w S (PR w S t) A xs) {l hi : Int} {m : Nat} (h0 : 0 ≤ l) (h1 : l ≤ hi) (h2 : hi ≤ (xs.length : Int)) (hm : l < hi → m ≠ l.toNat) :
    SlR w S (PR w S t) (if m = l.toNat then A else A.map (·.add (l.toNat * t.sz))) (cut xs l hi) := by
  by_cases he : l = hi
  · left
    apply List.eq_nil_of_length_eq_zero
    rw [cut_length h0 h1 h2]
    omega
  · rw [if_neg (hm (by omega))]
    rcases h with rfl | ⟨b, off, ds, rfl, hx, hc⟩
    · simp at h2; omega
    · right
      refine ⟨b, off + l.toNat * t.sz, (ds.drop (l.toNat * t.sz)).take ((hi - l).toNat * t.sz), by rw [Option.map_some, add_none], ?_, ?_⟩
      · exact LR.take (fun _ _ => PR.length) _ (LR.drop (fun _ _ => PR.length) _ hx)
      · intro j v hj
        have := hc _ v (drop_some (take_some hj))
        rw [Nat.add_assoc]
        exact this

theorem map_ite {m l : Nat} {A : Option Addr} {f : Addr → Addr} : (if m = l then A else A.map f) = (if m = l then A else Option.map f A) := rfl

/-- A slice of a slice that stays as it is. -/
theorem slice_list (hE : EnvOK P e) {S : Nat → Nat → Prop} {v : Operand → OV} (hv : ∀ x, OVR w G σ a (v x) (a.eval x)) {t el : TypeId} {u : Ty} (hu : P.underlying t = some (.slice el)) (he : e.ty el = some u) {A : Option Addr} {xs : List u.den} {cap : Nat} (hc : xs.length ≤ cap) (hx : SlR w S (PR w S u) A xs)
    {lo hi : Option Operand} {l hh : Int} (hlo : bnd v 0 lo = some l) (hhi : bnd v xs.length hi = some hh) (h0 : 0 ≤ l) (h1 : l ≤ hh) (h2 : hh ≤ (xs.length : Int)) :
    ∃ r, (Instr.sliceAt t (.slice A xs.length cap) (lo.map a.eval) (hi.map a.eval) none).run P w = .ok r w ∧ DVR w S ⟨.list u, cut xs l hh⟩ r := by
  have hl := cut_length h0 h1 h2
  refine ⟨_, ?_, [.slice (if cap = l.toNat then A else A.map (·.add (l.toNat * u.sz))) (cut xs l hh).length (cap - l.toNat)], ⟨_, _, rfl, by (show (cut xs l hh).length ≤ _); omega, sl_cut hx h0 h1 h2 (by omega)⟩, rfl⟩
  simp only [Instr.sliceAt, Instr.slice, Sem.run_bind, run_underlying hu, Result.andThen_ok, bounds2 hv hlo hhi h0 h1 h2 hc, run_sizeOf (hE.ty el u he).1, Sem.run_pure, pack, Ty.agg, hl]
  rfl

theorem slice_full (hE : EnvOK P e) {S : Nat → Nat → Prop} {v : Operand → OV} (hv : ∀ x, OVR w G σ a (v x) (a.eval x)) {t el : TypeId} {u : Ty} (hu : P.underlying t = some (.slice el)) (he : e.ty el = some u) {A : Option Addr} {xs : List u.den} {cap : Nat} (hc : xs.length ≤ cap) (hx : SlR w S (PR w S u) A xs)
    {lo : Option Operand} {x m : Operand} {l hh : Int} (hlo : bnd v 0 lo = some l) (hhi : asI (v x) = some hh) (hm : asI (v m) = some hh) (h0 : 0 ≤ l) (h1 : l ≤ hh) (h2 : hh ≤ (xs.length : Int)) :
    ∃ r, (Instr.sliceAt t (.slice A xs.length cap) (lo.map a.eval) (some (a.eval x)) (some (a.eval m))).run P w = .ok r w ∧ DVR w S ⟨.full u, cut xs l hh⟩ r := by
  have hl := cut_length h0 h1 h2
  refine ⟨_, ?_, [.slice (if hh.toNat = l.toNat then A else A.map (·.add (l.toNat * u.sz))) (cut xs l hh).length (cut xs l hh).length], ⟨_, rfl, sl_cut hx h0 h1 h2 (by omega)⟩, rfl⟩
  simp only [Instr.sliceAt, Instr.slice, Sem.run_bind, run_underlying hu, Result.andThen_ok, bounds3 hv hlo hhi hm h0 h1 h2 hc, run_sizeOf (hE.ty el u he).1, Sem.run_pure, pack, Ty.agg, hl]
  rfl

theorem slice_arr (hE : EnvOK P e) {v : Operand → OV} (hv : ∀ x, OVR w G σ a (v x) (a.eval x)) {t el : TypeId} {n : Nat} {u : Ty} (hu : P.underlying t = some (.array n el)) (he : e.ty el = some u) {b off : Nat}
    {lo hi : Option Operand} {l hh : Int} (hlo : bnd v 0 lo = some l) (hhi : bnd v n hi = some hh) (h0 : 0 ≤ l) (h1 : l ≤ hh) (h2 : hh ≤ (n : Int)) :
    (Instr.sliceAt t (.pointer (some ⟨b, off, none⟩)) (lo.map a.eval) (hi.map a.eval) none).run P w = .ok (.slice (some (if n = l.toNat then ⟨b, off, none⟩ else ⟨b, off + l.toNat * u.sz, none⟩)) (hh.toNat - l.toNat) (n - l.toNat)) w := by
  simp only [Instr.sliceAt, Instr.sureAddr, Sem.run_bind, run_underlying hu, Result.andThen_ok, bounds2 hv hlo hhi h0 h1 h2 (Nat.le_refl _), run_sizeOf (hE.ty el u he).1, Sem.run_pure, add_none]

theorem evSlice_ok (hE : EnvOK P e) (h : RelG w0 S0 σ a w G) {v : Operand → OV} (hv : ∀ x, OVR w G σ a (v x) (a.eval x)) {t : TypeId} {x : Operand} {lo hi mx : Option Operand} {k : List Upd → Option R} {r : R} (ho : o.op = .slice t x lo hi mx)
    (hk : evSlice (e.ty t) v x lo hi mx o.dst k = some r) : ∃ us, k us = some r ∧ OpS P w0 S0 o σ a w us := by
  have hex : (execOp a.eval o).run P w = ((Instr.sliceAt t (a.eval x) (lo.map a.eval) (hi.map a.eval) (mx.map a.eval)).run P w).andThen fun b w' => .ok (.value b) w' := by
    simp only [execOp, ho, Sem.run_bind, Sem.run_pure]
  have hvx := hv x
  unfold evSlice at hk
  split at hk
  · rename_i s hx
    rw [hx] at hvx
    cases hc : chk (e.ty t) .str with
    | false => rw [hc] at hk; simp at hk
    | true =>
      rw [hc] at hk
      cases mx with
      | some m => simp at hk
      | none =>
        simp only at hk
        obtain ⟨l, hh, hlo, hhi, h0, h1, h2, hk⟩ := evSliceB_ok hk
        refine ⟨_, hk, op_data h (v := .string (s.extract l.toNat hh.toNat)) ?_ (DVR.str _)⟩
        rw [hex, DVR_str hvx]
        simp only [Instr.sliceAt, Instr.slice, Sem.run_bind, run_underlying (chk_str hE hc), Result.andThen_ok, Option.map_none, Option.isSome_none, Bool.false_eq_true, if_false, Sem.run_pure, bounds2 hv hlo hhi h0 h1 h2 (Nat.le_refl _)]
  · rename_i u xs hx
    rw [hx] at hvx
    split at hk
    · cases hk
    · rename_i hc
      obtain ⟨el, hu, he⟩ := chk_list hE hc
      obtain ⟨A, cap, e1, e2, e3⟩ := DVR_list hvx
      split at hk
      · obtain ⟨l, hh, hlo, hhi, h0, h1, h2, hk⟩ := evSliceB_ok hk
        obtain ⟨r', f1, f2⟩ := slice_list hE hv hu he e2 e3 hlo hhi h0 h1 h2
        refine ⟨_, hk, op_data h ?_ f2⟩
        rw [hex, e1, Option.map_none, f1]
        rfl
      · rename_i m
        split at hk
        · rename_i m' hiv hm
          obtain ⟨l, hh, hlo, hhi, h0, h1, h2, hk⟩ := evSliceB_ok hk
          rcases bool_ite hk with ⟨eh, hk2⟩ | ⟨_, hk2⟩
          · rw [eqI_eq, decide_eq_true_eq] at eh
            rw [← eh] at hm
            obtain ⟨r', f1, f2⟩ := slice_full hE hv hu he e2 e3 hlo hhi hm h0 h1 h2
            refine ⟨_, hk2, op_data h ?_ f2⟩
            rw [hex, e1, Option.map_some, Option.map_some, f1]
            rfl
          · cases hk2
        · cases hk
  · rename_i u xs hx
    rw [hx] at hvx
    split at hk
    · cases hk
    · rename_i hc
      obtain ⟨el, hu, he⟩ := chk_list hE hc
      obtain ⟨A, e1, e3⟩ := DVR_full hvx
      split at hk
      · obtain ⟨l, hh, hlo, hhi, h0, h1, h2, hk⟩ := evSliceB_ok hk
        obtain ⟨r', f1, f2⟩ := slice_list hE hv hu he (Nat.le_refl _) e3 hlo hhi h0 h1 h2
        refine ⟨_, hk, op_data h ?_ f2⟩
        rw [hex, e1, Option.map_none, f1]
        rfl
      · cases hk
  · rename_i s n u xs hx
    rw [hx] at hvx
    obtain ⟨g1, g2, g3⟩ := hvx
    obtain ⟨G', h', hS, _, hd, _⟩ := rel_freeze h (s := s) (t := u) (xs := xs) (by rw [g1]) (.inr trivial)
    rw [← g2] at hd
    have hfin : ∀ {t' : Ty} {z : t'.den} {r' : Value}, (execOp a.eval o).run P w = .ok (.value r') w → DVR w G'.S ⟨t', z⟩ r' → OpS P w0 S0 o σ a w (.sl s (.data (.list u) xs) :: sets o.dst (.data t' z)) := fun hr hd' next Q kk =>
      op_value hr (kk _ _ ⟨G', rel_sets h' o.dst (fun _ _ e => by cases e) hd'⟩)
    split at hk
    · cases hk
    · rename_i hc
      obtain ⟨el, hu, he⟩ := chk_list hE hc
      obtain ⟨A, cap, e1, e2, e3⟩ := DVR_list hd
      split at hk
      · obtain ⟨l, hh, hlo, hhi, h0, h1, h2, hk⟩ := evSliceB_ok hk
        obtain ⟨r', f1, f2⟩ := slice_list hE hv hu he e2 e3 hlo hhi h0 h1 h2
        refine ⟨_, hk, hfin ?_ f2⟩
        rw [hex, e1, Option.map_none, f1]
        rfl
      · rename_i m
        split at hk
        · rename_i m' hiv hm
          obtain ⟨l, hh, hlo, hhi, h0, h1, h2, hk⟩ := evSliceB_ok hk
          rcases bool_ite hk with ⟨eh, hk2⟩ | ⟨_, hk2⟩
          · rw [eqI_eq, decide_eq_true_eq] at eh
            rw [← eh] at hm
            obtain ⟨r', f1, f2⟩ := slice_full hE hv hu he e2 e3 hlo hhi hm h0 h1 h2
            refine ⟨_, hk2, hfin ?_ f2⟩
            rw [hex, e1, Option.map_some, Option.map_some, f1]
            rfl
          · cases hk2
        · cases hk
  · rename_i b g p d hx
    rw [hx] at hvx
    obtain ⟨g1, g2, off, u0, g3, g4⟩ := hvx
    split at hk
    · split at hk
      · rename_i n u xs hg
        split at hk
        · rename_i hc
          obtain ⟨el, hu, he⟩ := chk_arr hE hc
          obtain ⟨rfl, _⟩ := box_ok h g2 hg g3 (fun _ _ e => by cases e)
          obtain ⟨l, hh, hlo, hhi, h0, h1, h2, hk⟩ := evSliceB_ok hk
          refine ⟨_, hk, op_reader h (v := .slice (some (if n = l.toNat then ⟨G.β b, off, none⟩ else ⟨G.β b, off + l.toNat * u.sz, none⟩)) (hh.toNat - l.toNat) (n - l.toNat)) ?_ (fun _ _ e => by cases e) ?_⟩
          · rw [hex, g4, Option.map_none, slice_arr hE hv hu he hlo hhi h0 h1 h2]
            rfl
          · refine ⟨by rw [g1]; exact Nat.le_refl _, fun _ => ⟨d, off, n, u, g2, g3, h0, h1, h2, some (if n = l.toNat then ⟨G.β b, off, none⟩ else ⟨G.β b, off + l.toNat * u.sz, none⟩), n - l.toNat, ?_, ?_, fun hlt => ?_⟩⟩
            · rw [show (hh - l).toNat = hh.toNat - l.toNat by omega]
            · omega
            · rw [if_neg (by omega)]
        · cases hk
      · cases hk
    · cases hk
  · rename_i b g p l0 h0' d hx
    rw [hx] at hvx
    obtain ⟨g1, g2, off, m, u, g3, g4, g5, g6, A, cap, g7, g8, g9⟩ := hvx
    split at hk
    · split at hk
      · rename_i n u' xs hg
        split at hk
        · cases hk
        · rename_i hc
          obtain ⟨el, hu, he⟩ := chk_list hE hc
          obtain ⟨q1, _⟩ := box_ok h g2 hg g3 (fun _ _ e => by cases e)
          cases q1
          obtain ⟨l, hh, hlo, hhi, h0, h1, h2, hk⟩ := evSliceB_ok hk
          have hlen : (((h0' - l0).toNat : Nat) : Int) = h0' - l0 := by omega
          rw [← hlen] at hhi
          have hb := bounds2 (P := P) (w := w) (isS := true) hv hlo hhi h0 h1 (by omega) g8
          refine ⟨_, hk, op_reader h (v := .slice (if cap = l.toNat then A else A.map (·.add (l.toNat * u.sz))) (hh.toNat - l.toNat) (cap - l.toNat)) ?_ (fun _ _ e => by cases e) ?_⟩
          · rw [hex, g7]
            simp only [Option.map_none, Instr.sliceAt, Instr.slice, Sem.run_bind, run_underlying hu, Result.andThen_ok, hb, run_sizeOf (hE.ty el u he).1, Sem.run_pure]
          · refine ⟨by rw [g1]; exact Nat.le_refl _, fun _ => ⟨d, off, m, u, g2, g3, by omega, by omega, by omega, (if cap = l.toNat then A else A.map (·.add (l.toNat * u.sz))), cap - l.toNat, ?_, ?_, fun hlt => ?_⟩⟩
            · rw [show (l0 + hh - (l0 + l)).toNat = hh.toNat - l.toNat by omega]
            · omega
            · rw [if_neg (by omega), g9 (by omega), Option.map_some, add_none, show (l0 + l).toNat = l0.toNat + l.toNat by omega, Nat.add_mul, Nat.add_assoc]
      · cases hk
    · cases hk
  · rename_i n u xs hx
    rw [hx] at hvx
    split at hk
    · cases hk
    · rename_i hc
      obtain ⟨el, hu, he⟩ := chk_arr hE hc
      obtain ⟨b, off, ds, e1, ⟨e2, e2'⟩, e3⟩ := DVR_ref hvx
      split at hk
      · obtain ⟨l, hh, hlo, hhi, h0, h1, h2, hk⟩ := evSliceB_ok hk
        refine ⟨_, hk, op_data h (v := .slice (some (if n = l.toNat then ⟨b, off, none⟩ else ⟨b, off + l.toNat * u.sz, none⟩)) (hh.toNat - l.toNat) (n - l.toNat)) ?_ ?_⟩
        · rw [hex, e1, Option.map_none, slice_arr hE hv hu he hlo hhi h0 h1 h2]
          rfl
        · have hl : (cut xs l hh).length = hh.toNat - l.toNat := cut_length h0 h1 (by rw [e2]; exact h2)
          have hsl := sl_cut (m := n) (l := l) (hi := hh) (A := some ⟨b, off, none⟩) (xs := xs) (.inr ⟨b, off, ds, rfl, e2', e3⟩) h0 h1 (by rw [e2]; exact h2) (by omega)
          refine ⟨[.slice (some (if n = l.toNat then ⟨b, off, none⟩ else ⟨b, off + l.toNat * u.sz, none⟩)) (cut xs l hh).length (n - l.toNat)], ⟨_, _, rfl, by (show (cut xs l hh).length ≤ _); omega, ?_⟩, by rw [hl]; rfl⟩
          rw [Option.map_some, add_none] at hsl
          have : (some (if n = l.toNat then (⟨b, off, none⟩ : Addr) else ⟨b, off + l.toNat * u.sz, none⟩)) = (if n = l.toNat then some ⟨b, off, none⟩ else some ⟨b, off + l.toNat * u.sz, none⟩) := by split <;> rfl
          rw [this]
          exact hsl
      · cases hk
  · cases hk
end

end Go.Q

/- The value machine: places and parts. -/
set_option linter.unusedVariables false
namespace Go.Q
open Go Go.RowKit

section
variable {P : Program} {e : Env} {w0 w : World} {S0 : Sx} {σ : St} {a : Act} {G : Gh} {o : Oper} {R : Type}

theorem run_fieldAt (hE : EnvOK P e) {t : TypeId} {T : Ty} (hT : e.ty t = some T) {j : Nat} (hj : j < e.nf t) : ∃ off v, offP (fpath (e.nf t) j) T = some (off, v) ∧ ∀ b i, (Instr.fieldAt t (.pointer (some ⟨b, i, none⟩)) j).run P w = .ok (.pointer (some ⟨b, i + off, none⟩)) w := by
  obtain ⟨fs, f, off, v, h1, h2, h3, h4, h5, h6⟩ := hE.nf t T j hT hj
  refine ⟨off, v, h3, fun b i => ?_⟩
  simp only [Instr.fieldAt, Sem.run_bind, run_underlying h1, Result.andThen_ok, h2, Instr.sureAddr, Sem.run_pure, fieldPlace, run_sizeOf (hE.ty _ _ h5).1, if_neg h6, add_none, h4]

theorem evFieldAddr_ok (hE : EnvOK P e) (h : RelG w0 S0 σ a w G) {v : Operand → OV} (hv : ∀ x, OVR w G σ a (v x) (a.eval x)) {t : TypeId} {x : Operand} {j : Nat} {k : AV → Option R} {r : R}
    (hk : evFieldAddr (e.ty t) (e.nf t) j (v x) k = some r) : ∃ av, k av = some r ∧ ∃ va, (Instr.fieldAt t (a.eval x) j).run P w = .ok va w ∧ (∀ t xs, av ≠ .vec t xs) ∧ AVR w G σ a 0 av va := by
  have hvx := hv x
  unfold evFieldAddr at hk
  split at hk
  · cases hk
  · rename_i hj
    have hj := Nat.le_of_ble_eq_true hj
    split at hk
    · rename_i b g p d hx
      rw [hx] at hvx
      obtain ⟨g1, g2, off, u0, g3, g4⟩ := hvx
      split at hk
      · rename_i u y hg
        split at hk
        · rename_i hc
          obtain ⟨T, hT, he⟩ := chk_eq hc
          obtain ⟨rfl, _⟩ := box_ok h g2 hg g3 (chk_mp hE hc)
          obtain ⟨off2, v2, f1, f2⟩ := run_fieldAt (w := w) hE hT hj
          obtain ⟨v3, f3, _⟩ := erase_offP _ he f1
          refine ⟨_, hk, _, by rw [g4, f2], fun _ _ e => (by cases e), ?_⟩
          exact ⟨by rw [g1]; exact Nat.le_refl _, fun _ => ⟨d, off + off2, v3, g2, offP_append p g3 f3, rfl⟩⟩
        · cases hk
      · cases hk
    · rename_i u y hx
      rw [hx] at hvx
      split at hk
      · rename_i hc
        obtain ⟨T, hT, he⟩ := chk_eq hc
        obtain ⟨off2, v2, f1, f2⟩ := run_fieldAt (w := w) hE hT hj
        obtain ⟨v3, f3, _⟩ := erase_offP _ he f1
        obtain ⟨b, off, ds, e1, e2, e3⟩ := DVR_ref hvx
        split at hk
        · rename_i w' z hg
          obtain ⟨rfl, q⟩ := getP_PR _ e2 hg f3
          refine ⟨_, hk, _, by rw [e1, f2], fun _ _ e => (by cases e), ?_⟩
          refine DVR.one rfl ⟨b, off + off2, _, rfl, q, fun i v hi => ?_⟩
          rw [Nat.add_assoc]
          exact e3 _ v (drop_some (take_some hi))
        · cases hk
      · cases hk
    · rename_i s n t' xs i p hx
      rw [hx] at hvx
      obtain ⟨g1, g2, g3, g, cap, off, u0, g4, g5, g6, g7⟩ := hvx
      split at hk
      · rename_i u y hg
        split at hk
        · rename_i hc
          obtain ⟨T, hT, he⟩ := chk_eq hc
          obtain ⟨off2, v2, f1, f2⟩ := run_fieldAt (w := w) hE hT hj
          obtain ⟨v3, f3, _⟩ := erase_offP _ he f1
          have g5' := g5
          rw [g4] at g5'
          obtain ⟨rfl, _⟩ := vec_part g5' g2 g3 hg g6
          refine ⟨_, hk, _, by rw [g7, f2], fun _ _ e => (by cases e), ?_⟩
          refine ⟨by rw [g1]; exact Nat.le_refl _, fun _ => ⟨by rw [g1], g2, g3, g, cap, off + off2, v3, g4, offP_append p g6 f3, ?_⟩⟩
          rw [Nat.add_assoc]
        · cases hk
      · cases hk
    · cases hk

theorem inR_ok {n m : Int} (h : inR n m = true) : 0 ≤ n ∧ n < m := by rw [inR_eq, decide_eq_true_eq] at h; exact h

theorem index_slice (hE : EnvOK P e) {t el : TypeId} {u : Ty} (hu : P.underlying t = some (.slice el)) (he : e.ty el = some u) {n : Int} {k : IntKind} {b off len cap : Nat} (h0 : 0 ≤ n) (h1 : n < (len : Int)) :
    (Instr.indexAt t (.slice (some ⟨b, off, none⟩) len cap) (.int k n)).run P w = .ok (.pointer (some ⟨b, off + n.toNat * u.sz, none⟩)) w := by
  simp only [Instr.indexAt, asIntOf, Sem.run_bind, Sem.run_pure, run_underlying hu, Result.andThen_ok]
  by_cases hl : len ≤ 1
  · simp only [hl, decide_true, Bool.true_and, Sem.run_bind, run_underlying hu, Result.andThen_ok, Sem.run_pure, if_pos (And.intro h0 h1), run_sizeOf (hE.ty el u he).1, add_none]
  · simp only [hl, decide_false, Bool.false_and, Sem.run_bind, Sem.run_pure, Result.andThen_ok, run_underlying hu, if_pos (And.intro h0 h1), run_sizeOf (hE.ty el u he).1, add_none]

theorem index_arr (hE : EnvOK P e) {t el : TypeId} {m : Nat} {u : Ty} (hu : P.underlying t = some (.array m el)) (he : e.ty el = some u) {n : Int} {k : IntKind} {b off : Nat} (h0 : 0 ≤ n) (h1 : n < (m : Int)) :
    (Instr.indexAt t (.pointer (some ⟨b, off, none⟩)) (.int k n)).run P w = .ok (.pointer (some ⟨b, off + n.toNat * u.sz, none⟩)) w := by
  simp only [Instr.indexAt, asIntOf, Sem.run_bind, Sem.run_pure, run_underlying hu, Result.andThen_ok, Instr.sureAddr]
  by_cases hl : m ≤ 1
  · simp only [hl, decide_true, Bool.true_and, Sem.run_bind, run_underlying hu, Result.andThen_ok, Sem.run_pure, if_pos (And.intro h0 h1), run_sizeOf (hE.ty el u he).1, add_none]
  · simp only [hl, decide_false, Bool.false_and, Sem.run_bind, Sem.run_pure, Result.andThen_ok, run_underlying hu, if_pos (And.intro h0 h1), run_sizeOf (hE.ty el u he).1, add_none]

theorem nthD_cells {S : Nat → Nat → Prop} {t : Ty} {xs : List t.den} {ds : List Value} {b off : Nat} {n : Int} (hx : LR (PR w S t) xs ds) (hc : Cells w S b off ds) (h0 : 0 ≤ n) (h1 : n < (xs.length : Int)) :
    DVR w S ⟨.ref t, nthD t xs n⟩ (.pointer (some ⟨b, off + n.toNat * t.sz, none⟩)) := by
  obtain ⟨c, c1, c2⟩ := LR.get (fun _ _ => PR.length) t.zero (i := n.toNat) (by omega) hx
  refine DVR.one rfl ⟨b, _, c, rfl, c1, fun j v hj => ?_⟩
  rw [c2] at hj
  rw [Nat.add_assoc]
  exact hc _ v (drop_some (take_some hj))

theorem sl_index (hE : EnvOK P e) {S : Nat → Nat → Prop} {t el : TypeId} {u : Ty} (hu : P.underlying t = some (.slice el)) (he : e.ty el = some u) {A : Option Addr} {xs : List u.den} {cap : Nat} (hx : SlR w S (PR w S u) A xs) {n : Int} {k : IntKind} (h0 : 0 ≤ n) (h1 : n < (xs.length : Int)) :
    ∃ va, (Instr.indexAt t (.slice A xs.length cap) (.int k n)).run P w = .ok va w ∧ DVR w S ⟨.ref u, nthD u xs n⟩ va := by
  rcases hx with rfl | ⟨b, off, ds, rfl, hx, hc⟩
  · simp at h1; omega
  · exact ⟨_, index_slice hE hu he h0 h1, nthD_cells hx hc h0 h1⟩

theorem evIndexAddr_ok (hE : EnvOK P e) (h : RelG w0 S0 σ a w G) {v : Operand → OV} (hv : ∀ x, OVR w G σ a (v x) (a.eval x)) {t : TypeId} {x i : Operand} {k : AV → Option R} {r : R}
    (hk : evIndexAddr (e.ty t) (v x) (v i) k = some r) : ∃ av, k av = some r ∧ ∃ va, (Instr.indexAt t (a.eval x) (a.eval i)).run P w = .ok va w ∧ (∀ t xs, av ≠ .vec t xs) ∧ AVR w G σ a 0 av va := by
  have hvx := hv x
  unfold evIndexAddr at hk
  split at hk
  · cases hk
  · rename_i n hn
    obtain ⟨ki, hi⟩ := asI_ok (hv i) hn
    rw [hi]
    split at hk
    · rename_i b g p d hx
      rw [hx] at hvx
      obtain ⟨g1, g2, off, u0, g3, g4⟩ := hvx
      split at hk
      · rename_i m u y hg
        split at hk
        · rename_i hc
          rcases bool_ite hk with ⟨e1, hk⟩ | ⟨_, hk⟩
          · obtain ⟨h0, h1⟩ := inR_ok e1
            obtain ⟨el, hu, he⟩ := chk_arr hE hc
            obtain ⟨rfl, _⟩ := box_ok h g2 hg g3 (fun _ _ e => by cases e)
            refine ⟨_, hk, _, by rw [g4]; exact index_arr hE hu he h0 h1, fun _ _ e => (by cases e), ?_⟩
            refine ⟨by rw [g1]; exact Nat.le_refl _, fun _ => ⟨d, off + (n.toNat * u.sz + 0), u, g2, offP_append p g3 ?_, rfl⟩⟩
            simp only [offP, if_pos (And.intro h0 h1)]
          · cases hk
        · cases hk
      · cases hk
    · rename_i u xs hx
      rw [hx] at hvx
      split at hk
      · rename_i hc
        rcases bool_ite hk with ⟨e1, hk⟩ | ⟨_, hk⟩
        · obtain ⟨h0, h1⟩ := inR_ok e1
          obtain ⟨el, hu, he⟩ := chk_list hE hc
          obtain ⟨A, cap, f1, f2, f3⟩ := DVR_list hvx
          obtain ⟨va, q1, q2⟩ := sl_index (k := ki) hE hu he (cap := cap) f3 h0 h1
          exact ⟨_, hk, va, by rw [f1]; exact q1, fun _ _ e => (by cases e), q2⟩
        · cases hk
      · cases hk
    · rename_i u xs hx
      rw [hx] at hvx
      split at hk
      · rename_i hc
        rcases bool_ite hk with ⟨e1, hk⟩ | ⟨_, hk⟩
        · obtain ⟨h0, h1⟩ := inR_ok e1
          obtain ⟨el, hu, he⟩ := chk_list hE hc
          obtain ⟨A, f1, f3⟩ := DVR_full hvx
          obtain ⟨va, q1, q2⟩ := sl_index (k := ki) hE hu he (cap := xs.length) f3 h0 h1
          exact ⟨_, hk, va, by rw [f1]; exact q1, fun _ _ e => (by cases e), q2⟩
        · cases hk
      · cases hk
    · rename_i m u xs hx
      rw [hx] at hvx
      split at hk
      · rename_i hc
        rcases bool_ite hk with ⟨e1, hk⟩ | ⟨_, hk⟩
        · obtain ⟨h0, h1⟩ := inR_ok e1
          obtain ⟨el, hu, he⟩ := chk_arr hE hc
          obtain ⟨b, off, ds, f1, ⟨f2, f2'⟩, f3⟩ := DVR_ref hvx
          exact ⟨_, hk, _, by rw [f1]; exact index_arr hE hu he h0 h1, fun _ _ e => (by cases e), nthD_cells f2' f3 h0 (by rw [f2]; exact h1)⟩
        · cases hk
      · cases hk
    · rename_i s c u xs hx
      rw [hx] at hvx
      obtain ⟨g1, g2, g3⟩ := hvx
      split at hk
      · rename_i hc
        rcases bool_ite hk with ⟨e1, hk⟩ | ⟨_, hk⟩
        · obtain ⟨h0, h1⟩ := inR_ok e1
          obtain ⟨el, hu, he⟩ := chk_list hE hc
          rcases g3 with ⟨rfl, _⟩ | ⟨g, cap, arr, ee, fr, q1, q2, q3, q4, q5, q6, q7⟩
          · simp at h1; omega
          · refine ⟨_, hk, _, by rw [q1]; exact index_slice hE hu he h0 h1, fun _ _ e => (by cases e), ?_⟩
            refine ⟨by rw [g1]; exact Nat.le_refl _, fun _ => ⟨by rw [g1], h0, h1, g, cap, 0, u, by rw [← g2]; exact q1, rfl, ?_⟩⟩
            rw [Nat.zero_add, Nat.add_zero]
        · cases hk
      · cases hk
    · rename_i b g p lo hi' d hx
      rw [hx] at hvx
      obtain ⟨g1, g2, off, m, u, g3, g4, g5, g6, A, cap, g7, g8, g9⟩ := hvx
      split at hk
      · rename_i m' u' y hg
        split at hk
        · rename_i hc
          rcases bool_ite hk with ⟨e1, hk⟩ | ⟨_, hk⟩
          · obtain ⟨h0, h1⟩ := inR_ok e1
            obtain ⟨el, hu, he⟩ := chk_list hE hc
            obtain ⟨q1, _⟩ := box_ok h g2 hg g3 (fun _ _ e => by cases e)
            cases q1
            have hA := g9 (by omega)
            refine ⟨_, hk, _, by rw [g7, hA]; exact index_slice hE hu he h0 (by omega), fun _ _ e => (by cases e), ?_⟩
            refine ⟨by rw [g1]; exact Nat.le_refl _, fun _ => ⟨d, off + ((lo + n).toNat * u.sz + 0), u, g2, offP_append p g3 ?_, ?_⟩⟩
            · simp only [offP, if_pos (And.intro (show (0 : Int) ≤ lo + n by omega) (show lo + n < (m : Int) by omega))]
            · rw [show (lo + n).toNat = lo.toNat + n.toNat by omega, Nat.add_mul, Nat.add_zero, Nat.add_assoc]
          · cases hk
        · cases hk
      · cases hk
    · cases hk

/-! ### Parts of data -/
theorem evField_ok (hE : EnvOK P e) {S : Nat → Nat → Prop} {t : TypeId} {u : Ty} {y : u.den} {va : Value} (hv : DVR w S ⟨u, y⟩ va) (hc : chk (e.ty t) u = true) {j : Nat} (hj : j < e.nf t) {d : DV} (hg : getP (fpath (e.nf t) j) u y = some d) :
    ∃ v, (Instr.field t va j).run P w = .ok v w ∧ DVR w S d v := by
  obtain ⟨T, hT, he⟩ := chk_eq hc
  obtain ⟨fs, f, off, v, h1, h2, h3, h4, h5, h6⟩ := hE.nf t T j hT hj
  obtain ⟨v3, f3, f4⟩ := erase_offP _ he h3
  obtain ⟨hB, hU⟩ := hE.ty t T hT
  have hA : T.agg = true := by
    cases T <;> simp only [TyU] at hU <;> first
      | rfl
      | exact hU.elim
      | (rw [hU] at h1; cases h1; done)
      | (obtain ⟨el, hU, _⟩ := hU; rw [hU] at h1; cases h1)
  obtain ⟨cs, rfl, p⟩ := DVR_agg (by rw [← erase_agg he]; exact hA) hv
  obtain ⟨w', z⟩ := d
  obtain ⟨rfl, q⟩ := getP_PR _ p hg f3
  have hle := offP_le _ f3
  have hl := PR.length p
  obtain ⟨hBv, hUv⟩ := hE.ty _ _ h5
  have hszv := erase_sz f4
  have hr := run_part hBv hUv cs.toArray off (by simp; omega) w
  refine ⟨_, ?_, _, q, rfl⟩
  simp only [Instr.field, Sem.run_bind, run_underlying h1, Result.andThen_ok, h2, asAgg, Sem.run_pure, h4, hr]
  simp only [pack, erase_agg f4, hszv]

theorem evIndex_ok (hE : EnvOK P e) {S : Nat → Nat → Prop} {t : TypeId} {m : Nat} {u : Ty} {xs : List u.den} {va : Value} (hv : DVR w S ⟨.arr m u, xs⟩ va) (hc : chk (e.ty t) (.arr m u) = true) {n : Int} {k : IntKind} (h0 : 0 ≤ n) (h1 : n < (m : Int)) :
    ∃ v, (Instr.index t va (.int k n)).run P w = .ok v w ∧ DVR w S ⟨u, nthD u xs n⟩ v := by
  obtain ⟨el, hu, he⟩ := chk_arr hE hc
  obtain ⟨cs, rfl, p1, p2⟩ := DVR_agg rfl hv
  have p1 : xs.length = m := p1
  obtain ⟨c, c1, c2⟩ := LR.get (fun _ _ => PR.length) u.zero (i := n.toNat) (by omega) p2
  obtain ⟨hB, hU⟩ := hE.ty el u he
  have hl := LR.length (fun _ _ => PR.length) p2
  have hle : (n.toNat + 1) * u.sz ≤ xs.length * u.sz := Nat.mul_le_mul_right _ (by omega)
  rw [Nat.succ_mul] at hle
  have hr := run_part hB hU cs.toArray (n.toNat * u.sz) (by simp; omega) w
  refine ⟨_, ?_, c, c1, rfl⟩
  simp only [Instr.index, asIntOf, Sem.run_bind, Sem.run_pure, run_underlying hu, Result.andThen_ok, if_pos (And.intro h0 h1), run_sizeOf hB, hr]
  rw [← c2]

theorem evIndexStr_ok (hE : EnvOK P e) {t : TypeId} (hc : chk (e.ty t) .str = true) {s : ByteArray} {n : Int} {k : IntKind} (h0 : 0 ≤ n) (h1 : n < (s.size : Int)) :
    (Instr.index t (.string s) (.int k n)).run P w = .ok (.int .u8 (bt s n)) w := by
  have h2 : n.toNat < s.size := by omega
  have hs : s[n.toNat]? = some s[n.toNat] := by simp [h2]
  simp only [Instr.index, asIntOf, Sem.run_bind, Sem.run_pure, run_underlying (chk_str hE hc), Result.andThen_ok, if_pos h0, hs]
  have : bt s n = (s[n.toNat].toNat : Int) := by
    simp only [bt]
    congr 1
    have h3 : s.data.toList[n.toNat]? = some s[n.toNat] := by
      rw [Array.getElem?_toList]
      exact Array.getElem?_eq_getElem h2
    rw [List.getD_eq_getElem?_getD, h3]
    rfl
  rw [this]

theorem L2.get {α β : Type} {R : α → β → Prop} (d : α) : ∀ {as : List α} {bs : List β} {j : Nat} {x : α}, L2 R as bs → nth none (as.map some) j = some x → ∃ y, bs[j]? = some y ∧ R x y
  | [], [], _, _, _, h => by simp [nth] at h
  | a :: as, b :: bs, 0, x, ⟨p, q⟩, h => by simp only [List.map_cons, nth, Option.some.injEq] at h; subst h; exact ⟨b, rfl, p⟩
  | a :: as, b :: bs, j + 1, x, ⟨p, q⟩, h => by
    obtain ⟨y, h1, h2⟩ := L2.get d (j := j) q (by simpa [nth] using h)
    exact ⟨y, by simpa using h1, h2⟩
  | [], _ :: _, _, _, p, _ => p.elim
  | _ :: _, [], _, _, p, _ => p.elim

theorem evExtract_ok {S : Nat → Nat → Prop} {ds : List DV} {va : Value} (hv : ∃ vs, va = .tuple vs ∧ L2 (DVR w S) ds vs.toList) {j : Nat} {d : DV} (h : nth (none : Option DV) (ds.map some) j = some d) :
    ∃ v, (Instr.extract va j).run P w = .ok v w ∧ DVR w S d v := by
  obtain ⟨vs, rfl, hl⟩ := hv
  obtain ⟨y, h1, h2⟩ := L2.get d hl h
  refine ⟨y, ?_, h2⟩
  rw [Array.getElem?_toList] at h1
  simp only [Instr.extract, h1, Sem.run_pure]
end

end Go.Q

/- The value machine: slices that are read; conversions. -/
set_option linter.unusedVariables false
namespace Go.Q
open Go Go.RowKit

section
variable {P : Program} {e : Env} {w0 w : World} {S0 : Sx} {σ : St} {a : Act} {G : Gh} {o : Oper} {R : Type}

/-- A slice that can be read. -/
def ReadSl (w : World) (S : Nat → Nat → Prop) (u : Ty) (xs : List u.den) (v : Value) : Prop :=
  ∃ A cap, v = .slice A xs.length cap ∧ xs.length ≤ cap ∧ (xs = [] ∨ ∃ b o ds, A = some ⟨b, o, none⟩ ∧ LR (PR w S u) xs ds ∧ ∀ j v, ds[j]? = some v → w.cell? ⟨b, o + j, none⟩ = some v)

theorem ReadSl.of_sl {S : Nat → Nat → Prop} {u : Ty} {xs : List u.den} {A : Option Addr} {cap : Nat} (hc : xs.length ≤ cap) (h : SlR w S (PR w S u) A xs) : ReadSl w S u xs (.slice A xs.length cap) :=
  ⟨A, cap, rfl, hc, h.imp id fun ⟨b, o, ds, e, r, c⟩ => ⟨b, o, ds, e, r, fun j v hj => (c j v hj).1⟩⟩

theorem ReadSl.of_vec {l : Loc} {u : Ty} {xs : List u.den} {v : Value} (h : VecR w G l u xs v) : ReadSl w G.S u xs v := by
  rcases h with ⟨rfl, rfl⟩ | ⟨g, cap, arr, ee, fr, rfl, e2, e3, e4, e5, e6, e7⟩
  · exact ⟨none, 0, rfl, Nat.le_refl _, .inl rfl⟩
  · refine ⟨_, cap, rfl, e2, .inr ⟨g, 0, _, rfl, e7, fun j v hj => ?_⟩⟩
    rw [box_cells e3, Nat.zero_add, ← Array.getElem?_toList]
    exact take_some hj

theorem cast_list {u t : Ty} {xs : List u.den} {ys : List t.den} (h : cast? (.list u) (.list t) xs = some ys) : ∃ e : u = t, ys = e ▸ xs := by
  obtain ⟨e, rfl⟩ := cast?_some h
  cases e
  exact ⟨rfl, rfl⟩

theorem asB_list (h : RelG w0 S0 σ a w G) {u : Ty} {ov : OV} {xs : List u.den} {v : Value} (hv : OVR w G σ a ov v) (hb : asB (.list u) ov = some xs) : ReadSl w G.S u xs v := by
  cases ov with
  | data t x =>
    have hb : coe? t (.list u) x = some xs := hb
    obtain ⟨A, cap, rfl, f2, f3⟩ := DVR_list (DVR.coe hb hv)
    exact ReadSl.of_sl f2 f3
  | own s n t ys =>
    have hb : cast? (.list t) (.list u) ys = some xs := hb
    obtain ⟨rfl, rfl⟩ := cast_list hb
    exact ReadSl.of_vec hv.2.2
  | ownb k p t ys d =>
    have hb : cast? (.list t) (.list u) ys = some xs := hb
    obtain ⟨rfl, rfl⟩ := cast_list hb
    obtain ⟨_, _, _, _, _, hv⟩ := hv
    exact ReadSl.of_vec hv
  | nil =>
    have hb : some [] = some xs := hb
    cases hb
    exact ⟨none, 0, hv, Nat.le_refl _, .inl rfl⟩
  | bsl k g p lo hi d =>
    have hb : slOf d p lo hi u = some xs := hb
    unfold slOf at hb
    split at hb
    · rename_i m t ys hg
      split at hb
      · rename_i zs hz
        cases hb
        obtain ⟨g1, g2, off, m', t', g3, g4, g5, g6, A, cap, rfl, g8, g9⟩ := hv
        obtain ⟨q1, cs, q2, q3⟩ := box_ok h g2 hg g3 (fun _ _ e => by cases e)
        cases q1
        obtain ⟨rfl, rfl⟩ := cast_list hz
        obtain ⟨q4, q5⟩ := CR.to_PR rfl q2
        have q4 : ys.length = m := q4
        have hl : (List.take (hi - lo).toNat (List.drop lo.toNat ys)).length = (hi - lo).toNat := by simp only [List.length_take, List.length_drop]; omega
        refine ⟨A, cap, by rw [hl], by rw [hl]; exact g8, ?_⟩
        by_cases hlt : lo < hi
        · refine .inr ⟨_, _, _, g9 hlt, LR.take (fun _ _ => PR.length) _ (LR.drop (fun _ _ => PR.length) _ q5), fun j v hj => ?_⟩
          rw [Nat.add_assoc]
          exact q3 _ v (drop_some (take_some hj))
        · left
          exact List.eq_nil_of_length_eq_zero (hl.trans (by omega))
      · cases hb
    · cases hb
  | ptr k g p d => exact absurd hb (by simp [asB])
  | _ => simp [asB] at hb

/-- What append and copy read. -/
def Src (P : Program) (w : World) (S : Nat → Nat → Prop) (u : Ty) (ys : List u.den) (v : Value) : Prop :=
  (∀ w', (Builtin.lenOf v).run P w' = .ok ys.length w') ∧ ∀ n, n ≤ ys.length → ∃ new : Array Value, LR (PR w S u) (ys.take n) new.toList ∧ ∀ w', w'.heap = w.heap → (Builtin.firstCells u.sz n v).run P w' = .ok new w'

theorem cell_heap {w w' : World} (h : w'.heap = w.heap) (p : Addr) : w'.cell? p = w.cell? p := by simp [World.cell?, h]

theorem ReadSl.src {S : Nat → Nat → Prop} {u : Ty} {xs : List u.den} {v : Value} (h : ReadSl w S u xs v) : Src P w S u xs v := by
  obtain ⟨A, cap, rfl, hc, hx⟩ := h
  refine ⟨fun w' => by simp [Builtin.lenOf], fun n hn => ?_⟩
  rcases hx with rfl | ⟨b, off, ds, rfl, hx, hcs⟩
  · obtain rfl : n = 0 := by simpa using hn
    refine ⟨#[], by simp [LR], fun w' hw => ?_⟩
    cases A with
    | none => simp [Builtin.firstCells]
    | some a => simp [Builtin.firstCells, loadCells, loadCellsFrom]
  · have hl := LR.length (fun _ _ => PR.length) hx
    refine ⟨(ds.take (n * u.sz)).toArray, by simpa using LR.take (fun _ _ => PR.length) n hx, fun w' hw => ?_⟩
    have hlen : (ds.take (n * u.sz)).length = n * u.sz := by
      have : n * u.sz ≤ xs.length * u.sz := Nat.mul_le_mul_right _ hn
      rw [List.length_take]
      omega
    have := run_loadCells_list (P := P) w' ⟨b, off, none⟩ (ds.take (n * u.sz)) (fun j v hj => by rw [add_none, cell_heap hw]; exact hcs j v (take_some hj))
    rw [hlen] at this
    simpa [Builtin.firstCells] using this

theorem bytes_LR {S : Nat → Nat → Prop} (l : List UInt8) : LR (PR w S (.int .u8)) (l.map fun b => ((b.toNat : Nat) : Int)) (l.map fun b => Value.int .u8 (b.toNat : Int)) := by
  induction l with
  | nil => rfl
  | cons b l ih => exact ⟨[_], _, rfl, rfl, ih⟩

theorem str_src {S : Nat → Nat → Prop} (y : ByteArray) : Src P w S (.int .u8) (bytesOf y) (.string y) := by
  have hl : (bytesOf y).length = y.size := by simp [bytesOf]
  refine ⟨fun w' => by simp [Builtin.lenOf, hl], fun n hn => ?_⟩
  refine ⟨(y.extract 0 n).data.map fun b => .int .u8 b.toNat, ?_, fun w' hw => by simp [Builtin.firstCells]⟩
  have he : (y.extract 0 n).data.toList = y.data.toList.take n := by
    rw [hl] at hn
    simp [ByteArray.data_extract]
  rw [Array.toList_map, he]
  simp only [bytesOf, ← List.map_take]
  exact bytes_LR _

/-! ### Lengths, least and greatest -/
theorem evLen_ok (hE : EnvOK P e) (h : RelG w0 S0 σ a w G) {t ty : TypeId} {ts : List TypeId} {ov : OV} {va : Value} (hv : OVR w G σ a ov va) {k : AV → Option R} {r : R} (hk : evLen (e.ty t) ov k = some r) :
    ∃ n, k (.data (.int .i64) n) = some r ∧ (Builtin.len_ (t :: ts).toArray ty #[va]).run P w = .ok (.int .i64 n) w := by
  have hlist : ∀ {u : Ty} {xs : List u.den}, e.ty t = some (.list u) → (∃ A cap, va = .slice A xs.length cap) → (Builtin.len_ (t :: ts).toArray ty #[va]).run P w = .ok (.int .i64 xs.length) w := by
    rintro u xs hT ⟨A, cap, rfl⟩
    obtain ⟨_, el, hu, _⟩ := hE.ty t _ hT
    simp [Builtin.len_, run_underlying hu, goInt]
  unfold evLen at hk
  split at hk
  · rename_i hT
    have hu : P.underlying t = some .string := (hE.ty t _ hT).2
    split at hk
    · rename_i s
      refine ⟨_, hk, ?_⟩
      rw [DVR_str hv]
      simp [Builtin.len_, run_underlying hu, goInt]
    · cases hk
  · rename_i u hT
    split at hk
    · rename_i t' xs
      obtain ⟨A, cap, e1, _⟩ := DVR_list hv
      exact ⟨_, hk, hlist (u := u) (xs := List.replicate xs.length u.zero) hT ⟨A, cap, by simpa using e1⟩ |>.trans (by simp)⟩
    · rename_i t' xs
      obtain ⟨A, e1, _⟩ := DVR_full hv
      exact ⟨_, hk, hlist (u := u) (xs := List.replicate xs.length u.zero) hT ⟨A, _, by simpa using e1⟩ |>.trans (by simp)⟩
    · have e1 := DVR_nil hv
      exact ⟨_, hk, hlist (u := u) (xs := []) hT ⟨none, 0, by simpa using e1⟩ |>.trans (by simp)⟩
    · rename_i s n t' xs
      obtain ⟨A, cap, e1, _⟩ := ReadSl.of_vec hv.2.2
      exact ⟨_, hk, hlist (u := u) (xs := List.replicate xs.length u.zero) hT ⟨A, cap, by simpa using e1⟩ |>.trans (by simp)⟩
    · rename_i kk p t' xs d
      obtain ⟨_, _, _, _, _, hv⟩ := hv
      obtain ⟨A, cap, e1, _⟩ := ReadSl.of_vec hv
      exact ⟨_, hk, hlist (u := u) (xs := List.replicate xs.length u.zero) hT ⟨A, cap, by simpa using e1⟩ |>.trans (by simp)⟩
    · rename_i kk g p lo hi d
      obtain ⟨g1, g2, off, m', t', g3, g4, g5, g6, A, cap, e1, g8, g9⟩ := hv
      refine ⟨_, hk, hlist (u := u) (xs := List.replicate (hi - lo).toNat u.zero) hT ⟨A, cap, by simpa using e1⟩ |>.trans ?_⟩
      simp
      omega
    · exact ⟨_, hk, hlist (u := u) (xs := []) hT ⟨none, 0, hv⟩ |>.trans (by simp)⟩
    · cases hk
  · rename_i n u hT
    obtain ⟨_, el, hu, _⟩ := hE.ty t _ hT
    refine ⟨_, hk, ?_⟩
    simp [Builtin.len_, run_underlying hu, goInt]
  · cases hk

theorem evMin_ok {mx : Bool} {o1 o2 : OV} {v1 v2 : Value} (h1 : OVR w G σ a o1 v1) (h2 : OVR w G σ a o2 v2) {k : AV → Option R} {r : R} (hk : evMin mx o1 o2 k = some r) :
    ∃ ka n, k (.data (.int ka) n) = some r ∧ ∀ ts ty, (if mx then Builtin.max_ ts ty #[v1, v2] else Builtin.min_ ts ty #[v1, v2] : Sem Value).run P w = .ok (.int ka n) w := by
  unfold evMin at hk
  split at hk
  · rw [DVR_int h1, DVR_int h2]
    split at hk
    · cases mx with
      | true => exact ⟨_, _, hk, fun ts ty => by simp [Builtin.max_, Builtin.max2, maxI]⟩
      | false => exact ⟨_, _, hk, fun ts ty => by simp [Builtin.min_, Builtin.min2, minI]⟩
    · cases hk
  · cases hk
end

end Go.Q

/- The value machine: append. -/
set_option linter.unusedVariables false
namespace Go.Q
open Go Go.RowKit

section
variable {P : Program} {e : Env} {w0 w : World} {S0 : Sx} {σ : St} {a : Act} {G : Gh} {o : Oper} {R : Type}

theorem noInt_ok (hE : EnvOK P e) {t : TypeId} (h : noInt (e.ty t) = true) : P.underlying t = some .string ∨ ∃ el, P.underlying t = some (.slice el) := by
  unfold noInt at h
  split at h
  · rename_i hT
    exact .inl (hE.ty t _ hT).2
  · rename_i u hT
    obtain ⟨_, el, hu, _⟩ := hE.ty t _ hT
    exact .inr ⟨_, hu⟩
  · cases h

/-- What append answers: within the room, or in a new block. -/
theorem run_append (hE : EnvOK P e) {t t1 ty el : TypeId} {u : Ty} (hu : P.underlying t = some (.slice el)) (he : e.ty el = some u) (h1 : noInt (e.ty t1) = true) {S : Nat → Nat → Prop} {A : Option Addr} {xs ys : List u.den} {n cap : Nat} {vx : Value} (hn : n = xs.length)
    (hc : n ≤ cap) (hx : ReadSl w S u xs (.slice A n cap)) (hy : Src P w S u ys vx) (hroom : n + ys.length ≤ 1073741824) :
    (n + ys.length ≤ cap ∧ ∃ new : Array Value, LR (PR w S u) ys new.toList ∧ ∀ w', (match A with | some a => (storeCells (a.add (n * u.sz)) new.toList).run P w = .ok () w' | none => w' = w) →
      (Builtin.append_ #[t, t1] ty #[.slice A n cap, vx]).run P w = .ok (.slice A (n + ys.length) cap) w') ∨
    (cap < n + ys.length ∧ ∃ cells newCap, n + ys.length ≤ newCap ∧ cells.size = newCap * u.sz ∧ LR (PR w S u) (xs ++ ys) (cells.toList.take ((n + ys.length) * u.sz)) ∧
      (Builtin.append_ #[t, t1] ty #[.slice A n cap, vx]).run P w = .ok (.slice (some ⟨w.heap.size, 0, none⟩) (n + ys.length) newCap) (w.drew.alloc (.cells cells el))) := by
  obtain ⟨i, hi, hsz, hby, ⟨z, hz1, hz2⟩, _⟩ := (hE.ty el u he).1
  have hsrc := (hE.ty el u he).1.src
  have hzs : z.cells.size = u.sz := by
    have := PR.length (zc_PR (w := w) (S := S) hsrc)
    rw [← hz2] at this
    simpa using this
  obtain ⟨hlen, hyr⟩ := hy
  obtain ⟨new, hn1, hn2⟩ := hyr ys.length (Nat.le_refl _)
  rw [List.take_length] at hn1
  have hsrcx := ReadSl.src (P := P) hx
  obtain ⟨old, ho1, ho2⟩ := hsrcx.2 xs.length (Nat.le_refl _)
  rw [List.take_length] at ho1
  rw [← hn] at ho2
  by_cases hle : n + ys.length ≤ cap
  · left
    refine ⟨hle, new, hn1, fun w' hw' => ?_⟩
    have hnw := hn2 w rfl
    cases A with
    | none =>
      subst hw'
      rcases noInt_ok hE h1 with hd | ⟨el1, hd⟩ <;>
        simp [Builtin.append_, run_underlying hu, run_underlying hd, sizeOf, typeInfo, hi, hlen, hle, hsz, hnw]
    | some b =>
      simp only at hw'
      rcases noInt_ok hE h1 with hd | ⟨el1, hd⟩ <;>
        simp [Builtin.append_, run_underlying hu, run_underlying hd, sizeOf, typeInfo, hi, hlen, hle, hsz, hnw, hw']
  · right
    have hg : cap < n + ys.length := by omega
    have h63 : ¬ (9223372036854775807 < ((n : Int) + (ys.length : Int))) := by omega
    have h48 : ¬ (281474976710656 < Builtin.nextslicecap (n + ys.length) cap * i.bytes) := by
      have h2 := nextslicecap_le hg
      have : Builtin.nextslicecap (n + ys.length) cap * i.bytes ≤ 2147483648 * 65536 := Nat.mul_le_mul (by omega) hby
      omega
    have hnd := hn2 w.drew rfl
    have hod := ho2 w.drew rfl
    have hge : n + ys.length ≤ grownCap w (n + ys.length) cap el := by
      simp only [grownCap, Question.cut]
      omega
    have hl1 := LR.length (fun _ _ => PR.length) ho1
    have hl2 := LR.length (fun _ _ => PR.length) hn1
    refine ⟨hg, old ++ new ++ Builtin.zeroCells z.cells (grownCap w (n + ys.length) cap el - (n + ys.length)), grownCap w (n + ys.length) cap el, hge, ?_, ?_, ?_⟩
    · have : (Builtin.zeroCells z.cells (grownCap w (n + ys.length) cap el - (n + ys.length))).size = (grownCap w (n + ys.length) cap el - (n + ys.length)) * u.sz := by simp [Builtin.zeroCells, hzs]
      rw [Array.size_append, Array.size_append, this]
      simp only [Array.length_toList] at hl1 hl2
      rw [hl1, hl2, ← hn, ← Nat.add_mul, ← Nat.add_mul]
      congr 1
      omega
    · have hcat := LR.append ho1 hn1
      have : (old ++ new ++ Builtin.zeroCells z.cells (grownCap w (n + ys.length) cap el - (n + ys.length))).toList.take ((n + ys.length) * u.sz) = old.toList ++ new.toList := by
        rw [Array.toList_append, Array.toList_append, List.take_left']
        rw [List.length_append, hl1, hl2, ← hn, Nat.add_mul]
      rw [this]
      exact hcat
    · rcases noInt_ok hE h1 with hd | ⟨el1, hd⟩ <;>
        simp [Builtin.append_, run_underlying hu, run_underlying hd, sizeOf, typeInfo, zeroValue, hi, hz1, hlen, hle, hsz, h63, h48, Question.forced, hnd, hod, newRow, grownCap]
end

end Go.Q

/- The value machine: append, from a state. -/
set_option linter.unusedVariables false
namespace Go.Q
open Go Go.RowKit

section
variable {P : Program} {e : Env} {w0 w : World} {S0 : Sx} {σ : St} {a : Act} {G : Gh} {o : Oper} {R : Type}

theorem splice_take {cs ds : List Value} {i n : Nat} (h : i ≤ cs.length) (hd : ds.length = n) : (splice cs i n ds).take (i + n) = cs.take i ++ ds := by
  simp only [splice, ← List.append_assoc]
  rw [List.take_left']
  rw [List.length_append, List.length_take, hd]
  omega

/-- An owned slice is added to within its room. -/
theorem rel_append (h : RelG w0 S0 σ a w G) (dst : Option Nat) {s g cap : Nat} {t : Ty} {xs ys : List t.den} {n : Nat} {new : List Value} (hs : ∀ t xs, (σ.slot s).av ≠ .vec t xs) (hv : VecR w G (.sl s) t xs (.slice (some ⟨g, 0, none⟩) n cap)) (hy : LR (PR w G.S t) ys new) (hroom : n + ys.length ≤ cap) :
    (storeCells ((⟨g, 0, none⟩ : Addr).add (n * t.sz)) new).run P w = .ok () (w.setCells g (n * t.sz) new) ∧
    Rel w0 S0 (σ.app (sets dst (.vec t (xs ++ ys)))) (a.put dst (.slice (some ⟨g, 0, none⟩) (n + ys.length) cap)) (w.setCells g (n * t.sz) new) := by
  rcases hv with ⟨_, e⟩ | ⟨g', cap', arr, ee, fr, e1, e2, e3, e4, e5, e6, e7⟩
  · cases e
  · simp only [Value.slice.injEq, Option.some.injEq, Addr.mk.injEq] at e1
    obtain ⟨⟨rfl, _⟩, rfl, rfl⟩ := e1
    obtain ⟨x1, x2, x3⟩ := h.inv.ex g _ e6
    have hl := LR.length (fun _ _ => PR.length) hy
    have hsz : xs.length * t.sz + new.length ≤ arr.size := by
      have : (xs.length + ys.length) * t.sz ≤ cap * t.sz := Nat.mul_le_mul_right _ hroom
      rw [Nat.add_mul] at this
      omega
    obtain ⟨arr', c1, c2⟩ := heap_setCells_same g new (xs.length * t.sz) w arr ee fr e3 hsz
    have hoth : ∀ k, k ≠ g → (w.setCells g (xs.length * t.sz) new).heap[k]? = w.heap[k]? := fun k hk => heap_setCells_other _ new _ w k hk
    have hS : ∀ b o, G.S b o → G.S b o ∧ (w.setCells g (xs.length * t.sz) new).cell? ⟨b, o, none⟩ = w.cell? ⟨b, o, none⟩ := fun b o hb =>
      ⟨hb, World.cell?_of_block (w := w) (hoth b fun eb => by subst eb; exact x3 o hb)⟩
    constructor
    · rw [add_none, Nat.zero_add]
      refine run_storeCells_cells g (xs.length * t.sz) new 0 w (fun j hj => ?_) (fun j hj => ?_) (fun v hv => Value.one' (LR.all (fun _ _ => PR.one) hy v hv))
      · rw [box_cells e3, Nat.add_zero, Array.getElem?_eq_getElem (by omega)]; rfl
      · simp only [World.frozen?, e3, Nat.add_zero]
        rcases e5 with e5 | e5
        · simp only [Bool.and_eq_false_iff, decide_eq_false_iff_not]; omega
        · simp only [Bool.and_eq_false_iff, decide_eq_false_iff_not]; omega
    · have h2 := rel_write h e6 hs (w' := w.setCells g (xs.length * t.sz) new) (fun B hB => setCells_below w g _ new hB) (setCells_size _ _ _ _) hoth
      refine rel_vec h2 dst hs (s := s) (.inr ⟨g, cap, arr', ee, fr, by rw [List.length_append], by rw [List.length_append]; exact hroom, c1, ?_, ?_, e6, ?_⟩)
      · rw [← e4, ← Array.length_toList, ← Array.length_toList, c2]
        exact splice_length (by rw [Array.length_toList]; exact hsz) rfl
      · have : arr'.size = arr.size := by
          rw [← Array.length_toList, ← Array.length_toList, c2]
          exact splice_length (by rw [Array.length_toList]; exact hsz) rfl
        rw [this]
        exact e5
      · rw [c2, List.length_append, Nat.add_mul, ← hl]
        rw [splice_take (by have := Array.length_toList (xs := arr); omega) rfl]
        exact LR.mono (fun _ _ => PR.mono hS) (LR.append e7 hy)

theorem LR_drew {S : Nat → Nat → Prop} {u : Ty} {xs : List u.den} {cs : List Value} (h : LR (PR w S u) xs cs) : LR (PR w.drew S u) xs cs :=
  LR.mono (R' := PR w.drew S u) (fun x c hx => PR.mono (w := w) (w' := w.drew) (fun b o hs => ⟨hs, rfl⟩) hx) h

/-- What append reads. -/
theorem src_ok (h : RelG w0 S0 σ a w G) {u : Ty} {ov : OV} {vx : Value} (hv : OVR w G σ a ov vx) {ys : List u.den} {us : List Upd} (hk : srcA u ov = some (ys, us)) : us = [] ∧ Src P w G.S u ys vx := by
  unfold srcA at hk
  split at hk
  · rename_i y
    split at hk
    · rename_i zs hz
      cases hk
      obtain ⟨rfl, rfl⟩ := cast_list hz
      rw [DVR_str hv]
      exact ⟨rfl, str_src y⟩
    · cases hk
  · split at hk
    · split at hk
      · rename_i zs hz
        cases hk
        exact ⟨rfl, (asB_list h hv hz).src⟩
      · cases hk
    · obtain ⟨rfl, hd⟩ := asD_ok hv hk
      obtain ⟨A, cap, rfl, f2, f3⟩ := DVR_list hd
      exact ⟨rfl, (ReadSl.of_sl f2 f3).src⟩

theorem evAppend_ok (hE : EnvOK P e) (h : RelG w0 S0 σ a w G) {t t1 : TypeId} {os ox : OV} {vs vx : Value} (hs : OVR w G σ a os vs) (hx : OVR w G σ a ox vx) {k : List Upd → Option R} {r : R}
    (hex : (execOp a.eval o).run P w = ((Builtin.append_ #[t, t1] o.type #[vs, vx]).run P w).andThen fun b w' => .ok (.value b) w')
    (hk : evAppend (e.ty t) (e.ty t1) os ox o.dst k = some r) : ∃ us, k us = some r ∧ OpS P w0 S0 o σ a w us := by
  unfold evAppend at hk
  split at hk
  · cases hk
  · rename_i hni
    split at hk
    · rename_i T u hT
      obtain ⟨_, el, hu, he⟩ := hE.ty t _ hT
      split at hk
      · cases hk
      · rename_i ys us hys
        obtain ⟨rfl, hsrc⟩ := src_ok (P := P) h hx hys
        -- a slice that is owned, or nil
        have own : ∀ {xs : List u.den} {vv : List Upd} {σ' : St}, asO u os = some (xs, vv) → xs.length + ys.length ≤ 1073741824 → OpS P w0 S0 o σ a w (vv ++ sets o.dst (.vec u (xs ++ ys))) := by
          intro xs vv σ' ha hroom
          have hnil : ∀ σ1, vs = .slice none 0 0 → RelG w0 S0 σ1 a w G → ∀ (next : Act → World → Prop) (Q : Exit → Act → World → Prop), (∀ a' w', Rel w0 S0 (σ1.app (sets o.dst (.vec u ([] ++ ys)))) a' w' → next a' w') → o.wp P a w next Q := by
            intro σ1 e1 h next Q kk
            subst e1
            by_cases hy0 : ys = []
            · subst hy0
              rcases run_append (P := P) (w := w) (ty := o.type) hE hu he hni (A := none) (xs := []) (n := 0) (cap := 0) rfl (Nat.le_refl _) ⟨none, 0, rfl, Nat.le_refl _, .inl rfl⟩ hsrc (by simp) with ⟨_, new, _, hr⟩ | ⟨hg, _⟩
              · refine op_value (by rw [hex, hr w rfl]; rfl) (kk _ _ ?_)
                cases hd : o.dst with
                | none => exact ⟨G, h⟩
                | some d => exact ⟨G, rel_put h d (.inl ⟨rfl, rfl⟩)⟩
              · simp at hg
            · have hpos : 0 < ys.length := List.length_pos_iff.2 hy0
              have hroom' : 0 + ys.length ≤ 1073741824 := by omega
              rcases run_append (P := P) (w := w) (ty := o.type) hE hu he hni (A := none) (xs := []) (n := 0) (cap := 0) rfl (Nat.le_refl _) ⟨none, 0, rfl, Nat.le_refl _, .inl rfl⟩ hsrc hroom' with ⟨hg, _⟩ | ⟨_, cells, nc, q1, q2, q3, hr⟩
              · omega
              · refine op_value (by rw [hex, hr]; rfl) (kk _ _ ?_)
                rw [Nat.zero_add] at q1 q3 ⊢
                exact rel_new (rel_drew h) o.dst (xs := [] ++ ys) (by simp) (by simpa using q1) q2 (.inl rfl) (by have q3' := LR_drew q3; simpa using q3')
          cases os with
          | own s n t' zs =>
            simp only [asO] at ha
            split at ha
            · rename_i ys' hc
              cases ha
              obtain ⟨rfl, rfl⟩ := cast_list hc
              obtain ⟨e1, e2, e3⟩ := hs
              have hlt := slot_lt (σ := σ) (s := s) (t := t') (xs := xs) (by rw [e1])
              have hnv := drop_novec (σ := σ) s hlt
              have hd := rel_drop h s
              rcases e3 with ⟨rfl, rfl⟩ | ⟨g, cap, arr, ee, fr, rfl, f2, f3, f4, f5, f6, f7⟩
              · -- nil: nothing is taken over
                exact fun next Q kk => hnil _ rfl hd next Q kk
              · have hread : ReadSl w G.S t' xs (.slice (some ⟨g, 0, none⟩) xs.length cap) := ReadSl.of_vec (l := .sl s) (.inr ⟨g, cap, arr, ee, fr, rfl, f2, f3, f4, f5, f6, f7⟩)
                rcases run_append (P := P) (w := w) (ty := o.type) hE hu he hni rfl f2 hread hsrc hroom with ⟨hle, new, hn, hr⟩ | ⟨_, cells, nc, q1, q2, q3, hr⟩
                · obtain ⟨m1, m2⟩ := rel_append (P := P) hd o.dst (ys := ys) hnv (.inr ⟨g, cap, arr, ee, fr, rfl, f2, f3, f4, f5, f6, f7⟩) hn hle
                  intro next Q kk
                  exact op_value (by rw [hex, hr _ m1]; rfl) (kk _ _ m2)
                · intro next Q kk
                  refine op_value (by rw [hex, hr]; rfl) (kk _ _ ?_)
                  exact rel_new (rel_drew hd) o.dst (by simp) (by simpa using q1) q2 (.inl rfl) (by have q3' := LR_drew q3; simpa using q3')
            · cases ha
          | nil => simp only [asO] at ha; cases ha; exact fun next Q kk => hnil _ hs h next Q kk
          | data t' x =>
            cases t' <;> simp only [asO] at ha <;> first | (cases ha; exact fun next Q kk => hnil _ (DVR_nil hs) h next Q kk) | cases ha
          | _ => simp [asO] at ha
        split at hk
        · rename_i w' xs
          split at hk
          · rename_i xs' hc
            rcases bool_ite hk with ⟨hr, hk⟩ | ⟨_, hk⟩
            · rw [room_eq, decide_eq_true_eq] at hr
              refine ⟨_, hk, ?_⟩
              obtain ⟨rfl, rfl⟩ := cast_list hc
              obtain ⟨A, rfl, f3⟩ := DVR_full hs
              have hread : ReadSl w G.S w' xs' (.slice A xs'.length xs'.length) := ReadSl.of_sl (Nat.le_refl _) f3
              rcases run_append (P := P) (w := w) (ty := o.type) hE hu he hni rfl (Nat.le_refl _) hread hsrc hr with ⟨hle, new, hn, hrr⟩ | ⟨_, cells, nc, q1, q2, q3, hrr⟩
              · have hy0 : ys = [] := List.eq_nil_of_length_eq_zero (by omega)
                subst hy0
                have hn : new.toList = [] := hn
                refine op_data h (v := .slice A xs'.length xs'.length) ?_ ?_
                · rw [hex, hrr w ?_]
                  · rfl
                  · cases A with
                    | none => rfl
                    | some b => rw [hn]; rfl
                · refine ⟨[.slice A xs'.length xs'.length], ⟨A, xs'.length, by simp, by simp, ?_⟩, rfl⟩
                  rw [List.append_nil]
                  exact f3
              · intro next Q kk
                refine op_value (by rw [hex, hrr]; rfl) (kk _ _ ?_)
                have h2 := rel_drew h
                let G' : Gh := ⟨fun b o => G.S b o ∨ (b = w.heap.size), G.β, G.own⟩
                have hB : Below w.drew.heap.size w.drew (w.drew.alloc (.cells cells el)) := (Below.refl _ _).alloc (Nat.le_refl _) _
                have hS : ∀ b o, G.S b o → G'.S b o ∧ (w.drew.alloc (.cells cells el)).cell? ⟨b, o, none⟩ = w.cell? ⟨b, o, none⟩ := fun b o hb => ⟨.inl hb, hB.cell (p := ⟨b, o, none⟩) (h.inv.st b o hb)⟩
                have h3 : RelG w0 S0 σ a (w.drew.alloc (.cells cells el)) G' := by
                  refine rel_ext h2 hB rfl (fun b o hs => .inl hs) (fun b o hs => hs.imp id fun e => ?_) (fun _ _ => rfl) (fun b l hl hb => ?_)
                  · subst e; exact ⟨Nat.le_refl _, by simp⟩
                  · have := (h.inv.ex b l hl).2.1
                    exact absurd this (Nat.not_lt.2 hb)
                refine ⟨G', rel_sets h3 o.dst (fun _ _ e => by cases e) ?_⟩
                refine ⟨[.slice (some ⟨w.heap.size, 0, none⟩) (xs' ++ ys).length nc], ⟨_, _, rfl, by simpa using q1, .inr ⟨w.heap.size, 0, _, rfl, LR.mono (fun _ _ => PR.mono hS) q3, ?_⟩⟩, by rw [List.length_append]; rfl⟩
                intro j v hj
                refine ⟨?_, .inr rfl⟩
                rw [Nat.zero_add]
                refine (box_cells (alloc_new w.drew _) j).trans ?_
                rw [← Array.getElem?_toList]
                exact take_some hj
            · cases hk
          · cases hk
        · split at hk
          · rename_i xs vv ha
            rcases bool_ite hk with ⟨hr, hk⟩ | ⟨_, hk⟩
            · rw [room_eq, decide_eq_true_eq] at hr
              exact ⟨_, hk, own (σ' := σ) ha hr⟩
            · cases hk
          · cases hk
    · cases hk
end

end Go.Q

/- The value machine: copies; conversions. -/
set_option linter.unusedVariables false
namespace Go.Q
open Go Go.RowKit

section
variable {P : Program} {e : Env} {w0 w : World} {S0 : Sx} {σ : St} {a : Act} {G : Gh} {o : Oper} {R : Type}

theorem srcC_ok (h : RelG w0 S0 σ a w G) {u : Ty} {ov : OV} {vx : Value} (hv : OVR w G σ a ov vx) {ys : List u.den} (hk : srcC u ov = some ys) : Src P w G.S u ys vx := by
  unfold srcC at hk
  split at hk
  · rename_i y
    obtain ⟨rfl, rfl⟩ := cast_list hk
    rw [DVR_str hv]
    exact str_src y
  · exact (asB_list h hv hk).src

theorem splice_in {l new : List Value} {i n j k : Nat} (h1 : i + n ≤ l.length) (h2 : j + k ≤ n) : splice l (i + j) k new = splice l i n (splice ((l.drop i).take n) j k new) := by
  have hA : (l.take i).length = i := by rw [List.length_take]; omega
  have hB : ((l.drop i).take n).length = n := by rw [List.length_take, List.length_drop]; omega
  have hl : l = l.take i ++ ((l.drop i).take n ++ l.drop (i + n)) := by
    rw [← List.drop_drop, List.take_append_drop, List.take_append_drop]
  generalize hA' : l.take i = A at *
  generalize hB' : (l.drop i).take n = B at *
  generalize hC' : l.drop (i + n) = C at *
  have e1 : splice l (i + j) k new = A ++ (splice B j k new ++ C) := by
    rw [hl, ← hA, splice_right, splice_left (by omega)]
  have e2 : splice l i n (splice B j k new) = A ++ (splice B j k new ++ C) := by
    have := splice_right (c := A) (d := B ++ C) (ds := splice B j k new) (i := 0) (n := n)
    rw [Nat.add_zero, hA] at this
    rw [hl, this, splice_left (by omega), ← hB, splice_all]
  rw [e1, e2]

theorem run_copy (hE : EnvOK P e) {t el ty : TypeId} {ts : List TypeId} {u : Ty} (hu : P.underlying t = some (.slice el)) (he : e.ty el = some u) {A : Option Addr} {dl cap yl : Nat} {vx : Value} {new : Array Value} {w1 : World}
    (hlen : ∀ w', (Builtin.lenOf vx).run P w' = .ok yl w') (hf : (Builtin.firstCells u.sz (Nat.min yl dl) vx).run P w = .ok new w) (h1 : ∀ a0, A = some a0 → (storeCells a0 new.toList).run P w = .ok () w1) (h2 : A = none → w1 = w) :
    (Builtin.copy_ (t :: ts).toArray ty #[.slice A dl cap, vx]).run P w = .ok (.int .i64 (Nat.min yl dl : Nat)) w1 := by
  cases A with
  | none =>
    rw [h2 rfl]
    simp [Builtin.copy_, run_underlying hu, hlen, run_sizeOf (hE.ty el u he).1, hf, goInt]
  | some a0 =>
    simp [Builtin.copy_, run_underlying hu, hlen, run_sizeOf (hE.ty el u he).1, hf, goInt, h1 a0 rfl]

theorem evCopy_ok (hE : EnvOK P e) (h : RelG w0 S0 σ a w G) {t t1 : TypeId} {ts : List TypeId} {od ox : OV} {vd vx : Value} (hd : OVR w G σ a od vd) (hx : OVR w G σ a ox vx) {k : List Upd → Option R} {r : R}
    (hex : (execOp a.eval o).run P w = ((Builtin.copy_ (t :: ts).toArray o.type #[vd, vx]).run P w).andThen fun b w' => .ok (.value b) w')
    (hk : evCopy (e.ty t) od ox o.dst k = some r) : ∃ us, k us = some r ∧ OpS P w0 S0 o σ a w us := by
  unfold evCopy at hk
  split at hk
  · rename_i T u hT
    obtain ⟨_, el, hu, he⟩ := hE.ty t _ hT
    split at hk
    · cases hk
    · rename_i ys hys
      have hsrc := srcC_ok (P := P) h hx hys
      split at hk
      · cases hk
      · rename_i hfl
        split at hk
        · rename_i b g p lo hi d
          obtain ⟨g1, g2, off, m', t', g3, g4, g5, g6, A, cap, rfl, g8, g9⟩ := hd
          split at hk
          · rename_i m w' xs hg
            obtain ⟨q1, cs, q2, q3⟩ := box_ok h g2 hg g3 (fun _ _ e => by cases e)
            cases q1
            split at hk
            · rename_i zs hz
              obtain ⟨rfl, rfl⟩ := cast_list hz
              split at hk
              · rename_i d' hs
                refine ⟨_, hk, ?_⟩
                obtain ⟨hlen, hcel⟩ := hsrc
                let n := Nat.min zs.length (hi - lo).toNat
                have hn : n = min (hi - lo).toNat zs.length := Nat.min_comm _ _
                obtain ⟨new, n1, n2⟩ := hcel n (Nat.min_le_left _ _)
                obtain ⟨arr, ee, b1, b2, b3⟩ := (h.bx b d g2).cells (fun kk ek e => by
                  obtain ⟨dt, dx⟩ := d
                  simp only at e
                  subst e
                  cases p with
                  | nil => simp [getP] at hg
                  | cons q p => cases q <;> simp [getP] at hg)
                obtain ⟨_, c2⟩ := getP_CR p b3 hg g3
                obtain ⟨c3, c4⟩ := CR.to_PR rfl c2
                have c3 : xs.length = m' := c3
                have hle := offP_le p g3
                have hal := CR.length b3
                rw [Array.length_toList] at hal
                have hnl : new.toList.length = n * u.sz := by
                  have := LR.length (fun _ _ => PR.length) n1
                  rw [List.length_take, Nat.min_eq_left (Nat.min_le_left _ _)] at this
                  exact this
                have hnle : n ≤ (hi - lo).toNat := Nat.min_le_right _ _
                have hsz1 : lo.toNat * u.sz + n * u.sz ≤ m' * u.sz := by
                  rw [← Nat.add_mul]
                  exact Nat.mul_le_mul_right _ (by omega)
                have hsz : (Ty.arr m' u).sz = m' * u.sz := rfl
                rw [hsz] at hle c4
                have hcs : splice arr.toList (off + lo.toNat * u.sz) new.toList.length new.toList = splice arr.toList off (m' * u.sz) (splice ((arr.toList.drop off).take (m' * u.sz)) (lo.toNat * u.sz) (n * u.sz) new.toList) := by
                  rw [hnl]
                  exact splice_in (by have := Array.length_toList (xs := arr); omega) hsz1
                have hy : PR w G.S (.arr m' u) (List.take lo.toNat xs ++ (List.take (hi - lo).toNat zs ++ List.drop (lo.toNat + min (hi - lo).toNat zs.length) xs)) (splice ((arr.toList.drop off).take (m' * u.sz)) (lo.toNat * u.sz) (n * u.sz) new.toList) := by
                  have ht : List.take (hi - lo).toNat zs = List.take n zs := by
                    rw [hn, List.take_eq_take_iff]
                    omega
                  rw [ht, ← hn]
                  refine ⟨?_, ?_⟩
                  · simp only [List.length_append, List.length_take, List.length_drop]
                    omega
                  · unfold splice
                    rw [← Nat.add_mul]
                    exact LR.append (LR.take (fun _ _ => PR.length) _ c4) (LR.append n1 (LR.drop (fun _ _ => PR.length) _ c4))
                have hrun : (Builtin.copy_ (t :: ts).toArray o.type #[.slice A (hi - lo).toNat cap, vx]).run P w = .ok (.int .i64 n) (w.setCells (G.β b) (off + lo.toNat * u.sz) new.toList) := by
                  refine run_copy hE hu he hlen (n2 w rfl) (fun a0 hA => ?_) (fun hA => ?_)
                  · by_cases hlt : lo < hi
                    · rw [g9 hlt] at hA
                      cases hA
                      refine run_storeCells_cells (G.β b) (off + lo.toNat * u.sz) new.toList 0 w (fun j hj => ?_) (fun j hj => by simp [World.frozen?, b1]) (fun v hv => Value.one' (LR.all (fun _ _ => PR.one) n1 v hv))
                      rw [box_cells b1, Nat.add_zero, Array.getElem?_eq_getElem (by omega)]
                      rfl
                    · have h0 : n = 0 := by omega
                      rw [h0, Nat.zero_mul] at hnl
                      rw [List.eq_nil_of_length_eq_zero hnl]
                      rfl
                  · by_cases hlt : lo < hi
                    · rw [g9 hlt] at hA
                      cases hA
                    · have h0 : n = 0 := by omega
                      rw [h0, Nat.zero_mul] at hnl
                      rw [List.eq_nil_of_length_eq_zero hnl]
                      rfl
                intro next Q kk
                refine op_value (by rw [hex, hrun]; rfl) (kk _ _ ?_)
                have h2 := rel_bx' h g2 hs g3 b1 (by omega) hcs hy
                have hnn : min (hi - lo) (zs.length : Int) = (n : Int) := by omega
                rw [hnn]
                exact ⟨G, rel_sets h2 o.dst (fun _ _ e => by cases e) (DVR.int _ _)⟩
              · cases hk
            · cases hk
          · cases hk
        · cases hk
  · cases hk
end

end Go.Q

/- The value machine: conversions; function values. -/
set_option linter.unusedVariables false
namespace Go.Q
open Go Go.RowKit

section
variable {P : Program} {e : Env} {w0 w : World} {S0 : Sx} {σ : St} {a : Act} {G : Gh} {o : Oper} {R : Type}

def frz (n : Nat) (fr : Nat × Nat) : Nat × Nat := if fr.1 == fr.2 then (n, n + 1) else (min fr.1 n, max fr.2 (n + 1))

theorem frz_ok {n : Nat} {fr : Nat × Nat} (h : Unfrozen fr n) : Unfrozen (frz n fr) n := by
  unfold frz Unfrozen at *
  split
  · right; exact Nat.le_refl _
  · rename_i hne
    right
    rcases h with h | h
    · exact absurd (by simpa using h) hne
    · show n ≤ min fr.1 n
      omega

theorem run_markStringish {g : Nat} {off : Nat} {arr : Array Value} {ee : TypeId} {fr : Nat × Nat} (h : w.heap[g]? = some (.cells arr ee fr)) :
    ∃ w', (markStringish ⟨g, off, none⟩).run P w = .ok () w' ∧ w'.heap[g]? = some (.cells arr ee (frz arr.size fr)) ∧ (∀ k, k ≠ g → w'.heap[k]? = w.heap[k]?) ∧ w'.heap.size = w.heap.size ∧ ∀ B, B ≤ g → Below B w w' := by
  have hs : w.shape? g = some (ee, arr.size) := by simp [World.shape?, h]
  refine ⟨w.freeze ⟨g, arr.size, none⟩ 1, by simp [markStringish, hs], ?_, ?_, ?_, ?_⟩
  · obtain ⟨lo, hi⟩ := fr
    simp [World.freeze, Array.getElem?_modify, h, frz]
  · intro k hk
    simp [World.freeze, Array.getElem?_modify, Ne.symm hk]
  · simp [World.freeze]
  · intro B hB
    refine ⟨rfl, rfl, rfl, by simp [World.freeze], fun k hk => ?_⟩
    simp [World.freeze, Array.getElem?_modify, show ¬ g = k by omega]

theorem run_choose_drew' (q : Question) : (choose q).run P w = if q.forced then .ok 0 w else .ok (q.cut (w.tape w.drawn q)) w.drew := by
  simp only [choose, Sem.run]
  rfl

theorem toBytes_ok (h : RelG w0 S0 σ a w G) {el : TypeId} {x : ByteArray} (hr : (execOp a.eval o).run P w = ((Conv.stringToBytes el x).run P w).andThen fun b w' => .ok (.value b) w') :
    OpS P w0 S0 o σ a w (sets o.dst (.vec (.int .u8) (bytesOf x))) := by
  intro next Q kk
  have hq : (Question.appendCap x.size 0 el).forced = false := rfl
  let cap := (Question.appendCap x.size 0 el).cut (w.tape w.drawn (.appendCap x.size 0 el))
  have hcap : x.size ≤ cap := by simp only [cap, Question.cut]; omega
  let arr : Array Value := (x.data.map fun b => Value.int .u8 b.toNat) ++ Array.replicate (cap - x.size) (.int .u8 0)
  have hasz : arr.size = cap := by
    have : x.data.size = x.size := rfl
    simp [arr, this]
    omega
  obtain ⟨w', m1, m2, m3, m4, m5⟩ := run_markStringish (P := P) (w := w.drew.alloc (.cells arr el)) (g := w.heap.size) (off := 0) (alloc_new w.drew _)
  have hrun : (Conv.stringToBytes el x).run P w = .ok (.slice (some ⟨w.heap.size, 0, none⟩) x.size cap) w' := by
    simp only [Conv.stringToBytes, Sem.run_bind, run_choose_drew', hq, Bool.false_eq_true, if_false, Result.andThen_ok, newRow, run_newObj, World.alloc_eq, Sem.run_pure]
    have m1' : (markStringish ⟨w.drew.heap.size, 0, none⟩).run P (w.drew.alloc (.cells arr el)) = .ok () w' := m1
    rw [m1']
    rfl
  refine op_value (by rw [hr, hrun]; rfl) (kk _ _ ?_)
  have h1 := rel_give (rel_drew h) (.cells arr el) (.sl σ.sl.length)
  have hnv : ∀ t xs, (σ.slot σ.sl.length).av ≠ .vec t xs := fun t xs e => by
    have := slot_lt e
    omega
  have hg : (G.give w.drew.heap.size (.sl σ.sl.length)).own w.heap.size = some (.sl σ.sl.length) := if_pos rfl
  have h2 := rel_write h1 hg hnv m5 m4 m3
  have hl : (bytesOf x).length = x.size := by simp [bytesOf]
  rw [← hl] at hcap ⊢
  refine rel_vec h2 o.dst hnv (.inr ⟨w.heap.size, cap, arr, el, _, rfl, hcap, m2, by rw [hasz]; exact (Nat.mul_one _).symm, frz_ok (.inl rfl), hg, ?_⟩)
  have : arr.toList.take ((bytesOf x).length * (Ty.int .u8).sz) = x.data.toList.map fun b => Value.int .u8 (b.toNat : Int) := by
    show arr.toList.take ((bytesOf x).length * 1) = _
    rw [Nat.mul_one, hl]
    simp only [arr, Array.toList_append, Array.toList_map]
    exact List.take_left' (by simp)
  rw [this]
  exact bytes_LR _

theorem read_bytes {S : Nat → Nat → Prop} {xs : List Int} {cs : List Value} (h : LR (PR w S (.int .u8)) xs cs) : cs = xs.map (Value.int .u8) := by
  induction xs generalizing cs with
  | nil => exact h
  | cons x xs ih =>
    obtain ⟨c, d, e, p, q⟩ := h
    cases p
    rw [e, ih q]
    rfl

theorem toString_ok {S : Nat → Nat → Prop} {xs : List Int} {v : Value} (h : ReadSl w S (.int .u8) xs v) : (Conv.bytesToString v).run P w = .ok (.string (mkStr xs)) w := by
  have hp : ∀ (ns : List Int) (s : ByteArray), ns.foldl (fun r n => r.push (UInt8.ofNat n.toNat)) s = ⟨s.data ++ (ns.map fun n => UInt8.ofNat n.toNat).toArray⟩ := by
    intro ns
    induction ns with
    | nil => intro s; simp
    | cons n ns ih => intro s; rw [List.foldl_cons, ih]; simp [ByteArray.push]
  obtain ⟨A, cap, rfl, hc, hx⟩ := h
  rcases hx with rfl | ⟨b, off, ds, rfl, hx, hcs⟩
  · cases A with
    | none => rfl
    | some a =>
      have := run_bytesToString (P := P) w a 0 cap [] (by simp [loadCells, loadCellsFrom])
      exact this
  · have hds := read_bytes hx
    have hl : ds.length = xs.length := by rw [hds]; simp
    have hld := run_loadCells_list (P := P) w ⟨b, off, none⟩ ds (fun j v hj => by rw [add_none]; exact hcs j v hj)
    rw [hl, hds] at hld
    rw [run_bytesToString w _ _ cap xs hld, hp]
    simp only [mkStr]
    congr 2
    simp

theorem evConvert_ok (hE : EnvOK P e) (h : RelG w0 S0 σ a w G) {s d : TypeId} {ov : OV} {vx : Value} (hv : OVR w G σ a ov vx) {k : List Upd → Option R} {r : R}
    (hex : (execOp a.eval o).run P w = ((convert s d vx).run P w).andThen fun b w' => .ok (.value b) w')
    (hk : evConvert (Nat.beq s d) (e.ty s) (e.ty d) ov o.dst k = some r) : ∃ us, k us = some r ∧ OpS P w0 S0 o σ a w us := by
  unfold evConvert at hk
  split at hk
  · cases hk
  · rename_i T hT
    have hsu : ∃ ds, P.underlying s = some ds := by
      obtain ⟨_, hU⟩ := hE.ty s _ hT
      cases T <;> simp only [TyU] at hU <;> first
        | exact hU.elim
        | exact ⟨_, hU⟩
        | (obtain ⟨el, hU, _⟩ := hU; exact ⟨_, hU⟩)
    obtain ⟨ds, hds⟩ := hsu
    have hbytes : ∀ {t : TypeId}, e.ty t = some (.list (.int .u8)) → ∃ el, P.underlying t = some (.slice el) ∧ P.underlying el = some (.int .u8) := fun ht => by
      obtain ⟨_, el, hu, he⟩ := hE.ty _ _ ht
      exact ⟨el, hu, (hE.ty _ _ he).2⟩
    split at hk
    · rename_i ka n kd hd
      have hdu : P.underlying d = some (.int kd) := (hE.ty d _ hd).2
      refine ⟨_, hk, op_data h ?_ (DVR.int _ _)⟩
      rw [hex, DVR_int hv]
      cases ds <;> simp [convert, run_underlying hds, run_underlying hdu, Conv.intToInt]
    · rename_i x hd
      obtain ⟨el, hu, he⟩ := hbytes hd
      refine ⟨_, hk, toBytes_ok h (el := el) ?_⟩
      rw [hex, DVR_str hv]
      cases ds <;> simp [convert, run_underlying hds, run_underlying hu, run_underlying he]
    · rename_i x hd
      have hdu : P.underlying d = some .string := (hE.ty d _ hd).2
      refine ⟨_, hk, op_data h ?_ (DVR.str _)⟩
      rw [hex, DVR_str hv]
      cases ds <;> simp [convert, run_underlying hds, run_underlying hdu]
    · rename_i q n u xs hd
      obtain ⟨el, hu, he⟩ := hbytes hd
      split at hk
      · rename_i hsd
        have hsd : s = d := Nat.eq_of_beq_eq_true hsd
        subst hsd
        rw [hu] at hds
        cases hds
        rcases bool_ite hk with ⟨hpos, hk⟩ | ⟨_, hk⟩
        · have hpos := Nat.le_of_ble_eq_true hpos
          refine ⟨_, hk, ?_⟩
          obtain ⟨e1, e2, e3⟩ := hv
          have hlt := slot_lt (σ := σ) (s := q) (t := u) (xs := xs) (by rw [e1])
          have hnv := drop_novec (σ := σ) q hlt
          have hdr := rel_drop h q
          rcases e3 with ⟨rfl, _⟩ | ⟨g, cap, arr, ee, fr, rfl, f2, f3, f4, f5, f6, f7⟩
          · simp at hpos
          · obtain ⟨w', m1, m2, m3, m4, m5⟩ := run_markStringish (P := P) (off := 0) f3
            have h2 := rel_write hdr f6 hnv m5 m4 m3
            have hS : ∀ b o, G.S b o → G.S b o ∧ w'.cell? ⟨b, o, none⟩ = w.cell? ⟨b, o, none⟩ := fun b o hb =>
              ⟨hb, World.cell?_of_block (w := w) (m3 b fun eb => by subst eb; exact (h.inv.ex _ _ f6).2.2 o hb)⟩
            intro next Q kk
            refine op_value (w' := w') (v := .slice (some ⟨g, 0, none⟩) xs.length cap) ?_ (kk _ _ (rel_vec h2 o.dst hnv (.inr ⟨g, cap, arr, ee, _, rfl, f2, m2, f4, frz_ok f5, f6, LR.mono (fun _ _ => PR.mono hS) f7⟩)))
            rw [hex]
            simp [convert, run_underlying hu, run_underlying he, m1]
        · cases hk
      · cases hk
    · rename_i hd
      split at hk
      · rename_i hT'
        split at hk
        · rename_i xs hb
          have hdu : P.underlying d = some .string := (hE.ty d _ hd).2
          obtain ⟨el, hu, he⟩ := hbytes hT
          have hrd := asB_list h hv hb
          have hts := toString_ok (P := P) hrd
          obtain ⟨A, cap, rfl, _⟩ := hrd
          refine ⟨_, hk, op_data h (v := .string (mkStr xs)) ?_ (DVR.str _)⟩
          rw [hex]
          simp [convert, run_underlying hu, run_underlying he, run_underlying hdu, hts]
        · cases hk
      · cases hk
    · cases hk

theorem evArrayAt_ok (hE : EnvOK P e) (h : RelG w0 S0 σ a w G) {t el : TypeId} {n : Nat} {u : Ty} (hu : P.underlying t = some (.array n el)) (hn : 1 ≤ n) {b g : Nat} {p : List Stp} {lo hi : Int} {d : DV} {vx : Value} (hv : OVR w G σ a (.bsl b g p lo hi d) vx) (hle : (n : Int) ≤ hi - lo) :
    ∃ va, (Instr.arrayAt t vx).run P w = .ok va w ∧ AVR w G σ a 0 (.ptr b g (p ++ [.sub lo.toNat n])) va := by
  obtain ⟨g1, g2, off, m, t', g3, g4, g5, g6, A, cap, rfl, g8, g9⟩ := hv
  have hA := g9 (by omega)
  refine ⟨_, by simp only [Instr.arrayAt, Sem.run_bind, run_underlying hu, Result.andThen_ok]; rw [if_neg (by omega)]; rfl, ?_⟩
  refine ⟨by rw [g1]; exact Nat.le_refl _, fun _ => ⟨d, off + (lo.toNat * t'.sz + 0), .arr n t', g2, offP_append p g3 ?_, by rw [hA]; simp⟩⟩
  simp only [offP]
  rw [if_pos (by omega)]

theorem evArrayRef_ok {S : Nat → Nat → Prop} {t el : TypeId} {n : Nat} {u : Ty} (hu : P.underlying t = some (.array n el)) (hn : 1 ≤ n) {xs : List u.den} {vx : Value} (hv : DVR w S ⟨.list u, xs⟩ vx) (hle : (n : Int) ≤ (xs.length : Int)) :
    ∃ va, (Instr.arrayAt t vx).run P w = .ok va w ∧ DVR w S ⟨.ref (.arr n u), List.take n xs⟩ va := by
  obtain ⟨A, cap, rfl, f2, f3⟩ := DVR_list hv
  rcases f3 with rfl | ⟨b, off, ds, rfl, hx, hc⟩
  · simp at hle; omega
  · refine ⟨_, by simp only [Instr.arrayAt, Sem.run_bind, run_underlying hu, Result.andThen_ok]; rw [if_neg (by omega)]; rfl, ?_⟩
    refine DVR.one rfl ⟨b, off, ds.take (n * u.sz), rfl, ⟨by rw [List.length_take]; omega, LR.take (fun _ _ => PR.length) n hx⟩, fun j v hj => hc j v (take_some hj)⟩

theorem OVR.toAV {ov : OV} {v : Value} (h : OVR w G σ a ov v) : AVRS w G σ a ov.toAV v := by
  cases ov with
  | fn f cs => trivial
  | _ => exact OVR0.toAV h

theorem L2.ofMap {α : Type} {R' : AV → Value → Prop} {f : α → AV} {g : α → Value} : ∀ (l : List α), (∀ x, R' (f x) (g x)) → L2 R' (l.map f) (l.map g)
  | [], _ => trivial
  | x :: l, h => ⟨h x, L2.ofMap l h⟩
end

end Go.Q

/- The value machine: calls. -/
set_option linter.unusedVariables false
namespace Go.Q
open Go Go.RowKit

/-- A slice in a new block that nobody else has. -/
def NewVec (w0 w : World) (S : Nat → Nat → Prop) (t : Ty) (xs : List t.den) (v : Value) : Prop :=
  (xs = [] ∧ v = .slice none 0 0) ∨ ∃ g cap arr e fr, v = .slice (some ⟨g, 0, none⟩) xs.length cap ∧ xs.length ≤ cap ∧ w.heap[g]? = some (.cells arr e fr) ∧ arr.size = cap * t.sz ∧ Unfrozen fr arr.size ∧
    (w0.heap.size ≤ g ∧ ∀ o, ¬ S g o) ∧ LR (PR w S t) xs (arr.toList.take (xs.length * t.sz))

def PRs (w : World) (S : Nat → Nat → Prop) : (ts : List Ty) → TDen ts → List Value → Prop
  | [], _, vs => vs = []
  | t :: ts, x, vs => ∃ v r, vs = v :: r ∧ DVR w S ⟨t, x.1⟩ v ∧ PRs w S ts x.2 r

def RR (w0 w : World) (S : Nat → Nat → Prop) : (rs : List RTy) → RDen rs → Value → Prop
  | [], _, v => v = .tuple #[]
  | [.v t], x, v => DVR w S ⟨t, x⟩ v
  | [.o t], xs, v => NewVec w0 w S t xs v
  | .v t :: s :: rs, x, v => ∃ ds vs, resDV (.v t :: s :: rs) x = some ds ∧ v = .tuple vs ∧ L2 (DVR w S) ds vs.toList
  | .o _ :: _ :: _, _, _ => False
  | [.fn f cs], x, v => ∃ vs, v = .func (.func f) #[] vs ∧ PRs w S cs x vs.toList
  | .fn _ _ :: _ :: _, _, _ => False

def ArgR (w : World) (S : Nat → Nat → Prop) : (ps : List PTy) → PDen ps → List Value → Prop
  | [], _, vs => vs = []
  | .v t :: ps, x, vs => ∃ v r, vs = v :: r ∧ DVR w S ⟨t, x.1⟩ v ∧ ArgR w S ps x.2 r
  | .fn f cs :: ps, x, vs => ∃ fs r, vs = .func (.func f) #[] fs :: r ∧ PRs w S cs x.1 fs.toList ∧ ArgR w S ps x.2 r

/-- What a function's contract says of the program. -/
def FnOK (P : Program) (gl : Nat → Option DV) (f : FuncId) (c : Con) : Prop :=
  (∃ fn, P.funcs[f]? = some fn ∧ (fn.name == "runtime.NumGoroutine") = false ∧ fn.body.isNone = false) ∧
  ∀ x y, c.f x = some y → ∀ (w : World) (S : Nat → Nat → Prop) (args : Array Value), GlR gl w S → ArgR w S c.ps x args.toList →
    Calls P f args w fun ex w' => ∃ v, ex = .returned v ∧ Below w.heap.size w w' ∧ ∃ S' : Nat → Nat → Prop, (∀ b o, S b o → S' b o) ∧ (∀ b o, S' b o → S b o ∨ (w.heap.size ≤ b ∧ b < w'.heap.size)) ∧ RR w w' S' c.rs y v

section
variable {P : Program} {e : Env} {w0 w : World} {S0 : Sx} {σ : St} {a : Act} {G : Gh} {o : Oper} {R : Type}

theorem GlR.mono {gl : Nat → Option DV} {w w' : World} {S S' : Nat → Nat → Prop} (h : GlR gl w S) (hS : ∀ b o, S b o → S' b o ∧ w'.cell? ⟨b, o, none⟩ = w.cell? ⟨b, o, none⟩) (hs : ∀ b o, S' b o → b < w'.heap.size) : GlR gl w' S' :=
  ⟨hs, fun g d hd => let ⟨ds, h1, h2⟩ := h.2 g d hd; ⟨ds, PR.mono hS h1, Cells.mono hS h2⟩⟩

theorem rel_gl {gl : Nat → Option DV} (h : RelG w0 S0 σ a w G) (hg : GlR gl w0 S0.f) : GlR gl w G.S :=
  hg.mono (fun b o hs => ⟨h.inv.s0 b o hs, h.inv.below.cell (p := ⟨b, o, none⟩) (hg.1 b o hs)⟩) h.inv.st

/-- After a call. -/
theorem after_call (h : RelG w0 S0 σ a w G) (dst : Option Nat) {w' : World} (hB : Below w.heap.size w w') {S' : Nat → Nat → Prop} (h1 : ∀ b o, G.S b o → S' b o) (h2 : ∀ b o, S' b o → G.S b o ∨ (w.heap.size ≤ b ∧ b < w'.heap.size)) {rs : List RTy} {y : RDen rs} {v : Value} (hr : RR w w' S' rs y v) {av : AV} (ha : resAV rs y = some av) :
    Rel w0 S0 (σ.app (sets dst av)) (a.put dst v) w' := by
  have hex : RelG w0 S0 σ a w' ⟨S', G.β, G.own⟩ := rel_ext h hB rfl h1 h2 (fun _ _ => rfl) (fun b l hl hb => by have := (h.inv.ex b l hl).2.1; omega)
  have plain : ∀ {av : AV}, (∀ t xs, av ≠ .vec t xs) → AVR w' ⟨S', G.β, G.own⟩ σ a 0 av v → Rel w0 S0 (σ.app (sets dst av)) (a.put dst v) w' := fun hn hv => ⟨_, rel_sets hex dst hn hv⟩
  match rs, y, hr, ha with
  | [], _, hr, ha => simp only [resAV, Option.some.injEq] at ha; subst ha; exact plain (fun _ _ e => by cases e) ⟨#[], hr, trivial⟩
  | [.v t], x, hr, ha => simp only [resAV, Option.some.injEq] at ha; subst ha; exact plain (fun _ _ e => by cases e) hr
  | [.o t], xs, hr, ha =>
    simp only [resAV, Option.some.injEq] at ha
    subst ha
    have hnv : ∀ t xs, (σ.slot σ.sl.length).av ≠ .vec t xs := fun t xs e => by have := slot_lt e; omega
    rcases hr with ⟨e1, e2⟩ | ⟨g, cap, arr, ee, fr, q1, q2, q3, q4, q5, ⟨q6, q6'⟩, q7⟩
    · exact rel_vec hex dst hnv (s := σ.sl.length) (.inl ⟨e1, e2⟩)
    · have hgl : g < w'.heap.size := by
        by_cases hg : g < w'.heap.size
        · exact hg
        · rw [Array.getElem?_eq_none (by omega)] at q3; cases q3
      have hex2 : RelG w0 S0 σ a w' ⟨S', G.β, fun b => if b = g then some (.sl σ.sl.length) else G.own b⟩ := by
        refine rel_ext h hB rfl h1 h2 (fun b hb => if_neg (by omega)) (fun b l hl hb => ?_)
        simp only at hl
        split at hl
        · rename_i e; subst e; exact ⟨hgl, q6'⟩
        · have := (h.inv.ex b l hl).2.1; omega
      exact rel_vec hex2 dst hnv (s := σ.sl.length) (.inr ⟨g, cap, arr, ee, fr, q1, q2, q3, q4, q5, if_pos rfl, q7⟩)
  | .o _ :: _ :: _, x, hr, ha => exact hr.elim
  | .fn _ _ :: _ :: _, x, hr, ha => exact hr.elim
  | [.fn f cs], x, hr, ha =>
    simp only [resAV, Option.some.injEq] at ha
    subst ha
    obtain ⟨vs, q1, q2⟩ := hr
    have key : ∀ {cs : List Ty} {x : TDen cs} {vs : List Value}, PRs w' S' cs x vs → L2 (AVRS w' ⟨S', G.β, G.own⟩ σ a) (capV cs x) vs := by
      intro cs
      induction cs with
      | nil => intro x vs h; cases h; trivial
      | cons t cs ih => rintro x vs ⟨v, r, rfl, h1, h2⟩; exact ⟨h1, ih h2⟩
    exact plain (fun _ _ e => by cases e) ⟨vs, q1, key q2⟩
  | .v t :: s :: rs, x, hr, ha =>
    obtain ⟨ds, vs, q1, q2, q3⟩ := hr
    have : resAV (.v t :: s :: rs) x = some (.tup ds) := by
      simp only [resAV, q1]
    rw [this] at ha
    cases ha
    exact plain (fun _ _ e => by cases e) ⟨vs, q2, q3⟩

theorem RR.flat {w w' : World} {S S' : Nat → Nat → Prop} (hS : ∀ b o, S' b o → b < w.heap.size) : ∀ {rs : List RTy} {y : RDen rs} {v : Value}, lent rs = true → RR w w' S rs y v → RR w w' S' rs y v
  | [], _, _, _, h => h
  | [.v t], x, v, hl, h => by
    simp only [lent, Bool.and_true] at hl
    obtain ⟨cs, p, q⟩ := h
    exact ⟨cs, PR.flat hl p, q⟩
  | [.o t], xs, v, hl, h => by
    simp only [lent, Bool.and_true] at hl
    rcases h with h | ⟨g, cap, arr, ee, fr, q1, q2, q3, q4, q5, ⟨q6, _⟩, q7⟩
    · exact .inl h
    · exact .inr ⟨g, cap, arr, ee, fr, q1, q2, q3, q4, q5, ⟨q6, fun o hs => by have := hS _ _ hs; omega⟩, LR.mono (fun _ _ => PR.flat hl) q7⟩
  | .o _ :: _ :: _, _, _, _, h => h
  | .fn _ _ :: _, _, _, hl, _ => by simp [lent] at hl
  | .v t :: s :: rs, x, v, hl, ⟨ds, vs, q1, q2, q3⟩ => by
    refine ⟨ds, vs, q1, q2, ?_⟩
    have hd : ∀ (rs : List RTy) (x : RDen rs) (ds : List DV), lent rs = true → resDV rs x = some ds → ∀ d ∈ ds, d.t.flat = true := by
      intro rs
      induction rs with
      | nil => intro x ds _ hd; simp only [resDV, Option.some.injEq] at hd; subst hd; exact fun d hd => by cases hd
      | cons r rs ih =>
        intro x ds hl hd
        cases rs with
        | nil =>
          cases r with
          | v t =>
            simp only [resDV, Option.some.injEq] at hd
            subst hd
            intro d hd
            simp only [lent, Bool.and_true] at hl
            simp only [List.mem_singleton] at hd
            subst hd
            exact hl
          | o t => simp [resDV] at hd
          | fn f cs => simp [resDV] at hd
        | cons s rs =>
          cases r with
          | v t =>
            simp only [resDV] at hd
            split at hd
            · rename_i l e1
              cases hd
              rw [lent, Bool.and_eq_true] at hl
              intro d hd
              rcases List.mem_cons.1 hd with rfl | hd
              · exact hl.1
              · exact ih x.2 l hl.2 e1 d hd
            · cases hd
          | o t => simp [resDV] at hd
          | fn f cs => simp [resDV] at hd
    have hfl := hd _ _ _ hl q1
    have hm : ∀ (ds : List DV) (vs : List Value), (∀ d ∈ ds, d.t.flat = true) → L2 (DVR w' S) ds vs → L2 (DVR w' S') ds vs := by
      intro ds
      induction ds with
      | nil => intro vs _ h; cases vs with
        | nil => trivial
        | cons _ _ => exact h.elim
      | cons d ds ih => intro vs hf h; cases vs with
        | nil => exact h.elim
        | cons v vs =>
          obtain ⟨⟨cs, p, q⟩, h⟩ := h
          exact ⟨⟨cs, PR.flat (hf d (.head _)) p, q⟩, ih vs (fun d hd => hf d (.tail _ hd)) h⟩
    exact hm ds _ hfl q3

/-! ### Arguments -/
def All (w : World) (b _o : Nat) : Prop := b < w.heap.size

theorem cell_all {b o : Nat} {v : Value} (h : w.cell? ⟨b, o, none⟩ = some v) : All w b o := by
  unfold All
  by_cases hb : b < w.heap.size
  · exact hb
  · have : w.heap[b]? = none := Array.getElem?_eq_none (by omega)
    simp [World.cell?, this] at h

theorem to_all (h : RelG w0 S0 σ a w G) : ∀ b o, G.S b o → All w b o ∧ w.cell? ⟨b, o, none⟩ = w.cell? ⟨b, o, none⟩ := fun b o hs => ⟨h.inv.st b o hs, rfl⟩

theorem ReadSl.dvr {S : Nat → Nat → Prop} (hS : ∀ b o, S b o → All w b o) {u : Ty} {xs : List u.den} {v : Value} (h : ReadSl w S u xs v) : DVR w (All w) ⟨.list u, xs⟩ v := by
  obtain ⟨A, cap, rfl, hc, hx⟩ := h
  refine ⟨[.slice A xs.length cap], ⟨A, cap, rfl, hc, hx.imp id fun ⟨b, off, ds, e, r, c⟩ => ⟨b, off, ds, e, LR.mono (fun _ _ => PR.mono fun b o hs => ⟨hS b o hs, rfl⟩) r, fun j v hj => ⟨c j v hj, cell_all (c j v hj)⟩⟩⟩, rfl⟩

theorem asB_ok (h : RelG w0 S0 σ a w G) {t : Ty} {ov : OV} {x : t.den} {v : Value} (hv : OVR w G σ a ov v) (hb : asB t ov = some x) : DVR w (All w) ⟨t, x⟩ v := by
  have hlist : ∀ {u : Ty} {xs : List u.den}, asB (.list u) ov = some xs → DVR w (All w) ⟨.list u, xs⟩ v := fun hb => (asB_list h hv hb).dvr (fun b o hs => h.inv.st b o hs)
  cases ov with
  | data u y => exact DVR.mono (to_all h) (DVR.coe hb hv)
  | own s n u xs =>
    have hb' : coe? (.list u) t xs = some x := hb
    cases t with
    | list t => exact hlist hb
    | _ => exact absurd hb' (by simp [coe?, cast?, Ty.eqb])
  | ownb k p u xs d =>
    have hb' : coe? (.list u) t xs = some x := hb
    cases t with
    | list t => exact hlist hb
    | _ => exact absurd hb' (by simp [coe?, cast?, Ty.eqb])
  | nil =>
    have hv' : v = .slice none 0 0 := hv
    subst hv'
    cases t with
    | list t => exact hlist hb
    | full t => simp only [asB, Option.some.injEq] at hb; subst hb; exact ⟨[.slice none 0 0], ⟨none, rfl, .inl rfl⟩, rfl⟩
    | _ => simp [asB] at hb
  | bsl k g p lo hi d =>
    cases t with
    | list t => exact hlist hb
    | _ => simp [asB] at hb
  | ptr k g p d =>
    cases t with
    | ref u =>
      simp only [asB] at hb
      split at hb
      · rename_i v' y hg
        split at hb
        · rename_i hp
          obtain ⟨e1, e2, off, u0, e3, rfl⟩ := hv
          obtain ⟨_, cs, f1, f2⟩ := box_ok h e2 hg e3 (fun _ _ e => by subst e; cases hp)
          have f3 := (coe_ok _ _ hb (CR.to_PR hp f1)).1
          exact DVR.one rfl ⟨_, off, cs, rfl, PR.mono (to_all h) f3, fun j v hj => ⟨f2 j v hj, cell_all (f2 j v hj)⟩⟩
        · cases hb
      · cases hb
    | _ => simp [asB] at hb
  | _ => simp [asB] at hb

theorem OVR.of0 {ov : OV} {v : Value} (h : OVR0 w G σ a ov v) : OVR w G σ a ov v := by
  cases ov with
  | fn f cs => exact h.elim
  | _ => exact h

theorem argsB_ok (h : RelG w0 S0 σ a w G) : ∀ {ts : List Ty} {ovs : List OV} {vs : List Value} {x : TDen ts}, L2 (OVR0 w G σ a) ovs vs → argsB ts ovs = some x → PRs w (All w) ts x vs
  | [], [], [], _, _, _ => rfl
  | [], [], _ :: _, _, hl, _ => hl.elim
  | [], _ :: _, _, _, _, hb => by simp [argsB] at hb
  | t :: ts, [], _, _, _, hb => by simp [argsB] at hb
  | t :: ts, ov :: ovs, [], _, hl, _ => hl.elim
  | t :: ts, ov :: ovs, v :: vs, x, ⟨h1, h2⟩, hb => by
    simp only [argsB] at hb
    split at hb
    · rename_i y hy
      split at hb
      · rename_i l hl
        cases hb
        exact ⟨v, vs, rfl, asB_ok h (OVR.of0 h1) hy, argsB_ok h h2 hl⟩
      · cases hb
    · cases hb

theorem parsB_ok (h : RelG w0 S0 σ a w G) : ∀ {ps : List PTy} {ovs : List OV} {vs : List Value} {x : PDen ps}, L2 (OVR w G σ a) ovs vs → parsB ps ovs = some x → ArgR w (All w) ps x vs
  | [], [], [], _, _, _ => rfl
  | [], [], _ :: _, _, hl, _ => hl.elim
  | [], _ :: _, _, _, _, hb => by simp [parsB] at hb
  | .v t :: ps, [], _, _, _, hb => by simp [parsB] at hb
  | .v t :: ps, ov :: ovs, [], _, hl, _ => hl.elim
  | .v t :: ps, ov :: ovs, v :: vs, x, ⟨h1, h2⟩, hb => by
    simp only [parsB] at hb
    split at hb
    · rename_i y hy
      split at hb
      · rename_i l hl
        cases hb
        exact ⟨v, vs, rfl, asB_ok h h1 hy, parsB_ok h h2 hl⟩
      · cases hb
    · cases hb
  | .fn f cs :: ps, [], _, _, _, hb => by simp [parsB] at hb
  | .fn f cs :: ps, ov :: ovs, [], _, hl, _ => hl.elim
  | .fn f cs :: ps, ov :: ovs, v :: vs, x, ⟨h1, h2⟩, hb => by
    cases ov with
    | fn g bs =>
      simp only [parsB] at hb
      split at hb
      · rename_i hf
        have hf : f = g := Nat.eq_of_beq_eq_true hf
        subst hf
        split at hb
        · rename_i y hy
          split at hb
          · rename_i l hl
            cases hb
            obtain ⟨fs, rfl, q⟩ := h1
            exact ⟨fs, vs, rfl, argsB_ok h q hy, parsB_ok h h2 hl⟩
          · cases hb
        · cases hb
      · cases hb
    | _ => simp [parsB] at hb

theorem parsD_ok : ∀ {ps : List PTy} {ovs : List OV} {vs : List Value} {x : PDen ps} {us : List Upd}, L2 (OVR w G σ a) ovs vs → parsD ps ovs = some (x, us) → us = [] ∧ ArgR w G.S ps x vs
  | [], [], [], _, us, _, hb => by simp only [parsD, Option.some.injEq, Prod.mk.injEq] at hb; exact ⟨hb.2.symm, rfl⟩
  | [], [], _ :: _, _, _, hl, _ => hl.elim
  | [], _ :: _, _, _, _, _, hb => by simp [parsD] at hb
  | .v t :: ps, [], _, _, _, _, hb => by simp [parsD] at hb
  | .v t :: ps, ov :: ovs, [], _, _, hl, _ => hl.elim
  | .v t :: ps, ov :: ovs, v :: vs, x, us, ⟨h1, h2⟩, hb => by
    simp only [parsD] at hb
    split at hb
    · rename_i y us1 hy
      split at hb
      · rename_i l vs1 hl
        cases hb
        obtain ⟨rfl, q1⟩ := asD_ok h1 hy
        obtain ⟨rfl, q2⟩ := parsD_ok h2 hl
        exact ⟨rfl, v, vs, rfl, q1, q2⟩
      · cases hb
    · cases hb
  | .fn f cs :: ps, _, _, _, _, _, hb => by simp [parsD] at hb

theorem L2.app {α β : Type} {R : α → β → Prop} : ∀ {as cs : List α} {bs ds : List β}, L2 R as bs → L2 R cs ds → L2 R (as ++ cs) (bs ++ ds)
  | [], _, [], _, _, h => h
  | _ :: _, _, _ :: _, _, ⟨p, q⟩, h => ⟨p, L2.app q h⟩
  | [], _, _ :: _, _, p, _ => p.elim
  | _ :: _, _, [], _, p, _ => p.elim

theorem L2.ops {v : Operand → OV} (hv : ∀ x, OVR w G σ a (v x) (a.eval x)) : ∀ l : List Operand, L2 (OVR w G σ a) (l.map v) (l.map a.eval)
  | [] => trivial
  | x :: l => ⟨hv x, L2.ops hv l⟩

theorem evCall_ok (hg : GlOK e w0 S0) (h : RelG w0 S0 σ a w G) {f : FuncId} {c : Con} (hF : FnOK P e.gl f c) {ovs : List OV} {args : Array Value} (ha : L2 (OVR w G σ a) ovs args.toList) {k : List Upd → Option R} {r : R}
    (hex : (execOp a.eval o).run P w = .ok (.enter f args) w) (hk : evCall c ovs o.dst k = some r) : ∃ us, k us = some r ∧ OpS P w0 S0 o σ a w us := by
  unfold evCall at hk
  split at hk
  · rename_i hl
    split at hk
    · rename_i x hx
      obtain ⟨y, hy, hk⟩ := Option.bind_eq_some_iff.1 hk
      split at hk
      · rename_i av hav
        refine ⟨_, hk, fun next Q kk => ?_⟩
        refine op_enter hex ((hF.2 x y hy w (All w) args ((rel_gl h hg).mono (to_all h) (fun b o hs => hs)) (parsB_ok h ha hx)).mono ?_)
        rintro ex w' ⟨v, e1, hB, S', _, _, hr⟩
        refine ⟨v, e1, kk _ _ ?_⟩
        exact after_call h o.dst hB (fun _ _ hs => hs) (fun _ _ hs => .inl hs) (RR.flat h.inv.st hl hr) hav
      · cases hk
    · cases hk
  · split at hk
    · rename_i x us hx
      obtain ⟨y, hy, hk⟩ := Option.bind_eq_some_iff.1 hk
      split at hk
      · rename_i av hav
        obtain ⟨rfl, hx2⟩ := parsD_ok ha hx
        refine ⟨_, hk, fun next Q kk => ?_⟩
        refine op_enter hex ((hF.2 x y hy w G.S args (rel_gl h hg) hx2).mono ?_)
        rintro ex w' ⟨v, e1, hB, S', h1, h2, hr⟩
        refine ⟨v, e1, kk _ _ ?_⟩
        exact after_call h o.dst hB h1 h2 hr hav
      · cases hk
    · cases hk
end

end Go.Q

/- The value machine: maps. -/
set_option linter.unusedVariables false
set_option linter.unusedSimpArgs false
namespace Go.Q
open Go Go.RowKit Go.MapKept

theorem getObj_map {P : Program} {w : World} {r : Nat} {es : Array MapEntry} {clock : Nat} (hb : w.heap[r]? = some (.map es clock)) : (getObj r).run P w = .ok (.map es clock) w := by
  simp [getObj, Sem.run, hb]

def EsR (kk ek : IntKind) (l : List MapEntry) (m : List (Int × Int)) : Prop := l.map (fun x => (x.key, x.val)) = m.map fun x => (Value.int kk x.1, Value.int ek x.2)


/-- The entry of a key. -/
theorem find_map {kk ek : IntKind} (n : Int) : ∀ (l : List MapEntry) (m : List (Int × Int)) (i : Nat), EsR kk ek l m →
    (Instr.findNow (.int kk) (.int kk n) l i = some none ∧ mget m n = none ∧ ∀ x c, EsR kk ek (l ++ [{ key := .int kk n, val := .int ek x, born := c }]) (mput m n x)) ∨
    ∃ j y e, Instr.findNow (.int kk) (.int kk n) l i = some (some (i + j, .int ek y)) ∧ mget m n = some y ∧ l[j]? = some e ∧ e.key = .int kk n ∧ ∀ x, EsR kk ek (l.modify j fun e => { e with key := .int kk n, val := .int ek x }) (mput m n x)
  | [], m, i, h => by
    have : m = [] := by cases m with
      | nil => rfl
      | cons _ _ => simp [EsR] at h
    subst this
    exact .inl ⟨rfl, rfl, fun x c => rfl⟩
  | e :: l, [], i, h => by simp [EsR] at h
  | e :: l, (a, b) :: m, i, h => by
    simp only [EsR, List.map_cons, List.cons.injEq, Prod.mk.injEq] at h
    obtain ⟨⟨h1, h2⟩, h3⟩ := h
    by_cases hn : n = a
    · subst hn
      refine .inr ⟨0, b, e, ?_, ?_, rfl, h1, fun x => ?_⟩
      · simp [Instr.findNow, Instr.sameNow, h1, h2]
      · simp [mget, eqI_eq]
      · simp [EsR, mput, eqI_eq]; exact h3
    · have hf : Instr.findNow (.int kk) (.int kk n) (e :: l) i = Instr.findNow (.int kk) (.int kk n) l (i + 1) := by
        have hb : (n == a) = false := by simp [hn]
        simp [Instr.findNow, Instr.sameNow, h1, hb]
      have hg : mget ((a, b) :: m) n = mget m n := by simp [mget, eqI_eq, hn]
      have hp : ∀ x, mput ((a, b) :: m) n x = (a, b) :: mput m n x := fun x => by simp [mput, eqI_eq, hn]
      rcases find_map n l m (i + 1) h3 with ⟨q1, q2, q3⟩ | ⟨j, y, e', q1, q2, q3, q4, q5⟩
      · refine .inl ⟨hf.trans q1, hg.trans q2, fun x c => ?_⟩
        rw [hp]
        have := q3 x c
        simp only [EsR, List.cons_append, List.map_cons, h1, h2, List.cons.injEq, true_and] at this ⊢
        exact this
      · refine .inr ⟨j + 1, y, e', ?_, hg.trans q2, q3, q4, fun x => ?_⟩
        · rw [hf, q1, show i + 1 + j = i + (j + 1) by omega]
        · rw [hp]
          have := q5 x
          simp only [EsR, List.modify_succ_cons, List.map_cons, h1, h2, List.cons.injEq, true_and] at this ⊢
          exact this

section
variable {P : Program} {e : Env} {w0 w : World} {S0 : Sx} {σ : St} {a : Act} {G : Gh} {o : Oper} {R : Type}

set_option maxHeartbeats 400000 in
theorem evMakeMap_ok (h : RelG w0 S0 σ a w G) {t : TypeId} {kk ek : IntKind} {d : Nat} (hd : o.dst = some d) (ho : o.op = .makeMap t none) :
    OpS P w0 S0 o σ a w [.bx d true ⟨.mp kk ek, []⟩, .sl d (.mref d ((σ.box d).g + 1))] := by
  intro next Q kn
  have hr : (execOp a.eval o).run P w = .ok (.value (.map (some w.heap.size))) (w.alloc (.map #[] 0)) := by
    simp [execOp, ho, Instr.makeMap, run_newObj]
  refine op_value hr (kn _ _ ?_)
  rw [hd]
  exact rel_map h d kk ek

set_option maxHeartbeats 400000 in
theorem evLookup_ok (hE : EnvOK P e) (h : RelG w0 S0 σ a w G) {t : TypeId} {kk ek : IntKind} (ht : e.mp t = some (kk, ek)) {ox oi : OV} {vx vi : Value} (hx : OVR w G σ a ox vx) (hi : OVR w G σ a oi vi) {ok : Bool}
    (hr : execOp a.eval o = Next.value <$> Instr.lookup t vx vi ok) {k : AV → Option R} {r : R} (hk : evLookup kk ek ox oi ok k = some r) :
    ∃ av, k av = some r ∧ OpS P w0 S0 o σ a w (sets o.dst av) := by
  unfold evLookup at hk
  split at hk
  · rename_i b g kk' ek' m ik n
    split at hk
    · rename_i hc
      simp only [Bool.and_eq_true] at hc
      obtain rfl := ikb_eq hc.1
      obtain rfl := ikb_eq hc.2.1
      obtain rfl := ikb_eq hc.2.2
      obtain ⟨g1, g2, rfl⟩ := hx
      have hvi := DVR_int hi
      subst hvi
      obtain ⟨_, es, clock, m1, m2⟩ := (h.bx b _ g2).map
      obtain ⟨kt, et, u1, u2, u3⟩ := hE.mp t _ _ ht
      have hzr := run_zeroInt u3 w
      have hfind : ∃ v, (Instr.lookup t (.map (some (G.β b))) (.int kk n) ok).run P w = .ok (if ok then .tuple #[v, .bool (mhas m n)] else v) w ∧ v = .int ek (mgetD m n) := by
        have hck := run_checkKey (w := w) (k := .int kk n) u2 (by simp [IsKey]) es.isEmpty 9999
        rcases find_map n es.toList m 0 m2 with ⟨q1, q2, _⟩ | ⟨j, y, e', q1, q2, _⟩
        · refine ⟨_, ?_, rfl⟩
          have hf := run_findKey (w := w) u2 q1
          simp only [Instr.lookup, Sem.run_bind, run_underlying u1, Result.andThen_ok, Sem.run_pure]
          simp only [Sem.run_bind, getObj_map m1, Result.andThen_ok, Sem.run_pure, hck, hf, hzr, mhas, mgetD, q2]
          cases ok <;> rfl
        · refine ⟨_, ?_, rfl⟩
          have hf := run_findKey (w := w) u2 q1
          simp only [Instr.lookup, Sem.run_bind, run_underlying u1, Result.andThen_ok, Sem.run_pure]
          simp only [Sem.run_bind, getObj_map m1, Result.andThen_ok, Sem.run_pure, hck, hf, mhas, mgetD, q2]
          cases ok <;> rfl
      obtain ⟨v, hrun, rfl⟩ := hfind
      have hr' : (execOp a.eval o).run P w = .ok (.value (if ok then .tuple #[.int ek (mgetD m n), .bool (mhas m n)] else .int ek (mgetD m n))) w := by
        rw [hr, Sem.run_map, hrun]; rfl
      cases ok with
      | true => exact ⟨_, hk, op_reader h hr' (fun _ _ e => by cases e) ⟨_, rfl, ⟨[.int ek (mgetD m n)], rfl, rfl⟩, ⟨[.bool (mhas m n)], rfl, rfl⟩, trivial⟩⟩
      | false => exact ⟨_, hk, op_data h hr' ⟨[.int ek (mgetD m n)], rfl, rfl⟩⟩
    · cases hk
  · cases hk

/-- A map's block is written. -/
theorem rel_mset (h : RelG w0 S0 σ a w G) {k : Nat} {kk ek : IntKind} {m m' : List (Int × Int)} (hk : (σ.box k).d = some ⟨.mp kk ek, m⟩) {es' : Array MapEntry} {clock' : Nat} (hm : EsR kk ek es'.toList m') :
    RelG w0 S0 (σ.do1 (.bx k false ⟨.mp kk ek, m'⟩)) a { w with heap := w.heap.setIfInBounds (G.β k) (.map es' clock') } G := by
  obtain ⟨b2, es, clock, b1, _⟩ := (h.bx k _ hk).map
  obtain ⟨x1, x2, x3⟩ := h.inv.ex _ _ b2
  obtain ⟨c1, c2⟩ := heap_set (o' := .map es' clock') b1
  have hoth : ∀ g, g ≠ G.β k → ({ w with heap := w.heap.setIfInBounds (G.β k) (.map es' clock') } : World).heap[g]? = w.heap[g]? := fun g hg => c2 g hg
  have hsz : ({ w with heap := w.heap.setIfInBounds (G.β k) (.map es' clock') } : World).heap.size = w.heap.size := by simp
  have hB : Below w0.heap.size w { w with heap := w.heap.setIfInBounds (G.β k) (.map es' clock') } := ⟨rfl, rfl, rfl, by rw [hsz]; exact Nat.le_refl _, fun g hg => hoth g (by omega)⟩
  have hkl : k < σ.bx.length := by
    by_cases hlt : k < σ.bx.length
    · exact hlt
    · exfalso
      have : σ.box k = box0 := nth_out box0 σ.bx k (by omega)
      rw [this] at hk
      cases hk
  have hbox : ∀ j, (σ.do1 (.bx k false ⟨.mp kk ek, m'⟩)).box j = if j = k then ⟨(σ.box k).g, (σ.box k).n + 1, some ⟨.mp kk ek, m'⟩⟩ else σ.box j := fun j => by
    rw [box_bx]
    by_cases hj : j = k
    · rw [if_pos ⟨hj, hkl⟩, if_pos hj]; rfl
    · rw [if_neg (fun e => hj e.1), if_neg hj]
  have hS : ∀ b o, G.S b o → G.S b o ∧ ({ w with heap := w.heap.setIfInBounds (G.β k) (.map es' clock') } : World).cell? ⟨b, o, none⟩ = w.cell? ⟨b, o, none⟩ := fun b o hs =>
    ⟨hs, World.cell?_of_block (w := w) (hoth b fun e => by subst e; exact x3 o hs)⟩
  have hne : ∀ j dv, (σ.box j).d = some dv → j ≠ k → G.β j ≠ G.β k := fun j dv hj hjk e => by
    have f2 := (h.bx j dv hj).own
    rw [e, b2] at f2
    cases f2
    exact hjk rfl
  have K : Keep w G σ a { w with heap := w.heap.setIfInBounds (G.β k) (.map es' clock') } G (σ.do1 (.bx k false ⟨.mp kk ek, m'⟩)) a := by
    refine ⟨hS, fun s => ⟨Nat.le_refl _, fun _ => ⟨rfl, rfl⟩⟩, fun j => ?_⟩
    rw [hbox]
    by_cases hj : j = k
    · rw [if_pos hj]
      subst hj
      refine ⟨Nat.le_refl _, fun _ => ⟨by simp, fun dv hd => ⟨rfl, _, rfl, ?_, fun e => by simp at e⟩⟩⟩
      rw [hk] at hd
      cases hd
      rfl
    · rw [if_neg hj]
      exact ⟨Nat.le_refl _, fun _ => ⟨Nat.le_refl _, fun dv hd => ⟨rfl, dv, hd, rfl, fun _ => ⟨rfl, hoth _ (hne j dv hd hj)⟩⟩⟩⟩
  have hown : ∀ g l, G.own g = some l → l ≠ .me k → g ≠ G.β k := fun g l hg hl e => by
    rw [e, b2] at hg
    cases hg
    exact hl rfl
  refine h.step K ⟨h.inv.below.trans hB, fun b o hs => by rw [hsz]; exact h.inv.st b o hs, fun b l hl => by rw [hsz]; exact h.inv.ex b l hl, h.inv.s0, h.inv.s1,
    fun b o hk => ⟨(hoth b (fun e => by have := (h.inv.kp b o hk).2; rw [e, b2] at this; cases this)).trans (h.inv.kp b o hk).1, (h.inv.kp b o hk).2⟩⟩ h.dfr h.szs (by rw [len_bx, len_sl, h.szb]) (fun i => .inr ⟨rfl, rfl, fun g hg => ⟨hg, hoth g (hown g _ hg (fun e => by cases e))⟩⟩) (fun j dv hd => ?_)
  rw [hbox] at hd
  by_cases hj : j = k
  · rw [if_pos hj] at hd
    subst hj
    cases hd
    left
    exact .inr ⟨kk, ek, m', rfl, b2, es', clock', c1, hm⟩
  · rw [if_neg hj] at hd
    refine .inr ⟨hd, rfl, fun g hg => ⟨rfl, hoth g ?_⟩⟩
    rcases hg with hg | ⟨q, hg⟩
    · exact hown g _ hg (fun e => by cases e; exact hj rfl)
    · exact hown g _ hg (fun e => by cases e)

set_option maxHeartbeats 400000 in
theorem evMapUpdate_ok (hE : EnvOK P e) (h : RelG w0 S0 σ a w G) {t : TypeId} {kk ek : IntKind} (ht : e.mp t = some (kk, ek)) {om oi ox : OV} {vm vi vx : Value} (hm : OVR w G σ a om vm) (hi : OVR w G σ a oi vi) (hx : OVR w G σ a ox vx)
    (hd : o.dst = none) (hr : execOp a.eval o = (fun _ => Next.skip) <$> Instr.mapUpdate t vm vi vx) {k : List Upd → Option R} {r : R} (hk : evMapUpdate kk ek om oi ox k = some r) :
    ∃ us, k us = some r ∧ OpS P w0 S0 o σ a w us := by
  unfold evMapUpdate at hk
  split at hk
  · rename_i b g kk' ek' m ik n xk z
    split at hk
    · rename_i hc
      simp only [Bool.and_eq_true] at hc
      obtain rfl := ikb_eq hc.1.1
      obtain rfl := ikb_eq hc.1.2
      obtain rfl := ikb_eq hc.2.1
      obtain rfl := ikb_eq hc.2.2
      obtain ⟨g1, g2, rfl⟩ := hm
      have hvi := DVR_int hi
      have hvx := DVR_int hx
      subst hvi hvx
      obtain ⟨_, es, clock, m1, m2⟩ := (h.bx b _ g2).map
      obtain ⟨kt, et, u1, u2, u3⟩ := hE.mp t _ _ ht
      have hck := run_checkKey (w := w) (k := .int kk n) u2 (by simp [IsKey]) false 9999
      refine ⟨_, hk, fun next Q kn => ?_⟩
      have fin : ∀ es' clock', EsR kk ek es'.toList (mput m n z) → (Instr.mapUpdate t (.map (some (G.β b))) (.int kk n) (.int ek z)).run P w = .ok () { w with heap := w.heap.setIfInBounds (G.β b) (.map es' clock') } → o.wp P a w next Q := by
        intro es' clock' q1 q2
        have hr' : (execOp a.eval o).run P w = .ok .skip { w with heap := w.heap.setIfInBounds (G.β b) (.map es' clock') } := by
          rw [hr, Sem.run_map, q2]; rfl
        refine op_skip hr' (kn _ _ ?_)
        rw [hd]
        exact ⟨G, rel_mset h g2 q1⟩
      rcases find_map n es.toList m 0 m2 with ⟨q1, q2, q3⟩ | ⟨j, y, e', q1, q2, q4, q5, q6⟩
      · have hf := run_findKey (w := w) u2 q1
        refine fin (es.push { key := .int kk n, val := .int ek z, born := clock }) (clock + 1) (by rw [Array.toList_push]; exact q3 z clock) ?_
        simp only [Instr.mapUpdate, Sem.run_bind, run_underlying u1, Result.andThen_ok]
        simp only [Sem.run_bind, getObj_map m1, Result.andThen_ok, hck, hf, run_setObj_map _ m1]
      · have hf := run_findKey (w := w) u2 q1
        refine fin (es.modify j fun e => { e with key := .int kk n, val := .int ek z }) clock (by rw [Array.toList_modify]; exact q6 z) ?_
        have hj : es[j]? = some e' := by rw [← Array.getElem?_toList]; exact q4
        simp only [Instr.mapUpdate, Sem.run_bind, run_underlying u1, Result.andThen_ok]
        simp only [Sem.run_bind, getObj_map m1, Result.andThen_ok, hck, hf, Nat.zero_add, hj, Option.map_some, Option.getD_some, q5, run_keyThatStays (show IsKey (.int kk) (.int kk n) from rfl), run_setObj_map _ m1]
    · cases hk
  · cases hk
end
end Go.Q

/- The value machine: variables that own slices. -/
set_option linter.unusedVariables false
namespace Go.Q
open Go Go.RowKit

section
variable {P : Program} {e : Env} {w0 w : World} {S0 : Sx} {σ : St} {a : Act} {G : Gh} {o : Oper} {R : Type}

theorem fz_erase : ∀ (t : Ty), t.fz.erase = t.erase
  | .one t => by simp only [Ty.fz, Ty.erase, fz_erase t]
  | .pair a b => by simp only [Ty.fz, Ty.erase, fz_erase a, fz_erase b]
  | .int _ => rfl
  | .bool => rfl
  | .str => rfl
  | .unit => rfl
  | .arr _ _ => rfl
  | .list _ => rfl
  | .full _ => rfl
  | .vec _ => rfl
  | .dead _ => rfl
  | .nil _ => rfl
  | .ref _ => rfl
  | .mp _ _ => rfl

theorem splice_same {v : Value} : ∀ (cs : List Value) (i : Nat), cs[i]? = some v → splice cs i 1 [v] = cs
  | [], i, h => by simp at h
  | c :: cs, 0, h => by simp at h; simp [splice, h]
  | c :: cs, i + 1, h => by
    have := splice_same cs i (by simpa using h)
    simp only [splice, List.take_succ_cons, List.cons_append] at this ⊢
    rw [show i + 1 + 1 = (i + 1) + 1 from rfl, List.drop_succ_cons, this]

/-- Memory as it was, a variable told anew. -/
theorem rel_bxG (h : RelG w0 S0 σ a w G) {k : Nat} {d d' : DV} (hk : (σ.box k).d = some d) (he : d'.t.erase = d.t.erase) {G' : Gh} (hS : ∀ b o, G.S b o → G'.S b o) (hβ : G'.β = G.β) (hI : Inv w0 S0 w G')
    (ho : ∀ g l, G.own g = some l → (∀ p, l ≠ .bx k p) → G'.own g = some l) (hb : BoxR w G' k d'.t d'.x) : RelG w0 S0 (σ.do1 (.bx k false d')) a w G' := by
  have hkl : k < σ.bx.length := by
    by_cases hlt : k < σ.bx.length
    · exact hlt
    · exfalso
      have : σ.box k = box0 := nth_out box0 σ.bx k (by omega)
      rw [this] at hk
      cases hk
  have hbox : ∀ j, (σ.do1 (.bx k false d')).box j = if j = k then ⟨(σ.box k).g, (σ.box k).n + 1, some d'⟩ else σ.box j := fun j => by
    rw [box_bx]
    by_cases hj : j = k
    · rw [if_pos ⟨hj, hkl⟩, if_pos hj]; rfl
    · rw [if_neg (fun e => hj e.1), if_neg hj]
  have K : Keep w G σ a w G' (σ.do1 (.bx k false d')) a := by
    refine ⟨fun b o hs => ⟨hS b o hs, rfl⟩, fun s => ⟨Nat.le_refl _, fun _ => ⟨rfl, rfl⟩⟩, fun j => ?_⟩
    rw [hbox]
    by_cases hj : j = k
    · rw [if_pos hj]
      subst hj
      refine ⟨Nat.le_refl _, fun _ => ⟨by simp, fun dv hd => ⟨by rw [hβ], d', rfl, ?_, fun e => by simp at e⟩⟩⟩
      rw [hk] at hd
      cases hd
      exact he
    · rw [if_neg hj]
      exact ⟨Nat.le_refl _, fun _ => ⟨Nat.le_refl _, fun dv hd => ⟨by rw [hβ], dv, hd, rfl, fun _ => ⟨rfl, rfl⟩⟩⟩⟩
  refine h.step K hI h.dfr h.szs (by rw [len_bx, len_sl, h.szb]) (fun i => .inr ⟨rfl, rfl, fun g hg => ⟨ho g _ hg (fun p e => by cases e), rfl⟩⟩) (fun j dv hd => ?_)
  rw [hbox] at hd
  by_cases hj : j = k
  · rw [if_pos hj] at hd
    subst hj
    cases hd
    exact .inl hb
  · rw [if_neg hj] at hd
    refine .inr ⟨hd, by rw [hβ], fun g hg => ⟨?_, rfl⟩⟩
    rcases hg with hg | ⟨q, hg⟩
    · rw [hg]; exact ho g _ hg (fun p e => by cases e)
    · rw [hg]; exact ho g _ hg (fun p e => by cases e; exact hj rfl)

/-- An owned slice is taken out of a variable. -/
theorem rel_bmove (h : RelG w0 S0 σ a w G) {k : Nat} {d d' : DV} (hk : (σ.box k).d = some d) {p : List Stp} {u : Ty} {xs : List u.den} {off : Nat} (hg : getP p d.t d.x = some ⟨.vec u, xs⟩) (hs : setP p d.t d.x ⟨.dead u, ()⟩ = some d') (ho : offP p d.t = some (off, .vec u))
    {v : Value} (hv : VecR w G (.bx k (bits p [])) u xs v) (hc : w.cell? ⟨G.β k, off, none⟩ = some v) :
    ∃ G', RelG w0 S0 (σ.do1 (.bx k false d')) a w G' ∧ VecR w G' (.sl σ.sl.length) u xs v := by
  obtain ⟨arr, ee, b1, b2, b3⟩ := (h.bx k d hk).cells (fun kk ek e => by
    obtain ⟨dt, dx⟩ := d
    simp only at e
    subst e
    cases p with
    | nil => simp [getP] at hg
    | cons q p => cases q <;> simp [getP] at hg)
  have hsl : ∃ A n c, v = .slice A n c := by
    rcases hv with ⟨_, rfl⟩ | ⟨g, cap, _, _, _, rfl, _⟩ <;> exact ⟨_, _, _, rfl⟩
  rw [box_cells b1, ← Array.getElem?_toList] at hc
  have hcr : ∀ G' : Gh, (∀ b o, G.S b o → G'.S b o) → (∀ g r, G.own g = some (.bx k (r ++ [])) → (¬ ∃ s, r ++ [] = s ++ bits p []) → G'.own g = some (.bx k (r ++ []))) → CR w G' k [] d'.t d'.x arr.toList := by
    intro G' hS hO
    have := setP_CR (w' := w) (G' := G') (ds := [v]) (fun b o hs => ⟨hS b o hs, rfl⟩) p b3 hs ho (fun g r hg hr => ⟨hO g r hg hr, rfl⟩) (by obtain ⟨A, n, c, rfl⟩ := hsl; exact ⟨A, n, c, rfl⟩)
    rw [show (Ty.vec u).sz = 1 from rfl, splice_same _ _ hc] at this
    exact this
  rcases hv with ⟨e1, e2⟩ | ⟨g, cap, arr', ee', fr, e1, e2, e3, e4, e5, e6, e7⟩
  · exact ⟨G, rel_bxG h hk (setP_erase p hs) (fun _ _ h => h) rfl h.inv (fun g l hl _ => hl) (.inl ⟨arr, ee, b1, b2, hcr G (fun _ _ h => h) fun g r hg _ => hg⟩), .inl ⟨e1, e2⟩⟩
  · have hne : G.β k ≠ g := fun e => by rw [← e, b2] at e6; cases e6
    refine ⟨G.give g (.sl σ.sl.length), rel_bxG h hk (setP_erase p hs) (fun _ _ h => h) rfl ⟨h.inv.below, h.inv.st, ?_, h.inv.s0, h.inv.s1, fun b o hk => ?_⟩ (fun g' l hl hn => ?_) (.inl ⟨arr, ee, b1, ?_, hcr _ (fun _ _ h => h) fun g' r hg' hr => ?_⟩), .inr ⟨g, cap, arr', ee', fr, e1, e2, e3, e4, e5, by simp [Gh.give], e7⟩⟩
    · intro b l' hl
      simp only [Gh.give] at hl
      split at hl
      · rename_i e; subst e; exact h.inv.ex _ _ e6
      · exact h.inv.ex b l' hl
    · obtain ⟨k1, k2⟩ := h.inv.kp b o hk
      refine ⟨k1, ?_⟩
      simp only [Gh.give]
      rw [if_neg (fun e => by subst e; rw [e6] at k2; cases k2)]
      exact k2
    · simp only [Gh.give]
      rw [if_neg]
      · exact hl
      · intro e; subst e; rw [e6] at hl; cases hl; exact hn _ rfl
    · show (if G.β k = g then _ else G.own (G.β k)) = _
      rw [if_neg hne]; exact b2
    · simp only [Gh.give]
      rw [if_neg]
      · exact hg'
      · intro e; subst e; rw [e6] at hg'; simp only [Option.some.injEq, Loc.bx.injEq, true_and] at hg'; exact hr ⟨[], by rw [← hg']; rfl⟩

/-- All owned slices of a variable, given up. -/
theorem CR.fz {G' : Gh} {k : Nat} (hS : ∀ b o, G.S b o → G'.S b o) (hO : ∀ b p, G.own b = some (.bx k p) → ∀ o, G'.S b o) : ∀ {t : Ty} {p : List Bool} {x : t.den} {cs : List Value}, CR w G k p t x cs → CR w G' k p t.fz (fzV t x) cs
  | .one t, _, _, _, h => CR.fz hS hO (t := t) h
  | .pair _ _, _, _, _, ⟨c, d, e, a, b⟩ => ⟨c, d, e, CR.fz hS hO a, CR.fz hS hO b⟩
  | .vec t, p, xs, _, ⟨v, e, h⟩ => by
    show PR w G'.S (.list t) xs _
    rcases h with ⟨rfl, e2⟩ | ⟨g, cap, arr, ee, fr, e1, e2, e3, e4, e5, e6, e7⟩
    · exact ⟨none, 0, by rw [e, e2]; rfl, Nat.le_refl _, .inl rfl⟩
    · refine ⟨some ⟨g, 0, none⟩, cap, by rw [e, e1], e2, .inr ⟨g, 0, _, rfl, LR.mono (fun _ _ => PR.mono fun b o hs => ⟨hS b o hs, rfl⟩) e7, ?_⟩⟩
      intro j v hj
      refine ⟨?_, hO g p e6 _⟩
      have := take_some hj
      rw [box_cells e3, Nat.zero_add]
      simpa using this
  | .dead _, _, _, _, h => h
  | .int _, _, _, _, h => h
  | .bool, _, _, _, h => h
  | .str, _, _, _, h => h
  | .unit, _, _, _, h => h
  | .arr n t, _, x, cs, h => PR.mono (S := G.S) (S' := G'.S) (w := w) (w' := w) (fun b o hs => ⟨hS b o hs, rfl⟩) (t := .arr n t) (x := x) (cs := cs) h
  | .list t, _, x, cs, h => PR.mono (S := G.S) (S' := G'.S) (w := w) (w' := w) (fun b o hs => ⟨hS b o hs, rfl⟩) (t := .list t) (x := x) (cs := cs) h
  | .full t, _, x, cs, h => PR.mono (S := G.S) (S' := G'.S) (w := w) (w' := w) (fun b o hs => ⟨hS b o hs, rfl⟩) (t := .full t) (x := x) (cs := cs) h
  | .nil _, _, _, _, h => h
  | .ref t, _, x, cs, h => PR.mono (S := G.S) (S' := G'.S) (w := w) (w' := w) (fun b o hs => ⟨hS b o hs, rfl⟩) (t := .ref t) (x := x) (cs := cs) h
  | .mp _ _, _, _, _, h => h.elim

theorem rel_bfz (h : RelG w0 S0 σ a w G) {k : Nat} {d : DV} (hk : (σ.box k).d = some d) (hn : ∀ kk ek, d.t ≠ .mp kk ek) :
    ∃ G', RelG w0 S0 (σ.do1 (.bx k false ⟨d.t.fz, fzV d.t d.x⟩)) a w G' ∧ G'.β = G.β ∧ ∃ cs, CR w G' k [] d.t.fz (fzV d.t d.x) cs ∧ ∀ j v, cs[j]? = some v → w.cell? ⟨G.β k, j, none⟩ = some v := by
  obtain ⟨arr, ee, b1, b2, b3⟩ := (h.bx k d hk).cells hn
  let own' : Nat → Option Loc := fun b => match G.own b with
    | some (.bx j p) => if j = k then none else some (.bx j p)
    | l => l
  let G' : Gh := ⟨fun b o => G.S b o ∨ ∃ p, G.own b = some (.bx k p), G.β, own'⟩
  have hS : ∀ b o, G.S b o → G'.S b o := fun b o hs => .inl hs
  have hown : ∀ g l, own' g = some l → G.own g = some l ∧ ∀ p, l ≠ .bx k p := by
    intro g l hl
    simp only [own'] at hl
    split at hl
    · rename_i j p hj
      split at hl
      · cases hl
      · rename_i hjk
        cases hl
        exact ⟨hj, fun q e => by cases e; exact hjk rfl⟩
    · rename_i hno
      exact ⟨hl, fun q e => hno k q (by rw [hl, e])⟩
  have hown2 : ∀ g l, G.own g = some l → (∀ p, l ≠ .bx k p) → own' g = some l := by
    intro g l hl hn
    simp only [own', hl]
    split
    · rename_i j p e
      cases e
      rw [if_neg (fun e => hn p (by rw [e]))]
    · rfl
  have hcr : CR w G' k [] d.t.fz (fzV d.t d.x) arr.toList := CR.fz hS (fun b p hb o => .inr ⟨p, hb⟩) b3
  refine ⟨G', rel_bxG h hk (fz_erase _) hS rfl ⟨h.inv.below, ?_, ?_, fun b o hs => .inl (h.inv.s0 b o hs), ?_, fun b o hk => ?_⟩ hown2 (.inl ⟨arr, ee, b1, hown2 _ _ b2 (fun p e => by cases e), hcr⟩), rfl, arr.toList, hcr, fun j v hj => ?_⟩
  · rintro b o (hs | ⟨p, hp⟩)
    · exact h.inv.st b o hs
    · exact (h.inv.ex b _ hp).2.1
  · intro b l hl
    obtain ⟨q1, q2⟩ := hown b l hl
    obtain ⟨x1, x2, x3⟩ := h.inv.ex b l q1
    refine ⟨x1, x2, fun o hs => ?_⟩
    rcases hs with hs | ⟨p, hp⟩
    · exact x3 o hs
    · rw [hp] at q1; cases q1; exact q2 p rfl
  · rintro b o (hs | ⟨p, hp⟩) hb
    · exact h.inv.s1 b o hs hb
    · have := (h.inv.ex b _ hp).1; omega
  · obtain ⟨k1, k2⟩ := h.inv.kp b o hk
    exact ⟨k1, by simp only [G', own', k2]⟩
  · rw [box_cells b1, ← Array.getElem?_toList]; exact hj

theorem erase_list {T u : Ty} (h : T.erase = (Ty.vec u).erase) : T.agg = false ∧ T.sz = 1 := by
  cases T <;> simp [Ty.erase] at h <;> exact ⟨rfl, rfl⟩

theorem evLoad_ok (hE : EnvOK P e) (h : RelG w0 S0 σ a w G) {tt : TypeId} {x : Operand} {ov : OV} {k : List Upd → AV → Option R} {r : R} (hv : OVR w G σ a ov (a.eval x)) (ho : o.op = .load tt x) (hk : evLoad (e.ty tt) ov k = some r) :
    ∃ us av, k us av = some r ∧ OpS P w0 S0 o σ a w (us ++ sets o.dst av) := by
  generalize hva : a.eval x = va at hv
  have hx : ∀ {v : Value}, (Instr.loadAt tt va).run P w = .ok v w → (execOp a.eval o).run P w = .ok (.value v) w := fun h1 => by simp [execOp, ho, hva, h1]
  unfold evLoad at hk
  split at hk
  · rename_i b c p d
    obtain ⟨e1, e2, off, u0, e3, rfl⟩ := hv
    split at hk
    · rename_i t x hg
      split at hk
      · rename_i hc
        obtain ⟨T, hT, he⟩ := chk_eq hc
        split at hk
        · rename_i hp
          obtain ⟨_, cs, f1, f2⟩ := box_ok h e2 hg e3 (fun _ _ e => by subst e; cases hp)
          obtain ⟨v, h1, h2⟩ := load_at hE hT he (CR.to_PR hp f1) f2
          exact ⟨[], _, hk, op_data h (hx h1) h2⟩
        · rename_i hp
          have hmp := chk_mp hE hc
          obtain ⟨rfl, cs, f1, f2⟩ := box_ok h e2 hg e3 hmp
          unfold loadB at hk
          split at hk
          · rename_i u xs heq
            cases heq
            split at hk
            · rename_i d' hs
              obtain ⟨vv, rfl, hvec⟩ := vec_cell f1
              have hcell := f2 0 vv rfl
              rw [Nat.add_zero] at hcell
              obtain ⟨G', h', hv'⟩ := rel_bmove h e2 hg hs e3 hvec hcell
              obtain ⟨ha, hz⟩ := erase_list he
              obtain ⟨hB, hU⟩ := hE.ty tt T hT
              refine ⟨_, _, hk, fun next Q kk => op_value (hx (v := vv) ?_) (kk _ _ ?_)⟩
              · simp only [Instr.loadAt, Instr.sureAddr, Sem.run_bind, Sem.run_pure, Result.andThen_ok]
                rw [run_loadVar hB hU (by rw [hz]; rfl) f2]
                simp [pack, ha]
              · exact rel_vec h' o.dst (s := σ.sl.length) (fun t ys e => by
                  have : (σ.do1 (.bx b false d')).slot σ.sl.length = slot0 := by rw [slot_bx]; exact nth_out slot0 σ.sl _ (Nat.le_refl _)
                  rw [this] at e
                  cases e) hv'
            · cases hk
          · split at hk
            · split at hk
              · rename_i hfp
                simp only [getP, Option.some.injEq] at hg
                simp only [offP, Option.some.injEq, Prod.mk.injEq] at e3
                obtain ⟨rfl, _⟩ := e3
                have hdm : ∀ kk ek, d.t ≠ .mp kk ek := fun kk ek e => hmp kk ek (by have := congrArg DV.t hg; simp only at this; rw [← this]; exact e)
                have hdt : d.t.erase = T.erase := by have := congrArg DV.t hg; simp only at this; rw [this]; exact he.symm
                obtain ⟨G', h', hβ, cs', c1, c2⟩ := rel_bfz h e2 hdm
                obtain ⟨v, h1, h2⟩ := load_at (b := G.β b) (i := 0) hE hT (by rw [fz_erase]; exact hdt.symm) (CR.to_PR hfp c1) (fun j v hj => by rw [Nat.zero_add]; exact c2 j v hj)
                exact ⟨_, _, hk, fun next Q kk => op_value (hx h1) (kk _ _ ⟨G', rel_sets h' o.dst (fun _ _ e => by cases e) h2⟩)⟩
              · cases hk
            · cases hk
      · cases hk
    · cases hk
  · rename_i t x
    split at hk
    · rename_i hc
      obtain ⟨T, hT, he⟩ := chk_eq hc
      obtain ⟨b, off, ds, rfl, f1, f2⟩ := DVR_ref hv
      obtain ⟨v, h1, h2⟩ := load_at hE hT he f1 (fun j v hj => (f2 j v hj).1)
      exact ⟨[], _, hk, op_data h (hx h1) h2⟩
    · cases hk
  · rename_i t xs i p
    obtain ⟨e1, e2, e3, g, cap, off, u0, e4, e5, e6, rfl⟩ := hv
    split at hk
    · rename_i u x hg
      split at hk
      · rename_i hc
        obtain ⟨T, hT, he⟩ := chk_eq hc
        rw [e4] at e5
        obtain ⟨_, cs, f1, f2⟩ := vec_part e5 e2 e3 hg e6
        obtain ⟨v, h1, h2⟩ := load_at hE hT he f1 f2
        exact ⟨[], _, hk, op_data h (hx h1) h2⟩
      · cases hk
    · cases hk
  · cases hk

/-- An owned slice is put into a variable. -/
theorem rel_bput (h : RelG w0 S0 σ a w G) {s n : Nat} {u : Ty} {xs : List u.den} {v : Value} (hs : σ.slot s = ⟨.vec u xs, n⟩) (hv : VecR w G (.sl s) u xs v) {k : Nat} {d d' : DV} (hk : (σ.box k).d = some d) (hn : ∀ kk ek, d.t ≠ .mp kk ek) {p : List Stp} {u0 : Ty} {off : Nat}
    (hset : setP p d.t d.x ⟨.vec u, xs⟩ = some d') (ho : offP p d.t = some (off, u0)) (hu : u0.sz = 1) : Rel w0 S0 ((σ.do1 (.sl s .any)).do1 (.bx k false d')) a (w.setCells (G.β k) off [v]) := by
  have hlt := slot_lt (σ := σ) (s := s) (t := u) (xs := xs) (by rw [hs])
  have h1 := rel_drop h s
  obtain ⟨arr, ee, b1, b2, b3⟩ := (h.bx k d hk).cells hn
  have hle := offP_le p ho
  have hal := CR.length b3
  rw [Array.length_toList] at hal
  have go : ∀ G' : Gh, G'.β = G.β → RelG w0 S0 (σ.do1 (.sl s .any)) a w G' → VecR w G' (.bx k (bits p [])) u xs v → Rel w0 S0 ((σ.do1 (.sl s .any)).do1 (.bx k false d')) a (w.setCells (G.β k) off [v]) := by
    intro G' hβ h' hv'
    have := rel_bxC (cs := [v]) (ji := off) (news := [v]) (arr := arr) (ee := ee) h' (k := k) (d := d) hk hset ho (by rw [hβ]; exact b1) (by simp only [List.length_cons, List.length_nil]; omega) (by rw [hu]; rfl) (show CR w G' k (bits p []) (.vec u) xs [v] from ⟨v, rfl, hv'⟩)
    rw [hβ] at this
    exact ⟨G', this⟩
  rcases hv with ⟨e1, e2⟩ | ⟨g, cap, arr', ee', fr, e1, e2, e3, e4, e5, e6, e7⟩
  · exact go G rfl h1 (.inl ⟨e1, e2⟩)
  · exact go (G.give g (.bx k (bits p []))) rfl (rel_take h1 (.bx k (bits p [])) e6 (drop_novec s hlt)) (.inr ⟨g, cap, arr', ee', fr, e1, e2, e3, e4, e5, by simp [Gh.give], e7⟩)

theorem stB1_some {ov : OV} {b : Nat} {p : List Stp} {d : DV} {us : List Upd} (h : stB1 ov b p d = some us) : ∃ s n u xs d' t x, ov = .own s n u xs ∧ getP p d.t d.x = some ⟨t, x⟩ ∧ setP p d.t d.x ⟨.vec u, xs⟩ = some d' ∧ us = [.sl s .any, .bx b false d'] ∧ ∀ kk ek, t ≠ .mp kk ek := by
  unfold stB1 at h
  split at h
  · split at h
    · rename_i hg
      split at h
      · rename_i hs
        cases h
        exact ⟨_, _, _, _, _, _, _, rfl, hg, hs, rfl, fun _ _ e => by cases e⟩
      · cases h
    · rename_i hg
      split at h
      · rename_i hs
        cases h
        exact ⟨_, _, _, _, _, _, _, rfl, hg, hs, rfl, fun _ _ e => by cases e⟩
      · cases h
    · cases h
  · cases h

theorem getP_mp {p : List Stp} {d : DV} {t : Ty} {x : t.den} (hg : getP p d.t d.x = some ⟨t, x⟩) (hn : ∀ kk ek, t ≠ .mp kk ek) : ∀ kk ek, d.t ≠ .mp kk ek := fun kk ek e => by
  obtain ⟨dt, dx⟩ := d
  simp only at e
  subst e
  cases p with
  | nil => simp only [getP, Option.some.injEq, DV.mk.injEq] at hg; exact hn _ _ hg.1.symm
  | cons q p => cases q <;> simp [getP] at hg

theorem stB_ok (hE : EnvOK P e) (h : RelG w0 S0 σ a w G) {v : Operand → OV} (hv : ∀ x, OVR w G σ a (v x) (a.eval x)) {us : List Upd} (hk : stB e v o = some us) : OpS P w0 S0 o σ a w us ∧ ∃ t ad x, o.op = .store t ad x := by
  unfold stB at hk
  split at hk
  · rename_i t ad x ho
    refine ⟨?_, t, ad, x, ho⟩
    split at hk
    · rename_i hd
      split at hk
      · rename_i T u1 hT
        split at hk
        · rename_i b g p d had
          obtain ⟨s, n, u, xs, d', t1, x1, q1, q2, q3, rfl, q4⟩ := stB1_some hk
          have hva := hv ad
          rw [had] at hva
          obtain ⟨f1, f2, off, u0, f3, f4⟩ := hva
          have hvx := hv x
          rw [q1] at hvx
          obtain ⟨g1, g2, g3⟩ := hvx
          have hmp := getP_mp q2 q4
          have hu0 : u0.sz = 1 := erase_sz (setP_ty p q3 f3)
          obtain ⟨hB, hU⟩ := hE.ty t _ hT
          have hone : Value.one (a.eval x) ∧ (a.eval x).cells = #[a.eval x] := by
            rcases g3 with ⟨_, e⟩ | ⟨_, _, _, _, _, e, _⟩ <;> rw [e] <;> exact ⟨trivial, rfl⟩
          have hrel := rel_bput h g1 g3 f2 hmp q3 f3 hu0
          intro next Q kk
          have hr : (execOp a.eval o).run P w = .ok .skip (w.setCells (G.β b) off [a.eval x]) := by
            simp only [execOp, ho, Sem.run_bind, Instr.storeAt, f4, Instr.sureAddr, Sem.run_pure, Result.andThen_ok, storeVar, run_sizeOf hB, hone.2]
            rw [if_neg (by simp [Ty.sz])]
            rw [run_store_box h f2 f3 (cs := [a.eval x]) (by rw [hu0]; rfl) (fun v hv => by simp at hv; subst hv; exact hone.1) hmp]
            rfl
          refine op_skip hr (kk _ _ ?_)
          rw [hd]
          exact hrel
        · cases hk
      · cases hk
    · cases hk
  · cases hk
end

end Go.Q

/- The value machine: one operation. -/
set_option linter.unusedVariables false
namespace Go.Q
open Go Go.RowKit

def ConOK (P : Program) (e : Env) : Prop := ∀ f c, e.con f = some c → FnOK P e.gl f c

section
variable {P : Program} {e : Env} {w0 w : World} {S0 : Sx} {σ : St} {a : Act} {G : Gh} {o : Oper} {R : Type}

theorem arr1 {α : Type} {x : Array α} {l : List α} (h : x.toList = l) : x = l.toArray := by rw [← h]

theorem evOp_ok (hE : EnvOK P e) (hC : ConOK P e) (hg : GlOK e w0 S0) (h : RelG w0 S0 σ a w G) {k : List Upd → Option R} {r : R} (hk : evOp e (view e σ) (fun i => nth box0 σ.bx i) o k = some r) :
    ∃ us, k us = some r ∧ OpS P w0 S0 o σ a w us := by
  have hv : ∀ x, OVR w G σ a (view e σ x) (a.eval x) := fun x => view_ok h hg x
  generalize hvv : view e σ = v at hk hv
  unfold evOp at hk
  split at hk
  · rename_i x ho
    exact evMove_ok h (by simp [execOp, ho]) hk (hv x)
  · rename_i x ho
    exact evMove_ok h (by simp [execOp, ho]) hk (hv x)
  · rename_i c x y ho
    split at hk
    · rename_i b hc
      have hb := DVR_bool (hc ▸ hv c)
      rcases bool_ite hk with ⟨eb, hk2⟩ | ⟨eb, hk2⟩
      · exact evMove_ok h (by simp [execOp, ho, hb, eb, asBool]) hk2 (hv x)
      · exact evMove_ok h (by simp [execOp, ho, hb, eb, asBool]) hk2 (hv y)
    · cases hk
  · rename_i t ho
    split at hk
    · rename_i u d hu hd
      split at hk
      · rename_i g _ _ hbx
        refine ⟨_, hk, ?_⟩
        have : g = (σ.box d).g := by
          have : σ.box d = _ := hbx
          rw [this]
        rw [this]
        exact evAlloc_ok hE h hu hd ho
    · cases hk
  · rename_i t x ho
    split at hk
    · rename_i u d hu hd
      split at hk
      · rename_i g _ _ hbx
        split at hk
        · rename_i y us hy
          have : g = (σ.box d).g := by
            have : σ.box d = _ := hbx
            rw [this]
          rw [this] at hk
          obtain ⟨rfl, hyd⟩ := asS_ok (hv x) hy
          exact ⟨_, hk, evBox_ok h hd ho hyd⟩
        · cases hk
    · cases hk
  · rename_i t ho
    split at hk
    · rename_i kk ek d hm hd
      split at hk
      · rename_i g _ _ hbx
        refine ⟨_, hk, ?_⟩
        have : g = (σ.box d).g := by
          have : σ.box d = _ := hbx
          rw [this]
        rw [this]
        exact evMakeMap_ok h hd ho
    · cases hk
  · rename_i t x i ok ho
    split at hk
    · rename_i kk ek hm
      obtain ⟨av, hk, h2⟩ := evLookup_ok (o := o) hE h hm (hv x) (hv i) (by simp only [execOp, ho]; rfl) hk
      exact ⟨_, hk, h2⟩
    · cases hk
  · rename_i t m i x ho
    split at hk
    · rename_i kk ek hd hm
      exact evMapUpdate_ok (o := o) hE h hm (hv m) (hv i) (hv x) hd (by simp only [execOp, ho]; rfl) hk
    · cases hk
  · rename_i t ps ho
    exact evBuild_ok hE h hv ho hk
  · rename_i t n ps ho
    exact evBuildSlice_ok hE h hv ho hk
  · rename_i t x ho
    obtain ⟨us, av, hk, h1⟩ := evLoad_ok (o := o) hE h (hv x) ho hk
    exact ⟨_, hk, h1⟩
  · rename_i t ad x ho
    split at hk
    · rename_i hd
      exact evStore_ok hE h hv ho hd hk
    · cases hk
  · rename_i op t x y _ ho
    obtain ⟨u, z, hk, va, h1, h2⟩ := evBin_ok (x := x) (y := y) hE hk (hv x) (hv y)
    refine ⟨_, hk, op_data h ?_ h2⟩
    simp only [execOp, ho]
    rw [Sem.run_bind, h1]
    rfl
  · rename_i op _ x ho
    obtain ⟨u, z, hk, va, h1, h2⟩ := evUn_ok (P := P) hk (hv x)
    exact ⟨_, hk, op_data h (by simp [execOp, ho, h1]) h2⟩
  · rename_i s d x ho
    exact evConvert_ok hE h (hv x) (by simp [execOp, ho]) hk
  · rename_i t x ho
    split at hk
    · rename_i n u hT
      obtain ⟨_, el, hu, he⟩ := hE.ty t _ hT
      split at hk
      · cases hk
      · rename_i hn
        have hn := Nat.le_of_ble_eq_true hn
        have hvx := hv x
        split at hk
        · rename_i b g p lo hi d hx
          rw [hx] at hvx
          rcases bool_ite hk with ⟨hle, hk⟩ | ⟨_, hk⟩
          · rw [leI_eq, decide_eq_true_eq] at hle
            obtain ⟨va, h1, h2⟩ := evArrayAt_ok (u := u) hE h hu hn hvx hle
            exact ⟨_, hk, op_reader h (by simp [execOp, ho, h1]) (fun _ _ e => by cases e) h2⟩
          · cases hk
        · split at hk
          · split at hk
            · rename_i w' xs hx
              rw [hx] at hvx
              split at hk
              · rename_i ys hys
                rcases bool_ite hk with ⟨hle, hk⟩ | ⟨_, hk⟩
                · rw [leI_eq, decide_eq_true_eq] at hle
                  obtain ⟨rfl, rfl⟩ := cast_list hys
                  obtain ⟨va, h1, h2⟩ := evArrayRef_ok (P := P) hu hn hvx hle
                  exact ⟨_, hk, op_data h (by simp [execOp, ho, h1]) h2⟩
                · cases hk
              · cases hk
            · cases hk
          · cases hk
    · cases hk
  · rename_i f first cs ho
    split at hk
    · rename_i hf
      refine ⟨_, hk, op_reader h (v := .func (.func f) #[] (cs.map a.eval)) ?_ (fun _ _ e => by cases e) ⟨cs.map a.eval, rfl, ?_⟩⟩
      · have : first = #[] := arr1 hf
        simp [execOp, ho, Instr.makeFunc, this]
      · rw [Array.toList_map]
        exact L2.ofMap _ (fun x => OVR.toAV (hv x))
    · cases hk
  · rename_i t l c ho
    split at hk
    · rename_i u n m hT hl hc
      rcases bool_ite hk with ⟨hle, hk2⟩ | ⟨_, hk2⟩
      · rw [Bool.and_eq_true, eqI_eq, inB_eq, decide_eq_true_eq, decide_eq_true_eq] at hle
        obtain ⟨rfl, _, h0, h1⟩ := hle
        exact ⟨_, hk2, evMakeSlice_ok hE h hT ho h0 h1 (DVR_int (hl ▸ hv l)) (DVR_int (hc ▸ hv c))⟩
      · cases hk2
    · cases hk
  · rename_i t x lo hi mx ho
    exact evSlice_ok hE h hv ho hk
  · rename_i t x j ho
    obtain ⟨av, hk, va, h1, h2, h3⟩ := evFieldAddr_ok hE h hv hk
    exact ⟨_, hk, op_reader h (by simp [execOp, ho, h1]) h2 h3⟩
  · rename_i t x j ho
    split at hk
    · rename_i u y hx
      split at hk
      · rename_i hc
        split at hk
        · rename_i hj
          split at hk
          · rename_i w' z hz
            obtain ⟨va, h1, h2⟩ := evField_ok hE (hx ▸ hv x) hc (Nat.le_of_ble_eq_true hj) hz
            exact ⟨_, hk, op_data h (by simp [execOp, ho, h1]) h2⟩
          · cases hk
        · cases hk
      · cases hk
    · cases hk
  · rename_i t x i ho
    obtain ⟨av, hk, va, h1, h2, h3⟩ := evIndexAddr_ok hE h hv hk
    exact ⟨_, hk, op_reader h (by simp [execOp, ho, h1]) h2 h3⟩
  · rename_i t x i ho
    split at hk
    · cases hk
    · rename_i n hn
      obtain ⟨ki, hi⟩ := asI_ok (hv i) hn
      split at hk
      · rename_i s hx
        split at hk
        · rename_i hc
          rcases bool_ite hk with ⟨hr, hk⟩ | ⟨_, hk⟩
          · obtain ⟨h0, h1⟩ := inR_ok hr
            exact ⟨_, hk, op_data h (by simp [execOp, ho, hi, DVR_str (hx ▸ hv x), evIndexStr_ok hE hc h0 h1]) (DVR.int _ _)⟩
          · cases hk
        · cases hk
      · rename_i m u xs hx
        split at hk
        · rename_i hc
          rcases bool_ite hk with ⟨hr, hk⟩ | ⟨_, hk⟩
          · obtain ⟨h0, h1⟩ := inR_ok hr
            obtain ⟨va, h1, h2⟩ := evIndex_ok (k := ki) hE (hx ▸ hv x) hc h0 h1
            exact ⟨_, hk, op_data h (by simp [execOp, ho, hi, h1]) h2⟩
          · cases hk
        · cases hk
      · cases hk
  · rename_i x j ho
    split at hk
    · rename_i l hx
      split at hk
      · rename_i t y hj
        obtain ⟨va, h1, h2⟩ := evExtract_ok (P := P) (w := w) (hx ▸ hv x) hj
        exact ⟨_, hk, op_data h (by simp [execOp, ho, h1]) h2⟩
      · cases hk
    · cases hk
  · rename_i c ho
    split at hk
    · rename_i f hcf
      split at hk
      · rename_i g cs hf
        split at hk
        · rename_i c' hc
          have hF := hC g c' hc
          have hvf := hv f
          rw [hf] at hvf
          obtain ⟨fs, e1, e2⟩ := hvf
          obtain ⟨⟨fn, n1, n2, n3⟩, _⟩ := id hF
          refine evCall_ok hg h hF (args := c.args.map a.eval ++ fs) ?_ ?_ hk
          · rw [Array.toList_append, Array.toList_map]
            refine L2.app (L2.ops hv _) (L2.mono (fun _ _ => OVR.of0) e2)
          · have n2' : fn.name ≠ "runtime.NumGoroutine" := by simpa using n2
            have n3' : fn.body ≠ none := fun eb => by rw [eb] at n3; cases n3
            simp [execOp, ho, resolve, hcf, Deferred.ofValue, e1, invoke, callFunc, n1, n2', n3']
        · cases hk
      · cases hk
    · rename_i hcf
      split at hk
      · rename_i x t ts ha ht
        obtain ⟨n, hk, h1⟩ := evLen_ok (P := P) (ts := ts) (ty := o.type) hE h (hv x) hk
        refine ⟨_, hk, op_data h (v := .int .i64 n) ?_ (DVR.int _ _)⟩
        simp [execOp, ho, resolve, hcf, invoke, builtin, arr1 ha, arr1 ht, h1]
      · cases hk
    · rename_i hcf
      split at hk
      · rename_i s x t t1 ha ht
        refine evAppend_ok hE h (hv s) (hv x) (t := t) (t1 := t1) ?_ hk
        simp [execOp, ho, resolve, hcf, invoke, builtin, arr1 ha, arr1 ht]
      · cases hk
    · rename_i hcf
      split at hk
      · rename_i s x t ts ha ht
        refine evCopy_ok hE h (hv s) (hv x) (t := t) (t1 := t) (ts := ts) ?_ hk
        simp [execOp, ho, resolve, hcf, invoke, builtin, arr1 ha, arr1 ht]
      · cases hk
    · rename_i hcf
      split at hk
      · rename_i x y ha
        obtain ⟨ka, n, hk, h1⟩ := evMin_ok (P := P) (hv x) (hv y) hk
        refine ⟨_, hk, op_data h (v := .int ka n) ?_ (DVR.int _ _)⟩
        have h1 := h1 c.argTypes o.type
        simp only [Bool.false_eq_true, if_false, if_true] at h1
        simp [execOp, ho, resolve, hcf, invoke, builtin, arr1 ha, h1]
      · cases hk
    · rename_i hcf
      split at hk
      · rename_i x y ha
        obtain ⟨ka, n, hk, h1⟩ := evMin_ok (P := P) (hv x) (hv y) hk
        refine ⟨_, hk, op_data h (v := .int ka n) ?_ (DVR.int _ _)⟩
        have h1 := h1 c.argTypes o.type
        simp only [Bool.false_eq_true, if_false, if_true] at h1
        simp [execOp, ho, resolve, hcf, invoke, builtin, arr1 ha, h1]
      · cases hk
    · cases hk
  · cases hk
end

end Go.Q

/- The value machine: what follows may be put off. -/
set_option linter.unusedVariables false
namespace Go.Q
open Go Go.RowKit

section
variable {R : Type}

theorem evMove_nat (t : Option Ty) (x : OV) (asg : Bool) (dst : Option Tmp) (k : List Upd → Option R) : evMove t x asg dst k = (evMove t x asg dst some).bind k := by
  unfold evMove
  repeat' split
  all_goals first | rfl | simp_all

theorem evInt_nat (op : BinOp) (ka : IntKind) (x : Int) (kb : IntKind) (y : Int) (k : AV → Option R) : evInt op ka x kb y k = (evInt op ka x kb y some).bind k := by
  unfold evInt
  cases op <;> simp only [] <;> repeat' split
  all_goals first | rfl | simp_all

theorem evStr_nat (op : BinOp) (x y : ByteArray) (k : AV → Option R) : evStr op x y k = (evStr op x y some).bind k := by
  unfold evStr
  repeat' split
  all_goals first | rfl | simp_all

theorem evBin_nat (T : Option Ty) (op : BinOp) (a b : OV) (k : AV → Option R) : evBin T op a b k = (evBin T op a b some).bind k := by
  unfold evBin
  split
  · exact evInt_nat ..
  · exact evStr_nat ..
  · repeat' split
    all_goals first | rfl | simp_all
  · rfl

theorem evUn_nat (op : UnOp) (a : OV) (k : AV → Option R) : evUn op a k = (evUn op a some).bind k := by
  unfold evUn
  repeat' split
  all_goals first | rfl | simp_all

theorem evSliceB_nat (v : Operand → OV) (len : Int) (lo hi : Option Operand) {α : Type} (g : Int → Int → Option α) (k : α → Option R) : evSliceB v len lo hi (fun l h => (g l h).bind k) = (evSliceB v len lo hi g).bind k := by
  unfold evSliceB
  repeat' split
  all_goals first | rfl | simp_all

theorem loadB_nat (b : Nat) (p : List Stp) (d : DV) (k : List Upd → AV → Option R) (y : DV) : loadB b p d k y = (loadB b p d (fun us x => some (us, x)) y).bind fun z => k z.1 z.2 := by
  unfold loadB
  repeat' split
  all_goals first | rfl | simp_all
theorem evLoad_nat (T : Option Ty) (a : OV) (k : List Upd → AV → Option R) : evLoad T a k = (evLoad T a (fun us x => some (us, x))).bind fun z => k z.1 z.2 := by
  unfold evLoad
  repeat' split
  all_goals first | rfl | exact loadB_nat .. | simp_all

theorem evFieldAddr_nat (T : Option Ty) (nf j : Nat) (a : OV) (k : AV → Option R) : evFieldAddr T nf j a k = (evFieldAddr T nf j a some).bind k := by
  unfold evFieldAddr
  repeat' split
  all_goals first | rfl | simp_all

theorem evIndexAddr_nat (T : Option Ty) (a i : OV) (k : AV → Option R) : evIndexAddr T a i k = (evIndexAddr T a i some).bind k := by
  unfold evIndexAddr
  repeat' split
  all_goals first | rfl | simp_all

theorem evStore_nat (t : Option Ty) (a x : OV) (k : List Upd → Option R) : evStore t a x k = (evStore t a x some).bind k := by
  unfold evStore
  repeat' split
  all_goals first | rfl | simp_all

theorem evBuild_nat (nf : Nat) (t : Option Ty) (v : Operand → OV) (parts : List (Nat × Operand)) (dst : Option Tmp) (k : List Upd → Option R) : evBuild nf t v parts dst k = (evBuild nf t v parts dst some).bind k := by
  unfold evBuild
  repeat' split
  all_goals first | rfl | simp_all

theorem evBuildSlice_nat (t : Option Ty) (v : Operand → OV) (len : Nat) (parts : List (Nat × Operand)) (dst : Option Tmp) (k : List Upd → Option R) : evBuildSlice t v len parts dst k = (evBuildSlice t v len parts dst some).bind k := by
  unfold evBuildSlice
  repeat' split
  all_goals first | rfl | simp_all

theorem evLen_nat (T : Option Ty) (a : OV) (k : AV → Option R) : evLen T a k = (evLen T a some).bind k := by
  unfold evLen
  repeat' split
  all_goals first | rfl | simp_all

theorem evAppend_nat (t t1 : Option Ty) (s x : OV) (dst : Option Tmp) (k : List Upd → Option R) : evAppend t t1 s x dst k = (evAppend t t1 s x dst some).bind k := by
  unfold evAppend
  repeat' split
  all_goals first | rfl | simp_all

theorem evCopy_nat (t : Option Ty) (s x : OV) (dst : Option Tmp) (k : List Upd → Option R) : evCopy t s x dst k = (evCopy t s x dst some).bind k := by
  unfold evCopy
  repeat' split
  all_goals first | rfl | simp_all

theorem evMin_nat (mx : Bool) (a b : OV) (k : AV → Option R) : evMin mx a b k = (evMin mx a b some).bind k := by
  unfold evMin
  repeat' split
  all_goals first | rfl | simp_all

theorem evConvert_nat (same : Bool) (s d : Option Ty) (a : OV) (dst : Option Tmp) (k : List Upd → Option R) : evConvert same s d a dst k = (evConvert same s d a dst some).bind k := by
  unfold evConvert
  repeat' split
  all_goals first | rfl | simp_all

theorem evCall_nat (c : Con) (as : List OV) (dst : Option Tmp) (k : List Upd → Option R) : evCall c as dst k = (evCall c as dst some).bind k := by
  unfold evCall
  repeat' split
  all_goals first | rfl | (simp only [Option.bind_assoc]; congr 1; funext y; split <;> rfl) | simp_all

theorem slB_if (v : Operand → OV) (len : Int) (lo hi : Option Operand) (m' : Int) (us : Int → Int → List Upd) (k : List Upd → Option R) :
    evSliceB v len lo hi (fun l h => if eqI h m' = true then k (us l h) else none) = (evSliceB v len lo hi (fun l h => if eqI h m' = true then some (us l h) else none)).bind k := by
  rw [← evSliceB_nat]
  congr 1
  funext l h
  split <;> rfl

theorem slB_plain (v : Operand → OV) (len : Int) (lo hi : Option Operand) (us : Int → Int → List Upd) (k : List Upd → Option R) :
    evSliceB v len lo hi (fun l h => k (us l h)) = (evSliceB v len lo hi (fun l h => some (us l h))).bind k := by
  rw [← evSliceB_nat]
  rfl

theorem evSlice_nat (T : Option Ty) (v : Operand → OV) (x : Operand) (lo hi mx : Option Operand) (dst : Option Tmp) (k : List Upd → Option R) : evSlice T v x lo hi mx dst k = (evSlice T v x lo hi mx dst some).bind k := by
  unfold evSlice
  repeat' split
  all_goals first
    | rfl
    | exact slB_plain ..
    | exact slB_if ..
    | simp_all

theorem nat1 {f : (AV → Option R) → Option R} {g : (AV → Option AV) → Option AV} {g2 : (AV → Option (List Upd)) → Option (List Upd)} (h : ∀ k, f k = (g some).bind k) (h2 : ∀ k, g2 k = (g some).bind k) (m : AV → List Upd) (k : List Upd → Option R) :
    f (fun x => k (m x)) = (g2 fun x => some (m x)).bind k := by
  rw [h, h2]
  cases g some <;> rfl

theorem evLookup_nat (kk ek : IntKind) (m i : OV) (ok : Bool) (k : AV → Option R) : evLookup kk ek m i ok k = (evLookup kk ek m i ok some).bind k := by
  unfold evLookup
  repeat' split
  all_goals first | rfl | simp_all
theorem evMapUpdate_nat (kk ek : IntKind) (m i x : OV) (k : List Upd → Option R) : evMapUpdate kk ek m i x k = (evMapUpdate kk ek m i x some).bind k := by
  unfold evMapUpdate
  repeat' split
  all_goals first | rfl | simp_all

theorem evOp_nat (e : Env) (v : Operand → OV) (bxs : Nat → Box) (o : Oper) (k : List Upd → Option R) : evOp e v bxs o k = (evOp e v bxs o some).bind k := by
  unfold evOp
  split
  · exact evMove_nat ..
  · exact evMove_nat ..
  · split
    · split
      · exact evMove_nat ..
      · exact evMove_nat ..
    · rfl
  · repeat' split
    all_goals first | rfl | simp_all
  · repeat' split
    all_goals first | rfl | simp_all
  · repeat' split
    all_goals first | rfl | simp_all
  · split
    · exact nat1 (f := evLookup _ _ _ _ _) (evLookup_nat _ _ _ _ _) (evLookup_nat _ _ _ _ _) _ _
    · rfl
  · split
    · exact evMapUpdate_nat ..
    · rfl
  · exact evBuild_nat ..
  · exact evBuildSlice_nat ..
  · rename_i t x ho
    rw [evLoad_nat, evLoad_nat _ _ (fun us x => some (us ++ sets o.dst x))]
    cases evLoad (e.ty t) (v x) (fun us x => some (us, x)) <;> rfl
  · split
    · exact evStore_nat ..
    · rfl
  · exact nat1 (f := evBin _ _ _ _) (evBin_nat _ _ _ _) (evBin_nat _ _ _ _) _ _
  · exact nat1 (f := evUn _ _) (evUn_nat _ _) (evUn_nat _ _) _ _
  · exact evConvert_nat ..
  · repeat' split
    all_goals first | rfl | simp_all
  · repeat' split
    all_goals first | rfl | simp_all
  · repeat' split
    all_goals first | rfl | simp_all
  · exact evSlice_nat ..
  · exact nat1 (f := evFieldAddr _ _ _ _) (evFieldAddr_nat _ _ _ _) (evFieldAddr_nat _ _ _ _) _ _
  · repeat' split
    all_goals first | rfl | simp_all
  · exact nat1 (f := evIndexAddr _ _ _) (evIndexAddr_nat _ _ _) (evIndexAddr_nat _ _ _) _ _
  · repeat' split
    all_goals first | rfl | simp_all
  · repeat' split
    all_goals first | rfl | simp_all
  · split
    · split
      · split
        · exact evCall_nat ..
        · rfl
      · rfl
    · split
      · exact nat1 (f := evLen _ _) (evLen_nat _ _) (evLen_nat _ _) _ _
      · rfl
    · split
      · exact evAppend_nat ..
      · rfl
    · split
      · exact evCopy_nat ..
      · rfl
    · split
      · exact nat1 (f := evMin _ _ _) (evMin_nat _ _ _) (evMin_nat _ _ _) _ _
      · rfl
    · split
      · exact nat1 (f := evMin _ _ _) (evMin_nat _ _ _) (evMin_nat _ _ _) _ _
      · rfl
    · rfl
  · rfl

/-- The operation's own answer. -/
theorem evOp_some {e : Env} {v : Operand → OV} {bxs : Nat → Box} {o : Oper} {k : List Upd → Option R} {r : R} (h : evOp e v bxs o k = some r) : ∃ us, evOp e v bxs o some = some us ∧ k us = some r := by
  rw [evOp_nat] at h
  exact Option.bind_eq_some_iff.1 h
theorem evOp1_some {e : Env} {σ : St} {o : Oper} {k : List Upd → Option R} {r : R} (h : evOp1 e σ o k = some r) : ∃ us, evOp1 e σ o some = some us ∧ k us = some r := by
  unfold evOp1 at h ⊢
  cases hb : stB e (view e σ) o with
  | some us => simp only [hb] at h ⊢; exact ⟨us, rfl, h⟩
  | none =>
  simp only [hb] at h ⊢
  cases hf : frzL σ (frzOps e o) with
  | nil => simp only [hf] at h ⊢; exact evOp_some h
  | cons u us =>
    simp only [hf] at h ⊢
    obtain ⟨vs, h1, h2⟩ := evOp_some h
    exact ⟨(u :: us) ++ vs, by rw [evOp_nat, h1]; rfl, h2⟩
end

end Go.Q
