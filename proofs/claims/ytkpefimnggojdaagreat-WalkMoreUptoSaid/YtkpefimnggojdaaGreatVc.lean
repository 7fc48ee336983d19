/-
  VX, part c: each operation's predicate is sound for the model's run of it.
-/
import Derived.Test.YtkpefimnggojdaaGreatVa
set_option linter.all false
namespace Go.Proofs.YtkpefimnggojdaaGreat.VX
open Go
variable {P : Program}
attribute [local semireducible] rn

theorem rn_ok {α : Type} {s : Sem α} {w w' : World} {v : α} {K : α → World → Prop} (h : s.run P w = .ok v w') (hk : K v w') : rn P s w K := by
  unfold rn; rw [h]; exact hk

theorem rn_bind {α β : Type} {s : Sem α} {f : α → Sem β} {w : World} {K : β → World → Prop} (h : rn P s w fun v w' => rn P (f v) w' K) : rn P (s >>= f) w K := by
  unfold rn at *
  rw [Sem.run_bind]
  cases hs : s.run P w with
  | ok v w' => rw [hs] at h; exact h
  | halt e w' => rw [hs] at h; exact h.elim

theorem rn_pure {α : Type} {a : α} {w : World} {K : α → World → Prop} (h : K a w) : rn P (pure a) w K := h

theorem rn_mono {α : Type} {s : Sem α} {w : World} {K K' : α → World → Prop} (h : rn P s w K) (hk : ∀ v w', K v w' → K' v w') : rn P s w K' := by
  unfold rn at *
  cases hs : s.run P w with
  | ok v w' => rw [hs] at h; exact hk _ _ h
  | halt e w' => rw [hs] at h; exact h.elim

theorem rn_under {t : TypeId} {d : TypeDesc} {w : World} {K : TypeDesc → World → Prop} (h : P.underlying t = some d) (hk : K d w) : rn P (underlying t) w K := by
  unfold underlying
  refine rn_bind ?_
  show rn P (match P.underlying t with | some d => pure d | none => _) w K
  rw [h]; exact hk

theorem rn_info {t : TypeId} {i : TypeInfo} {w : World} {K : TypeInfo → World → Prop} (h : P.info? t = some i) (hk : K i w) : rn P (typeInfo t) w K := by
  unfold typeInfo
  refine rn_bind ?_
  show rn P (match P.info? t with | some d => pure d | none => _) w K
  rw [h]; exact hk

theorem szOf_some {t : TypeId} {n : Nat} (h : szOf P t = some n) : ∃ i, P.info? t = some i ∧ i.size = n := by
  unfold szOf at h
  cases hi : P.info? t with
  | none => rw [hi] at h; cases h
  | some i => rw [hi] at h; exact ⟨i, rfl, by simpa using h⟩

theorem rn_size {t : TypeId} {n : Nat} {w : World} {K : Nat → World → Prop} (h : szOf P t = some n) (hk : K n w) : rn P (sizeOf t) w K := by
  obtain ⟨i, hi, rfl⟩ := szOf_some h
  exact rn_bind (rn_info hi hk)

theorem rn_zero {t : TypeId} {z : Value} {w : World} {K : Value → World → Prop} (h : (P.info? t).bind (·.zero) = some z) (hk : K z w) : rn P (zeroValue t) w K := by
  cases hi : P.info? t with
  | none => rw [hi] at h; cases h
  | some i =>
    rw [hi] at h
    have h' : i.zero = some z := h
    refine rn_bind (rn_info hi ?_)
    show rn P (match i.zero with | some v => pure v | none => _) w K
    rw [h']; exact hk

theorem zOf_some {t : TypeId} {zs : List Value} (h : zOf P t = some zs) : ∃ z, (P.info? t).bind (·.zero) = some z ∧ z.cells.toList = zs := by
  unfold zOf at h
  cases hz : (P.info? t).bind (·.zero) with
  | none => rw [hz] at h; cases h
  | some z => rw [hz] at h; exact ⟨z, rfl, by simpa using h⟩

theorem rn_isAgg {t : TypeId} {d : TypeDesc} {w : World} {K : Bool → World → Prop} (h : P.underlying t = some d) (hk : K (isAggD d) w) : rn P (isAgg t) w K := by
  unfold isAgg
  refine rn_bind (rn_under h ?_)
  cases d <;> exact hk

/-! The memory's operations. -/
theorem rn_load {a : Addr} {v : Value} {w : World} {K : Value → World → Prop} (h : w.cell? a = some v) (hk : K v w) : rn P (load a) w K := by
  refine rn_ok (v := v) (w' := w) ?_ hk
  rw [run_load, h]

theorem rn_loadCellsFrom {a : Addr} {w : World} {K : Array Value → World → Prop} : ∀ (n i : Nat) (acc : Array Value) (vs : List Value),
    cellsAt w a i n = some vs → K (acc ++ vs.toArray) w → rn P (loadCellsFrom a i n acc) w K
  | 0, i, acc, vs, h, hk => by
    simp only [cellsAt, Option.some.injEq] at h
    subst h
    show K acc w
    simpa using hk
  | n + 1, i, acc, vs, h, hk => by
    simp only [cellsAt] at h
    cases hc : w.cell? (a.add i) with
    | none => rw [hc] at h; cases h
    | some v =>
      rw [hc] at h
      cases hr : cellsAt w a (i + 1) n with
      | none => rw [hr] at h; cases h
      | some r =>
        rw [hr] at h
        simp only [Option.map_some, Option.some.injEq] at h
        subst h
        exact rn_bind (rn_load hc (rn_loadCellsFrom n (i + 1) (acc.push v) r hr (by simpa using hk)))

theorem ld_sound {t : TypeId} {d : TypeDesc} {x : Value} {w : World} {K : Value → World → Prop} (hu : P.underlying t = some d) (hd : isAggD d = false)
    (h : ld x w fun v => K v w) : rn P (Instr.loadAt t x) w K := by
  unfold ld at h
  split at h
  · split at h
    · rename_i a _ v hv
      refine rn_bind (rn_pure ?_)
      refine rn_bind (rn_isAgg hu ?_)
      rw [hd]
      exact rn_load hv h
    · exact h.elim
  · exact h.elim

theorem ldS_sound {t : TypeId} {d : TypeDesc} {n : Nat} {x : Value} {w : World} {K : Value → World → Prop} (hu : P.underlying t = some d) (hd : isAggD d = true)
    (hs : szOf P t = some n) (h : ldS n x w fun v => K v w) : rn P (Instr.loadAt t x) w K := by
  unfold ldS at h
  split at h
  · split at h
    · rename_i a _ vs hv
      refine rn_bind (rn_pure ?_)
      refine rn_bind (rn_isAgg hu ?_)
      rw [hd]
      refine rn_bind (rn_size hs ?_)
      exact rn_bind (rn_loadCellsFrom n 0 #[] vs hv (by simpa using rn_pure h))
    · exact h.elim
  · exact h.elim

theorem rn_store {a : Addr} {v : Value} {w : World} {K : Unit → World → Prop} (ho : oneCell v = true) (hc : (w.cell? a).isSome = true) (hf : w.frozen? a = false)
    (hk : K () (w.setCell a v)) : rn P (store a v) w K := by
  obtain ⟨u, hu⟩ := Option.isSome_iff_exists.1 hc
  refine rn_ok (v := ()) (w' := w.setCell a v) ?_ hk
  cases v <;> first | (simp [oneCell] at ho; done) | simp [store, Sem.run, hu, hf]

theorem rn_storeCells {a : Addr} {K : Unit → World → Prop} : ∀ (vs : List Value) (i : Nat) (w w' : World), stL a w i vs = some w' → K () w' → rn P (storeCells a vs i) w K
  | [], i, w, w', h, hk => by
    simp only [stL, Option.some.injEq] at h
    subst h
    exact hk
  | v :: r, i, w, w', h, hk => by
    simp only [stL] at h
    split at h
    · rename_i hc
      exact rn_bind (rn_store hc.1 hc.2.1 hc.2.2 (rn_storeCells r (i + 1) _ w' h hk))
    · cases h

theorem st_sound {t : TypeId} {n : Nat} {x v : Value} {w : World} {K : Unit → World → Prop} (hs : szOf P t = some n) (h : st n x v w fun w' => K () w') : rn P (Instr.storeAt t x v) w K := by
  unfold st at h
  split at h
  · rename_i a
    obtain ⟨hn, h⟩ := h
    split at h
    · rename_i w' hw
      refine rn_bind (rn_pure ?_)
      unfold storeVar
      refine rn_bind (rn_size hs ?_)
      have hn' : v.cells.size = n := by simpa using hn
      rw [if_neg (by simp [hn'])]
      exact rn_storeCells _ 0 w w' hw h
    · exact h.elim
  · exact h.elim

theorem rn_newObj {o : Obj} {w : World} {K : Nat → World → Prop} (hk : K w.heap.size (w.alloc o)) : rn P (newObj o) w K := hk
theorem rn_newRow {t : TypeId} {c : Array Value} {w : World} {K : Addr → World → Prop} (hk : K ⟨w.heap.size, 0, none⟩ (w.alloc (.cells c t))) : rn P (newRow t c) w K :=
  rn_bind (rn_newObj hk)
theorem rn_getObj {r : Nat} {o : Obj} {w : World} {K : Obj → World → Prop} (h : w.heap[r]? = some o) (hn : ∀ c t f, o ≠ .cells c t f) (hk : K o w) : rn P (getObj r) w K := by
  refine rn_ok (v := o) (w' := w) ?_ hk
  cases o <;> first | (exact absurd rfl (hn _ _ _)) | simp [getObj, Sem.run, h]
theorem rn_setObj {r : Nat} {o o' : Obj} {w : World} {K : Unit → World → Prop} (h : w.heap[r]? = some o) (hn : ∀ c t f, o ≠ .cells c t f)
    (hk : K () { w with heap := w.heap.setIfInBounds r o' }) : rn P (setObj r o') w K := by
  refine rn_ok (v := ()) ?_ hk
  cases o <;> first | (exact absurd rfl (hn _ _ _)) | simp [setObj, Sem.run, h]

/-! What is built. -/
theorem foldl_set : ∀ (vs : List Value) (cs : List Value) (off k : Nat), off + k + vs.length ≤ cs.length →
    ((vs.zipIdx k).foldl (fun (c : Array Value) (x : Value × Nat) => c.setIfInBounds (off + x.2) x.1) cs.toArray) = (cs.take (off + k) ++ vs ++ cs.drop (off + k + vs.length)).toArray
  | [], cs, off, k, _ => by simp
  | v :: vs, cs, off, k, h => by
    simp only [List.zipIdx_cons, List.foldl_cons, List.setIfInBounds_toArray]
    rw [foldl_set vs _ off (k + 1) (by simp at h ⊢; omega)]
    simp only [List.length_cons] at h ⊢
    congr 1
    have e1 : (cs.set (off + k) v).take (off + (k + 1)) = cs.take (off + k) ++ [v] := by
      rw [← Nat.add_assoc, List.take_succ_eq_append_getElem (by simp; omega)]
      rw [List.take_set_of_le (Nat.le_refl _)]
      simp
    have e2 : (cs.set (off + k) v).drop (off + (k + 1) + vs.length) = cs.drop (off + k + (vs.length + 1)) := by
      rw [List.drop_set_of_lt (by omega)]
      congr 1; omega
    rw [e1, e2]; simp

theorem fill_eq {pl : Nat → Option (Nat × Nat)} {ρ : Operand → Value} : ∀ (parts : List (Nat × Operand)) (ps : List (Nat × Nat × Value)) (cs out : List Value),
    partsOf ρ pl parts = some ps → bldL cs ps = some out → Instr.fill pl cs.toArray (parts.map fun (i, x) => (i, ρ x)) = some out.toArray
  | [], ps, cs, out, h, hb => by
    simp only [partsOf, Option.some.injEq] at h
    subst h
    simp only [bldL, Option.some.injEq] at hb
    subst hb
    rfl
  | (i, x) :: r, ps, cs, out, h, hb => by
    simp only [partsOf] at h
    split at h
    · rename_i o n l hpl hl
      simp only [Option.some.injEq] at h
      subst h
      simp only [bldL] at hb
      split at hb
      · rename_i hc
        obtain ⟨h1, h2⟩ := hc
        have h1' : (ρ x).cells.size = n := by simpa using h1
        simp only [List.map_cons, Instr.fill, hpl]
        rw [if_neg (by simp [h1']; omega)]
        have hf := foldl_set (ρ x).cells.toList cs o 0 (by simp [h1']; omega)
        have hz : ((ρ x).cells.zipIdx.foldl (fun cs (x : Value × Nat) => cs.setIfInBounds (o + x.2) x.1) cs.toArray) = (fillL cs o (ρ x).cells.toList).toArray := by
          rw [← Array.foldl_toList]
          simp only [Array.toList_zipIdx]
          simpa [fillL] using hf
        rw [hz]
        exact fill_eq r l _ out hl hb
      · cases hb
    · cases h

theorem mapM_places {w : World} : ∀ (fs : List Field) (pl : List (Nat × Nat)), (fs.mapM fun f => (szOf P f.type).map fun n => (f.offset, n)) = some pl →
    (fs.mapM fun f => (do pure (f.offset, ← sizeOf f.type) : Sem (Nat × Nat))).run P w = .ok pl w
  | [], pl, h => by simp at h; subst h; rfl
  | f :: fs, pl, h => by
    simp only [List.mapM_cons, Option.bind_eq_bind, Option.bind_eq_some_iff, Option.map_eq_some_iff] at h
    obtain ⟨q, ⟨n, hn, rfl⟩, l, hl, h⟩ := h
    simp only [Option.pure_def, Option.some.injEq] at h
    subst h
    obtain ⟨i, hi, rfl⟩ := szOf_some hn
    have hs : (sizeOf f.type).run P w = .ok i.size w := by simp [sizeOf, typeInfo, hi, program, Sem.run]
    have := mapM_places (w := w) fs l hl
    simp only [List.mapM_cons, Sem.run_bind, hs, Result.andThen_ok, Sem.run_pure, this]

end Go.Proofs.YtkpefimnggojdaaGreat.VX
