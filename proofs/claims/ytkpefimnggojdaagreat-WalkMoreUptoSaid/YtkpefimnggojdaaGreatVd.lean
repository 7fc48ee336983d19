/-
  VX, part d: 'opx' is sound.
  VX, part e: the rest of the operations, and 'opx_sound'.
-/
import Derived.Test.YtkpefimnggojdaaGreatVc
import Derived.Lib.Strings
set_option linter.all false
namespace Go.Proofs.YtkpefimnggojdaaGreat.VX
open Go
variable {P : Program}
attribute [local semireducible] rn

theorem under_run {t : TypeId} {d : TypeDesc} (h : P.underlying t = some d) (w : World) : (underlying t).run P w = .ok d w := by simp [underlying, program, Sem.run, h]
theorem size_run {t : TypeId} {n : Nat} (h : szOf P t = some n) (w : World) : (sizeOf t).run P w = .ok n w := by
  obtain ⟨i, hi, rfl⟩ := szOf_some h
  simp [sizeOf, typeInfo, hi, program, Sem.run]

theorem build_struct {t : TypeId} {fields : Array Field} {zs : List Value} {pl : List (Nat × Nat)} {ρ : Operand → Value} {parts : Array (Nat × Operand)} {ps : List (Nat × Nat × Value)}
    {w : World} {K : Value → World → Prop} (hu : P.underlying t = some (.struct fields)) (hz : zOf P t = some zs) (hp : places P fields = some pl)
    (hq : partsOf ρ (pl[·]?) parts.toList = some ps) (h : bld zs ps fun v => K v w) : rn P (Instr.build t (parts.map fun (i, x) => (i, ρ x))) w K := by
  obtain ⟨z, hz, rfl⟩ := zOf_some hz
  unfold bld at h
  split at h
  · rename_i cs hcs
    refine rn_bind (rn_zero (by assumption) ?_)
    refine rn_bind (rn_under hu ?_)
    refine rn_bind (rn_ok (v := pl.toArray) (w' := w) ?_ ?_)
    · have hm := mapM_places (P := P) (w := w) fields.toList pl hp
      rw [Array.mapM_eq_mapM_toList]
      simp only [Sem.run_map, hm, Result.andThen_ok]
    · have hf := fill_eq parts.toList ps z.cells.toList cs hq hcs
      have e : (parts.map fun (i, x) => (i, ρ x)).toList = parts.toList.map fun (i, x) => (i, ρ x) := by simp
      have e2 : (fun x : Nat => (pl.toArray)[x]?) = (fun x : Nat => pl[x]?) := by funext x; simp
      simp only [e, e2, Array.toArray_toList] at hf ⊢
      simp only [hf]
      exact h
  · exact h.elim

theorem build_array {t e : TypeId} {len n : Nat} {zs : List Value} {ρ : Operand → Value} {parts : Array (Nat × Operand)} {ps : List (Nat × Nat × Value)}
    {w : World} {K : Value → World → Prop} (hu : P.underlying t = some (.array len e)) (hz : zOf P t = some zs) (hs : szOf P e = some n)
    (hq : partsOf ρ (fun i => some (i * n, n)) parts.toList = some ps) (h : bld zs ps fun v => K v w) : rn P (Instr.build t (parts.map fun (i, x) => (i, ρ x))) w K := by
  obtain ⟨z, hz, rfl⟩ := zOf_some hz
  unfold bld at h
  split at h
  · rename_i cs hcs
    refine rn_bind (rn_zero (by assumption) ?_)
    refine rn_bind (rn_under hu ?_)
    refine rn_bind (rn_size hs ?_)
    have hf := fill_eq parts.toList ps z.cells.toList cs hq hcs
    have e : (parts.map fun (i, x) => (i, ρ x)).toList = parts.toList.map fun (i, x) => (i, ρ x) := by simp
    simp only [e, Array.toArray_toList] at hf ⊢
    simp only [hf]
    exact h
  · exact h.elim

theorem rep_flat (zs : List Value) (hz : 0 < zs.length) : ∀ len : Nat, (List.range (len * zs.length)).map (fun i => zs.toArray[i % zs.toArray.size]!) = (List.replicate len zs).flatten
  | 0 => by simp
  | len + 1 => by
    rw [List.replicate_succ', List.flatten_append, ← rep_flat zs hz len, Nat.succ_mul, List.range_add, List.map_append]
    congr 1
    apply List.ext_getElem
    · simp
    · intro i h1 h2
      have h1' : i < zs.length := by simpa using h1
      simp only [List.getElem_map, List.getElem_range, List.size_toArray, Nat.mul_add_mod_self_right, Nat.mod_eq_of_lt h1', List.flatten_cons, List.flatten_nil, List.append_nil]
      simp [h1']

theorem bsl_sound {t e : TypeId} {len n : Nat} {zs : List Value} {ρ : Operand → Value} {parts : Array (Nat × Operand)} {ps : List (Nat × Nat × Value)}
    {w : World} {K : Value → World → Prop} (hu : P.underlying t = some (.slice e)) (hs : szOf P e = some n) (hz : zOf P e = some zs) (hl : len * n ≤ 2 ^ 24) (hzl : zs.length = n) (hn : 0 < n)
    (hq : partsOf ρ (fun i => some (i * n, n)) parts.toList = some ps) (h : bsl e len (List.replicate len zs).flatten ps w K) :
    rn P (Instr.buildSlice t len (parts.map fun (i, x) => (i, ρ x))) w K := by
  obtain ⟨z, hz, rfl⟩ := zOf_some hz
  unfold bsl at h
  split at h
  · rename_i cs hcs
    have hf := fill_eq parts.toList ps _ cs hq hcs
    have e1 : (parts.map fun (i, x) => (i, ρ x)).toList = parts.toList.map fun (i, x) => (i, ρ x) := by simp
    refine rn_bind (rn_under hu ?_)
    refine rn_bind (rn_size hs ?_)
    simp only []
    rw [if_neg (by omega)]
    by_cases h0 : len = 0
    · subst h0
      simp only [Nat.zero_mul, if_true]
      refine rn_bind (rn_pure ?_)
      simp only [e1]
      have : (Array.map (fun x => (#[] : Array Value)[x % (#[] : Array Value).size]!) (Array.range 0)) = ((List.replicate 0 z.cells.toList).flatten).toArray := by simp
      rw [this, hf]
      exact rn_bind (rn_newRow h)
    · rw [if_neg (by intro hh; rcases Nat.mul_eq_zero.1 hh with h' | h' <;> omega)]
      refine rn_bind (rn_zero (by assumption) ?_)
      refine rn_bind (rn_pure ?_)
      simp only [e1]
      have : (Array.range (len * n)).map (fun x => z.cells[x % z.cells.size]!) = ((List.replicate len z.cells.toList).flatten).toArray := by
        rw [← rep_flat z.cells.toList (by rw [hzl]; exact hn) len, hzl]
        apply Array.toList_inj.1
        simp
      rw [this, hf]
      exact rn_bind (rn_newRow h)
  · exact h.elim

theorem fieldAt_sound {s : TypeId} {fields : Array Field} {f n : Nat} {fl : Field} {x : Value} {w : World} {K : Value → World → Prop} (hu : P.underlying s = some (.struct fields))
    (hf : fields[f]? = some fl) (hs : szOf P fl.type = some (n + 1)) (h : fa fl.offset x fun v => K v w) : rn P (Instr.fieldAt s x f) w K := by
  unfold fa at h
  split at h
  · rename_i a
    refine rn_bind (rn_under hu ?_)
    simp only [hf]
    refine rn_bind (rn_pure ?_)
    refine rn_bind ?_
    unfold fieldPlace
    refine rn_bind (rn_size hs ?_)
    rw [if_neg (by omega)]
    exact h
  · exact h.elim

theorem rn_part {t : TypeId} {d : TypeDesc} {n off : Nat} {cs : Array Value} {w : World} {K : Value → World → Prop} (hu : P.underlying t = some d) (hs : szOf P t = some n)
    (h : fd off n (isAggD d) (.agg cs) fun v => K v w) : rn P (part t cs off) w K := by
  unfold part
  refine rn_bind (rn_isAgg hu ?_)
  cases hd : isAggD d with
  | true =>
    rw [hd] at h
    exact rn_bind (rn_size hs h)
  | false =>
    rw [hd] at h
    simp only [fd] at h
    simp only [Bool.false_eq_true, if_false]
    cases hc : cs[off]? with
    | none => rw [hc] at h; exact h.elim
    | some v => rw [hc] at h; exact h

theorem field_sound {s : TypeId} {fields : Array Field} {f n : Nat} {fl : Field} {d : TypeDesc} {x : Value} {w : World} {K : Value → World → Prop} (hu : P.underlying s = some (.struct fields))
    (hf : fields[f]? = some fl) (hd : P.underlying fl.type = some d) (hs : szOf P fl.type = some n) (h : fd fl.offset n (isAggD d) x fun v => K v w) : rn P (Instr.field s x f) w K := by
  cases x with
  | agg cs =>
    refine rn_bind (rn_under hu ?_)
    simp only [hf]
    exact rn_bind (rn_pure (rn_part hd hs h))
  | _ => exact h.elim

theorem ia_sound {t e : TypeId} {n : Nat} {x i : Value} {w : World} {K : Value → World → Prop} (hu : P.underlying t = some (.slice e)) (hs : szOf P e = some n)
    (h : ia n x i fun v => K v w) : rn P (Instr.indexAt t x i) w K := by
  unfold ia at h
  split at h
  · rename_i a len cap k m
    obtain ⟨hb, h⟩ := h
    refine rn_ok (v := .pointer (some (a.add (m.toNat * n)))) (w' := w) ?_ h
    simp [Instr.indexAt, asIntOf, under_run hu, size_run hs, hb]
  · exact h.elim

theorem iaA_sound {t e : TypeId} {len n : Nat} {x i : Value} {w : World} {K : Value → World → Prop} (hu : P.underlying t = some (.array len e)) (hs : szOf P e = some n)
    (h : iaA len n x i fun v => K v w) : rn P (Instr.indexAt t x i) w K := by
  unfold iaA at h
  split at h
  · rename_i a k m
    obtain ⟨hb, h⟩ := h
    refine rn_ok (v := .pointer (some (a.add (m.toNat * n)))) (w' := w) ?_ h
    simp [Instr.indexAt, asIntOf, under_run hu, size_run hs, hb, Instr.sureAddr]
  · exact h.elim

theorem ixS_sound {t : TypeId} {x i : Value} {w : World} {K : Value → World → Prop} (hu : P.underlying t = some .string) (h : ixS x i fun v => K v w) : rn P (Instr.index t x i) w K := by
  unfold ixS at h
  split at h
  · rename_i s k m
    obtain ⟨hb, h⟩ := h
    refine rn_ok (v := .int .u8 ((s.data.toList.getD m.toNat 0).toNat : Int)) (w' := w) ?_ h
    have hlt : m.toNat < s.data.toList.length := by omega
    have hs : m.toNat < s.size := hlt
    have e : s[m.toNat]? = some (s.data.toList.getD m.toNat 0) := by
      rw [ByteArray.getElem?_lt' s m.toNat hs]
      congr 1
      rw [List.getD_eq_getElem?_getD, List.getElem?_eq_getElem hlt]
      rfl
    simp [Instr.index, asIntOf, under_run hu, hb.1, e]
  · exact h.elim

theorem part_run {t : TypeId} {d : TypeDesc} {n off : Nat} {cs : Array Value} {w : World} {K : Value → World → Prop} (hu : P.underlying t = some d) (hs : szOf P t = some n)
    (h : fd off n (isAggD d) (.agg cs) fun v => K v w) : ∃ v, (part t cs off).run P w = .ok v w ∧ K v w := by
  have := rn_part hu hs h
  unfold rn at this
  unfold fd at h
  cases hd : isAggD d with
  | true =>
    rw [hd] at h
    refine ⟨_, ?_, h⟩
    unfold part
    have : (isAgg t).run P w = .ok true w := by
      unfold isAgg; simp only [Sem.run_bind, under_run hu, Result.andThen_ok]; cases d <;> simp_all [isAggD]
    simp [this, size_run hs]
  | false =>
    rw [hd] at h
    simp only at h
    split at h
    · rename_i v hv
      refine ⟨v, ?_, h⟩
      unfold part
      have : (isAgg t).run P w = .ok false w := by
        unfold isAgg; simp only [Sem.run_bind, under_run hu, Result.andThen_ok]; cases d <;> simp_all [isAggD]
      simp [this, hv]
    · exact h.elim

theorem ixA_sound {t e : TypeId} {d : TypeDesc} {len n : Nat} {x i : Value} {w : World} {K : Value → World → Prop} (hu : P.underlying t = some (.array len e)) (hd : P.underlying e = some d)
    (hs : szOf P e = some n) (h : ixA len n (isAggD d) x i fun v => K v w) : rn P (Instr.index t x i) w K := by
  unfold ixA at h
  split at h
  · rename_i k m
    obtain ⟨hb, h⟩ := h
    cases x with
    | agg cs =>
      obtain ⟨v, hv, hk⟩ := part_run hd hs h
      refine rn_ok (v := v) (w' := w) ?_ hk
      simp [Instr.index, asIntOf, under_run hu, size_run hs, hb, hv]
    | _ => exact h.elim
  · exact h.elim

theorem bound_run {k : IntKind} {y : Nat} {c : BoundsCode} {n : Int} {w : World} (h0 : 0 ≤ n) (h1 : n ≤ y) : (Instr.sliceBound (.int k n) y c).run P w = .ok n.toNat w := by
  simp [Instr.sliceBound, asIntOf, h0, h1]

theorem bndI_cases {v : Option Value} {d n : Int} (h : bndI v d = some n) : (v = none ∧ n = d) ∨ ∃ k, v = some (.int k n) := by
  unfold bndI at h
  split at h
  · exact .inl ⟨rfl, by simpa using h.symm⟩
  · rename_i k m; simp only [Option.some.injEq] at h; subst h; exact .inr ⟨k, rfl⟩
  · cases h

theorem bounds_run {sl : Bool} {len cap : Nat} {lo hi mx : Option Value} {l h m : Int} {w : World} (hl : bndI lo 0 = some l) (hh : bndI hi len = some h) (hm : bndI mx cap = some m)
    (bm : 0 ≤ m ∧ m ≤ cap) (bh0 : 0 ≤ h) (bh : h ≤ m) (bl : 0 ≤ l ∧ l ≤ h) (hx : mx.isSome = true → hi.isSome = true) :
    (Instr.sliceBounds sl len cap lo hi mx).run P w = .ok (l.toNat, h.toNat, m.toNat) w := by
  rcases bndI_cases hl with ⟨rfl, rfl⟩ | ⟨q, rfl⟩ <;> rcases bndI_cases hh with ⟨rfl, rfl⟩ | ⟨q', rfl⟩ <;> rcases bndI_cases hm with ⟨rfl, rfl⟩ | ⟨q'', rfl⟩ <;>
    first
    | exact absurd (hx rfl) Bool.false_ne_true
    | (simp only [Instr.sliceBounds, Sem.run_bind, Sem.run_pure, Result.andThen_ok, Option.isSome_none, Option.isSome_some, Bool.false_eq_true, if_false, if_true]
       repeat rw [bound_run (by omega) (by omega)]
       try simp only [Result.andThen_ok, Int.toNat_natCast, Int.toNat_zero, Sem.run_pure]
       repeat rw [bound_run (by omega) (by omega)]
       try simp only [Result.andThen_ok, Int.toNat_natCast, Int.toNat_zero, Sem.run_pure]
       repeat rw [bound_run (by omega) (by omega)]
       try simp only [Result.andThen_ok, Int.toNat_natCast, Int.toNat_zero, Sem.run_pure])

theorem slS_sound {t : TypeId} {x : Value} {lo hi : Option Value} {w : World} {K : Value → World → Prop} (hu : P.underlying t = some .string) (h : slS x lo hi fun v => K v w) :
    rn P (Instr.sliceAt t x lo hi none) w K := by
  unfold slS at h
  split at h
  · rename_i s l h' hl hh
    obtain ⟨b1, b2, h⟩ := h
    refine rn_ok (v := str ((s.data.toList.drop l.toNat).take (h'.toNat - l.toNat))) (w' := w) ?_ h
    have hb := bounds_run (P := P) (w := w) (sl := false) (len := s.size) (cap := s.size) (mx := none) (m := s.size) hl hh rfl ⟨by omega, by omega⟩ b1.1 b1.2 b2 (by simp)
    simp [Instr.sliceAt, under_run hu, Instr.slice, hb, str, Lib.extract_eq]
  · exact h.elim

theorem slV_sound {t e : TypeId} {n : Nat} {x : Value} {lo hi mx : Option Value} {w : World} {K : Value → World → Prop} (hu : P.underlying t = some (.slice e)) (hs : szOf P e = some n) (h : slV n x lo hi mx fun v => K v w) :
    rn P (Instr.sliceAt t x lo hi mx) w K := by
  unfold slV at h
  split at h
  · rename_i a len cap l hl
    split at h
    · rename_i m h' hm hh
      obtain ⟨b1, b2, b3, b4, h⟩ := h
      refine rn_ok (w' := w) ?_ h
      have hb := bounds_run (P := P) (w := w) (sl := true) hl hh hm b1 b2.1 (by rcases bndI_cases hm with ⟨rfl, rfl⟩ | ⟨q, rfl⟩ <;> simpa using b2.2) b3 b4
      simp [Instr.sliceAt, under_run hu, Instr.slice, hb, size_run hs]
    · exact h.elim
  · exact h.elim

end Go.Proofs.YtkpefimnggojdaaGreat.VX

namespace Go.Proofs.YtkpefimnggojdaaGreat.VX
open Go
variable {P : Program}
attribute [local semireducible] rn

theorem guard_run {op : BinOp} {t : TypeId} {x y : Operand} {a b : Value} {w : World} (h : (∀ cs, a ≠ .agg cs) ∧ a ≠ .nilIface) : (eqGuard op t x y a b).run P w = .ok () w := by
  unfold eqGuard
  obtain ⟨h1, h2⟩ := h
  cases op <;> first
    | rfl
    | (cases a <;> first | exact absurd rfl h2 | exact absurd rfl (h1 _) | (cases b <;> rfl))

theorem binI_sound {op : BinOp} {t : TypeId} {k k' : IntKind} {a b : Int} {w : World} {K : Value → World → Prop} (hk : (match op with | .shl => true | .shr => true | _ => false) = true ∨ k = k') (h : binI op k a b fun v => K v w) :
    rn P (binOp op t (.int k a) (.int k' b)) w K := by
  cases op <;> simp only [binI] at h <;> first
    | exact h.elim
    | (obtain ⟨h0, h⟩ := h; show rn P (Op.shift .shl k a k' b) w K; unfold Op.shift; rw [if_neg (by omega)]; exact h)
    | (obtain ⟨h0, h⟩ := h; show rn P (Op.shift .shr k a k' b) w K; unfold Op.shift; rw [if_neg (by omega)]; exact h)
    | (rcases hk with hk | hk
       · cases hk
       · subst hk
         unfold binOp
         simp only [ne_eq, not_true_eq_false, if_false]
         first
           | exact h
           | (obtain ⟨h0, h⟩ := h; unfold Op.intDiv; rw [if_neg h0]; exact h))

theorem binS_sound {op : BinOp} {t : TypeId} {a b : ByteArray} {w : World} {K : Value → World → Prop} (h : binS op a b fun v => K v w) :
    rn P (binOp op t (.string a) (.string b)) w K := by
  have ea : a.toList = a.data.toList := ByteArray.toList_eq a
  have eb : b.toList = b.data.toList := ByteArray.toList_eq b
  cases op <;> simp only [binS] at h <;> first
    | exact h.elim
    | (unfold binOp Op.stringOp; simp only [ea, eb]; exact h)
    | (obtain ⟨h0, h⟩ := h
       have sa : a.size = a.data.toList.length := rfl
       have sb : b.size = b.data.toList.length := rfl
       unfold binOp Op.stringOp
       have hm : ¬ (((a.size + b.size : Nat) : Int) > IntKind.i64.max) := by
         have : IntKind.i64.max = 9223372036854775807 := by decide
         rw [this]; omega
       simp only [hm, if_false]
       refine rn_pure ?_
       have : a ++ b = ⟨⟨a.data.toList ++ b.data.toList⟩⟩ := by
         apply ByteArray.ext; apply Array.toList_inj.1; simp
       rw [this]; exact h)

theorem same_run {a b : Addr} {w : World} (hne : a.block ≠ b.block) (ha : okP w a) (hb : okP w b) : (sameAddr a b).run P w = .ok false w := by
  obtain ⟨c, t, hc⟩ := ha
  obtain ⟨c', t', hc'⟩ := hb
  have s1 : w.shape? a.block = some (t, c.size) := by simp [World.shape?, hc]
  have s2 : w.shape? b.block = some (t', c'.size) := by simp [World.shape?, hc']
  have f1 : ∀ o, w.frozen? ⟨a.block, o, none⟩ = false := by intro o; simp [World.frozen?, hc]
  have f2 : ∀ o, w.frozen? ⟨b.block, o, none⟩ = false := by intro o; simp [World.frozen?, hc']
  have f1' : w.frozen? a = false := by simp [World.frozen?, hc]
  have f2' : w.frozen? b = false := by simp [World.frozen?, hc']
  simp [sameAddr, hne, frozen, Sem.run, f1', f2', noView, viewAt, shape, s1, s2, mayBeOne, stringish, f1, f2]

theorem eqP_rn {op : BinOp} {t : TypeId} {x y : Value} {b : Bool} {w : World} {K : Value → World → Prop} (hrun : (Op.equal t x y).run P w = .ok b w)
    (h1 : binOp .eql t x y = do pure (.bool (← Op.equal t x y))) (h2 : binOp .neq t x y = do pure (.bool (!(← Op.equal t x y)))) (h : eqP op b fun v => K v w) : rn P (binOp op t x y) w K := by
  cases op <;> simp only [eqP] at h <;> first
    | exact h.elim
    | (rw [h1]; refine rn_ok (w' := w) ?_ h; simp [hrun]; done)
    | (rw [h2]; refine rn_ok (w' := w) ?_ h; simp [hrun]; done)

theorem eq_step {t : TypeId} {d : TypeDesc} (hu : P.underlying t = some d) (x y : Value) (w : World) (b : Bool)
    (h : ∀ n, (match d, x, y with
      | .bool, .bool a, .bool b => (pure (a == b) : Sem Bool)
      | .pointer _, .pointer none, .pointer b => pure b.isNone
      | .pointer _, .pointer (some _), .pointer none => pure false
      | .pointer elem, .pointer (some a), .pointer (some b) => (do if (← sizeOf elem) ≠ 0 then sameAddr a b else if a == b then pure true else pure ((← choose .zeroSizeEq) = 1))
      | .slice _, .slice none _ _, .slice b _ _ => pure b.isNone
      | .slice _, .slice (some _) _ _, .slice none _ _ => pure false
      | .map _ _, .map none, .map b => pure b.isNone
      | .map _ _, .map (some _), .map none => pure false
      | .func _ _ _, .nilFunc, .nilFunc => pure true
      | .func _ _ _, .nilFunc, .func _ _ _ | .func _ _ _, .func _ _ _, .nilFunc => pure false
      | _, _, _ => (stuck n : Sem Bool)).run P w = .ok b w) : (Op.equal t x y).run P w = .ok b w := by
  unfold Op.equal Op.maxDepth Op.equalIn
  rw [Sem.run_bind, under_run hu, Result.andThen_ok]
  have := h ""
  split at this <;> first | exact this | cases this | (simp [stuck] at this)

theorem binB_sound {op : BinOp} {t : TypeId} {x y : Value} {w : World} {K : Value → World → Prop} (hu : P.underlying t = some .bool) (h : binB op x y fun v => K v w) : rn P (binOp op t x y) w K := by
  unfold binB at h
  split at h
  · exact eqP_rn (eq_step hu _ _ w _ fun _ => rfl) rfl rfl h
  · exact h.elim

theorem binP_sound {op : BinOp} {t e : TypeId} {n : Nat} {x y : Value} {w : World} {K : Value → World → Prop} (hu : P.underlying t = some (.pointer e)) (hs : szOf P e = some (n + 1)) (h : binP op x y w fun v => K v w) : rn P (binOp op t x y) w K := by
  unfold binP at h
  split at h
  · exact eqP_rn (eq_step hu _ _ w _ fun _ => rfl) rfl rfl h
  · exact eqP_rn (eq_step hu _ _ w _ fun _ => rfl) rfl rfl h
  · rename_i a b
    split at h
    · rename_i hb
      refine eqP_rn (eq_step hu _ _ w (a == b) fun _ => ?_) rfl rfl h
      simp [size_run hs, sameAddr, hb]
    · rename_i hb
      refine eqP_rn (eq_step hu _ _ w false fun _ => ?_) rfl rfl h.2.2
      simp [size_run hs, same_run hb h.1 h.2.1]
  · exact h.elim

theorem binL_sound {op : BinOp} {t e : TypeId} {x y : Value} {w : World} {K : Value → World → Prop} (hu : P.underlying t = some (.slice e)) (h : binL op x y fun v => K v w) : rn P (binOp op t x y) w K := by
  unfold binL at h
  split at h
  · exact eqP_rn (eq_step hu _ _ w _ fun _ => rfl) rfl rfl h
  · exact eqP_rn (eq_step hu _ _ w _ fun _ => rfl) rfl rfl h
  · exact h.elim

theorem binM_sound {op : BinOp} {t e k : TypeId} {x y : Value} {w : World} {K : Value → World → Prop} (hu : P.underlying t = some (.map k e)) (h : binM op x y fun v => K v w) : rn P (binOp op t x y) w K := by
  unfold binM at h
  split at h
  · exact eqP_rn (eq_step hu _ _ w _ fun _ => rfl) rfl rfl h
  · exact eqP_rn (eq_step hu _ _ w _ fun _ => rfl) rfl rfl h
  · exact h.elim

theorem binF_sound {op : BinOp} {t : TypeId} {a b : Array TypeId} {c : Bool} {x y : Value} {w : World} {K : Value → World → Prop} (hu : P.underlying t = some (.func a b c)) (h : binF op x y fun v => K v w) : rn P (binOp op t x y) w K := by
  unfold binF at h
  split at h
  · exact eqP_rn (eq_step hu _ _ w _ fun _ => rfl) rfl rfl h
  · exact eqP_rn (eq_step hu _ _ w _ fun _ => rfl) rfl rfl h
  · exact h.elim

end Go.Proofs.YtkpefimnggojdaaGreat.VX
