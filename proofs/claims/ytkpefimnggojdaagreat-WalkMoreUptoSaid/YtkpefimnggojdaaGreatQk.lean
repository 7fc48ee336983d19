/-
  Contracts: two entries held against each other; the place of a path in a list (where); what there is in all (Total).
-/
import Derived.Test.YtkpefimnggojdaaGreatQj
import Derived.Laws.StructEq
set_option linter.all false
namespace Go.Proofs.YtkpefimnggojdaaGreat.VX
open Go Pl
set_option maxRecDepth 4000
attribute [local semireducible] rn

section
variable {P : Program}
def eqF (d : Nat) (xs ys : Array Value) : List (TypeId × Nat) → Sem Bool
  | [] => pure true
  | (t, off) :: fs => do
    let a ← part t xs off
    let b ← part t ys off
    let r ← Op.equalIn d t a b
    if (!r) = true then pure false else eqF d xs ys fs
theorem eqFields_map (d : Nat) (xs ys : Array Value) : ∀ (fs : List Field), (fs.all fun f => f.name != "_") = true → Op.eqFields d xs ys fs = eqF d xs ys (fs.map fun f => (f.type, f.offset))
  | [], _ => rfl
  | f :: fs, h => by
    rw [List.all_cons, Bool.and_eq_true] at h
    have h1 : f.name ≠ "_" := by simpa using h.1
    simp only [Op.eqFields, List.map_cons, eqF]
    rw [if_pos h1, eqFields_map d xs ys fs h.2]
theorem part_cell {t : TypeId} {d : TypeDesc} {n off : Nat} {cs : Array Value} {v : Value} {w : World} (hu : P.underlying t = some d) (hs : szOf P t = some n) (ha : isAggD d = false) (hv : cs[off]? = some v) : (part t cs off).run P w = .ok v w := by
  have := rn_part (P := P) (w := w) (K := fun u w' => u = v ∧ w' = w) hu hs (off := off) (cs := cs) (by rw [ha]; simp only [fd, hv]; exact ⟨trivial, trivial⟩)
  unfold rn at this
  split at this
  · rename_i u w' hr; obtain ⟨rfl, rfl⟩ := this; exact hr
  · exact this.elim
theorem part_agg {t : TypeId} {d : TypeDesc} {n off : Nat} {cs : Array Value} {w : World} (hu : P.underlying t = some d) (hs : szOf P t = some n) (ha : isAggD d = true) : (part t cs off).run P w = .ok (.agg (cs.extract off (off + n))) w := by
  have := rn_part (P := P) (w := w) (K := fun u w' => u = .agg (cs.extract off (off + n)) ∧ w' = w) hu hs (off := off) (cs := cs) (by rw [ha]; exact ⟨rfl, rfl⟩)
  unfold rn at this
  split at this
  · rename_i u w' hr; obtain ⟨rfl, rfl⟩ := this; exact hr
  · exact this.elim
theorem eqF_int {d off : Nat} {t : TypeId} {r : List (TypeId × Nat)} {xs ys : Array Value} {k : IntKind} {a b : Int} {w : World} (hu : P.underlying t = some (.int k)) (hs : szOf P t = some 1) (hx : xs[off]? = some (.int k a)) (hy : ys[off]? = some (.int k b)) :
    (eqF (d + 1) xs ys ((t, off) :: r)).run P w = if a = b then (eqF (d + 1) xs ys r).run P w else .ok false w := by
  simp only [eqF, Sem.run_bind, part_cell hu hs rfl hx, part_cell hu hs rfl hy, Result.andThen_ok, run_equalIn_int w d t k k a b hu]
  by_cases h : a = b
  · simp [h]
  · simp [h]
theorem eqF_str {d off : Nat} {t : TypeId} {r : List (TypeId × Nat)} {xs ys : Array Value} {a b : Bytes} {w : World} (hu : P.underlying t = some .string) (hs : szOf P t = some 1) (hx : xs[off]? = some (str a)) (hy : ys[off]? = some (str b)) :
    (eqF (d + 1) xs ys ((t, off) :: r)).run P w = if a = b then (eqF (d + 1) xs ys r).run P w else .ok false w := by
  have e : ∀ a : Bytes, (ByteArray.mk ⟨a⟩).toList = a := fun a => by rw [ByteArray.toList_eq]
  simp only [eqF, Sem.run_bind, part_cell hu hs rfl hx, part_cell hu hs rfl hy, Result.andThen_ok, str, run_equalIn_string w d t _ _ hu, e]
  by_cases h : a = b
  · simp [h]
  · simp [h]
theorem eqF_nil {d : Nat} {xs ys : Array Value} {w : World} : (eqF d xs ys []).run P w = .ok true w := rfl
theorem eqF_struct {d off n : Nat} {t : TypeId} {r : List (TypeId × Nat)} {xs ys : Array Value} {w : World} {fl : List (TypeId × Nat)} (hu : P.underlying t = some (.struct (P.fieldsOf t))) (hs : szOf P t = some n) (hp : P.stoodInHeld t = false)
    (hn : ((P.fieldsOf t).toList.all fun f => f.name != "_") = true) (hf : ((P.fieldsOf t).toList.map fun f => (f.type, f.offset)) = fl) {c : Bool} (hc : (eqF d (xs.extract off (off + n)) (ys.extract off (off + n)) fl).run P w = .ok c w) :
    (eqF (d + 1) xs ys ((t, off) :: r)).run P w = if c = true then (eqF (d + 1) xs ys r).run P w else .ok false w := by
  simp only [eqF, Sem.run_bind, part_agg hu hs rfl, Result.andThen_ok, run_equalIn_struct w d t _ _ hu hp, eqFields_map d _ _ _ hn, hf, hc]
  cases c <;> simp
end

theorem meta_eqF (d : Nat) (a b : Meta) (w : World) : (eqF (d + 1) (metaE a).toArray (metaE b).toArray [(t_int, 0), (t_int, 1), (t_int, 2), (t_int, 3), (t_int, 4)]).run Tryz.prog w = .ok (decide (a = b)) w := by
  have hu : Tryz.prog.underlying t_int = some (.int .i64) := by kernel_rfl
  have hs : szOf Tryz.prog t_int = some 1 := by kernel_rfl
  obtain ⟨a1, a2, a3, a4, a5⟩ := a
  obtain ⟨b1, b2, b3, b4, b5⟩ := b
  rw [eqF_int hu hs (a := a1) (b := b1) rfl rfl]
  by_cases h1 : a1 = b1
  · rw [if_pos h1, eqF_int hu hs (a := a2) (b := b2) rfl rfl]
    by_cases h2 : a2 = b2
    · rw [if_pos h2, eqF_int hu hs (a := a3) (b := b3) rfl rfl]
      by_cases h3 : a3 = b3
      · rw [if_pos h3, eqF_int hu hs (a := a4) (b := b4) rfl rfl]
        by_cases h4 : a4 = b4
        · rw [if_pos h4, eqF_int hu hs (a := a5) (b := b5) rfl rfl]
          by_cases h5 : a5 = b5
          · rw [if_pos h5, eqF_nil]; simp [h1, h2, h3, h4, h5]
          · rw [if_neg h5]; simp [h5]
        · rw [if_neg h4]; simp [h4]
      · rw [if_neg h3]; simp [h3]
    · rw [if_neg h2]; simp [h2]
  · rw [if_neg h1]; simp [h1]
theorem entry_eq (a b : Ent) (w : World) : (Op.equalIn 10000 t_api_Entry (.agg (entE a).toArray) (.agg (entE b).toArray)).run Tryz.prog w = .ok (decide (a = b)) w := by
  have hu : Tryz.prog.underlying t_int = some (.int .i64) := by kernel_rfl
  have hs : szOf Tryz.prog t_int = some 1 := by kernel_rfl
  have hu' : Tryz.prog.underlying t_string = some .string := by kernel_rfl
  have hs' : szOf Tryz.prog t_string = some 1 := by kernel_rfl
  rw [run_equalIn_struct w 9999 t_api_Entry _ _ (by kernel_rfl) (by kernel_rfl), eqFields_map 9999 _ _ _ (by kernel_rfl)]
  have hf : ((Tryz.prog.fieldsOf t_api_Entry).toList.map fun f => (f.type, f.offset)) = [(t_string, 0), (t_int, 1), (t_int, 2), (t_api_Meta, 3), (t_string, 8), (t_string, 9), (t_int, 10)] := by kernel_rfl
  rw [hf]
  obtain ⟨p1, k1, s1, m1, t1, u1, g1⟩ := a
  obtain ⟨p2, k2, s2, m2, t2, u2, g2⟩ := b
  rw [eqF_str hu' hs' (a := p1) (b := p2) rfl rfl]
  by_cases h1 : p1 = p2
  · rw [if_pos h1, eqF_int hu hs (a := k1) (b := k2) rfl rfl]
    by_cases h2 : k1 = k2
    · rw [if_pos h2, eqF_int hu hs (a := s1) (b := s2) rfl rfl]
      by_cases h3 : s1 = s2
      · have hm := meta_eqF 9997 m1 m2 w
        have ex : ∀ (p : Bytes) (k s : Int) (m : Meta) (t u : Bytes) (g : Int), (entE ⟨p, k, s, m, t, u, g⟩).toArray.extract 3 (3 + 5) = (metaE m).toArray := fun _ _ _ _ _ _ _ => rfl
        rw [if_pos h3, eqF_struct (d := 9998) (n := 5) (fl := [(t_int, 0), (t_int, 1), (t_int, 2), (t_int, 3), (t_int, 4)]) (by kernel_rfl) (by kernel_rfl) (by kernel_rfl) (by kernel_rfl) (by kernel_rfl) (by rw [ex, ex]; exact hm)]
        by_cases h4 : m1 = m2
        · rw [if_pos (by simpa using h4), eqF_str hu' hs' (a := t1) (b := t2) rfl rfl]
          by_cases h5 : t1 = t2
          · rw [if_pos h5, eqF_str hu' hs' (a := u1) (b := u2) rfl rfl]
            by_cases h6 : u1 = u2
            · rw [if_pos h6, eqF_int hu hs (a := g1) (b := g2) rfl rfl]
              by_cases h7 : g1 = g2
              · rw [if_pos h7, eqF_nil]; simp [h1, h2, h3, h4, h5, h6, h7]
              · rw [if_neg h7]; simp [h7]
            · rw [if_neg h6]; simp [h6]
          · rw [if_neg h5]; simp [h5]
        · rw [if_neg (by simpa using h4)]; simp [h4]
      · rw [if_neg h3]; simp [h3]
    · rw [if_neg h2]; simp [h2]
  · rw [if_neg h1]; simp [h1]
theorem entry_neq {a b : Ent} {x y : Operand} {w : World} {K : Value → World → Prop} (hK : K (.bool (!decide (a = b))) w) :
    rn Tryz.prog (do eqGuard .neq t_api_Entry x y (.agg (entE a).toArray) (.agg (entE b).toArray); binOp .neq t_api_Entry (.agg (entE a).toArray) (.agg (entE b).toArray)) w K := by
  unfold rn
  rw [Sem.run_bind, run_eqGuard_agg w .neq t_api_Entry x y _ _ (by kernel_rfl), Result.andThen_ok, run_neq_struct, entry_eq, Result.andThen_ok]
  exact hK
theorem four_eq {x y : Operand} {w : World} {K : Value → World → Prop} (hK : K (.bool true) w) :
    rn Tryz.prog (do eqGuard .eql t__4int x y (.agg #[.int .i64 2, .int .i64 1, .int .i64 1, .int .i64 3]) (.agg #[.int .i64 2, .int .i64 1, .int .i64 1, .int .i64 3]); binOp .eql t__4int (.agg #[.int .i64 2, .int .i64 1, .int .i64 1, .int .i64 3]) (.agg #[.int .i64 2, .int .i64 1, .int .i64 1, .int .i64 3])) w K := by
  unfold rn
  rw [Sem.run_bind, run_eqGuard_agg w .eql t__4int x y _ _ (by kernel_rfl), Result.andThen_ok, run_eql_struct]
  have : (Op.equalIn 10000 t__4int (.agg #[.int .i64 2, .int .i64 1, .int .i64 1, .int .i64 3]) (.agg #[.int .i64 2, .int .i64 1, .int .i64 1, .int .i64 3])).run Tryz.prog w = .ok true w := by kernel_rfl
  rw [this, Result.andThen_ok]
  exact hK

/-! where -/
def whereT : List Ent → Bytes → Nat → Int
  | [], _, _ => -1
  | e :: l, p, i => if e.path = p then i else whereT l p (i + 1)
theorem whereT_drop : ∀ (l : List Ent) (p : Bytes) (k : Nat), (∀ e ∈ l.take k, e.path ≠ p) → k ≤ l.length → whereT l p 0 = whereT (l.drop k) p k := by
  intro l p k
  induction k with
  | zero => intro _ _; rfl
  | succ k ih =>
    intro h hk
    have hlt : k < l.length := by omega
    rw [ih (fun e he => h e (by rw [List.take_succ_eq_append_getElem hlt]; exact List.mem_append.2 (.inl he))) (by omega), List.drop_eq_getElem_cons hlt]
    simp only [whereT]
    rw [if_neg (h _ (by rw [List.take_succ_eq_append_getElem hlt]; exact List.mem_append.2 (.inr (List.mem_singleton.2 rfl))))]
theorem where_spec {w : World} {v : Value} {l : List Ent} (h : Sl 11 entE w v l) (hl : l.length ≤ 9223372036854775806) (p : Bytes) :
    CallsV Tryz.prog f_remoralaw19_where #[v, str p] w fun r w' => r = .int .i64 (whereT l p 0) ∧ w' = w := by
  refine ok_remoralaw19_where _ _ _ _ ?_
  unfold go_remoralaw19_where
  refine ⟨fun g w' => ∃ k : Nat, k ≤ l.length ∧ nth g 1 = .int .i64 k ∧ w' = w ∧ (∀ e ∈ l.take k, e.path ≠ p), fun g _ => l.length - ixOf g 1, ⟨0, Nat.zero_le _, rfl, rfl, by simp⟩, ?_⟩
  rintro g z w1 ⟨k, hk, hg, rfl, hall⟩
  refine h.len ?_
  simp only [hg, vxs]
  refine cnd_split (fun hc => ?_) (fun hc => ?_)
  · have hlt : k < l.length := by simp at hc; omega
    refine h.ia entE_len k hlt fun b off hr => ?_
    have c0 := hr.pick 0 (v := str l[k].path) rfl
    rw [Nat.add_zero] at c0
    simp only [vxs, Nat.add_zero, c0]
    have ed := whereT_drop l p k hall hk
    rw [List.drop_eq_getElem_cons hlt] at ed
    simp only [whereT] at ed
    refine cnd_split (fun hc => ?_) (fun hc => ?_)
    · have he : l[k].path = p := by simpa using hc
      rw [if_pos he] at ed
      exact ⟨by rw [ed], trivial⟩
    · have he : l[k].path ≠ p := by simpa using hc
      refine int_add (by omega) ⟨⟨k + 1, by omega, rfl, trivial, fun e hm => ?_⟩, ?_⟩
      · rw [List.take_succ_eq_append_getElem hlt] at hm
        rcases List.mem_append.1 hm with hm | hm
        · exact hall e hm
        · rw [List.mem_singleton.1 hm]; exact he
      · rw [ixOf_of hg, ixOf_of (n := k + 1) rfl]; omega
  · have hke : k = l.length := by simp at hc; omega
    subst hke
    rw [whereT_drop l p l.length hall (Nat.le_refl _), List.drop_length]
    exact ⟨rfl, trivial⟩
end Go.Proofs.YtkpefimnggojdaaGreat.VX
