/-
  VX, part l: drawn regions whose operations, in whatever order, yield the same values and let no block turn.
-/
import Derived.Test.YtkpefimnggojdaaGreatVk
set_option linter.all false
namespace Go.Proofs.YtkpefimnggojdaaGreat.VX
open Go
variable {P : Program}

theorem d1_upd (M : Nat → Prop) (w : World) : Upd M w (d1 w) := ⟨rfl, rfl, rfl, Nat.le_refl _, fun _ _ _ => rfl⟩
theorem d1_ext (w : World) : Ext w (d1 w) := d1_upd _ w
theorem d1_heap (w : World) : (d1 w).heap = w.heap := rfl

/-- Each step, behind those that it hangs on, yields its value, and only adds blocks. -/
def detOk (cv : List Value) (w0 : World) : List (Nat × List Nat × Step) → Prop
  | [] => True
  | (i, an, st) :: r => (∀ d w (k : Value → World → Prop), (∀ j ∈ an, d j = nth cv j) → Ext w0 w → (∀ w', Ext w w' → k (nth cv i) w') → st d w k) ∧ detOk cv w0 r
theorem det_steps {cv : List Value} {w0 : World} : ∀ {steps : List (Nat × List Nat × Step)}, detOk cv w0 steps → stepsOk (fun i v => v = nth cv i) (fun _ _ w => Ext w0 w) steps
  | [], _ => trivial
  | (i, an, st) :: r, h =>
    ⟨fun s val w hp hw _ ha => h.1 val w _ (fun j hj => hp j (ha j hj)) hw fun w' hx => ⟨rfl, Ext.trans hw hx⟩, det_steps h.2⟩
theorem drw_det (cv : List Value) {steps : List (Nat × List Nat × Step)} {rest : (Nat → Value) → World → Prop} {w0 : World} (hs : detOk cv w0 steps)
    (hr : ∀ d w, (∀ j ∈ steps.map (·.1), d j = nth cv j) → Ext w0 w → rest d w) : drw steps rest w0 := by
  refine ⟨fun i v => v = nth cv i, fun _ _ w => Ext w0 w, fun _ => d1_ext _, det_steps hs, fun s val w hm hp hw => hr val w (fun j hj => ?_) hw⟩
  obtain ⟨x, hx, rfl⟩ := List.mem_map.1 hj
  exact hp _ (hm x hx)

theorem stepsOk_append {Pv : Nat → Value → Prop} {W : List Nat → (Nat → Value) → World → Prop} : ∀ {a b : List (Nat × List Nat × Step)}, stepsOk Pv W a → stepsOk Pv W b → stepsOk Pv W (a ++ b)
  | [], _, _, h => h
  | _ :: _, _, h, h' => ⟨h.1, stepsOk_append h.2 h'⟩
/-- All steps but one only read; that one hangs on all of them. -/
theorem drw_last (cv : List Value) {steps : List (Nat × List Nat × Step)} {i : Nat} {an : List Nat} {st : Step} {rest : (Nat → Value) → World → Prop} {w0 : World} (hs : detOk cv w0 steps) (hall : ∀ x ∈ steps, x.1 ∈ an) (hi : ∀ x ∈ steps, x.1 ≠ i)
    (hl : ∀ d w (k : Value → World → Prop), (∀ j ∈ an, d j = nth cv j) → Ext w0 w → (∀ v w', (∀ d', (∀ x ∈ steps, d' x.1 = nth cv x.1) → d' i = v → rest d' w') → k v w') → st d w k) (hai : i ∉ an) : drw (steps ++ [(i, an, st)]) rest w0 := by
  refine ⟨fun j v => j ≠ i → v = nth cv j, fun s val w => (i ∉ s ∧ Ext w0 w) ∨ (i ∈ s ∧ (∀ x ∈ steps, x.1 ∈ s) ∧ ∀ d', (∀ x ∈ steps, d' x.1 = nth cv x.1) → d' i = val i → rest d' w), fun _ => .inl ⟨by simp, d1_ext _⟩, stepsOk_append ?_ ⟨?_, trivial⟩, ?_⟩
  · have key : ∀ (l : List (Nat × List Nat × Step)), (∀ x ∈ l, x ∈ steps) → detOk cv w0 l → stepsOk (fun j v => j ≠ i → v = nth cv j) (fun s val w => (i ∉ s ∧ Ext w0 w) ∨ (i ∈ s ∧ (∀ x ∈ steps, x.1 ∈ s) ∧ ∀ d', (∀ x ∈ steps, d' x.1 = nth cv x.1) → d' i = val i → rest d' w)) l := by
      intro l
      induction l with
      | nil => intro _ _; trivial
      | cons x l ih =>
        intro hm hd
        obtain ⟨j, an', st'⟩ := x
        refine ⟨fun s val w hp hw hj ha => ?_, ih (fun y hy => hm y (by simp [hy])) hd.2⟩
        rcases hw with ⟨h1, h2⟩ | ⟨-, h2, -⟩
        · have hji := hi (j, an', st') (hm (j, an', st') (by simp))
          refine hd.1 val w _ (fun q hq => hp q (ha q hq) fun e => h1 (e ▸ ha q hq)) h2 fun w' hx => ⟨fun _ => rfl, .inl ⟨?_, Ext.trans h2 hx⟩⟩
          intro hh
          rcases List.mem_append.1 hh with hh | hh
          · exact h1 hh
          · exact hji (List.mem_singleton.1 hh).symm
        · exact absurd (h2 (j, an', st') (hm (j, an', st') (by simp))) hj
    exact key steps (fun _ h => h) hs
  · intro s val w hp hw his ha
    rcases hw with ⟨h1, h2⟩ | ⟨h1, -⟩
    · refine hl val w _ (fun q hq => hp q (ha q hq) fun e => hai (e ▸ hq)) h2 fun v w' hr => ⟨fun h => absurd rfl h, .inr ⟨by simp, fun x hx => List.mem_append.2 (.inl (ha _ (hall x hx))), fun d' hd' hdi => hr d' hd' ?_⟩⟩
      rw [hdi]; simp [upd]
    · exact absurd h1 his
  · intro s val w hm hp hw
    have his : i ∈ s := hm (i, an, st) (by simp)
    rcases hw with ⟨h1, -⟩ | ⟨-, -, h3⟩
    · exact absurd his h1
    · exact h3 val (fun x hx => hp _ (hm x (by simp [hx])) (hi x hx)) rfl

/-! Steps that only read, then steps in a fixed order. -/
def chainI : List Nat → List (Nat × List Nat) → Bool
  | _, [] => true
  | pre, c :: r => (pre.all fun j => c.2.contains j) && !(pre.contains c.1) && chainI (pre ++ [c.1]) r
def seqC (rest : (Nat → Value) → World → Prop) : List (Nat × Value) → List (Nat × List Nat × Step) → World → Prop
  | known, [], w => ∀ d, (∀ x ∈ known, d x.1 = x.2) → rest d w
  | known, (i, _, st) :: r, w => ∀ d (k : Value → World → Prop), (∀ x ∈ known, d x.1 = x.2) → (∀ v w', seqC rest (known ++ [(i, v)]) r w' → k v w') → st d w k
def knownA (cv : List Value) (A : List (Nat × List Nat × Step)) : List (Nat × Value) := A.map fun x => (x.1, nth cv x.1)
theorem chainI_spec : ∀ {C : List (Nat × List Nat × Step)} {pre : List Nat}, chainI pre (C.map fun c => (c.1, c.2.1)) = true → ∀ D1 c D2, C = D1 ++ c :: D2 → (∀ j ∈ pre, j ∈ c.2.1) ∧ c.1 ∉ pre ∧ (∀ x ∈ D1, x.1 ∈ c.2.1 ∧ x.1 ≠ c.1)
  | [], _, _, D1, c, D2, e => by cases D1 <;> cases e
  | a :: C, pre, h, D1, c, D2, e => by
    simp only [List.map_cons, chainI, Bool.and_eq_true, List.all_eq_true, Bool.not_eq_true', List.contains_eq_mem, decide_eq_true_eq, decide_eq_false_iff_not] at h
    obtain ⟨⟨h1, h2⟩, h3⟩ := h
    cases D1 with
    | nil =>
      injection e with e1 e2
      subst e1
      exact ⟨h1, h2, by simp⟩
    | cons x D1 =>
      injection e with e1 e2
      subst e1
      obtain ⟨q1, q2, q3⟩ := chainI_spec h3 D1 c D2 e2
      refine ⟨fun j hj => q1 j (by simp [hj]), fun hh => q2 (by simp [hh]), fun y hy => ?_⟩
      rcases List.mem_cons.1 hy with rfl | hy
      · exact ⟨q1 _ (by simp), fun e => q2 (by simp [e])⟩
      · exact q3 y hy
/-- Each step, behind those that it hangs on, yields its value; U tells of the world behind some steps. -/
def detU (cv : List Value) (U : List Nat → World → Prop) : List (Nat × List Nat × Step) → Prop
  | [] => True
  | (i, an, st) :: r => (∀ s d w (k : Value → World → Prop), (∀ j ∈ an, d j = nth cv j) → U s w → i ∉ s → (∀ j ∈ an, j ∈ s) → (∀ w', U (s ++ [i]) w' → k (nth cv i) w') → st d w k) ∧ detU cv U r
theorem drw_seqU (cv : List Value) (U : List Nat → World → Prop) {A C : List (Nat × List Nat × Step)} {rest : (Nat → Value) → World → Prop} {w0 : World} (h0 : U [] (d1 w0)) (hA : detU cv U A) (hC : chainI (A.map (·.1)) (C.map fun c => (c.1, c.2.1)) = true)
    (h : ∀ s w, (∀ x ∈ A, x.1 ∈ s) → U s w → seqC rest (knownA cv A) C w) : drw (A ++ C) rest w0 := by
  obtain ⟨Pv, ePv⟩ : ∃ Pv : Nat → Value → Prop, Pv = fun j v => (∀ c ∈ C, c.1 ≠ j) → v = nth cv j := ⟨_, rfl⟩
  obtain ⟨W, eW⟩ : ∃ W : List Nat → (Nat → Value) → World → Prop, W = fun s val w => ((∀ c ∈ C, c.1 ∉ s) ∧ U s w) ∨ ∃ C1 C2, C = C1 ++ C2 ∧ C1 ≠ [] ∧ (∀ x ∈ A, x.1 ∈ s) ∧ (∀ c ∈ C1, c.1 ∈ s) ∧ (∀ c ∈ C2, c.1 ∉ s) ∧ seqC rest (knownA cv A ++ C1.map fun c => (c.1, val c.1)) C2 w := ⟨_, rfl⟩
  have hCs := chainI_spec hC
  have agree : ∀ {s : List Nat} {val : Nat → Value}, (∀ j ∈ s, Pv j (val j)) → (∀ x ∈ A, x.1 ∈ s) → ∀ y ∈ knownA cv A, val y.1 = y.2 := fun hp hs y hy => by
    obtain ⟨x, hx, rfl⟩ := List.mem_map.1 hy
    have := hp x.1 (hs x hx)
    rw [ePv] at this
    refine this fun c hc e => ?_
    obtain ⟨D1, D2, e'⟩ := List.append_of_mem hc
    exact (hCs D1 c D2 e').2.1 (List.mem_map.2 ⟨x, hx, e.symm⟩)
  refine ⟨Pv, W, fun _ => by rw [eW]; exact .inl ⟨by simp, h0⟩, stepsOk_append ?_ ?_, ?_⟩
  · have key : ∀ (l : List (Nat × List Nat × Step)), (∀ x ∈ l, x ∈ A) → detU cv U l → stepsOk Pv W l := by
      intro l
      induction l with
      | nil => intro _ _; trivial
      | cons x l ih =>
        intro hm hd
        obtain ⟨j, an', st'⟩ := x
        have hxA := hm (j, an', st') (by simp)
        refine ⟨fun s val w hp hw hj ha => ?_, ih (fun y hy => hm y (by simp [hy])) hd.2⟩
        rw [eW] at hw
        rcases hw with ⟨h1, h2⟩ | ⟨C1, C2, -, -, h3, -⟩
        · refine hd.1 s val w _ (fun q hq => ?_) h2 hj ha fun w' hx => ⟨by rw [ePv]; exact fun _ => rfl, ?_⟩
          · have := hp q (ha q hq)
            rw [ePv] at this
            exact this fun c hc e => h1 c hc (e ▸ ha q hq)
          · rw [eW]
            refine .inl ⟨fun c hc hh => ?_, hx⟩
            rcases List.mem_append.1 hh with hh | hh
            · exact h1 c hc hh
            · obtain ⟨D1, D2, e⟩ := List.append_of_mem hc
              exact (hCs D1 c D2 e).2.1 (List.mem_map.2 ⟨_, hxA, (List.mem_singleton.1 hh).symm⟩)
        · exact absurd (h3 _ hxA) hj
    exact key A (fun _ h => h) hA
  · have key : ∀ (D2 D1 : List (Nat × List Nat × Step)), C = D1 ++ D2 → stepsOk Pv W D2 := by
      intro D2
      induction D2 with
      | nil => intro _ _; trivial
      | cons c D2 ih =>
        intro D1 e
        obtain ⟨i, an, st⟩ := c
        refine ⟨fun s val w hp hw his ha => ?_, ih (D1 ++ [(i, an, st)]) (by rw [e]; simp)⟩
        obtain ⟨q1, q2, q3⟩ := hCs D1 _ D2 e
        have hAs : ∀ x ∈ A, x.1 ∈ s := fun x hx => ha _ (q1 _ (List.mem_map.2 ⟨x, hx, rfl⟩))
        have hDs : ∀ x ∈ D1, x.1 ∈ s := fun x hx => ha _ (q3 x hx).1
        have later : ∀ y ∈ D2, y.1 ≠ i := fun y hy => by
          obtain ⟨E1, E2, eE⟩ := List.append_of_mem hy
          have := (hCs (D1 ++ (i, an, st) :: E1) y E2 (by rw [e, eE]; simp)).2.2 (i, an, st) (by simp)
          exact fun e => this.2 e.symm
        have done : ∀ (v : Value) (w' : World), seqC rest (knownA cv A ++ D1.map (fun c => (c.1, val c.1)) ++ [(i, v)]) D2 w' → (∀ y ∈ D2, y.1 ∉ s) → Pv i v ∧ W (s ++ [i]) (upd val i v) w' := fun v w' hs hD2 => by
          refine ⟨by rw [ePv]; exact fun hh => absurd rfl (hh (i, an, st) (by rw [e]; simp)), ?_⟩
          rw [eW]
          refine .inr ⟨D1 ++ [(i, an, st)], D2, by rw [e]; simp, by simp, fun x hx => List.mem_append.2 (.inl (hAs x hx)), fun c hc => ?_, fun y hy hh => ?_, ?_⟩
          · rcases List.mem_append.1 hc with hc | hc
            · exact List.mem_append.2 (.inl (hDs c hc))
            · rw [List.mem_singleton.1 hc]; simp
          · rcases List.mem_append.1 hh with hh | hh
            · exact hD2 y hy hh
            · exact later y hy (List.mem_singleton.1 hh)
          · rw [List.map_append, ← List.append_assoc]
            have e1 : (D1.map fun c => (c.1, upd val i v c.1)) = D1.map fun c => (c.1, val c.1) := List.map_congr_left fun c hc => by
              have := (q3 c hc).2
              simp [upd, this]
            have e2 : ([(i, an, st)].map fun c : Nat × List Nat × Step => (c.1, upd val i v c.1)) = [(i, v)] := by simp [upd]
            rw [e1, e2]; exact hs
        rw [eW] at hw
        rcases hw with ⟨h1, h2⟩ | ⟨C1, C2, eC, -, -, h4, h5, h6⟩
        · have hD1 : D1 = [] := by
            cases D1 with
            | nil => rfl
            | cons x D1 => exact absurd (hDs x (by simp)) (h1 x (by rw [e]; simp))
          subst hD1
          have := h s w hAs h2
          rw [e] at this
          refine this val _ (agree hp hAs) fun v w' hs => done v w' (by simpa using hs) fun y hy => h1 y (by rw [e]; simp [hy])
        · have eCD : C1 = D1 ∧ C2 = (i, an, st) :: D2 := by
            rw [e] at eC
            have aux : ∀ (D1 C1 : List (Nat × List Nat × Step)), D1 ++ (i, an, st) :: D2 = C1 ++ C2 → (∀ x ∈ D1, x.1 ∈ s) → (∀ x ∈ C1, x.1 ∈ s) → C1 = D1 ∧ C2 = (i, an, st) :: D2 := by
              intro D1
              induction D1 with
              | nil =>
                intro C1 e _ hc
                cases C1 with
                | nil => exact ⟨rfl, e.symm⟩
                | cons x C1 => injection e with e1 e2; exact absurd (hc x (by simp)) (by rw [← e1]; exact his)
              | cons y D1 ih =>
                intro C1 e hd hc
                cases C1 with
                | nil =>
                  exact absurd (hd y (by simp)) (h5 y (by rw [← show _ = C2 from e]; simp))
                | cons x C1 =>
                  injection e with e1 e2
                  obtain ⟨q1, q2⟩ := ih C1 e2 (fun z hz => hd z (by simp [hz])) (fun z hz => hc z (by simp [hz]))
                  exact ⟨by rw [e1, q1], q2⟩
            exact aux D1 C1 eC hDs h4
          obtain ⟨rfl, rfl⟩ := eCD
          refine h6 val _ (fun y hy => ?_) fun v w' hs => done v w' hs fun y hy => h5 y (by simp [hy])
          rcases List.mem_append.1 hy with hy | hy
          · exact agree hp hAs y hy
          · obtain ⟨c, hc, rfl⟩ := List.mem_map.1 hy; rfl
    exact key C [] rfl
  · intro s val w hm hp hw
    have hAs : ∀ x ∈ A, x.1 ∈ s := fun x hx => hm x (by simp [hx])
    rw [eW] at hw
    rcases hw with ⟨h1, h2⟩ | ⟨C1, C2, eC, -, -, h4, h5, h6⟩
    · have hC0 : C = [] := by
        cases C with
        | nil => rfl
        | cons c C => exact absurd (hm c (by simp)) (h1 c (by simp))
      have := h s w hAs h2
      rw [hC0] at this
      exact this val (agree hp hAs)
    · have hC0 : C2 = [] := by
        cases C2 with
        | nil => rfl
        | cons c C2 => exact absurd (hm c (by rw [eC]; simp)) (h5 c (by simp))
      rw [hC0] at h6
      refine h6 val fun y hy => ?_
      rcases List.mem_append.1 hy with hy | hy
      · exact agree hp hAs y hy
      · obtain ⟨c, hc, rfl⟩ := List.mem_map.1 hy; rfl

theorem detU_of {cv : List Value} {w0 : World} : ∀ {A : List (Nat × List Nat × Step)}, detOk cv w0 A → detU cv (fun _ w => Ext w0 w) A
  | [], _ => trivial
  | (_, _, _) :: _, h => ⟨fun _ d w k hj hu _ _ hk => h.1 d w k hj hu fun w' hx => hk w' (Ext.trans hu hx), detU_of h.2⟩
theorem drw_seq (cv : List Value) {A C : List (Nat × List Nat × Step)} {rest : (Nat → Value) → World → Prop} {w0 : World} (hA : detOk cv w0 A) (hC : chainI (A.map (·.1)) (C.map fun c => (c.1, c.2.1)) = true)
    (h : ∀ w, Ext w0 w → seqC rest (knownA cv A) C w) : drw (A ++ C) rest w0 :=
  drw_seqU cv (fun _ w => Ext w0 w) (d1_ext _) (detU_of hA) hC fun _ w _ hx => h w hx

/-- Halving a place: uint(i+j) >> 1 as an int. -/
theorem half {x : Int} {K : Value → Prop} (h : 0 ≤ x ∧ x ≤ 9223372036854775807) (hk : K (.int .i64 (x / 2))) :
    cvI .u64 (.int .i64 x) fun a => bin .shr a (.int .u64 1) fun b => cvI .i64 b K := by
  have e1 : IntKind.u64.wrap x = x := by simp [IntKind.wrap, IntKind.bits, IntKind.signed]; omega
  simp only [cvI, e1]
  refine ⟨.inl rfl, by omega, ?_⟩
  have e2 : x.fdiv (2 ^ min (1 : Int).toNat IntKind.u64.bits) = x / 2 := by
    have : min (1 : Int).toNat IntKind.u64.bits = 1 := by decide
    rw [this]
    exact Int.fdiv_eq_ediv_of_nonneg x (by decide)
  have e4 : IntKind.i64.wrap (x / 2) = x / 2 := IntWalk.i64_in _ (by omega)
  rw [e2]
  show K (.int .i64 (IntKind.i64.wrap (x / 2)))
  rw [e4]
  exact hk
theorem int_mul {a b : Int} {K : Value → Prop} (h : -9223372036854775808 ≤ a * b ∧ a * b ≤ 9223372036854775807) (hk : K (.int .i64 (a * b))) : bin .mul (.int .i64 a) (.int .i64 b) K := by
  refine ⟨.inr rfl, ?_⟩
  simp only [binI]
  rw [IntWalk.i64_in _ (by omega)]; exact hk
end Go.Proofs.YtkpefimnggojdaaGreat.VX
