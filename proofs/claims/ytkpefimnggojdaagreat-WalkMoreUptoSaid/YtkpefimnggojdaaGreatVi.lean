/-
  VX, part i: a region that draws its order.
-/
import Derived.Test.YtkpefimnggojdaaGreatVg
import Derived.Orders
set_option linter.all false
namespace Go.Proofs.YtkpefimnggojdaaGreat.VX
open Go
variable {P : Program}
attribute [local semireducible] rn

def act' (fr : List Value) : Act := ⟨fr.toArray, []⟩
def nthV (vs : List Value) (i : Nat) : Value := vs.getD i undef
def dirO (o : Oper) : List Nat := (o.after.toList.filter (Region.binds .any)).map (·.on)
def ancGo : List Oper → List (List Nat) → List (List Nat)
  | [], acc => acc
  | o :: r, acc => ancGo r (acc ++ [(dirO o ++ (dirO o).flatMap fun j => acc.getD j []).eraseDups])
def ancs (ops : List Oper) : List (List Nat) := ancGo ops []
def rdsO (o : Oper) : List Nat := o.op.operands.toList.flatMap fun | .tmp t => [t] | _ => []
def plainO (o : Oper) : Option Operand := match o.guard with | some _ => none | none => (match o.op with | .move x | .assign x => some x | _ => none)
/-- The operation, of some indices, that writes a slot. -/
def whoW (ops : List Oper) (s : Nat) : List Nat → Option Nat
  | [] => none
  | j :: r => match (ops[j]?).bind (·.dst) with
    | some d => (match Nat.beq d s with | true => some j | false => whoW ops s r)
    | none => whoW ops s r
def rhoD (ops : List Oper) (fr : List Value) (anc : List Nat) (vs : List Value) : Operand → Value
  | .tmp s => match whoW ops s anc with | some j => nthV vs j | none => fr.getD s undef
  | .const v => v
  | .global g => .pointer (some ⟨g, 0, none⟩)
  | .func f => .func (.func f) #[] #[]
def vvsGo (ops : List Oper) (fr : List Value) (an : List (List Nat)) (val : Nat → Value) : List Oper → List Value → List Value
  | [], vs => vs
  | o :: r, vs => vvsGo ops fr an val r (vs ++ [match plainO o with | some x => rhoD ops fr (an.getD vs.length []) vs x | none => val vs.length])
def vvs (ops : List Oper) (fr : List Value) (val : Nat → Value) : List Value := vvsGo ops fr (ancs ops) val ops []
def frF : List Oper → List Value → List Value → List Value
  | o :: r, v :: vs, fr => frF r vs (match o.dst with | some d => fr.set d v | none => fr)
  | _, _, fr => fr
def nonP (ops : List Oper) (l : List Nat) : List Nat := l.filter fun j => match (ops[j]?).bind plainO with | some _ => false | none => true
abbrev Step := (Nat → Value) → World → (Value → World → Prop) → Prop
def gstep (P : Program) (ops : List Oper) (fr : List Value) (an : List (List Nat)) (o : Oper) (i : Nat) : Step := match o.guard with
  | none => fun val w k => opx P o.op o.type (rhoD ops fr (an.getD i []) (vvs ops fr val)) w k
  | some (j, want) => fun val w k => gd (nthV (vvs ops fr val) j) want (opx P o.op o.type (rhoD ops fr (an.getD i []) (vvs ops fr val)) w k) (k undef w)
def stepsGo (P : Program) (ops : List Oper) (fr : List Value) (an : List (List Nat)) : List Oper → Nat → List (Nat × List Nat × Step)
  | [], _ => []
  | o :: r, i => match plainO o with
    | some _ => stepsGo P ops fr an r (i + 1)
    | none => (i, nonP ops (an.getD i []), gstep P ops fr an o i) :: stepsGo P ops fr an r (i + 1)
def upd (val : Nat → Value) (i : Nat) (v : Value) : Nat → Value := fun j => if j = i then v else val j
def stepsOk (Pv : Nat → Value → Prop) (W : List Nat → (Nat → Value) → World → Prop) : List (Nat × List Nat × Step) → Prop
  | [] => True
  | (i, an, st) :: r => (∀ s val w, (∀ j ∈ s, Pv j (val j)) → W s val w → i ∉ s → (∀ j ∈ an, j ∈ s) → st val w fun v w' => Pv i v ∧ W (s ++ [i]) (upd val i v) w') ∧ stepsOk Pv W r
def d1 (w : World) : World := { w with drawn := w.drawn + 1 }
def drw (steps : List (Nat × List Nat × Step)) (rest : (Nat → Value) → World → Prop) (w0 : World) : Prop :=
  ∃ (Pv : Nat → Value → Prop) (W : List Nat → (Nat → Value) → World → Prop), (∀ val, W [] val (d1 w0)) ∧ stepsOk Pv W steps ∧
    ∀ s val w, (∀ x ∈ steps, x.1 ∈ s) → (∀ j ∈ s, Pv j (val j)) → W s val w → rest val w

def dstO (ops : List Oper) (i : Nat) : Option Nat := (ops[i]?).bind (·.dst)
def rdsI (ops : List Oper) (i : Nat) : List Nat := match ops[i]? with | some o => rdsO o | none => []
/-- A guard is an operation ahead that writes; each edge points back; no slot is written twice; what an operation reads was written ahead of it or is written behind it. -/
def chkD (ops : List Oper) (n : Nat) : Bool :=
  ((List.range ops.length).all fun i => match (ops.getD i default).guard with | none => true | some (j, _) => ((ancs ops).getD i []).contains j && (dstO ops j).isSome) &&
  ((List.range ops.length).all fun i => (dirO (ops.getD i default)).all fun j => Nat.blt j i) &&
  ((List.range ops.length).all fun i => (List.range ops.length).all fun j => Nat.beq i j || (match dstO ops i, dstO ops j with | some a, some b => !(Nat.beq a b) | _, _ => true)) &&
  ((List.range ops.length).all fun i => (rdsI ops i).all fun s => (List.range ops.length).all fun j => Nat.beq i j || (match dstO ops j with | some d => !(Nat.beq d s) || ((ancs ops).getD i []).contains j || ((ancs ops).getD j []).contains i | none => true)) &&
  ((List.range ops.length).all fun i => match dstO ops i with | some d => Nat.blt d n | none => true)

def drwR (P : Program) (ops : List Oper) (fr : List Value) (w : World) (kn : List Value → World → Prop) : Prop :=
  match P.follows .mixedOrders, chkD ops fr.length with
  | true, true => drw (stepsGo P ops fr (ancs ops) ops 0) (fun val w' => kn (frF ops (vvs ops fr val) fr) w') w
  | _, _ => False

/-! Soundness. -/
section
variable {ops : List Oper}
theorem of_blt {a b : Nat} (h : Nat.blt a b = true) : a < b := by simpa using h

theorem anc_spec (ops0 : List Oper) : ∀ (l : List Oper) (acc : List (List Nat)), (ancGo l acc).length = acc.length + l.length ∧ (∀ k, k < acc.length → (ancGo l acc).getD k [] = acc.getD k []) ∧
    (∀ t o, l[t]? = some o → (∀ j ∈ dirO o, j < acc.length + t) → (ancGo l acc).getD (acc.length + t) [] = (dirO o ++ (dirO o).flatMap fun j => (ancGo l acc).getD j []).eraseDups)
  | [], acc => ⟨by simp [ancGo], fun k _ => rfl, fun t o h => by simp at h⟩
  | o :: l, acc => by
    obtain ⟨h1, h2, h3⟩ := anc_spec ops0 l (acc ++ [(dirO o ++ (dirO o).flatMap fun j => acc.getD j []).eraseDups])
    simp only [ancGo]
    refine ⟨by rw [h1]; simp; omega, fun k hk => ?_, fun t o' ho hj => ?_⟩
    · rw [h2 k (by simp; omega)]
      simp [List.getElem?_append_left hk]
    · cases t with
      | zero =>
        simp only [List.getElem?_cons_zero, Option.some.injEq] at ho
        subst ho
        rw [Nat.add_zero, h2 _ (by simp)]
        have e : (acc ++ [(dirO o ++ (dirO o).flatMap fun j => acc.getD j []).eraseDups]).getD acc.length [] = (dirO o ++ (dirO o).flatMap fun j => acc.getD j []).eraseDups := by simp
        rw [e]
        congr 2
        have : ∀ l' : List Nat, (∀ j ∈ l', j < acc.length) → (l'.flatMap fun j => acc.getD j []) = l'.flatMap fun j => (ancGo l (acc ++ [(dirO o ++ (dirO o).flatMap fun j => acc.getD j []).eraseDups])).getD j [] := by
          intro l' hl'
          induction l' with
          | nil => rfl
          | cons x l' ih =>
            have hx := hl' x (by simp)
            simp only [List.flatMap_cons]
            rw [ih fun j hj => hl' j (by simp [hj]), h2 x (by simp; omega)]
            simp [List.getElem?_append_left hx]
        exact this _ (fun j hj' => by have := hj j hj'; omega)
      | succ t =>
        have := h3 t o' (by simpa using ho) (fun j hj' => by have := hj j hj'; simp; omega)
        simp only [List.length_append, List.length_cons, List.length_nil] at this
        rw [show acc.length + (t + 1) = acc.length + (0 + 1) + t from by omega]
        exact this

structure DrawOk (ops : List Oper) (n : Nat) : Prop where
  guard : ∀ (i : Nat) (o : Oper), ops[i]? = some o → ∀ j want, o.guard = some (j, want) → j ∈ (ancs ops).getD i [] ∧ ∃ d, dstO ops j = some d
  back : ∀ (i : Nat) (o : Oper), ops[i]? = some o → ∀ j ∈ dirO o, j < i
  apart : ∀ i j d, dstO ops i = some d → dstO ops j = some d → i = j
  reads : ∀ i s, s ∈ rdsI ops i → ∀ j, j ≠ i → dstO ops j = some s → j ∈ (ancs ops).getD i [] ∨ i ∈ (ancs ops).getD j []
  fits : ∀ i d, dstO ops i = some d → d < n

theorem dstO_lt {i d : Nat} (h : dstO ops i = some d) : i < ops.length := by
  unfold dstO at h
  cases hh : ops[i]? with
  | none => rw [hh] at h; cases h
  | some o => exact (List.getElem?_eq_some_iff.1 hh).1

theorem good_of {n : Nat} (h : chkD ops n = true) : DrawOk ops n := by
  unfold chkD at h
  simp only [Bool.and_eq_true] at h
  obtain ⟨⟨⟨⟨h1, h2⟩, h3⟩, h4⟩, h5⟩ := h
  refine ⟨fun i o ho j want hgd => ?_, fun i o ho j hj => ?_, fun i j d hi hj => ?_, fun i s hs j hne hj => ?_, fun i d hi => ?_⟩
  · have hlt : i < ops.length := (List.getElem?_eq_some_iff.1 ho).1
    have := List.all_eq_true.1 h1 i (by simpa using hlt)
    have e : ops.getD i default = o := by simp [List.getD_eq_getElem?_getD, ho]
    rw [e, hgd] at this
    simp only [Bool.and_eq_true] at this
    exact ⟨List.contains_iff_mem.1 this.1, Option.isSome_iff_exists.1 this.2⟩
  · have hlt : i < ops.length := (List.getElem?_eq_some_iff.1 ho).1
    have := List.all_eq_true.1 h2 i (by simpa using hlt)
    have e : ops.getD i default = o := by simp [List.getD_eq_getElem?_getD, ho]
    rw [e] at this
    exact of_blt (List.all_eq_true.1 this j hj)
  · have := List.all_eq_true.1 (List.all_eq_true.1 h3 i (by simpa using dstO_lt hi)) j (by simpa using dstO_lt hj)
    rw [hi, hj] at this
    simp only [Bool.or_eq_true] at this
    rcases this with h | h
    · exact Nat.eq_of_beq_eq_true h
    · simp at h
  · have hil : i < ops.length := by
      unfold rdsI at hs
      cases hh : ops[i]? with
      | none => rw [hh] at hs; simp at hs
      | some o => exact (List.getElem?_eq_some_iff.1 hh).1
    have := List.all_eq_true.1 (List.all_eq_true.1 (List.all_eq_true.1 h4 i (by simpa using hil)) s hs) j (by simpa using dstO_lt hj)
    rw [hj] at this
    simp only [Bool.or_eq_true] at this
    rcases this with h | (h | h) | h
    · exact absurd (Nat.eq_of_beq_eq_true h).symm hne
    · simp at h
    · exact .inl (List.contains_iff_mem.1 h)
    · exact .inr (List.contains_iff_mem.1 h)
  · have := List.all_eq_true.1 h5 i (by simpa using dstO_lt hi)
    rw [hi] at this
    exact of_blt this

variable {n : Nat}
theorem anc_eq (g : DrawOk ops n) {i : Nat} {o : Oper} (ho : ops[i]? = some o) : ∀ j, j ∈ (ancs ops).getD i [] ↔ j ∈ dirO o ∨ ∃ d ∈ dirO o, j ∈ (ancs ops).getD d [] := by
  have h := (anc_spec ops ops []).2.2 i o ho (by intro j hj; have := g.back i o ho j hj; simp; omega)
  simp only [List.length_nil, Nat.zero_add] at h
  intro j
  show j ∈ (ancGo ops []).getD i [] ↔ _
  rw [h, List.mem_eraseDups, List.mem_append, List.mem_flatMap]
  rfl
theorem anc_none {i : Nat} (h : ops.length ≤ i) : (ancs ops).getD i [] = [] := by
  have h1 := (anc_spec ops ops []).1
  rw [List.getD_eq_getElem?_getD, List.getElem?_eq_none]
  · rfl
  · show (ancGo ops []).length ≤ i
    rw [h1]; simpa using h
theorem anc_lt (g : DrawOk ops n) : ∀ (i j : Nat), j ∈ (ancs ops).getD i [] → j < i := by
  intro i
  induction i using Nat.strongRecOn with
  | _ i ih =>
    intro j hj
    by_cases hl : i < ops.length
    · have ho : ops[i]? = some ops[i] := List.getElem?_eq_getElem hl
      rcases (anc_eq g ho j).1 hj with h | ⟨d, hd, h⟩
      · exact g.back i _ ho j h
      · have := g.back i _ ho d hd
        have := ih d this j h
        omega
    · rw [anc_none (by omega)] at hj; simp at hj
theorem anc_trans (g : DrawOk ops n) : ∀ (i j k : Nat), j ∈ (ancs ops).getD i [] → k ∈ (ancs ops).getD j [] → k ∈ (ancs ops).getD i [] := by
  intro i
  induction i using Nat.strongRecOn with
  | _ i ih =>
    intro j k hj hk
    by_cases hl : i < ops.length
    · have ho : ops[i]? = some ops[i] := List.getElem?_eq_getElem hl
      rcases (anc_eq g ho j).1 hj with h | ⟨d, hd, h⟩
      · exact (anc_eq g ho k).2 (.inr ⟨j, h, hk⟩)
      · exact (anc_eq g ho k).2 (.inr ⟨d, hd, ih d (g.back i _ ho d hd) j k h hk⟩)
    · rw [anc_none (by omega)] at hj; simp at hj

theorem whoW_some {s j : Nat} : ∀ {l : List Nat}, whoW ops s l = some j → j ∈ l ∧ dstO ops j = some s
  | [], h => by cases h
  | a :: r, h => by
    simp only [whoW] at h
    cases hd : (ops[a]?).bind (·.dst) with
    | none => rw [hd] at h; obtain ⟨h1, h2⟩ := whoW_some h; exact ⟨by simp [h1], h2⟩
    | some d =>
      rw [hd] at h
      cases hb : Nat.beq d s with
      | true => simp only [hb, Option.some.injEq] at h; subst h; exact ⟨by simp, by unfold dstO; rw [hd, Nat.eq_of_beq_eq_true hb]⟩
      | false => simp only [hb] at h; obtain ⟨h1, h2⟩ := whoW_some h; exact ⟨by simp [h1], h2⟩
theorem whoW_none {s : Nat} : ∀ {l : List Nat}, whoW ops s l = none → ∀ j ∈ l, dstO ops j ≠ some s
  | [], _, j, hj => by simp at hj
  | a :: r, h, j, hj => by
    simp only [whoW] at h
    cases hd : (ops[a]?).bind (·.dst) with
    | none =>
      rw [hd] at h
      rcases List.mem_cons.1 hj with rfl | hj
      · unfold dstO; rw [hd]; simp
      · exact whoW_none h j hj
    | some d =>
      rw [hd] at h
      cases hb : Nat.beq d s with
      | true => simp [hb] at h
      | false =>
        simp only [hb] at h
        rcases List.mem_cons.1 hj with rfl | hj
        · unfold dstO; rw [hd]; intro e; simp only [Option.some.injEq] at e; subst e; simp at hb
        · exact whoW_none h j hj

theorem rhoD_congr {fr : List Value} {anc : List Nat} {vs vs' : List Value} (h : ∀ j ∈ anc, nthV vs j = nthV vs' j) (x : Operand) : rhoD ops fr anc vs x = rhoD ops fr anc vs' x := by
  cases x <;> first | rfl | skip
  rename_i s
  simp only [rhoD]
  cases hw : whoW ops s anc with
  | none => rfl
  | some j => exact h j (whoW_some hw).1

variable {fr : List Value}
theorem vvsGo_spec {an : List (List Nat)} {val : Nat → Value} : ∀ (l : List Oper) (vs : List Value), (vvsGo ops fr an val l vs).length = vs.length + l.length ∧ (∀ k, k < vs.length → nthV (vvsGo ops fr an val l vs) k = nthV vs k) ∧
    (∀ t o, l[t]? = some o → (∀ j ∈ an.getD (vs.length + t) [], j < vs.length + t) →
      nthV (vvsGo ops fr an val l vs) (vs.length + t) = match plainO o with | some x => rhoD ops fr (an.getD (vs.length + t) []) (vvsGo ops fr an val l vs) x | none => val (vs.length + t))
  | [], vs => ⟨by simp [vvsGo], fun _ _ => rfl, fun t o h => by simp at h⟩
  | o :: l, vs => by
    generalize hE : (match plainO o with | some x => rhoD ops fr (an.getD vs.length []) vs x | none => val vs.length) = E
    obtain ⟨h1, h2, h3⟩ := vvsGo_spec (an := an) (val := val) l (vs ++ [E])
    simp only [vvsGo, hE]
    refine ⟨by rw [h1]; simp; omega, fun k hk => ?_, fun t o' ho hj => ?_⟩
    · rw [h2 k (by simp; omega)]
      simp [nthV, List.getElem?_append_left hk]
    · cases t with
      | zero =>
        simp only [List.getElem?_cons_zero, Option.some.injEq] at ho
        subst ho
        rw [Nat.add_zero] at hj ⊢
        rw [h2 _ (by simp)]
        have e : nthV (vs ++ [E]) vs.length = E := by simp [nthV]
        rw [e, ← hE]
        cases hp : plainO o with
        | none => rfl
        | some x =>
          refine rhoD_congr (fun j hjm => ?_) x
          have hlt := hj j hjm
          rw [← hp, hE, h2 j (by simp; omega)]
          simp [nthV, List.getElem?_append_left hlt]
      | succ t =>
        have := h3 t o' (by simpa using ho) (fun j hj' => by
          have := hj j (by simpa [Nat.add_assoc, Nat.add_comm 1 t] using hj'); simp; omega)
        simp only [List.length_append, List.length_cons, List.length_nil] at this
        rw [show vs.length + (t + 1) = vs.length + (0 + 1) + t from by omega]
        exact this

theorem vv_eq (g : DrawOk ops n) (val : Nat → Value) {i : Nat} {o : Oper} (ho : ops[i]? = some o) :
    nthV (vvs ops fr val) i = match plainO o with | some x => rhoD ops fr ((ancs ops).getD i []) (vvs ops fr val) x | none => val i := by
  have := (vvsGo_spec (ops := ops) (fr := fr) (an := ancs ops) (val := val) ops []).2.2 i o ho (by intro j hj; simp only [List.length_nil, Nat.zero_add] at hj ⊢; exact anc_lt g i j hj)
  simp only [List.length_nil, Nat.zero_add] at this
  exact this

theorem vv_congr (g : DrawOk ops n) {val val' : Nat → Value} : ∀ i : Nat, (val i = val' i) → (∀ j ∈ (ancs ops).getD i [], val j = val' j) → nthV (vvs ops fr val) i = nthV (vvs ops fr val') i := by
  intro i
  induction i using Nat.strongRecOn with
  | _ i ih =>
    intro hi hj
    by_cases hl : i < ops.length
    · have ho : ops[i]? = some ops[i] := List.getElem?_eq_getElem hl
      rw [vv_eq g val ho, vv_eq g val' ho]
      cases hp : plainO ops[i] with
      | none => exact hi
      | some x =>
        refine rhoD_congr (fun j hjm => ?_) x
        exact ih j (anc_lt g i j hjm) (hj j hjm) fun k hk => hj k (anc_trans g i j k hjm hk)
    · have l1 := (vvsGo_spec (ops := ops) (fr := fr) (an := ancs ops) (val := val) ops []).1
      have l2 := (vvsGo_spec (ops := ops) (fr := fr) (an := ancs ops) (val := val') ops []).1
      simp only [List.length_nil, Nat.zero_add] at l1 l2
      unfold nthV vvs
      rw [List.getD_eq_getElem?_getD, List.getD_eq_getElem?_getD, List.getElem?_eq_none (by omega), List.getElem?_eq_none (by omega)]

theorem partsOf_congr {ρ ρ' : Operand → Value} {pl : Nat → Option (Nat × Nat)} : ∀ (l : List (Nat × Operand)), (∀ p ∈ l, ρ p.2 = ρ' p.2) → partsOf ρ pl l = partsOf ρ' pl l
  | [], _ => rfl
  | (i, x) :: r, h => by
    have h0 : ρ x = ρ' x := h (i, x) (by simp)
    have hr := partsOf_congr (pl := pl) r fun p hp => h p (by simp [hp])
    simp only [partsOf, h0, hr]

theorem map_congr' {ρ ρ' : Operand → Value} {l : List Operand} (h : ∀ x ∈ l, ρ x = ρ' x) : l.map ρ = l.map ρ' := List.map_congr_left h
theorem omap_congr {ρ ρ' : Operand → Value} {o : Option Operand} (h : ∀ x ∈ o, ρ x = ρ' x) : o.map ρ = o.map ρ' := by
  cases o with
  | none => rfl
  | some x => rw [Option.map_some, Option.map_some, h x rfl]

theorem opx_congr {op : Op} {ty : TypeId} {ρ ρ' : Operand → Value} {w : World} {K : Value → World → Prop} (h : ∀ x ∈ op.operands.toList, ρ x = ρ' x) (hx : opx P op ty ρ w K) : opx P op ty ρ' w K := by
  have key : opx P op ty ρ w K = opx P op ty ρ' w K := by
    cases op
    case build t parts =>
      have : ∀ pl, partsOf ρ pl parts.toList = partsOf ρ' pl parts.toList := fun pl => partsOf_congr _ fun p hp => h p.2 (by simp [Op.operands]; exact ⟨p.1, by simpa using hp⟩)
      simp only [opx, this]
    case buildSlice t len parts =>
      have : ∀ pl, partsOf ρ pl parts.toList = partsOf ρ' pl parts.toList := fun pl => partsOf_congr _ fun p hp => h p.2 (by simp [Op.operands]; exact ⟨p.1, by simpa using hp⟩)
      simp only [opx, this]
    case makeFunc fn a b =>
      have h1 : a.toList.map ρ = a.toList.map ρ' := map_congr' fun x hx => h x (by simp [Op.operands]; exact .inl (by simpa using hx))
      have h2 : b.toList.map ρ = b.toList.map ρ' := map_congr' fun x hx => h x (by simp [Op.operands]; exact .inr (by simpa using hx))
      simp only [opx, h1, h2]
    case makeMap t r =>
      cases r with
      | none => rfl
      | some x => have := h x (by simp [Op.operands]); simp only [opx, this]
    case slice t x lo hi mx =>
      have h0 := h x (by simp [Op.operands])
      have h1 : lo.map ρ = lo.map ρ' := omap_congr fun x hx => h x (by simp [Op.operands]; exact .inr (.inl hx))
      have h2 : hi.map ρ = hi.map ρ' := omap_congr fun x hx => h x (by simp [Op.operands]; exact .inr (.inr (.inl hx)))
      have h3 : mx.map ρ = mx.map ρ' := omap_congr fun x hx => h x (by simp [Op.operands]; exact .inr (.inr (.inr hx)))
      simp only [opx, h0, h1, h2, h3]
    case call c =>
      have h1 : c.args.toList.map ρ = c.args.toList.map ρ' := map_congr' fun x hx => h x (by simp only [Op.operands, Call.operands]; simp; exact .inr (by simpa using hx))
      have ha : ∀ x ∈ c.args.toList, ρ x = ρ' x := fun x hx => h x (by simp only [Op.operands, Call.operands]; simp; exact .inr (by simpa using hx))
      simp only [opx, h1]
      cases hc : c.callee with
      | value f =>
        have : ρ f = ρ' f := h f (by simp only [Op.operands, Call.operands, hc]; simp)
        simp only [this]
      | invoke a b => rfl
      | builtin b =>
        simp only
        cases hl : c.args.toList with
        | nil => cases b <;> rfl
        | cons x l =>
          have hx0 := ha x (by rw [hl]; simp)
          cases l with
          | nil =>
            generalize c.argTypes.toList = tl
            cases b <;> rcases tl with _ | ⟨t, _ | ⟨t2, tl⟩⟩ <;> first | rfl | simp only [hx0]
          | cons y l =>
            have hy0 := ha y (by rw [hl]; simp)
            generalize c.argTypes.toList = tl
            cases l <;> cases b <;> rcases tl with _ | ⟨t, _ | ⟨t2, tl⟩⟩ <;> first | rfl | simp only [hx0, hy0]
    case next it s =>
      have := h it (by simp [Op.operands])
      cases s <;> simp only [opx, this]
    all_goals first
      | rfl
      | (simp only [Op.operands, List.mem_cons, List.not_mem_nil, or_false, forall_eq_or_imp, forall_eq] at h
         obtain ⟨h1, h2, h3⟩ := h
         simp only [opx, h1, h2, h3]; done)
      | (simp only [Op.operands, List.mem_cons, List.not_mem_nil, or_false, forall_eq_or_imp, forall_eq] at h
         obtain ⟨h1, h2⟩ := h
         simp only [opx, h1, h2]; done)
      | (simp only [Op.operands, List.mem_cons, List.not_mem_nil, or_false, forall_eq_or_imp, forall_eq] at h
         simp only [opx, h]; done)
  rw [← key]; exact hx

variable {Pv : Nat → Value → Prop} {W : List Nat → (Nat → Value) → World → Prop}
theorem steps_get {an : List (List Nat)} : ∀ (l : List Oper) (k : Nat), stepsOk Pv W (stepsGo P ops fr an l k) → ∀ (t : Nat) (o : Oper), l[t]? = some o → plainO o = none →
    ∀ s val w, (∀ j ∈ s, Pv j (val j)) → W s val w → k + t ∉ s → (∀ j ∈ nonP ops (an.getD (k + t) []), j ∈ s) →
      gstep P ops fr an o (k + t) val w fun v w' => Pv (k + t) v ∧ W (s ++ [k + t]) (upd val (k + t) v) w'
  | [], k, _, t, o, h, _ => by simp at h
  | o' :: l, k, hs, t, o, ho, hp => by
    cases t with
    | zero =>
      simp only [List.getElem?_cons_zero, Option.some.injEq] at ho
      subst ho
      simp only [stepsGo, hp, stepsOk] at hs
      exact hs.1
    | succ t =>
      have hs' : stepsOk Pv W (stepsGo P ops fr an l (k + 1)) := by
        simp only [stepsGo] at hs
        cases hp' : plainO o' with
        | none => rw [hp'] at hs; exact hs.2
        | some x => rw [hp'] at hs; exact hs
      have := steps_get l (k + 1) hs' t o (by simpa using ho) hp
      rw [show k + 1 + t = k + (t + 1) from by omega] at this
      exact this
theorem steps_mem {an : List (List Nat)} : ∀ (l : List Oper) (k : Nat), ∀ x ∈ stepsGo P ops fr an l k, ∃ t o, x.1 = k + t ∧ l[t]? = some o ∧ plainO o = none
  | [], k, x, hx => by simp [stepsGo] at hx
  | o :: l, k, x, hx => by
    simp only [stepsGo] at hx
    have rec' : x ∈ stepsGo P ops fr an l (k + 1) → ∃ t o', x.1 = k + t ∧ (o :: l)[t]? = some o' ∧ plainO o' = none := fun h => by
      obtain ⟨t, o', h1, h2, h3⟩ := steps_mem l (k + 1) x h
      exact ⟨t + 1, o', by omega, by simpa using h2, h3⟩
    cases hp : plainO o with
    | none =>
      rw [hp] at hx
      rcases List.mem_cons.1 hx with rfl | h
      · exact ⟨0, o, rfl, rfl, hp⟩
      · exact rec' h
    | some y => rw [hp] at hx; exact rec' hx

theorem frF_none : ∀ (l : List Oper) (vs fr : List Value) (x : Nat), (∀ o ∈ l, o.dst ≠ some x) → (frF l vs fr)[x]? = fr[x]?
  | [], vs, fr, x, _ => by cases vs <;> rfl
  | o :: l, [], fr, x, _ => rfl
  | o :: l, v :: vs, fr, x, h => by
    simp only [frF]
    rw [frF_none l vs _ x fun o' ho => h o' (by simp [ho])]
    have h0 := h o (by simp)
    cases hd : o.dst with
    | none => rfl
    | some d =>
      rw [hd] at h0
      have : d ≠ x := fun e => h0 (by rw [e])
      rw [List.getElem?_set_ne this]
theorem frF_some : ∀ (l : List Oper) (vs fr : List Value) (x t : Nat) (o : Oper), l[t]? = some o → o.dst = some x → (∀ t' o', t < t' → l[t']? = some o' → o'.dst ≠ some x) → l.length ≤ vs.length → x < fr.length →
    (frF l vs fr)[x]? = some (nthV vs t)
  | [], _, _, _, t, o, h, _, _, _, _ => by simp at h
  | o :: l, [], _, _, _, _, _, _, _, hl, _ => by simp at hl
  | o :: l, v :: vs, fr, x, t, o', ho, hd, hlast, hl, hx => by
    cases t with
    | zero =>
      simp only [List.getElem?_cons_zero, Option.some.injEq] at ho
      subst ho
      simp only [frF, hd]
      rw [frF_none l vs _ x fun o' ho' => by
        obtain ⟨k, hk⟩ := List.mem_iff_getElem?.1 ho'
        exact hlast (k + 1) o' (by omega) (by simpa using hk)]
      rw [List.getElem?_set_self hx]; rfl
    | succ t =>
      simp only [frF]
      rw [frF_some l vs _ x t o' (by simpa using ho) hd (fun t' o'' h1 h2 => hlast (t' + 1) o'' (by omega) (by simpa using h2)) (by simp at hl; omega) (by split <;> simp [hx])]
      simp [nthV]

/-- What is known while the operations run in some order. -/
structure DS (ops : List Oper) (fr : List Value) (Pv : Nat → Value → Prop) (W : List Nat → (Nat → Value) → World → Prop) (done s : List Nat) (val : Nat → Value) (fr' : List Value) (w : World) : Prop where
  lt : ∀ i ∈ done, i < ops.length
  clo : ∀ i ∈ done, ∀ j ∈ (ancs ops).getD i [], j ∈ done
  mem : ∀ j, j ∈ s ↔ j ∈ done ∧ (ops[j]?).bind plainO = none
  len : fr'.length = fr.length
  wr : ∀ i ∈ done, ∀ d, dstO ops i = some d → fr'[d]? = some (nthV (vvs ops fr val) i)
  old : ∀ x : Nat, (∀ i ∈ done, dstO ops i ≠ some x) → fr'[x]? = fr[x]?
  pv : ∀ j ∈ s, Pv j (val j)
  ww : W s val w

def Lin (ops : List Oper) : List Nat → List Nat → Prop
  | done, [] => ∀ i, i < ops.length → i ∈ done
  | done, i :: r => i < ops.length ∧ i ∉ done ∧ (∀ o, ops[i]? = some o → ∀ j ∈ dirO o, j ∈ done) ∧ Lin ops (i :: done) r

theorem DS.reads {done s : List Nat} {val : Nat → Value} {fr' : List Value} {w : World} (D : DS ops fr Pv W done s val fr' w) (g : DrawOk ops fr.length) {i : Nat} {o : Oper} (ho : ops[i]? = some o) (hi : i ∉ done)
    (ha : ∀ j ∈ (ancs ops).getD i [], j ∈ done) (x : Operand) (hx : x ∈ o.op.operands.toList) : (act' fr').eval x = rhoD ops fr ((ancs ops).getD i []) (vvs ops fr val) x := by
  cases x <;> first | rfl | skip
  rename_i t
  have ht : t ∈ rdsI ops i := by
    simp only [rdsI, ho, rdsO, List.mem_flatMap]
    exact ⟨_, hx, by simp⟩
  have e1 : (act' fr').eval (.tmp t) = fr'.getD t undef := by simp [act', Act.eval]
  rw [e1]
  simp only [rhoD]
  cases hw : whoW ops t ((ancs ops).getD i []) with
  | some j =>
    obtain ⟨hj, hd⟩ := whoW_some hw
    rw [List.getD_eq_getElem?_getD, D.wr j (ha j hj) t hd]; rfl
  | none =>
    have hn := whoW_none hw
    have : fr'[t]? = fr[t]? := D.old t fun j hj hd => by
      have hji : j ≠ i := fun e => hi (e ▸ hj)
      rcases g.reads i t ht j hji hd with h | h
      · exact hn j h hd
      · exact hi (D.clo j hj i h)
    rw [List.getD_eq_getElem?_getD, this, ← List.getD_eq_getElem?_getD]

theorem DS.put {done s : List Nat} {val : Nat → Value} {fr' : List Value} {w : World} (D : DS ops fr Pv W done s val fr' w) (g : DrawOk ops fr.length) {i : Nat} {o : Oper} (ho : ops[i]? = some o) (hi : i ∉ done)
    (ha : ∀ j ∈ (ancs ops).getD i [], j ∈ done) {s' : List Nat} {val' : Nat → Value} {v : Value} {w' : World} (hs : ∀ j, j ∈ s' ↔ j ∈ i :: done ∧ (ops[j]?).bind plainO = none) (hv : ∀ j ∈ done, val' j = val j)
    (hvi : nthV (vvs ops fr val') i = v) (hp : ∀ j ∈ s', Pv j (val' j)) (hw : W s' val' w') : DS ops fr Pv W (i :: done) s' val' (match o.dst with | some d => fr'.set d v | none => fr') w' := by
  have hil : i < ops.length := (List.getElem?_eq_some_iff.1 ho).1
  have hdi : dstO ops i = o.dst := by simp [dstO, ho]
  refine ⟨?_, ?_, hs, ?_, ?_, ?_, hp, hw⟩
  · intro k hk; rcases List.mem_cons.1 hk with rfl | hk; exact hil; exact D.lt k hk
  · intro k hk j hj
    rcases List.mem_cons.1 hk with rfl | hk
    · exact List.mem_cons_of_mem _ (ha j hj)
    · exact List.mem_cons_of_mem _ (D.clo k hk j hj)
  · split <;> simp [D.len]
  · intro k hk d hd
    rcases List.mem_cons.1 hk with rfl | hk
    · rw [hdi] at hd
      rw [hd]
      simp only
      rw [List.getElem?_set_self (by rw [D.len]; exact g.fits k d (by rw [hdi, hd])), hvi]
    · have hne : o.dst ≠ some d := fun e => by
        have := g.apart i k d (by rw [hdi, e]) hd
        exact hi (this ▸ hk)
      have e1 : (match o.dst with | some d => fr'.set d v | none => fr')[d]? = fr'[d]? := by
        cases hod : o.dst with
        | none => rfl
        | some d' => simp only; rw [List.getElem?_set_ne (fun e => hne (by rw [hod, e]))]
      rw [e1, D.wr k hk d hd]
      congr 1
      exact vv_congr g k (hv k hk).symm fun j hj => (hv j (D.clo k hk j hj)).symm
  · intro x hx
    have e1 : (match o.dst with | some d => fr'.set d v | none => fr')[x]? = fr'[x]? := by
      cases hod : o.dst with
      | none => rfl
      | some d' => simp only; rw [List.getElem?_set_ne (fun e => hx i (by simp) (by rw [hdi, hod, e]))]
    rw [e1]
    exact D.old x fun k hk => hx k (by simp [hk])

theorem draw_exec {all : Array Oper} (hall : all.toList = ops) (g : DrawOk ops fr.length) (hst : stepsOk Pv W (stepsGo P ops fr (ancs ops) ops 0)) {Q : Exit → Act → World → Prop} {rest : (Nat → Value) → World → Prop}
    (hfin : ∀ s val w, (∀ x ∈ stepsGo P ops fr (ancs ops) ops 0, x.1 ∈ s) → (∀ j ∈ s, Pv j (val j)) → W s val w → rest val w)
    (hQ : ∀ val w, rest val w → Q .normal (act' (frF ops (vvs ops fr val) fr)) w) :
    ∀ (l done s : List Nat) (val : Nat → Value) (fr' : List Value) (w : World), Lin ops done l → DS ops fr Pv W done s val fr' w → wpOpsIn (F0 none) 0 P all Q l (act' fr') w := by
  intro l
  induction l with
  | nil =>
    intro done s val fr' w hl D
    simp only [Lin] at hl
    simp only [wpOpsIn]
    have e : fr' = frF ops (vvs ops fr val) fr := by
      apply List.ext_getElem?
      intro x
      have lv : ops.length ≤ (vvs ops fr val).length := by
        have := (vvsGo_spec (ops := ops) (fr := fr) (an := ancs ops) (val := val) ops []).1
        unfold vvs; rw [this]; simp
      by_cases hx : ∃ i, dstO ops i = some x
      · obtain ⟨i, hi⟩ := hx
        have hil := dstO_lt hi
        have ho : ops[i]? = some ops[i] := List.getElem?_eq_getElem hil
        rw [D.wr i (hl i hil) x hi]
        refine (frF_some ops _ fr x i _ ho (by simpa [dstO, ho] using hi) (fun t' o' h1 h2 h3 => ?_) lv (g.fits i x hi)).symm
        have := g.apart i t' x hi (by simp [dstO, h2, h3])
        omega
      · rw [D.old x fun i _ h => hx ⟨i, h⟩]
        refine (frF_none ops _ fr x fun o ho h => ?_).symm
        obtain ⟨k, hk⟩ := List.mem_iff_getElem?.1 ho
        exact hx ⟨k, by simp [dstO, hk, h]⟩
    rw [e]
    refine hQ val w (hfin s val w (fun x hx => ?_) D.pv D.ww)
    obtain ⟨t, o, h1, h2, h3⟩ := steps_mem ops 0 x hx
    rw [h1, Nat.zero_add]
    exact (D.mem t).2 ⟨hl t (List.getElem?_eq_some_iff.1 h2).1, by rw [h2]; exact h3⟩
  | cons i r ih =>
    intro done s val fr' w hl D
    obtain ⟨hil, hin, hdir, hr⟩ := hl
    have ho : ops[i]? = some ops[i] := List.getElem?_eq_getElem hil
    have hoa : all[i]? = some ops[i] := by rw [← Array.getElem?_toList, hall, ho]
    have ha : ∀ j ∈ (ancs ops).getD i [], j ∈ done := by
      intro j hj
      rcases (anc_eq g ho j).1 hj with h | ⟨d, hd, h⟩
      · exact hdir _ ho j h
      · exact D.clo d (hdir _ ho d hd) j h
    simp only [wpOpsIn, hoa]
    have hput : ∀ v, (act' fr').put (ops[i]).dst v = act' (match (ops[i]).dst with | some d => fr'.set d v | none => fr') := by
      intro v
      cases hd : (ops[i]).dst with
      | none => rfl
      | some d => simp [act', Act.put]
    cases hp : plainO ops[i] with
    | some x =>
      have hg0 : (ops[i]).guard = none := by
        cases hgg : (ops[i]).guard with
        | none => rfl
        | some z => unfold plainO at hp; rw [hgg] at hp; cases hp
      unfold plainO at hp
      rw [hg0] at hp
      have hp' : plainO ops[i] = some x := by unfold plainO; rw [hg0]; exact hp
      rw [if_pos (by simp [Region.wanted, hg0])]
      have hval : (execOp (act' fr').eval ops[i]) = pure (.value ((act' fr').eval x)) := by
        unfold execOp
        simp only at hp
        split at hp
        · rename_i y hop; simp only [Option.some.injEq] at hp; subst hp; rw [hop]
        · rename_i y hop; simp only [Option.some.injEq] at hp; subst hp; rw [hop]
        · cases hp
      have hxm : x ∈ (ops[i]).op.operands.toList := by
        simp only at hp
        split at hp
        · rename_i y hop; simp only [Option.some.injEq] at hp; subst hp; rw [hop]; simp [Op.operands]
        · rename_i y hop; simp only [Option.some.injEq] at hp; subst hp; rw [hop]; simp [Op.operands]
        · cases hp
      refine ⟨fun _ _ => trivial, ?_⟩
      rw [Oper.semAt_none, hval]
      show wpOpsIn (F0 none) 0 P all Q r ((act' fr').put (ops[i]).dst ((act' fr').eval x)) w
      rw [hput]
      refine ih (i :: done) s val _ w hr (D.put g ho hin ha (fun j => ?_) (fun _ _ => rfl) ?_ D.pv D.ww)
      · rw [D.mem j, List.mem_cons]
        constructor
        · rintro ⟨h1, h2⟩; exact ⟨.inr h1, h2⟩
        · rintro ⟨rfl | h1, h2⟩
          · rw [ho] at h2; simp [hp'] at h2
          · exact ⟨h1, h2⟩
      · rw [vv_eq g val ho, hp']; exact (D.reads g ho hin ha x hxm).symm
    | none =>
      have hstep := steps_get ops 0 hst i _ ho hp s val w D.pv D.ww
      rw [Nat.zero_add] at hstep
      have hstep := hstep (fun h => hin ((D.mem i).1 h).1) (fun j hj => by
        simp only [nonP, List.mem_filter] at hj
        refine (D.mem j).2 ⟨ha j hj.1, ?_⟩
        cases hh : (ops[j]?).bind plainO with
        | none => rfl
        | some y => rw [hh] at hj; simp at hj)
      have fin : ∀ v w', (Pv i v ∧ W (s ++ [i]) (upd val i v) w') → wpOpsIn (F0 none) 0 P all Q r ((act' fr').put (ops[i]).dst v) w' := fun v w' hv => by
        rw [hput]
        refine ih (i :: done) (s ++ [i]) (upd val i v) _ w' hr (D.put g ho hin ha (fun j => ?_) (fun j hj => ?_) ?_ (fun j hj => ?_) hv.2)
        · rw [List.mem_append, D.mem j, List.mem_singleton, List.mem_cons]
          constructor
          · rintro (⟨h1, h2⟩ | rfl)
            · exact ⟨.inr h1, h2⟩
            · exact ⟨.inl rfl, by rw [ho]; exact hp⟩
          · rintro ⟨rfl | h1, h2⟩
            · exact .inr rfl
            · exact .inl ⟨h1, h2⟩
        · have : j ≠ i := fun e => hin (e ▸ hj)
          simp [upd, this]
        · rw [vv_eq g _ ho, hp]; simp [upd]
        · rcases List.mem_append.1 hj with h | h
          · have : j ≠ i := fun e => hin (e ▸ ((D.mem j).1 h).1)
            simpa [upd, this] using D.pv j h
          · obtain rfl := List.mem_singleton.1 h
            simpa [upd] using hv.1
      unfold gstep at hstep
      cases hgg : (ops[i]).guard with
      | none =>
        rw [hgg] at hstep
        rw [if_pos (by simp [Region.wanted, hgg])]
        exact opx_sound (opx_congr (fun x hx => (D.reads g ho hin ha x hx).symm) hstep) fin
      | some jw =>
        obtain ⟨j, want⟩ := jw
        rw [hgg] at hstep
        simp only at hstep
        obtain ⟨hja, d, hd⟩ := g.guard i _ ho j want hgg
        have hw := D.wr j (ha j hja) d hd
        have hdj : (all[j]?).bind (·.dst) = some d := by rw [← Array.getElem?_toList, hall]; exact hd
        have hy : yielded all (act' fr').tmps j = match nthV (vvs ops fr val) j with | .bool b => some b | _ => none := by
          simp only [yielded, hdj, Option.bind_some, act', List.getElem?_toArray]
          rw [hw]; cases nthV (vvs ops fr val) j <;> rfl
        generalize nthV (vvs ops fr val) j = vj at hy hstep
        have skip : (Pv i undef ∧ W (s ++ [i]) (upd val i undef) w) → Region.wanted ops[i] (yielded all (act' fr').tmps) = false → (if Region.wanted ops[i] (yielded all (act' fr').tmps) = true then (ops[i]).wpIn (F0 none) 0 P (act' fr') w (wpOpsIn (F0 none) 0 P all Q r) Q else (∀ f, (ops[i]).about P w (act' fr').eval = some f → (F0 none).fn f) ∧ wpOpsIn (F0 none) 0 P all Q r ((act' fr').put (ops[i]).dst undef) w) := fun h hf => by
          rw [if_neg (by rw [hf]; exact Bool.false_ne_true)]
          exact ⟨fun _ _ => trivial, fin _ _ h⟩
        have go : opx P (ops[i]).op (ops[i]).type (rhoD ops fr ((ancs ops).getD i []) (vvs ops fr val)) w (fun v w' => Pv i v ∧ W (s ++ [i]) (upd val i v) w') → Region.wanted ops[i] (yielded all (act' fr').tmps) = true → (if Region.wanted ops[i] (yielded all (act' fr').tmps) = true then (ops[i]).wpIn (F0 none) 0 P (act' fr') w (wpOpsIn (F0 none) 0 P all Q r) Q else (∀ f, (ops[i]).about P w (act' fr').eval = some f → (F0 none).fn f) ∧ wpOpsIn (F0 none) 0 P all Q r ((act' fr').put (ops[i]).dst undef) w) := fun h ht => by
          rw [if_pos ht]
          exact opx_sound (opx_congr (fun x hx => (D.reads g ho hin ha x hx).symm) h) fin
        cases vj <;> simp only [gd] at hstep <;> try exact hstep.elim
        · rename_i b
          cases b <;> cases want <;> simp only at hstep <;> first
            | exact go hstep (by simp [Region.wanted, hgg, hy])
            | exact skip hstep (by simp [Region.wanted, hgg, hy])
        · exact skip hstep (by simp [Region.wanted, hgg, hy])

/-- Every order that the model may draw is one in which each operation follows what it hangs on. -/
theorem lin_go {all : Array Oper} (hall : all.toList = ops) (g : DrawOk ops n) : ∀ (fuel t : Nat) (listed : Array Bool) (done : List Nat), listed.size = ops.length → (∀ i, i < ops.length → (listed.getD i true = true ↔ i ∈ done)) → (∀ i, i < ops.length → listed.getD i false = listed.getD i true) →
    ((List.range ops.length).filter fun i => !listed.getD i true).length ≤ fuel → Lin ops done (Region.linearise.go .any all fuel t listed []) := by
  have hsz : all.size = ops.length := by rw [← hall]; simp
  intro fuel
  induction fuel with
  | zero =>
    intro t listed done hs hd hf hc
    simp only [Region.linearise.go, List.reverse_nil, Lin]
    intro i hi
    have h0 : ((List.range ops.length).filter fun i => !listed.getD i true) = [] := List.length_eq_zero_iff.1 (by omega)
    have := List.filter_eq_nil_iff.1 h0 i (by simpa using hi)
    exact (hd i hi).1 (by simpa using this)
  | succ fuel ih =>
    intro t listed done hs hd hf hc
    simp only [Region.linearise.go]
    change Lin ops done (match (Region.ready .any all listed)[t % (Region.ready .any all listed).length]? with
      | some i => Region.linearise.go .any all fuel (t / (Region.ready .any all listed).length) (listed.setIfInBounds i true) [i]
      | none => [].reverse)
    have hrd : ∀ i, i ∈ Region.ready .any all listed ↔ i < ops.length ∧ i ∉ done ∧ ∀ o, ops[i]? = some o → ∀ j ∈ dirO o, listed.getD j false = true := by
      intro i
      unfold Region.ready
      simp only [List.mem_filter, List.mem_range, hsz, Bool.and_eq_true, Bool.not_eq_true']
      constructor
      · rintro ⟨h1, h2, h3⟩
        refine ⟨h1, fun h => ?_, fun o ho j hj => ?_⟩
        · rw [(hd i h1).2 h] at h2; cases h2
        · have hoa : all[i]? = some o := by rw [← Array.getElem?_toList, hall, ho]
          rw [hoa] at h3
          simp only [Option.map_some, Option.getD_some, Array.all_eq_true_iff_forall_mem] at h3
          simp only [dirO, List.mem_map, List.mem_filter] at hj
          obtain ⟨e, ⟨he, hb⟩, rfl⟩ := hj
          have := h3 e (by simpa using he)
          simpa [hb] using this
      · rintro ⟨h1, h2, h3⟩
        refine ⟨h1, ?_, ?_⟩
        · cases hh : listed.getD i true with
          | false => rfl
          | true => exact absurd ((hd i h1).1 hh) h2
        · have ho : ops[i]? = some ops[i] := List.getElem?_eq_getElem h1
          have hoa : all[i]? = some ops[i] := by rw [← Array.getElem?_toList, hall, ho]
          rw [hoa]
          simp only [Option.map_some, Option.getD_some, Array.all_eq_true_iff_forall_mem]
          intro e he
          cases hb : Region.binds .any e with
          | false => rfl
          | true =>
            have := h3 _ ho e.on (by simp only [dirO, List.mem_map, List.mem_filter]; exact ⟨e, ⟨by simpa using he, hb⟩, rfl⟩)
            simp [this]
    cases hi : (Region.ready .any all listed)[t % (Region.ready .any all listed).length]? with
    | none =>
      have hnil : Region.ready .any all listed = [] := by
        cases hr : Region.ready .any all listed with
        | nil => rfl
        | cons x xs =>
          rw [hr] at hi
          have hlt : t % (x :: xs).length < (x :: xs).length := Nat.mod_lt _ (by simp)
          simp at hi
          simp at hlt
          omega
      simp only [List.reverse_nil, Lin]
      intro i
      induction i using Nat.strongRecOn with
      | _ i ihi =>
        intro hil
        by_cases hin : i ∈ done
        · exact hin
        · have : i ∈ Region.ready .any all listed := (hrd i).2 ⟨hil, hin, fun o ho j hj => by
            have hji := g.back i o ho j hj
            rw [hf j (by omega)]
            exact (hd j (by omega)).2 (ihi j hji (by omega))⟩
          rw [hnil] at this; cases this
    | some i =>
      simp only []
      rw [linearise_go_acc, List.reverse_singleton, List.singleton_append]
      obtain ⟨h1, h2, h3⟩ := (hrd i).1 (List.mem_of_getElem? hi)
      have hgi : ∀ b k, k < ops.length → (listed.setIfInBounds i true).getD k b = if k = i then true else listed.getD k b := by
        intro b k hk
        simp only [Array.getD_eq_getD_getElem?, Array.getElem?_setIfInBounds]
        by_cases hki : i = k
        · subst hki; simp [hs, hk]
        · simp [hki, Ne.symm hki]
      refine ⟨h1, h2, fun o ho j hj => ?_, ih _ _ (i :: done) (by simp [hs]) (fun k hk => ?_) (fun k hk => ?_) ?_⟩
      · have hji := g.back i o ho j hj
        have := h3 o ho j hj
        rw [hf j (by omega)] at this
        exact (hd j (by omega)).1 this
      · rw [hgi true k hk, List.mem_cons]
        by_cases hki : k = i
        · simp [hki]
        · simp only [hki, if_false, false_or]; exact hd k hk
      · rw [hgi false k hk, hgi true k hk, hf k hk]
      · have hlt : ((List.range ops.length).filter fun k => !(listed.setIfInBounds i true).getD k true).length < ((List.range ops.length).filter fun k => !listed.getD k true).length := by
          have e : ((List.range ops.length).filter fun k => !(listed.setIfInBounds i true).getD k true) = ((List.range ops.length).filter fun k => !listed.getD k true).filter fun k => decide (k ≠ i) := by
            rw [List.filter_filter]
            apply List.filter_congr
            intro k hk
            rw [hgi true k (by simpa using hk)]
            by_cases hki : k = i <;> simp [hki]
          rw [e]
          refine Nat.lt_of_le_of_ne (List.length_filter_le _ _) fun hh => ?_
          have := List.length_filter_eq_length_iff.1 hh i (by
            simp only [List.mem_filter, List.mem_range, Bool.not_eq_true']
            refine ⟨h1, ?_⟩
            cases hh : listed.getD i true with
            | false => rfl
            | true => exact absurd ((hd i h1).1 hh) h2)
          simp at this
        omega

theorem frF_len : ∀ (l : List Oper) (vs fr : List Value), (frF l vs fr).length = fr.length
  | [], vs, fr => by cases vs <;> rfl
  | o :: l, [], fr => rfl
  | o :: l, v :: vs, fr => by
    simp only [frF]
    rw [frF_len l vs]
    split <;> simp

theorem drwR_sound {all : Array Oper} {id : Nat} {fr : List Value} {w : World} {kn : List Value → World → Prop} (h : drwR P all.toList fr w kn) :
    (Code.region id all true).wp P (fun e a w' => e = .normal ∧ ∃ fr', a = act' fr' ∧ fr'.length = fr.length ∧ (∀ x : Nat, x ∉ all.toList.filterMap (·.dst) → fr'[x]? = fr[x]?) ∧ kn fr' w') (act' fr) w := by
  unfold drwR at h
  cases hm : P.follows .mixedOrders with
  | false => rw [hm] at h; exact h.elim
  | true =>
    cases hc : chkD all.toList fr.length with
    | false => rw [hm, hc] at h; exact h.elim
    | true =>
      rw [hm, hc] at h
      obtain ⟨Pv, W, h0, hst, hfin⟩ := h
      have g := good_of hc
      refine (wpIn_wide (n := 0)).1 (wpIn_region_draw fun t => ?_)
      rw [hm]
      simp only [Region.schedule, Bool.true_or, if_true]
      refine draw_exec (Pv := Pv) (W := W) (fr := fr) rfl g hst hfin (fun val w' hk => ⟨rfl, _, rfl, frF_len _ _ _, fun x hx => frF_none _ _ _ _ fun o ho hd => hx (by
          rw [List.mem_filterMap]; exact ⟨o, ho, hd⟩), hk⟩) _ [] [] (fun _ => undef) fr _ (lin_go rfl g _ _ _ _ (by simp) (fun i hi => ?_) (fun i hi => ?_) ?_) ?_
      · have hi' : i < all.size := by simpa using hi
        simp [Array.getD_eq_getD_getElem?, Array.getElem?_replicate, hi']
      · have hi' : i < all.size := by simpa using hi
        simp [Array.getD_eq_getD_getElem?, Array.getElem?_replicate, hi']
      · refine Nat.le_trans (List.length_filter_le _ _) ?_
        simp
      · exact { lt := fun i hi => (List.not_mem_nil hi).elim, clo := fun i hi => (List.not_mem_nil hi).elim, mem := fun j => by simp, len := rfl, wr := fun i hi => (List.not_mem_nil hi).elim, old := fun x _ => rfl, pv := fun j hj => (List.not_mem_nil hj).elim, ww := h0 _ }

end

end Go.Proofs.YtkpefimnggojdaaGreat.VX
