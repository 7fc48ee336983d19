/-
  VX, part h: 'vx' turns code into a predicate; it is sound for 'Code.wp' and for calls.
-/
import Derived.Test.YtkpefimnggojdaaGreatVi
import Derived.Scope
set_option linter.all false
namespace Go.Proofs.YtkpefimnggojdaaGreat.VX
open Go
variable {P : Program}
attribute [local semireducible] rn

def putD (fr : Fr) : Option Tmp → Value → Fr | none, _ => fr | some d, v => fr.set d v
def act (fr : Fr) : Act := ⟨fr.toArray, []⟩
structure Agr (ms : List Nat) (fr fr' : Fr) : Prop where
  len : fr'.length = fr.length
  same : ∀ i : Nat, i ∉ ms → fr'[i]? = fr[i]?

def dsts (l : List Oper) : List Nat := l.filterMap (·.dst)
def grps : List Oper → List (Option (Nat × Bool) × List Oper)
  | [] => []
  | o :: r => match grps r with
    | (g, l) :: rest => (match g == o.guard with | true => (g, o :: l) :: rest | false => (o.guard, [o]) :: (g, l) :: rest)
    | [] => [(o.guard, [o])]
def opsU (P : Program) : List Oper → Fr → World → (Fr → World → Prop) → Prop
  | [], fr, w, K => K fr w
  | o :: r, fr, w, K => opx P o.op o.type (rho fr) w fun v w' => opsU P r (putD fr o.dst v) w' K
def undefs : List Nat → Fr → Fr | [], fr => fr | d :: ds, fr => undefs ds (fr.set d undef)
def mods : Code → List Nat
  | .region _ ops _ => dsts ops.toList
  | .seq a b => mods a ++ mods b
  | .cond _ a b => mods a ++ mods b
  | .block _ c => mods c
  | .loop c => mods c
  | .scope c => mods c
  | _ => []
/-- What is read ahead of being written (an order alone hangs on it). -/
def rdOp : Operand → List Nat | .tmp t => [t] | _ => []
def expOps : List Oper → List Nat → List Nat × List Nat
  | [], wr => ([], wr)
  | o :: r, wr =>
    let rd := (o.op.operands.toList.flatMap rdOp).filter fun s => !wr.contains s
    let (e, wr') := expOps r (match o.dst with | some d => d :: wr | _ => wr)
    (rd ++ e, wr')
def expo : Code → List Nat × List Nat
  | .region _ ops _ => expOps ops.toList []
  | .seq a b => let (ea, wa) := expo a; let (eb, wb) := expo b; (ea ++ eb.filter (fun s => !wa.contains s), wa ++ wb)
  | .cond c a b => (rdOp c ++ (expo a).1 ++ (expo b).1, (expo a).2.filter fun s => (expo b).2.contains s)
  | .block _ c => ((expo c).1, [])
  | .loop c => ((expo c).1, [])
  | .scope c => expo c
  | _ => ([], [])
def asgOp (o : Oper) : Option Nat := match o.op with | .assign _ => o.dst | _ => none
def asg : Code → List Nat
  | .region _ ops _ => ops.toList.filterMap asgOp
  | .seq a b => asg a ++ asg b
  | .cond _ a b => asg a ++ asg b
  | .block _ c => asg c
  | .loop c => asg c
  | .scope c => asg c
  | _ => []
def liveS (m e a : List Nat) : List Nat := m.eraseDups.filter fun s => e.contains s || a.contains s
def deadS (m e a : List Nat) : List Nat := m.eraseDups.filter fun s => !(e.contains s || a.contains s)
def two (m e a : List Nat) (g z : List Value) (fr : Fr) : Fr := ovl (deadS m e a) 0 z (ovl (liveS m e a) 0 g fr)
def lastD : List Nat → List Nat | [] => [] | [d] => [d] | _ :: r => lastD r
def rdsG (r : List (Option (Nat × Bool) × List Oper)) : List Nat := (r.flatMap (·.2)).flatMap fun o => o.op.operands.toList.flatMap rdOp
def gops (P : Program) (all : List Oper) : List (Option (Nat × Bool) × List Oper) → Fr → World → (Fr → World → Prop) → Prop
  | [], fr, w, K => K fr w
  | (none, l) :: r, fr, w, K => opsU P l fr w fun fr' w' => gops P all r fr' w' K
  | (some (j, want), l) :: r, fr, w, K =>
    match (all[j]?).bind (·.dst) with
    | some dj =>
      (match (dsts l).contains dj with
      | true => False
      | false => jn (fun g z w => gops P all r (two (dsts l) (rdsG r) (lastD (dsts l)) g z fr) w K)
          (fun J => gd (fr.getD dj undef) want (opsU P l fr w fun fr' w' => J (sel (liveS (dsts l) (rdsG r) (lastD (dsts l))) fr') w')
            (J (sel (liveS (dsts l) (rdsG r) (lastD (dsts l))) (undefs (dsts l) fr)) w)))
    | none => False

def weight : Code → Nat
  | .region _ ops _ => ops.size
  | .seq a b => weight a + weight b
  | .cond _ a b => weight a + weight b + 1
  | .block _ c => weight c
  | .loop c => weight c + 2
  | .scope c => weight c
  | _ => 0
def xN (id : Nat) : Code → Nat
  | .exit i => match Nat.beq i id with | true => 1 | false => 0
  | .seq a b => xN id a + xN id b
  | .cond _ a b => xN id a + xN id b
  | .block _ c => xN id c
  | .loop c => xN id c
  | .scope c => xN id c
  | _ => 0
/-- How many ways lead out of a piece (ways that meet again inside it count once). -/
def nE : Code → Nat
  | .seq a b => match Nat.ble 2 (nE a), Nat.ble 6 (weight b) with | true, true => nE b | _, _ => nE a * nE b
  | .cond _ a b => nE a + nE b
  | .block id c => nE c + xN id c
  | .loop _ => 0
  | .exit _ => 0
  | .ret => 0
  | .goto _ => 0
  | .scope c => nE c
  | _ => 1

def rawR (P : Program) (id : Nat) (ops : Array Oper) (fr : Fr) (w : World) (kn : List Value → World → Prop) : Prop :=
  (Code.region id ops true).wp P (fun e a w => e = .normal ∧ ∃ g, a = act (ovl (dsts ops.toList) 0 g fr) ∧ kn g w) (act fr) w

def vx (P : Program) : Code → (Fr → World → Prop) → (Nat → Fr → World → Prop) → (Fr → World → Prop) → Fr → World → Prop
  | .skip, kn, _, _, fr, w => kn fr w
  | .label _, kn, _, _, fr, w => kn fr w
  | .region id ops draw, kn, _, _, fr, w => (match draw with | false => gops P ops.toList (grps ops.toList) fr w kn | true => (match chkD ops.toList fr.length with | true => drwR P ops.toList fr w kn | false => rawR P id ops fr w fun g w' => kn (ovl (dsts ops.toList) 0 g fr) w'))
  | .seq a b, kn, kx, kr, fr, w =>
    (match Nat.ble 2 (nE a), Nat.ble 6 (weight b) with
    | true, true => jn (fun g z w => vx P b kn kx kr (two (mods a) (expo b).1 (asg a) g z fr) w) (fun J => vx P a (fun fr' w' => J (sel (liveS (mods a) (expo b).1 (asg a)) fr') w') kx kr fr w)
    | _, _ => vx P a (fun fr' w' => vx P b kn kx kr fr' w') kx kr fr w)
  | .cond c a b, kn, kx, kr, fr, w => cnd (rho fr c) (vx P a kn kx kr fr w) (vx P b kn kx kr fr w)
  | .block id c, kn, kx, kr, fr, w => vx P c kn (fun i fr' w' => match Nat.beq i id with | true => kn fr' w' | false => kx i fr' w') kr fr w
  | .loop c, _, kx, kr, fr, w => lp (fun again g z w => vx P c (fun fr' w' => again (sel (liveS (mods c) (expo c).1 (asg c)) fr') w') kx kr (two (mods c) (expo c).1 (asg c) g z fr) w) (sel (liveS (mods c) (expo c).1 (asg c)) fr) w
  | .exit id, _, kx, _, fr, w => kx id fr w
  | .ret, _, _, kr, fr, w => kr fr w
  | .scope c, kn, kx, kr, fr, w => vx P c kn kx kr fr w
  | _, _, _, _, _, _ => False

/-! Soundness. -/
theorem act_eval (fr : Fr) : (act fr).eval = rho fr := by
  funext x
  cases x with
  | tmp t => simp [act, Act.eval, rho]
  | _ => rfl
theorem act_put (fr : Fr) (d : Option Tmp) (v : Value) : (act fr).put d v = act (putD fr d v) := by
  cases d with
  | none => rfl
  | some d => simp [act, Act.put, putD]

theorem Agr.refl (ms : List Nat) (fr : Fr) : Agr ms fr fr := ⟨rfl, fun _ _ => rfl⟩
theorem Agr.trans {ms ms' : List Nat} {a b c : Fr} (h : Agr ms a b) (h' : Agr ms' b c) : Agr (ms ++ ms') a c :=
  ⟨h'.len.trans h.len, fun i hi => by simp at hi; rw [h'.same i hi.2, h.same i hi.1]⟩
theorem Agr.mono {ms ms' : List Nat} {a b : Fr} (h : Agr ms a b) (hs : ∀ i ∈ ms, i ∈ ms') : Agr ms' a b := ⟨h.len, fun i hi => h.same i fun hm => hi (hs i hm)⟩
theorem Agr.put {ms : List Nat} {a b : Fr} (h : Agr ms a b) {d : Option Tmp} (hd : ∀ x, d = some x → x ∈ ms) (v : Value) : Agr ms a (putD b d v) := by
  cases d with
  | none => exact h
  | some d =>
    refine ⟨by simp [putD, h.len], fun i hi => ?_⟩
    have : d ≠ i := fun e => hi (e ▸ hd d rfl)
    simp only [putD]
    rw [List.getElem?_set_ne this]
    exact h.same i hi

theorem ovl_get {fr' : Fr} : ∀ (ms : List Nat) (k : Nat) (g : List Value) (fr : Fr), (∀ j m, ms[j]? = some m → nth g (k + j) = fr'.getD m undef) →
    fr'.length = fr.length → ∀ i : Nat, (i ∈ ms ∨ fr[i]? = fr'[i]?) → (ovl ms k g fr)[i]? = fr'[i]?
  | [], k, g, fr, _, _, i, hi => by
    simp only [ovl]
    rcases hi with h | h
    · simp at h
    · exact h
  | m :: ms, k, g, fr, hg, hl, i, hi => by
    simp only [ovl]
    refine ovl_get ms (k + 1) g _ (fun j m' h => ?_) (by simp [hl]) i ?_
    · have := hg (j + 1) m' (by simpa using h)
      rw [← this]; congr 1; omega
    · have h0 : nth g k = fr'.getD m undef := by simpa using hg 0 m rfl
      by_cases hm : i = m
      · subst hm
        right
        rw [h0]
        by_cases hlt : i < fr.length
        · rw [List.getElem?_set_self hlt, List.getD_eq_getElem?_getD]
          rw [List.getElem?_eq_getElem (by omega)]; rfl
        · rw [List.getElem?_eq_none (by simp; omega), List.getElem?_eq_none (by omega)]
      · rcases hi with h | h
        · left; simp only [List.mem_cons] at h; exact h.resolve_left hm
        · right; rw [List.getElem?_set_ne (fun e => hm e.symm)]; exact h

theorem ovl_len : ∀ (ms : List Nat) (k : Nat) (g : List Value) (fr : Fr), (ovl ms k g fr).length = fr.length
  | [], _, _, _ => rfl
  | m :: ms, k, g, fr => by rw [ovl, ovl_len ms]; simp

theorem two_agr {m e a : List Nat} {fr fr' : Fr} (h : Agr m fr fr') : two m e a (sel (liveS m e a) fr') (sel (deadS m e a) fr') fr = fr' := by
  have hs : ∀ ms : List Nat, ∀ j x, ms[j]? = some x → nth (sel ms fr') (0 + j) = fr'.getD x undef := by
    intro ms j x hj
    simp [nth, sel, hj]
  apply List.ext_getElem?
  intro i
  refine ovl_get _ 0 _ _ (hs _) (by rw [ovl_len]; exact h.len) i ?_
  by_cases hd : i ∈ deadS m e a
  · exact .inl hd
  · right
    refine ovl_get _ 0 _ _ (hs _) h.len i ?_
    by_cases hm : i ∈ m
    · left
      have hm' : i ∈ m.eraseDups := List.mem_eraseDups.2 hm
      simp only [deadS, liveS, List.mem_filter, hm', true_and] at hd ⊢
      cases hx : (e.contains i || a.contains i)
      · rw [hx] at hd; exact absurd rfl hd
      · rfl
    · right; exact (h.same i hm).symm

theorem ovl_Agr : ∀ (ms : List Nat) (k : Nat) (g : List Value) (fr : Fr), Agr ms fr (ovl ms k g fr)
  | [], _, _, fr => .refl _ _
  | m :: ms, k, g, fr => by
    have h := ovl_Agr ms (k + 1) g (fr.set m (nth g k))
    refine ⟨by rw [ovl, h.len]; simp, fun i hi => ?_⟩
    simp only [List.mem_cons, not_or] at hi
    rw [ovl, h.same i hi.2, List.getElem?_set_ne (fun e => hi.1 e.symm)]

theorem grps_flat : ∀ l : List Oper, (grps l).flatMap (·.2) = l ∧ ∀ g l', (g, l') ∈ grps l → ∀ o ∈ l', o.guard = g
  | [] => ⟨rfl, by simp [grps]⟩
  | o :: r => by
    obtain ⟨h1, h2⟩ := grps_flat r
    simp only [grps]
    split
    · rename_i g l rest hg
      rw [hg] at h1 h2
      split
      · rename_i he
        have he' : g = o.guard := by simpa using he
        refine ⟨by simpa using h1, ?_⟩
        intro g' l' hm x hx
        rcases List.mem_cons.1 hm with h | h
        · simp only [Prod.mk.injEq] at h
          obtain ⟨rfl, rfl⟩ := h
          rcases List.mem_cons.1 hx with rfl | hx
          · exact he'.symm
          · exact h2 g' l (by simp) x hx
        · exact h2 g' l' (by simp [h]) x hx
      · refine ⟨by simpa using h1, ?_⟩
        intro g' l' hm x hx
        rcases List.mem_cons.1 hm with h | h
        · simp only [Prod.mk.injEq] at h
          obtain ⟨rfl, rfl⟩ := h
          simp at hx; rw [hx]
        · exact h2 g' l' h x hx
    · rename_i hg
      rw [hg] at h1
      have hr : r = [] := by simpa using h1.symm
      refine ⟨by simp [hr], ?_⟩
      intro g' l' hm x hx
      simp at hm
      obtain ⟨rfl, rfl⟩ := hm
      simp at hx; rw [hx]

variable {all : Array Oper} {Q : Exit → Act → World → Prop}

/-- A run of operations of one guard, which says yes and is not written. -/
theorem opsU_sound {ro : Option Nat} {W : Fr → Prop} {ms : List Nat} {fr0 : Fr} {rest : List Oper} : ∀ (l : List Oper) (fr : Fr) (w : World) (K : Fr → World → Prop),
    opsU P l fr w K → (∀ o ∈ l, ∀ fr, W fr → Region.wanted o (yielded all (act fr).tmps) = true) → (∀ o ∈ l, ∀ fr v, W fr → W (putD fr o.dst v)) → (∀ i ∈ dsts l, i ∈ ms) →
    W fr → Agr ms fr0 fr → (∀ fr' w', K fr' w' → W fr' → Agr ms fr0 fr' → wpListIn (F0 ro) 0 P all Q rest (act fr') w') → wpListIn (F0 ro) 0 P all Q (l ++ rest) (act fr) w
  | [], fr, w, K, h, _, _, _, hw, ha, hk => hk fr w h hw ha
  | o :: r, fr, w, K, h, h1, h2, h3, hw, ha, hk => by
    have hwant := h1 o (by simp) fr hw
    simp only [List.cons_append, wpListIn, hwant, if_true]
    simp only [opsU] at h
    rw [← act_eval] at h
    refine opx_sound h fun v w' hv => ?_
    rw [act_put]
    have hd : ∀ x, o.dst = some x → x ∈ ms := fun x hx => h3 x (by simp [dsts, hx])
    exact opsU_sound r _ w' K hv (fun o' ho' => h1 o' (by simp [ho'])) (fun o' ho' => h2 o' (by simp [ho']))
      (fun i hi => h3 i (by simp only [dsts, List.filterMap_cons] at hi ⊢; split <;> simp_all)) (h2 o (by simp) fr v hw) (ha.put hd v) hk

theorem undefs_sound {ro : Option Nat} {W : Fr → Prop} {ms : List Nat} {fr0 : Fr} {rest : List Oper} : ∀ (l : List Oper) (fr : Fr) (w : World),
    (∀ o ∈ l, ∀ fr, W fr → Region.wanted o (yielded all (act fr).tmps) = false) → (∀ o ∈ l, ∀ fr v, W fr → W (putD fr o.dst v)) → (∀ i ∈ dsts l, i ∈ ms) →
    W fr → Agr ms fr0 fr → (Agr ms fr0 (undefs (dsts l) fr) → wpListIn (F0 ro) 0 P all Q rest (act (undefs (dsts l) fr)) w) → wpListIn (F0 ro) 0 P all Q (l ++ rest) (act fr) w
  | [], fr, w, _, _, _, hw, ha, hk => hk ha
  | o :: r, fr, w, h1, h2, h3, hw, ha, hk => by
    have hwant := h1 o (by simp) fr hw
    simp only [List.cons_append, wpListIn, hwant, Bool.false_eq_true, if_false]
    refine ⟨fun _ _ => trivial, ?_⟩
    rw [act_put]
    have hd : ∀ x, o.dst = some x → x ∈ ms := fun x hx => h3 x (by simp [dsts, hx])
    have e : undefs (dsts (o :: r)) fr = undefs (dsts r) (putD fr o.dst undef) := by
      cases ho : o.dst <;> simp [dsts, ho, undefs, putD]
    rw [e] at hk
    exact undefs_sound r _ w (fun o' ho' => h1 o' (by simp [ho'])) (fun o' ho' => h2 o' (by simp [ho']))
      (fun i hi => h3 i (by simp only [dsts, List.filterMap_cons] at hi ⊢; split <;> simp_all)) (h2 o (by simp) fr undef hw) (ha.put hd undef) hk

theorem gops_sound {ro : Option Nat} {ms : List Nat} {fr0 : Fr} : ∀ (gs : List (Option (Nat × Bool) × List Oper)) (fr : Fr) (w : World) (K : Fr → World → Prop),
    gops P all.toList gs fr w K → (∀ g l, (g, l) ∈ gs → ∀ o ∈ l, o.guard = g) → (∀ i ∈ dsts (gs.flatMap (·.2)), i ∈ ms) → Agr ms fr0 fr →
    (∀ fr' w', K fr' w' → Agr ms fr0 fr' → Q .normal (act fr') w') → wpListIn (F0 ro) 0 P all Q (gs.flatMap (·.2)) (act fr) w
  | [], fr, w, K, h, _, _, ha, hk => hk fr w h ha
  | (none, l) :: r, fr, w, K, h, hg, hm, ha, hk => by
    simp only [gops] at h
    simp only [List.flatMap_cons]
    have hm1 : ∀ i ∈ dsts l, i ∈ ms := fun i hi => hm i (by simp only [List.flatMap_cons, dsts, List.filterMap_append, List.mem_append]; exact .inl hi)
    have hm2 : ∀ i ∈ dsts (r.flatMap (·.2)), i ∈ ms := fun i hi => hm i (by simp only [List.flatMap_cons, dsts, List.filterMap_append, List.mem_append]; exact .inr hi)
    refine opsU_sound (W := fun _ => True) (ms := ms) (fr0 := fr0) l fr w _ h (fun o ho fr _ => ?_) (fun _ _ _ _ _ => trivial) hm1 trivial ha fun fr' w' hk' _ ha' => ?_
    · simp [Region.wanted, hg none l (by simp) o ho]
    · exact gops_sound r fr' w' K hk' (fun g l' hl' => hg g l' (by simp [hl'])) hm2 ha' hk
  | (some (j, want), l) :: r, fr, w, K, h, hg, hm, ha, hk => by
    simp only [gops] at h
    simp only [List.flatMap_cons]
    have hm1 : ∀ i ∈ dsts l, i ∈ ms := fun i hi => hm i (by simp only [List.flatMap_cons, dsts, List.filterMap_append, List.mem_append]; exact .inl hi)
    have hm2 : ∀ i ∈ dsts (r.flatMap (·.2)), i ∈ ms := fun i hi => hm i (by simp only [List.flatMap_cons, dsts, List.filterMap_append, List.mem_append]; exact .inr hi)
    split at h
    · rename_i dj hdj
      split at h
      · exact h.elim
      · rename_i hc
        have hc' : dj ∉ dsts l := by intro hh; have := List.contains_iff_mem.2 hh; rw [hc] at this; cases this
        obtain ⟨J, hJ, h⟩ := h
        have hdj' : (all[j]?).bind (·.dst) = some dj := by simpa using hdj
        have hy : ∀ fr : Fr, yielded all (act fr).tmps j = match fr[dj]? with | some (.bool b) => some b | _ => none := by
          intro fr
          simp only [yielded, hdj', Option.bind_some, act, List.getElem?_toArray]
          generalize fr[dj]? = x
          cases x with
          | none => rfl
          | some v => cases v <;> rfl
        have hput : ∀ o ∈ l, ∀ (fr' : Fr) v, fr'[dj]? = fr[dj]? → (putD fr' o.dst v)[dj]? = fr[dj]? := by
          intro o ho fr' v hw
          cases hd : o.dst with
          | none => exact hw
          | some d =>
            have : d ≠ dj := fun e => hc' (by simp only [dsts, List.mem_filterMap]; exact ⟨o, ho, by rw [hd, e]⟩)
            simp only [putD]
            rw [List.getElem?_set_ne this]; exact hw
        have fin : ∀ fr' w', J (sel (liveS (dsts l) (rdsG r) (lastD (dsts l))) fr') w' → Agr (dsts l) fr fr' → wpListIn (F0 ro) 0 P all Q (r.flatMap (·.2)) (act fr') w' := by
          intro fr' w' hj ha'
          have this := hJ _ (sel (deadS (dsts l) (rdsG r) (lastD (dsts l))) fr') _ hj
          simp only [two_agr ha'] at this
          exact gops_sound r fr' w' K this (fun g l' hl' => hg g l' (by simp [hl'])) hm2 ((ha.trans ha').mono (by intro i hi; rcases List.mem_append.1 hi with h | h; exact h; exact hm1 i h)) hk
        have hgu : ∀ o ∈ l, o.guard = some (j, want) := fun o ho => hg _ l (by simp) o ho
        cases hv : fr[dj]? with
        | none =>
          have e : fr.getD dj undef = undef := by rw [List.getD_eq_getElem?_getD, hv]; rfl
          rw [e] at h
          have h' : J (sel (liveS (dsts l) (rdsG r) (lastD (dsts l))) (undefs (dsts l) fr)) w := h
          refine undefs_sound (W := fun fr' => fr'[dj]? = fr[dj]?) (ms := dsts l) (fr0 := fr) l fr w (fun o ho fr' hw => ?_) hput (fun _ hi => hi) rfl (.refl _ _) fun ha' => fin _ _ h' ha'
          simp [Region.wanted, hgu o ho, hy, hw, hv]
        | some v =>
          have e : fr.getD dj undef = v := by rw [List.getD_eq_getElem?_getD, hv]; rfl
          rw [e] at h
          have yes : ∀ b, v = .bool b → b = want → opsU P l fr w (fun fr' w' => J (sel (liveS (dsts l) (rdsG r) (lastD (dsts l))) fr') w') → wpListIn (F0 ro) 0 P all Q (l ++ r.flatMap (·.2)) (act fr) w := by
            intro b hb hbw hh
            subst hb; subst hbw
            refine opsU_sound (W := fun fr' => fr'[dj]? = fr[dj]?) (ms := dsts l) (fr0 := fr) l fr w _ hh (fun o ho fr' hw => ?_) hput (fun _ hi => hi) rfl (.refl _ _) fun fr' w' hj _ ha' => fin _ _ hj ha'
            simp [Region.wanted, hgu o ho, hy, hw, hv]
          have no : (∀ b, v = .bool b → b ≠ want) → J (sel (liveS (dsts l) (rdsG r) (lastD (dsts l))) (undefs (dsts l) fr)) w → wpListIn (F0 ro) 0 P all Q (l ++ r.flatMap (·.2)) (act fr) w := by
            intro hb hh
            refine undefs_sound (W := fun fr' => fr'[dj]? = fr[dj]?) (ms := dsts l) (fr0 := fr) l fr w (fun o ho fr' hw => ?_) hput (fun _ hi => hi) rfl (.refl _ _) fun ha' => fin _ _ hh ha'
            simp only [Region.wanted, hgu o ho, hy, hw, hv]
            cases v <;> first | rfl | (rename_i b; have := hb b rfl; cases b <;> cases want <;> simp_all)
          unfold gd at h
          split at h
          · rename_i b
            split at h
            · exact yes _ rfl rfl h
            · exact yes _ rfl rfl h
            · rename_i h1 h2
              refine no (fun b' hb' => ?_) h
              cases hb'
              intro hh
              cases b <;> cases want <;> simp_all
          · exact no (fun b hb => by cases hb) h
          · exact h.elim
    · exact h.elim

def Qv (ms : List Nat) (fr : Fr) (kn : Fr → World → Prop) (kx : Nat → Fr → World → Prop) (kr : Fr → World → Prop) : Exit → Act → World → Prop := fun e a w =>
  ∃ fr', a = act fr' ∧ Agr ms fr fr' ∧ match e with | .normal => kn fr' w | .exit i => kx i fr' w | .ret => kr fr' w | _ => False

/-- A region in its order, in a round or in none. -/
theorem region_sound {ro : Option Nat} {id : Nat} {ops : Array Oper} {fr : Fr} {w : World} {kn : Fr → World → Prop} (h : gops P ops.toList (grps ops.toList) fr w kn) : (Code.region id ops false).wpIn (F0 ro) 0 P (fun e a w' => e = .normal ∧ ∃ fr', a = act fr' ∧ kn fr' w') (act fr) w := by
  obtain ⟨h1, h2⟩ := grps_flat ops.toList
  have := gops_sound (ro := ro) (Q := fun e a w' => e = .normal ∧ ∃ fr', a = act fr' ∧ kn fr' w') (ms := dsts ops.toList) (fr0 := fr) (grps ops.toList) fr w kn h h2 (by rw [h1]; exact fun _ hi => hi) (.refl _ _)
    fun fr' w' hk _ => ⟨rfl, fr', rfl, hk⟩
  rw [h1] at this
  exact wpIn_region_list this

theorem vx_sound : ∀ (c : Code) (kn : Fr → World → Prop) (kx : Nat → Fr → World → Prop) (kr : Fr → World → Prop) (fr : Fr) (w : World),
    vx P c kn kx kr fr w → c.wp P (Qv (mods c) fr kn kx kr) (act fr) w := by
  intro c
  induction c with
  | skip => intro kn kx kr fr w h; exact wp_skip ⟨fr, rfl, .refl _ _, h⟩
  | label l => intro kn kx kr fr w h; exact wp_label ⟨fr, rfl, .refl _ _, h⟩
  | exit id => intro kn kx kr fr w h; exact wp_exit ⟨fr, rfl, .refl _ _, h⟩
  | ret => intro kn kx kr fr w h; exact wp_ret ⟨fr, rfl, .refl _ _, h⟩
  | goto l => intro kn kx kr fr w h; exact h.elim
  | refuse s => intro kn kx kr fr w h; exact h.elim
  | rangeFunc f ps a b _ _ => intro kn kx kr fr w h; exact h.elim
  | region id ops draw =>
    intro kn kx kr fr w h
    cases draw with
    | true =>
      simp only [vx] at h
      cases hc : chkD ops.toList fr.length with
      | false =>
        rw [hc] at h
        refine wp_mono h ?_
        rintro e a w ⟨rfl, g, rfl, hk⟩
        exact ⟨_, rfl, ovl_Agr _ _ _ _, hk⟩
      | true =>
        rw [hc] at h
        refine wp_mono (drwR_sound h) ?_
        rintro e a w ⟨rfl, g, rfl, hl, hs, hk⟩
        exact ⟨_, rfl, ⟨hl, hs⟩, hk⟩
    | false =>
      simp only [vx] at h
      obtain ⟨h1, h2⟩ := grps_flat ops.toList
      have := gops_sound (ro := none) (Q := Qv (mods (.region id ops false)) fr kn kx kr) (ms := dsts ops.toList) (fr0 := fr) (grps ops.toList) fr w kn h h2 (by rw [h1]; exact fun _ hi => hi) (.refl _ _)
        fun fr' w' hk ha => ⟨fr', rfl, ha, hk⟩
      rw [h1] at this
      exact (wpIn_wide (n := 0)).1 (wpIn_region_list this)
  | seq a b iha ihb =>
    intro kn kx kr fr w h
    simp only [vx] at h
    have key : ∀ (fr' : Fr) (w' : World), Agr (mods a) fr fr' → vx P b kn kx kr fr' w' → b.wp P (Qv (mods (.seq a b)) fr kn kx kr) (act fr') w' := by
      intro fr' w' ha hb
      refine wp_mono (ihb kn kx kr fr' w' hb) ?_
      rintro e x w ⟨fr'', rfl, ha', hk⟩
      exact ⟨fr'', rfl, ha.trans ha', hk⟩
    have lift : ∀ (K : Fr → World → Prop), (∀ fr' w', Agr (mods a) fr fr' → K fr' w' → vx P b kn kx kr fr' w') → vx P a K kx kr fr w → (Code.seq a b).wp P (Qv (mods (.seq a b)) fr kn kx kr) (act fr) w := by
      intro K hK hv
      refine wp_seq (wp_mono (iha K kx kr fr w hv) ?_)
      rintro e x w ⟨fr', rfl, ha, hk⟩
      cases e with
      | normal => exact key fr' w ha (hK fr' w ha hk)
      | exit i => exact ⟨fr', rfl, ha.mono (by simp [mods]; intro i hi; exact .inl hi), hk⟩
      | ret => exact ⟨fr', rfl, ha.mono (by simp [mods]; intro i hi; exact .inl hi), hk⟩
      | _ => exact hk.elim
    split at h
    · obtain ⟨J, hJ, h⟩ := h
      refine lift _ (fun fr' w' ha hj => ?_) h
      have this := hJ _ (sel (deadS (mods a) (expo b).1 (asg a)) fr') _ hj
      simp only [two_agr ha] at this
      exact this
    · exact lift _ (fun fr' w' _ hk => hk) h
  | cond c a b iha ihb =>
    intro kn kx kr fr w h
    simp only [vx] at h
    unfold cnd at h
    split at h
    · rename_i hc
      refine wp_cond_true (by rw [act_eval]; exact hc) (wp_mono (iha _ _ _ _ _ h) ?_)
      rintro e x w ⟨fr', rfl, ha, hk⟩
      exact ⟨fr', rfl, ha.mono (by simp [mods]; intro i hi; exact .inl hi), hk⟩
    · rename_i hc
      refine wp_cond_false (by rw [act_eval]; exact hc) (wp_mono (ihb _ _ _ _ _ h) ?_)
      rintro e x w ⟨fr', rfl, ha, hk⟩
      exact ⟨fr', rfl, ha.mono (by simp [mods]; intro i hi; exact .inr hi), hk⟩
    · exact h.elim
  | block id c ih =>
    intro kn kx kr fr w h
    simp only [vx] at h
    refine wp_block (wp_mono (ih _ _ _ _ _ h) ?_)
    rintro e x w ⟨fr', rfl, ha, hk⟩
    cases e with
    | exit i =>
      simp only at hk
      simp only [Exit.inBlock]
      split at hk
      · rename_i hb
        rw [if_pos (Nat.eq_of_beq_eq_true hb)]
        exact ⟨fr', rfl, ha, hk⟩
      · rename_i hb
        rw [if_neg (Nat.ne_of_beq_eq_false hb)]
        exact ⟨fr', rfl, ha, hk⟩
    | normal => exact ⟨fr', rfl, ha, hk⟩
    | ret => exact ⟨fr', rfl, ha, hk⟩
    | _ => exact hk.elim
  | loop c ih =>
    intro kn kx kr fr w h
    simp only [vx] at h
    obtain ⟨I, μ, h0, h⟩ := h
    refine wp_loop (fun a w => ∃ fr', a = act fr' ∧ Agr (mods c) fr fr' ∧ I (sel (liveS (mods c) (expo c).1 (asg c)) fr') w) (fun a w => μ (sel (liveS (mods c) (expo c).1 (asg c)) a.tmps.toList) w) ⟨fr, rfl, .refl _ _, h0⟩ ?_
    rintro a w ⟨fr', rfl, ha, hi⟩
    have hr := h _ (sel (deadS (mods c) (expo c).1 (asg c)) fr') _ hi
    simp only [two_agr ha] at hr
    refine wp_mono (ih _ _ _ _ _ hr) ?_
    rintro e x w ⟨fr'', rfl, ha', hk⟩
    have ha'' : Agr (mods c) fr fr'' := (ha.trans ha').mono (by simp)
    cases e with
    | normal => exact ⟨⟨fr'', rfl, ha'', hk.1⟩, by simpa [act] using hk.2⟩
    | exit i => exact ⟨fr'', rfl, ha'', hk⟩
    | ret => exact ⟨fr'', rfl, ha'', hk⟩
    | _ => exact hk.elim
  | scope c ih =>
    intro kn kx kr fr w h
    refine wp_scope_straight (wp_mono (ih _ _ _ _ _ h) ?_)
    rintro e x w ⟨fr', rfl, ha, hk⟩
    cases e with
    | normal => exact ⟨fr', rfl, ha, hk⟩
    | exit i => exact ⟨fr', rfl, ha, hk⟩
    | ret => exact ⟨fr', rfl, ha, hk⟩
    | _ => exact hk.elim

def finR (R : Value → World → Prop) (w : World) : List Value → Prop | [v] => R v w | l => R (.tuple l.toArray) w
/-- What a function hands back. -/
def finV (P : Program) (R : Value → World → Prop) (fr : Fr) (w : World) : List ResultVar → List Value → Prop
  | [], vs => finR R w vs
  | .tmp t :: r, vs => finV P R fr w r (vs ++ [fr.getD t undef])
  | .cell a t :: r, vs =>
    (match P.underlying t with
    | some d => (match isAggD d with
      | true => (match szOf P t with | some n => ldS n (fr.getD a undef) w fun v => finV P R fr w r (vs ++ [v]) | none => False)
      | false => ld (fr.getD a undef) w fun v => finV P R fr w r (vs ++ [v]))
    | none => False)

theorem ldS_mono {n : Nat} {x : Value} {w : World} {k k' : Value → Prop} (hk : ∀ v, k v → k' v) (h : ldS n x w k) : ldS n x w k' := by
  cases x <;> first | exact h.elim | skip
  rename_i a
  cases a with
  | none => exact h.elim
  | some a =>
    simp only [ldS] at h ⊢
    cases hc : cellsAt w a 0 n with
    | none => rw [hc] at h; exact h.elim
    | some vs => rw [hc] at h; exact hk _ h
theorem ld_mono {x : Value} {w : World} {k k' : Value → Prop} (hk : ∀ v, k v → k' v) (h : ld x w k) : ld x w k' := by
  cases x <;> first | exact h.elim | skip
  rename_i a
  cases a with
  | none => exact h.elim
  | some a =>
    simp only [ld] at h ⊢
    cases hc : w.cell? a with
    | none => rw [hc] at h; exact h.elim
    | some vs => rw [hc] at h; exact hk _ h

def rvx (tmps : Array Value) : ResultVar → Sem Value
  | .tmp t => pure (tmps.getD t undef)
  | .cell a t => do loadVar t (← asAddr (tmps.getD a undef))

theorem finV_run {R : Value → World → Prop} {fr : Fr} {w : World} : ∀ (rs : List ResultVar) (vs : List Value), finV P R fr w rs vs →
    ∃ us : List Value, (rs.mapM (rvx fr.toArray)).run P w = .ok us w ∧
      finR R w (vs ++ us)
  | [], vs, h => ⟨[], rfl, by simp only [finV] at h; simp only [List.append_nil]; exact h⟩
  | .tmp t :: r, vs, h => by
    obtain ⟨us, h1, h2⟩ := finV_run r _ h
    refine ⟨fr.getD t undef :: us, ?_, by simpa using h2⟩
    simp only [List.mapM_cons, rvx, Sem.run_bind, Sem.run_pure, Result.andThen_ok, h1]
    simp
  | .cell a t :: r, vs, h => by
    simp only [finV] at h
    have step : ∀ v, (do loadVar t (← asAddr (fr.toArray.getD a undef)) : Sem Value).run P w = .ok v w → finV P R fr w r (vs ++ [v]) →
        ∃ us : List Value, ((ResultVar.cell a t :: r).mapM (rvx fr.toArray)).run P w = .ok us w ∧ finR R w (vs ++ us) := fun v hv hk => by
      obtain ⟨us, h1, h2⟩ := finV_run r _ hk
      refine ⟨v :: us, ?_, by simpa using h2⟩
      simp only [List.mapM_cons, rvx, Sem.run_bind, Sem.run_pure, Result.andThen_ok, h1]
      simp only [Sem.run_bind] at hv
      rw [hv]; simp only [Result.andThen_ok, h1]
    have eg : fr.toArray.getD a undef = fr.getD a undef := by simp
    split at h
    · rename_i d hu
      split at h
      · rename_i hd
        split at h
        · rename_i n hs
          have hrn := ldS_sound (P := P) (t := t) (K := fun v w' => w' = w ∧ finV P R fr w r (vs ++ [v])) hu hd hs (ldS_mono (fun v hv => ⟨rfl, hv⟩) h)
          unfold rn at hrn
          split at hrn
          · rename_i v w' hr
            obtain ⟨rfl, hk⟩ := hrn
            refine step v ?_ hk
            unfold ldS at h
            split at h
            · rename_i p hp
              rw [hp] at hr
              simp only [eg, hp, asAddr, Sem.run_bind, Sem.run_pure, Result.andThen_ok]
              simpa [Instr.loadAt, Instr.sureAddr] using hr
            · exact h.elim
          · exact hrn.elim
        · exact h.elim
      · rename_i hd
        have hrn := ld_sound (P := P) (t := t) (K := fun v w' => w' = w ∧ finV P R fr w r (vs ++ [v])) hu hd (ld_mono (fun v hv => ⟨rfl, hv⟩) h)
        unfold rn at hrn
        split at hrn
        · rename_i v w' hr
          obtain ⟨rfl, hk⟩ := hrn
          refine step v ?_ hk
          unfold ld at h
          split at h
          · rename_i p hp
            rw [hp] at hr
            simp only [eg, hp, asAddr, Sem.run_bind, Sem.run_pure, Result.andThen_ok]
            simpa [Instr.loadAt, Instr.sureAddr] using hr
          · exact h.elim
        · exact hrn.elim
    · exact h.elim

/-- A function's body as a predicate on its arguments. -/
def vxF (P : Program) (fn : Func) (args : List Value) (w : World) (R : Value → World → Prop) : Prop :=
  match fn.body with
  | some c => vx P c (fun fr w => finV P R fr w fn.results.toList []) (fun _ _ _ => False) (fun fr w => finV P R fr w fn.results.toList []) (args ++ List.replicate (fn.ntmps - args.length) undef) w
  | none => False

theorem results_run {fn : Func} {R : Value → World → Prop} (fr : Fr) (w : World) (hv : finV P R fr w fn.results.toList []) : ∃ v, (results fn (act fr).tmps).run P w = .ok v w ∧ R v w := by
  obtain ⟨us, h1, h2⟩ := finV_run _ _ hv
  have er : results fn (act fr).tmps = (do let vs ← fn.results.mapM (rvx (act fr).tmps); pure (if h : vs.size = 1 then vs[0] else .tuple vs)) := by
    unfold results
    rfl
  rw [er, Array.mapM_eq_mapM_toList]
  have h1' : (fn.results.toList.mapM (rvx (act fr).tmps)).run P w = .ok us w := h1
  simp only [Sem.run_bind, Sem.run_map, h1', Result.andThen_ok, Sem.run_pure]
  simp only [List.nil_append] at h2
  match us, h2 with
  | [], h2 => exact ⟨_, rfl, h2⟩
  | [v], h2 => exact ⟨_, rfl, h2⟩
  | u :: v :: r, h2 => exact ⟨_, rfl, h2⟩
theorem calls_of_vx {f : FuncId} {fn : Func} {args : List Value} {w : World} {R : Value → World → Prop} (hf : P.funcs[f]? = some fn) (h : vxF P fn args w R) : CallsV P f args.toArray w R := by
  unfold vxF at h
  split at h
  · rename_i c hb
    refine calls_of_wp hf hb ?_
    have e : ({ tmps := args.toArray ++ Array.replicate (fn.ntmps - args.toArray.size) undef, defers := [] } : Act) = act (args ++ List.replicate (fn.ntmps - args.length) undef) := by
      simp only [act]; congr 1; apply Array.toList_inj.1; simp
    rw [e]
    have fin : ∀ fr w, finV P R fr w fn.results.toList [] → ∃ v, (results fn (act fr).tmps).run P w = .ok v w ∧ R v w := fun fr w hv => results_run fr w hv
    refine wp_mono (vx_sound c _ _ _ _ _ h) ?_
    rintro ex a w ⟨fr', rfl, -, hk⟩
    cases ex with
    | normal => obtain ⟨v, h1, h2⟩ := fin _ _ hk; exact ⟨rfl, v, h1, v, rfl, h2⟩
    | ret => obtain ⟨v, h1, h2⟩ := fin _ _ hk; exact ⟨rfl, v, h1, v, rfl, h2⟩
    | exit i => exact hk.elim
    | _ => exact hk.elim
  · exact h.elim

/-! Words for the printed functions. -/
abbrev fnv (f : FuncId) : Value := .func (.func f) #[] #[]
structure hasB (P : Program) (f : FuncId) : Prop where
  out : match P.funcs[f]? with | some fn => fn.name ≠ "runtime.NumGoroutine" ∧ fn.body.isSome = true | none => False
theorem hasB.mk' {P : Program} {f : FuncId} {fn : Func} (h : P.funcs[f]? = some fn) (h1 : fn.name ≠ "runtime.NumGoroutine") (h2 : fn.body.isSome = true) : hasB P f := ⟨by rw [h]; exact ⟨h1, h2⟩⟩
theorem call_ok {P : Program} {f : FuncId} {args : List Value} {w : World} {K R : Value → World → Prop} (hb : hasB P f) (h : CallsV P f args.toArray w R) (hk : ∀ v w', R v w' → K v w') :
    callv P (fnv f) args w K := by
  refine ⟨hb.out, ?_⟩
  have e : (#[] ++ args.toArray ++ #[] : Array Value) = args.toArray := by simp
  rw [e]
  exact h.mono hk
def rgIn : Nat → Code → Option (Array Oper)
  | n, .region id ops _ => match Nat.beq id n with | true => some ops | false => none
  | n, .seq a b => match rgIn n a with | some o => some o | none => rgIn n b
  | n, .cond _ a b => match rgIn n a with | some o => some o | none => rgIn n b
  | n, .block _ c => rgIn n c
  | n, .loop c => rgIn n c
  | n, .scope c => rgIn n c
  | _, _ => none
def rgO (fn : Func) (n : Nat) : Array Oper := match fn.body with | some c => (match rgIn n c with | some o => o | none => #[]) | none => #[]

end Go.Proofs.YtkpefimnggojdaaGreat.VX
