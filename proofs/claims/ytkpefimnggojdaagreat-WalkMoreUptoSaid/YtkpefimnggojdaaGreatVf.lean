/-
  VX, part f: 'opx_sound'.
-/
import Derived.Test.YtkpefimnggojdaaGreatVd
set_option linter.all false
namespace Go.Proofs.YtkpefimnggojdaaGreat.VX
open Go
variable {P : Program}
attribute [local semireducible] rn

theorem key_ok {kd : TypeDesc} {kt : TypeId} (hk : P.underlying kt = some kd) (hd : (∃ q, kd = .int q) ∨ kd = .string) (e : Bool) (v : Value) (w : World) : (Instr.checkKey e 10000 kt v).run P w = .ok () w := by
  unfold Instr.checkKey
  rw [Sem.run_bind, under_run hk, Result.andThen_ok]
  rcases hd with ⟨q, rfl⟩ | rfl <;> rfl

theorem find_run {kd : TypeDesc} {kt : TypeId} (hk : P.underlying kt = some kd) {k : Value} {es : List MapEntry} {r : Option (Nat × Value)} (h : Instr.findNow kd k es 0 = some r) (w : World) :
    (Instr.findKey kt k es).run P w = .ok r w := by
  unfold Instr.findKey
  rw [Sem.run_bind, under_run hk, Result.andThen_ok, h]
  rfl

theorem zero_run {t : TypeId} {z : Value} (h : (P.info? t).bind (·.zero) = some z) (w : World) : (zeroValue t).run P w = .ok z w := by
  cases hi : P.info? t with
  | none => rw [hi] at h; cases h
  | some i =>
    rw [hi] at h
    have h' : i.zero = some z := h
    simp [zeroValue, typeInfo, hi, h', program, Sem.run]

theorem get_run {r : Nat} {o : Obj} {w : World} (h : w.heap[r]? = some o) (hn : ∀ c t f, o ≠ .cells c t f) : (getObj r).run P w = .ok o w := by
  cases o <;> first | (exact absurd rfl (hn _ _ _)) | simp [getObj, Sem.run, h]
theorem set_run {r : Nat} {o o' : Obj} {w : World} (h : w.heap[r]? = some o) (hn : ∀ c t f, o ≠ .cells c t f) : (setObj r o').run P w = .ok () { w with heap := w.heap.setIfInBounds r o' } := by
  cases o <;> first | (exact absurd rfl (hn _ _ _)) | simp [setObj, Sem.run, h]

theorem lk_sound {kd : TypeDesc} {t kt e : TypeId} {z x i : Value} {ok : Bool} {w : World} {K : Value → World → Prop} (hu : P.underlying t = some (.map kt e)) (hk : P.underlying kt = some kd) (hd : (∃ q, kd = .int q) ∨ kd = .string)
    (hz : (P.info? e).bind (·.zero) = some z) (h : lk kd z x i ok w fun v => K v w) : rn P (Instr.lookup t x i ok) w K := by
  cases x <;> first | exact h.elim | skip
  rename_i r
  cases r with
  | none =>
    cases ok <;>
    · refine rn_ok (w' := w) ?_ h
      simp [Instr.lookup, under_run hu, key_ok hk hd, find_run hk (show Instr.findNow kd i [] 0 = some none from rfl), zero_run hz]
  | some r =>
    simp only [lk] at h
    split at h
    · rename_i es clock hb
      have hg := get_run (P := P) hb (by intros; simp)
      split at h
      · rename_i j v hf
        cases ok <;>
        · refine rn_ok (w' := w) ?_ h
          simp [Instr.lookup, under_run hu, hg, key_ok hk hd, find_run hk hf]
      · rename_i hf
        cases ok <;>
        · refine rn_ok (w' := w) ?_ h
          simp [Instr.lookup, under_run hu, hg, key_ok hk hd, find_run hk hf, zero_run hz]
      · exact h.elim
    · exact h.elim

theorem mux_sound {kd : TypeDesc} {t kt e : TypeId} {m k v : Value} {w : World} {K : Unit → World → Prop} (hu : P.underlying t = some (.map kt e)) (hk : P.underlying kt = some kd) (hd : (∃ q, kd = .int q) ∨ kd = .string)
    (h : mux kd m k v w fun w' => K () w') : rn P (Instr.mapUpdate t m k v) w K := by
  unfold mux at h
  split at h
  · rename_i r
    split at h
    · rename_i es clock hb
      have hg := get_run (P := P) hb (by intros; simp)
      have hset := fun o => set_run (P := P) (o' := o) hb (by intros; simp)
      split at h
      · rename_i j v0 hf
        obtain ⟨h1, h2, h⟩ := h
        refine rn_ok ?_ h
        simp [Instr.mapUpdate, under_run hu, hg, key_ok hk hd, find_run hk hf, h1, Instr.keyThatStays, h2, hset]
      · rename_i hf
        refine rn_ok ?_ h
        simp [Instr.mapUpdate, under_run hu, hg, key_ok hk hd, find_run hk hf, hset]
      · exact h.elim
    · exact h.elim
  · exact h.elim

theorem delx_sound {kd : TypeDesc} {t kt e ty : TypeId} {ts : List TypeId} {m k : Value} {w : World} {K : Value → World → Prop} (hu : P.underlying t = some (.map kt e)) (hk : P.underlying kt = some kd) (hd : (∃ q, kd = .int q) ∨ kd = .string)
    (h : delx kd m k w fun w' => K undef w') : rn P (Builtin.delete_ (t :: ts).toArray ty #[m, k]) w K := by
  unfold delx at h
  split at h
  · refine rn_ok (v := undef) (w' := w) ?_ h
    simp [Builtin.delete_, under_run hu, key_ok hk hd, undef]
  · rename_i r
    split at h
    · rename_i es clock hb
      have hg := get_run (P := P) hb (by intros; simp)
      have hset := fun o => set_run (P := P) (o' := o) hb (by intros; simp)
      split at h
      · rename_i j v0 hf
        refine rn_ok (v := undef) ?_ h
        simp [Builtin.delete_, under_run hu, hg, key_ok hk hd, find_run hk hf, hset, undef]
      · rename_i hf
        refine rn_ok (v := undef) ?_ h
        simp [Builtin.delete_, under_run hu, hg, key_ok hk hd, find_run hk hf, hset, undef]
      · exact h.elim
    · exact h.elim
  · exact h.elim

theorem lenS_sound {t ty : TypeId} {x : Value} {w : World} {K : Value → World → Prop} (hu : P.underlying t = some .string) (h : lenS x fun v => K v w) : rn P (Builtin.len_ #[t] ty #[x]) w K := by
  cases x <;> first | exact h.elim | skip
  refine rn_ok (w' := w) ?_ h
  simp [Builtin.len_, under_run hu, goInt]
theorem lenV_sound {t ty e : TypeId} {x : Value} {w : World} {K : Value → World → Prop} (hu : P.underlying t = some (.slice e)) (h : lenV x fun v => K v w) : rn P (Builtin.len_ #[t] ty #[x]) w K := by
  cases x <;> first | exact h.elim | skip
  refine rn_ok (w' := w) ?_ h
  simp [Builtin.len_, under_run hu, goInt]
theorem lenM_sound {t ty k e : TypeId} {x : Value} {w : World} {K : Value → World → Prop} (hu : P.underlying t = some (.map k e)) (h : lenM x w fun v => K v w) : rn P (Builtin.len_ #[t] ty #[x]) w K := by
  cases x <;> first | exact h.elim | skip
  rename_i r
  cases r with
  | none =>
    refine rn_ok (w' := w) ?_ h
    simp [Builtin.len_, under_run hu, goInt]
  | some r =>
    simp only [lenM] at h
    split at h
    · rename_i es clock hb
      have hg := get_run (P := P) hb (by intros; simp)
      refine rn_ok (w' := w) ?_ h
      simp [Builtin.len_, under_run hu, goInt, hg]
    · exact h.elim

theorem enx_sound {it : Value} {w : World} {K : Value → World → Prop} (h : enx it w fun v => K v w) : rn P (Instr.entry it) w K := by
  unfold enx at h
  split at h
  · rename_i r sp
    split at h
    · rename_i m since seen stepped hb
      have hg := get_run (P := P) hb (by intros; simp)
      split at h
      · rename_i stamp es clock hs hm
        have hg2 := get_run (P := P) hm (by intros; simp)
        obtain ⟨hc, h⟩ := h
        split at h
        · rename_i e he
          refine rn_ok (w' := w) ?_ h
          simp [Instr.entry, hg, hs, hg2, hc, he]
        · exact h.elim
      · exact h.elim
    · exact h.elim
  · exact h.elim

theorem rgS_sound {t : TypeId} {x : Value} {w : World} {K : Value → World → Prop} (hu : P.underlying t = some .string) (h : rgS x w K) : rn P (Instr.range t x) w K := by
  unfold rgS at h
  split at h
  · refine rn_ok ?_ h
    simp [Instr.range, under_run hu, newObj, Sem.run]
  · exact h.elim

theorem rgM_sound {t k e : TypeId} {x : Value} {w : World} {K : Value → World → Prop} (hu : P.underlying t = some (.map k e)) (h : rgM x w K) : rn P (Instr.range t x) w K := by
  unfold rgM at h
  split at h
  · refine rn_ok ?_ h
    simp [Instr.range, under_run hu, newObj, Sem.run]
  · split at h
    · rename_i hb
      refine rn_ok ?_ h
      simp [Instr.range, under_run hu, newObj, Sem.run, get_run hb]
    · exact h.elim
  · exact h.elim

theorem nxS_sound {it : Value} {ty : TypeId} {w : World} {K : Value → World → Prop} (h : nxS it w K) : rn P (Instr.next it true ty) w K := by
  unfold nxS at h
  split at h
  · rename_i r sp
    split at h
    · rename_i s pos hb
      have hg := get_run (P := P) hb (by intros; simp)
      have hset := fun o => set_run (P := P) (o' := o) hb (by intros; simp)
      split at h
      · rename_i hlt
        refine rn_ok ?_ h
        have : pos < s.size := hlt
        simp [Instr.next, hg, this, hset, goInt]
      · rename_i hlt
        refine rn_ok ?_ h
        have : ¬ pos < s.size := hlt
        simp [Instr.next, hg, this]
    · exact h.elim
  · exact h.elim

theorem mks_sound {t e : TypeId} {i : TypeInfo} {zs : List Value} {l c : Value} {w : World} {K : Value → World → Prop} (hu : P.underlying t = some (.slice e)) (hi : P.info? e = some i) (hz : zOf P e = some zs)
    (hl : zs.length = i.size) (hn : 0 < i.size) (h : mks e zs i.bytes l c w K) : rn P (Instr.makeSlice t l c) w K := by
  obtain ⟨z, hz0, rfl⟩ := zOf_some hz
  unfold mks at h
  split at h
  · rename_i l c
    obtain ⟨⟨h0, h1, h2, h3⟩, h⟩ := h
    have hti : (typeInfo e).run P w = .ok i w := by simp [typeInfo, hi, program, Sem.run]
    have hsz : (sizeOf e).run P w = .ok i.size w := size_run (by simp [szOf, hi]) w
    have wl : IntKind.i64.wrap l = l := IntWalk.i64_in _ (by omega)
    have wc : IntKind.i64.wrap c = c := IntWalk.i64_in _ (by omega)
    have ask : ∀ n, (askRoom n).run P w = .ok () w := by intro n; unfold askRoom; split <;> simp [mark, Sem.run]
    refine rn_ok ?_ h
    have hrow : (Array.range (c.toNat * i.size)).map (fun x => z.cells[x % z.cells.size]!) = ((List.replicate c.toNat z.cells.toList).flatten).toArray := by
      rw [← rep_flat z.cells.toList (by omega) c.toNat, hl]
      apply Array.toList_inj.1
      simp
    have hb : ¬ ((i.bytes : Int) * c > 2 ^ 48) := by omega
    by_cases hc : c.toNat * i.size = 0
    · have hc0 : c.toNat = 0 := by rcases Nat.mul_eq_zero.1 hc with h' | h' <;> omega
      have : c = 0 := by omega
      subst this
      have : l = 0 := by omega
      subst this
      simp [Instr.makeSlice, asInt, asIntOf, under_run hu, hti, wl, ask, hsz, newRow, newObj, Sem.run]
      have : Array.range 0 = #[] := rfl
      rw [this]; simp
    · simp [Instr.makeSlice, asInt, asIntOf, under_run hu, hti, wl, wc, ask, hsz, hc, zero_run hz0, hrow, newRow, newObj, Sem.run]
      intro hbad; exfalso; omega
  · exact h.elim

theorem maxx_run {k : IntKind} {a b : Int} {ts : Array TypeId} {ty : TypeId} {w : World} : (Builtin.max_ ts ty #[.int k a, .int k b]).run P w = .ok (.int k (max a b)) w := by
  have : (if b > a then b else a) = max a b := by
    by_cases h : b > a
    · rw [if_pos h]; omega
    · rw [if_neg h]; omega
  simp [Builtin.max_, Builtin.max2, this]
theorem minx_run {k : IntKind} {a b : Int} {ts : Array TypeId} {ty : TypeId} {w : World} : (Builtin.min_ ts ty #[.int k a, .int k b]).run P w = .ok (.int k (min a b)) w := by
  have : (if b < a then b else a) = min a b := by
    by_cases h : b < a
    · rw [if_pos h]; omega
    · rw [if_neg h]; omega
  simp [Builtin.min_, Builtin.min2, this]

theorem up_value {o : Oper} {a : Act} {w : World} {next : Act → World → Prop} {Q : Exit → Act → World → Prop} {s : Sem Value} (he : execOp a.eval o = do pure (.value (← s)))
    {K : Value → World → Prop} (h : rn P s w K) (hn : ∀ v w', K v w' → next (a.put o.dst v) w') : o.wp P a w next Q := by
  unfold Oper.wp
  rw [he, Sem.run_bind]
  unfold rn at h
  split at h
  · rename_i v w' hs; rw [hs]; exact hn _ _ h
  · exact h.elim

theorem up_unit {o : Oper} {a : Act} {w : World} {next : Act → World → Prop} {Q : Exit → Act → World → Prop} {s : Sem Unit} (he : execOp a.eval o = do s; pure .skip)
    {K : Value → World → Prop} (h : rn P s w fun _ w' => K undef w') (hn : ∀ v w', K v w' → next (a.put o.dst v) w') : o.wp P a w next Q := by
  unfold Oper.wp
  rw [he, Sem.run_bind]
  unfold rn at h
  split at h
  · rename_i v w' hs; rw [hs]; exact hn _ _ h
  · exact h.elim

theorem wpIn_of_wp {ro : Option Nat} {o : Oper} {a : Act} {w : World} {next : Act → World → Prop} {Q : Exit → Act → World → Prop} (hd : ∀ c, o.op ≠ .defer c) (h : o.wp P a w next Q) : o.wpIn (F0 ro) 0 P a w next Q := by
  refine ⟨fun _ _ => trivial, ?_⟩
  rw [Oper.semAt_eq _ _ _ hd]
  unfold Oper.wp at h
  generalize (execOp a.eval o).run P w = r at *
  cases r with
  | halt x w' => cases x <;> first | exact h | exact h.elim
  | ok x w' =>
    cases x with
    | value v => exact h
    | skip => exact h
    | defer d => exact h
    | enter f args => exact ⟨fun hh => by (cases hh), callsIn_F0 h⟩
    | row row args =>
      refine ⟨fun hh => by (cases hh), fun c cs _ => ?_⟩
      obtain ⟨v, w'', r, s⟩ := h c cs
      exact ⟨v, w'', r, stepsIn_wide.2 s⟩
    | _ => exact h.elim
theorem callv_sound {ro : Option Nat} {o : Oper} {a : Act} {w : World} {next : Act → World → Prop} {Q : Exit → Act → World → Prop} {f : Operand} {c : Call} (ho : o.op = .call c) (hc : c.callee = .value f)
    {K : Value → World → Prop} (h : callv P (a.eval f) (c.args.toList.map a.eval) w K) (hn : ∀ v w', K v w' → next (a.put o.dst v) w') : o.wpIn (F0 ro) 0 P a w next Q := by
  have e : (List.map a.eval c.args.toList).toArray = c.args.map a.eval := by apply Array.toList_inj.1; simp
  unfold callv at h
  split at h
  · rename_i g first cap hf
    refine wpIn_of_wp (fun c' h' => by rw [ho] at h'; cases h') ?_
    obtain ⟨hb, h⟩ := h
    split at hb
    · rename_i fn hfn
      unfold Oper.wp
      have : (execOp a.eval o).run P w = .ok (.enter g (first ++ (c.args.toList.map a.eval).toArray ++ cap)) w := by
        have hbn : fn.body ≠ none := by intro hh; rw [hh] at hb; cases hb.2
        unfold execOp
        rw [ho]
        simp only [resolve, hc, hf, Deferred.ofValue, Sem.run_bind, Sem.run_pure, Result.andThen_ok, invoke, callFunc, program]
        simp [Sem.run, hfn, hb.1, hbn, e]
      rw [this]
      exact Calls.mono h fun e w' ⟨v, he, hv⟩ => by subst he; exact hn _ _ hv
    · exact hb.elim
  · rename_i l first cap hf
    obtain ⟨g, tmps, assign, body, w', hy, hr⟩ := h
    refine ⟨fun _ _ => trivial, ?_⟩
    rw [Oper.semAt_eq _ _ _ (fun c' h' => by rw [ho] at h'; cases h')]
    have : (execOp a.eval o).run P w = .ok (.round l g tmps assign body) w' := by
      unfold execOp
      rw [ho]
      simp only [resolve, hc, hf, Deferred.ofValue, Sem.run_bind, Sem.run_pure, Result.andThen_ok, invoke]
      rw [e] at hy
      exact hy
    rw [this]
    refine ⟨fun hh => by (cases hh), ?_⟩
    have hr' : RoundIn (F0 ro) 0 P l g tmps assign body w' fun e w'' => ∃ v, e = .returned v ∧ K v w'' := hr
    refine hr'.mono ?_
    rintro e w'' ⟨v, rfl, hv⟩
    exact hn _ _ hv
  · exact h.elim

end Go.Proofs.YtkpefimnggojdaaGreat.VX
