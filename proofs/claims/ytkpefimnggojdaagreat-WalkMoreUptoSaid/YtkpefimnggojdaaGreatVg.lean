/-
  VX, part g: 'opx_sound'.
-/
import Derived.Test.YtkpefimnggojdaaGreatVf
set_option linter.all false
namespace Go.Proofs.YtkpefimnggojdaaGreat.VX
open Go
variable {P : Program}
attribute [local semireducible] rn

set_option maxHeartbeats 1000000 in
theorem opx_sound {ro : Option Nat} {o : Oper} {a : Act} {w : World} {next : Act → World → Prop} {Q : Exit → Act → World → Prop} {K : Value → World → Prop} (h : opx P o.op o.type a.eval w K) (hn : ∀ v w', K v w' → next (a.put o.dst v) w') : o.wpIn (F0 ro) 0 P a w next Q := by
  obtain ⟨dst, op, type, pos, after, guard⟩ := o
  simp only at h hn
  cases op <;> simp only [opx] at h <;> try exact h.elim
  case move =>
    refine wpIn_of_wp (fun c h' => by cases h') ?_
    exact hn _ _ h
  case assign =>
    refine wpIn_of_wp (fun c h' => by cases h') ?_
    exact hn _ _ h
  case pick c x y =>
    refine wpIn_of_wp (fun c h' => by cases h') ?_
    refine up_value (s := do pure (if ← asBool (a.eval c) then a.eval x else a.eval y)) (by simp [execOp]) ?_ hn
    unfold pickx at h
    split at h
    · rename_i hc; rw [hc]; exact h
    · rename_i hc; rw [hc]; exact h
    · exact h.elim
  case alloc t =>
    refine wpIn_of_wp (fun c h' => by cases h') ?_
    refine up_value rfl ?_ hn
    split at h
    · rename_i zs hz
      obtain ⟨z, hz0, rfl⟩ := zOf_some hz
      exact rn_bind (rn_zero hz0 (rn_bind (rn_newRow h)))
    · exact h.elim
  case box t x =>
    refine wpIn_of_wp (fun c h' => by cases h') ?_
    refine up_value rfl ?_ hn
    exact rn_bind (rn_newRow h)
  case build t parts =>
    refine wpIn_of_wp (fun c h' => by cases h') ?_
    refine up_value rfl ?_ hn
    split at h
    · rename_i fields zs hu hz
      split at h
      · rename_i pl hpl
        split at h
        · rename_i ps hps; exact build_struct hu hz hpl hps h
        · exact h.elim
      · exact h.elim
    · rename_i len e zs hu hz
      split at h
      · rename_i n hs
        split at h
        · rename_i ps hps; exact build_array hu hz hs hps h
        · exact h.elim
      · exact h.elim
    · exact h.elim
  case buildSlice t len parts =>
    refine wpIn_of_wp (fun c h' => by cases h') ?_
    refine up_value rfl ?_ hn
    split at h
    · rename_i e hu
      split at h
      · rename_i n zs hs hz
        split at h
        · rename_i hc
          split at h
          · rename_i ps hps; exact bsl_sound hu hs hz hc.1 hc.2.1 hc.2.2 hps h
          · exact h.elim
        · exact h.elim
      · exact h.elim
    · exact h.elim
  case load t x =>
    refine wpIn_of_wp (fun c h' => by cases h') ?_
    refine up_value rfl ?_ hn
    split at h
    · rename_i d hu
      split at h
      · rename_i hd
        split at h
        · rename_i n hs; exact ldS_sound hu hd hs h
        · exact h.elim
      · rename_i hd; exact ld_sound hu hd h
    · exact h.elim
  case store t x y =>
    refine wpIn_of_wp (fun c h' => by cases h') ?_
    refine up_unit rfl ?_ hn
    split at h
    · rename_i n hs; exact st_sound hs h
    · exact h.elim
  case nilCheck x =>
    refine wpIn_of_wp (fun c h' => by cases h') ?_
    unfold nck at h
    have fin : ∀ v, a.eval x = v → (execOp a.eval ⟨dst, .nilCheck x, type, pos, after, guard⟩ = pure (.value v)) → K v w → Oper.wp P ⟨dst, .nilCheck x, type, pos, after, guard⟩ a w next Q := by
      intro v _ he hk; unfold Oper.wp; rw [he]; exact hn _ _ hk
    split at h
    · rename_i p hx; exact fin _ hx (by unfold execOp; simp only [hx]) h
    · rename_i f b c hx; exact fin _ hx (by unfold execOp; simp only [hx]) h
    · rename_i t v hx; exact fin _ hx (by unfold execOp; simp only [hx]) h
    · exact h.elim
  case binOp op t x y yt =>
    refine wpIn_of_wp (fun c h' => by cases h') ?_
    refine up_value rfl ?_ hn
    have gi : ∀ {X : Value} , (∀ cs, X ≠ .agg cs) ∧ X ≠ .nilIface → a.eval x = X → rn P (binOp op t (a.eval x) (a.eval y)) w (K) → rn P (do eqGuard op t x y (a.eval x) (a.eval y); binOp op t (a.eval x) (a.eval y)) w (K) := by
      intro X hX hx hr
      exact rn_bind (rn_ok (v := ()) (w' := w) (guard_run (hx ▸ hX)) hr)
    split at h
    · refine gi (X := a.eval x) ?_ rfl ?_
      · unfold bin at h; split at h
        · rename_i hx _; rw [hx]; exact ⟨by intros; simp, by simp⟩
        · rename_i hx _; rw [hx]; exact ⟨by intros; simp, by simp⟩
        · exact h.elim
      · unfold bin at h; split at h
        · rename_i hx hy; rw [hx, hy]; exact binI_sound h.1 h.2
        · rename_i hx hy; rw [hx, hy]; exact binS_sound h
        · exact h.elim
    · refine gi (X := a.eval x) ?_ rfl ?_
      · unfold bin at h; split at h
        · rename_i hx _; rw [hx]; exact ⟨by intros; simp, by simp⟩
        · rename_i hx _; rw [hx]; exact ⟨by intros; simp, by simp⟩
        · exact h.elim
      · unfold bin at h; split at h
        · rename_i hx hy; rw [hx, hy]; exact binI_sound h.1 h.2
        · rename_i hx hy; rw [hx, hy]; exact binS_sound h
        · exact h.elim
    · rename_i hu
      refine gi (X := a.eval x) ?_ rfl (binB_sound hu h)
      unfold binB at h; split at h
      · rename_i hx _; rw [hx]; exact ⟨by intros; simp, by simp⟩
      · exact h.elim
    · rename_i e hu
      split at h
      · rename_i n hs
        refine gi (X := a.eval x) ?_ rfl (binP_sound hu hs h)
        unfold binP at h; split at h
        · rename_i hx _; rw [hx]; exact ⟨by intros; simp, by simp⟩
        · rename_i hx _; rw [hx]; exact ⟨by intros; simp, by simp⟩
        · rename_i hx _; rw [hx]; exact ⟨by intros; simp, by simp⟩
        · exact h.elim
      · exact h.elim
    · rename_i e hu
      refine gi (X := a.eval x) ?_ rfl (binL_sound hu h)
      unfold binL at h; split at h
      · rename_i hx _; rw [hx]; exact ⟨by intros; simp, by simp⟩
      · rename_i hx _; rw [hx]; exact ⟨by intros; simp, by simp⟩
      · exact h.elim
    · rename_i k e hu
      refine gi (X := a.eval x) ?_ rfl (binM_sound hu h)
      unfold binM at h; split at h
      · rename_i hx _; rw [hx]; exact ⟨by intros; simp, by simp⟩
      · rename_i hx _; rw [hx]; exact ⟨by intros; simp, by simp⟩
      · exact h.elim
    · rename_i p q r hu
      refine gi (X := a.eval x) ?_ rfl (binF_sound hu h)
      unfold binF at h; split at h
      · rename_i hx _; rw [hx]; exact ⟨by intros; simp, by simp⟩
      · rename_i hx _; rw [hx]; exact ⟨by intros; simp, by simp⟩
      · exact h.elim
    · exact h
  case unOp op t x =>
    refine wpIn_of_wp (fun c h' => by cases h') ?_
    refine up_value rfl ?_ hn
    unfold un at h
    split at h
    · rename_i hx; rw [hx]; exact h
    · rename_i k n hx
      rw [hx]
      refine rn_ok (w' := w) ?_ h
      simp [Op.unary, Op.intArith]
    · exact h.elim
  case convert src dst' x =>
    refine wpIn_of_wp (fun c h' => by cases h') ?_
    refine up_value rfl ?_ hn
    split at h
    · rename_i k k' h1 h2
      unfold cvI at h
      split at h
      · rename_i q n hx
        rw [hx]
        refine rn_ok (w' := w) ?_ h
        simp [convert, under_run h1, under_run h2, Conv.intToInt]
      · exact h.elim
    · exact h
  case makeInterface =>
    refine wpIn_of_wp (fun c h' => by cases h') ?_
    exact up_value rfl h hn
  case makeFunc fn first cap =>
    refine wpIn_of_wp (fun c h' => by cases h') ?_
    refine up_value rfl ?_ hn
    have e1 : (first.toList.map a.eval).toArray = first.map a.eval := by apply Array.toList_inj.1; simp
    have e2 : (cap.toList.map a.eval).toArray = cap.map a.eval := by apply Array.toList_inj.1; simp
    rw [e1, e2] at h
    exact h
  case makeMap t r =>
    refine wpIn_of_wp (fun c h' => by cases h') ?_
    refine up_value rfl ?_ hn
    cases r with
    | none => exact rn_bind (rn_newObj h)
    | some r =>
      simp only [opx] at h
      split at h
      · rename_i k e hu
        unfold mkmapN at h
        split at h
        · rename_i q n hx
          refine rn_ok ?_ h
          simp [Instr.makeMap, under_run hu, hx, asInt, asIntOf, newObj, Sem.run]
        · exact h.elim
      · exact h.elim
  case makeSlice t l c =>
    refine wpIn_of_wp (fun c h' => by cases h') ?_
    refine up_value rfl ?_ hn
    split at h
    · rename_i e hu
      split at h
      · rename_i i zs hi hz
        split at h
        · rename_i hc; exact mks_sound hu hi hz hc.1 hc.2 h
        · exact h.elim
      · exact h.elim
    · exact h.elim
  case slice t x lo hi mx =>
    refine wpIn_of_wp (fun c h' => by cases h') ?_
    refine up_value rfl ?_ hn
    split at h
    · rename_i hu
      split at h
      · exact slS_sound hu h
      · exact h.elim
    · rename_i e hu
      split at h
      · rename_i n hs; exact slV_sound hu hs h
      · exact h.elim
    · exact h
  case fieldAddr s x f =>
    refine wpIn_of_wp (fun c h' => by cases h') ?_
    refine up_value rfl ?_ hn
    split at h
    · rename_i fields hu
      split at h
      · rename_i fl hf
        split at h
        · rename_i n hs; exact fieldAt_sound hu hf hs h
        · exact h.elim
      · exact h.elim
    · exact h.elim
  case field s x f =>
    refine wpIn_of_wp (fun c h' => by cases h') ?_
    refine up_value rfl ?_ hn
    split at h
    · rename_i fields hu
      split at h
      · rename_i fl hf
        split at h
        · rename_i d n hd hs; exact field_sound hu hf hd hs h
        · exact h.elim
      · exact h.elim
    · exact h.elim
  case indexAddr t x i =>
    refine wpIn_of_wp (fun c h' => by cases h') ?_
    refine up_value rfl ?_ hn
    split at h
    · rename_i e hu
      split at h
      · rename_i n hs; exact ia_sound hu hs h
      · exact h.elim
    · rename_i len e hu
      split at h
      · rename_i n hs; exact iaA_sound hu hs h
      · exact h.elim
    · exact h.elim
  case index t x i =>
    refine wpIn_of_wp (fun c h' => by cases h') ?_
    refine up_value rfl ?_ hn
    split at h
    · rename_i hu; exact ixS_sound hu h
    · rename_i len e hu
      split at h
      · rename_i d n hd hs; exact ixA_sound hu hd hs h
      · exact h.elim
    · exact h.elim
  case lookup t x i ok =>
    refine wpIn_of_wp (fun c h' => by cases h') ?_
    refine up_value rfl ?_ hn
    split at h
    · rename_i k e hu
      split at h
      · rename_i q z hk hz; exact lk_sound hu hk (.inl ⟨q, rfl⟩) hz h
      · rename_i z hk hz; exact lk_sound hu hk (.inr rfl) hz h
      · exact h.elim
    · exact h.elim
  case mapUpdate t m k x =>
    refine wpIn_of_wp (fun c h' => by cases h') ?_
    refine up_unit rfl ?_ hn
    split at h
    · rename_i kt e hu
      split at h
      · rename_i q hk; exact mux_sound hu hk (.inl ⟨q, rfl⟩) h
      · rename_i hk; exact mux_sound hu hk (.inr rfl) h
      · exact h.elim
    · exact h.elim
  case mapEntry =>
    refine wpIn_of_wp (fun c h' => by cases h') ?_
    exact up_value rfl h hn
  case entryStore =>
    refine wpIn_of_wp (fun c h' => by cases h') ?_
    exact up_unit rfl h hn
  case range t x =>
    refine wpIn_of_wp (fun c h' => by cases h') ?_
    refine up_value rfl ?_ hn
    split at h
    · rename_i hu; exact rgS_sound hu h
    · rename_i k e hu; exact rgM_sound hu h
    · exact h.elim
  case next it s =>
    refine wpIn_of_wp (fun c h' => by cases h') ?_
    refine up_value rfl ?_ hn
    cases s with
    | true => exact nxS_sound h
    | false => exact h
  case entry it =>
    refine wpIn_of_wp (fun c h' => by cases h') ?_
    exact up_value rfl (enx_sound h) hn
  case typeAssert =>
    refine wpIn_of_wp (fun c h' => by cases h') ?_
    exact up_value rfl h hn
  case extract t ix =>
    refine wpIn_of_wp (fun c h' => by cases h') ?_
    refine up_value rfl ?_ hn
    unfold ex at h
    split at h
    · rename_i vs hx
      rw [hx]
      split at h
      · rename_i v hv; refine rn_ok (w' := w) ?_ h; simp [Instr.extract, hv]
      · exact h.elim
    · exact h.elim
  case call c =>
    split at h
    · rename_i f hc; exact callv_sound rfl hc h hn
    · exact h.elim
    · rename_i b hc
      refine wpIn_of_wp (fun c h' => by cases h') ?_
      have e1 : (c.args.toList.map a.eval).toArray = c.args.map a.eval := by apply Array.toList_inj.1; simp
      have he : ∀ (s : Sem Value), (∀ cs, builtin b c.argTypes type cs (c.args.map a.eval) = do pure (.value (← s))) → rn P s w (K) →
          Oper.wp P ⟨dst, .call c, type, pos, after, guard⟩ a w next Q := by
        intro s hs hk
        refine up_value (s := s) ?_ hk hn
        unfold execOp
        simp only [resolve, hc]
        show (do let d ← (pure _ : Sem Deferred); invoke d.target d.args) = _
        simp only [pure_bind, invoke]
        exact hs _
      split at h
      · rename_i x t ha ht
        have ea : c.args.map a.eval = #[a.eval x] := by rw [← e1, ha]; rfl
        have et : c.argTypes = #[t] := by apply Array.toList_inj.1; rw [ht]
        refine he _ (fun _ => rfl) ?_
        rw [ea, et]
        split at h
        · rename_i hu; exact lenS_sound hu h
        · rename_i hu; exact lenV_sound hu h
        · rename_i hu; exact lenM_sound hu h
        · exact h
      · rename_i x y ha
        have ea : c.args.map a.eval = #[a.eval x, a.eval y] := by rw [← e1, ha]; rfl
        refine he _ (fun _ => rfl) ?_
        rw [ea]
        unfold maxx at h
        split at h
        · rename_i k p k' q hx hy
          obtain ⟨rfl, h⟩ := h
          rw [hx, hy]
          exact rn_ok maxx_run h
        · exact h.elim
      · rename_i x y ha
        have ea : c.args.map a.eval = #[a.eval x, a.eval y] := by rw [← e1, ha]; rfl
        refine he _ (fun _ => rfl) ?_
        rw [ea]
        unfold minx at h
        split at h
        · rename_i k p k' q hx hy
          obtain ⟨rfl, h⟩ := h
          rw [hx, hy]
          exact rn_ok minx_run h
        · exact h.elim
      · rename_i m k t ts ha ht
        have ea : c.args.map a.eval = #[a.eval m, a.eval k] := by rw [← e1, ha]; rfl
        have et : c.argTypes = (t :: ts).toArray := by apply Array.toList_inj.1; rw [ht]
        refine he _ (fun _ => rfl) ?_
        rw [ea, et]
        split at h
        · rename_i kt e hu
          split at h
          · rename_i q hk; exact delx_sound hu hk (.inl ⟨q, rfl⟩) h
          · rename_i hk; exact delx_sound hu hk (.inr rfl) h
          · exact h.elim
        · exact h.elim
      · rw [e1] at h; exact he _ (fun _ => rfl) h
      · rw [e1] at h; exact he _ (fun _ => rfl) h
      · rw [e1] at h; exact he _ (fun _ => rfl) h
      · exact h.elim

end Go.Proofs.YtkpefimnggojdaaGreat.VX
