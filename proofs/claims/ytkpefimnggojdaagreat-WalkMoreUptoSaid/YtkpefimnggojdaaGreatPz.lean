/-
  Contracts: what turns a tree: a name goes (out, Remove); a name moves.
-/
import Derived.Test.YtkpefimnggojdaaGreatLm
set_option linter.all false
namespace Go.Proofs.YtkpefimnggojdaaGreat.VX
open Go Pl
set_option maxRecDepth 4000

theorem lookA_dir {S : St} {p : Bytes} (h : (lookA S p).2.2 = 0) (hp : p ≠ []) : rightB p = true ∧ ∃ d, (lookA S p).2.1 = some d ∧ S.at_ (split (parentP p)) = some d ∧ (S.nd d).kind = 2 ∧ (lookA S p).1 = S.at_ (split p) := by
  unfold lookA at h ⊢
  by_cases hr : rightB p = false
  · rw [if_pos hr] at h; cases h
  · have hr' : rightB p = true := by simpa using hr
    rw [if_neg hr, if_neg hp] at h ⊢
    split at h
    · cases h
    · rename_i d hd
      split at h
      · cases h
      · rename_i hk
        simp only [hd]
        rw [if_neg hk]
        exact ⟨hr', d, rfl, rfl, by simpa using hk, rfl⟩
theorem thereA_dir {S : St} {p : Bytes} (h : (thereA S p).2.2 = 0) (hp : p ≠ []) : rightB p = true ∧ ∃ b d, (thereA S p).1 = some b ∧ S.at_ (split p) = some b ∧ (thereA S p).2.1 = some d ∧ S.at_ (split (parentP p)) = some d ∧ (S.nd d).kind = 2 := by
  obtain ⟨b, h1, h2⟩ := thereA_some h
  have e0 : thereA S p = if (lookA S p).2.2 = 0 ∧ (lookA S p).1 = none then ((lookA S p).1, (lookA S p).2.1, 10) else lookA S p := rfl
  by_cases hc : (lookA S p).2.2 = 0 ∧ (lookA S p).1 = none
  · rw [e0, if_pos hc] at h; cases h
  · rw [if_neg hc] at e0
    rw [e0] at h h1 ⊢
    obtain ⟨hr, d, q1, q2, q3, q4⟩ := lookA_dir h hp
    exact ⟨hr, b, d, h1, h2, q1, q2, q3⟩

theorem node_kid_ne {w : World} {t : Nat} {S : St} {F : Nat → Prop} (h : Rep w t S F) {p q : List Bytes} {b d : Nat} (hb : S.at_ p = some b) (hd : S.at_ q = some d) (hk : (S.nd d).kind = 2) : b ≠ S.kid d := by
  obtain ⟨es, ck, hm, _⟩ := (h.kids _ _ hd hk).1
  intro e
  have := (h.node _ _ hb).1
  rw [e, hm] at this; cases this

/-- out: the thing at a path, with nothing below it, has a name less. -/
theorem out_spec {w : World} {t : Nat} {S : St} {F : Nat → Prop} (h : Rep w t S F) {p : Bytes} (hp : p.length ≤ 4294967290) {d : Nat} (hr : rightB p = true) (hp0 : p ≠ []) (hd : S.at_ (split (parentP p)) = some d) (hk : (S.nd d).kind = 2) (hln : ∀ q b, S.at_ q = some b → -4294967296 ≤ (S.nd b).links ∧ (S.nd b).links ≤ 4294967296)
    (hbelow : ∀ y, S.at_ (split p ++ [y]) = none) :
    CallsV Tryz.prog f_tree_out #[.pointer (some ⟨d, 0, none⟩), str p] w fun _ w' => Upd F w w' ∧
      match S.at_ (split p) with | none => Rep w' t S F | some b => Rep w' t (dropS (unl S b) (split p)) F := by
  refine ok_tree_out _ _ _ _ ?_
  unfold go_tree_out
  refine call_ok has_path_Base (Base_spec p (by omega) w) ?_
  rintro _ w1 ⟨rfl, rfl⟩
  have es := split_last hr hp0
  have hdn := (h.node _ _ hd).1
  obtain ⟨kd, kf⟩ := h.kids _ _ hd hk
  simp only [vxs, hdn, nodeE, Nat.zero_add]
  rw [kv_dir hk]
  refine kd.lk (baseP p) ?_
  rw [← es]
  cases hb : S.at_ (split p) with
  | none =>
    simp only [ptrO, vxs, Option.isNone_none]
    exact ⟨.refl _ _, h⟩
  | some b =>
    have hbn := (h.node _ _ hb).1
    have hbF := (h.node _ _ hb).2
    have hl := hln _ b hb
    simp only [ptrO, vxs, Nat.zero_add, hbn, nodeE]
    refine int_sub (by omega) ?_
    refine node_links hbn ((S.nd b).links - 1) fun w2 h2 u2 => ?_
    have hR2 := h.setLinks hb h2 u2
    have hR2 : Rep w2 t (unl S b) F := hR2
    have hd2 : (unl S b).at_ (split (parentP p)) = some d := hd
    have hkd : ((unl S b).nd d).kind = 2 := by rw [(unl_same S b d).2.1]; exact hk
    have hdn2 := (hR2.node _ _ hd2).1
    simp only [hdn2, vxs, nodeE]
    rw [kv_dir hkd]
    obtain ⟨kd2, -⟩ := hR2.kids _ _ hd2 hkd
    refine kd2.del (baseP p) fun w3 k3 u3 => ?_
    refine ⟨Upd.trans (u2.mono fun k _ e => by rw [e]; exact hbF) u3 fun k _ e => by rw [e]; exact kf, ?_⟩
    have := hR2.dropName (q := split (parentP p)) (x := baseP p) hd2 hkd (fun y => by rw [← es]; exact hbelow y) k3 u3
    rw [← es] at this
    exact this

/-- The error of Remove. -/
noncomputable def remE (S : St) (p : Bytes) : Int := if rightB p = false then 9 else if p = [] then 2 else if (thereA S p).2.2 ≠ 0 then (thereA S p).2.2 else (@ite _ (∃ y b, S.at_ (split p ++ [y]) = some b) (Classical.propDecidable _) 14 0)
def Removed (S : St) (p : List Bytes) (S' : St) : Prop := ∃ b, S.at_ p = some b ∧ S' = dropS (unl S b) p
theorem Remove_spec {w : World} {t : Nat} {S : St} {F : Nat → Prop} (h : Rep w t S F) (p : Bytes) (hp : p.length ≤ 4294967290) (hln : ∀ q b, S.at_ q = some b → -4294967296 ≤ (S.nd b).links ∧ (S.nd b).links ≤ 4294967296) :
    CallsV Tryz.prog f_tree_Tree_Remove #[.pointer (some ⟨t, 0, none⟩), str p] w fun v w' => v = .int .i64 (remE S p) ∧ Turned w w' t F (fun S' => if remE S p = 0 then Removed S (split p) S' else S' = S) := by
  refine ok_tree_Tree_Remove _ _ _ _ ?_
  unfold go_tree_Tree_Remove
  simp only [vxs]
  refine call_ok has_path_Right (Right_spec p hp w) ?_
  rintro _ w1 ⟨rfl, hx1⟩
  cases hr : rightB p with
  | false =>
    simp only [vxs]
    have e : remE S p = 9 := by unfold remE; rw [if_pos hr]
    exact ⟨by rw [e], .same h hx1 (by rw [e]; rfl)⟩
  | true =>
  simp only [vxs]
  have e : remE S p = if p = [] then 2 else if (thereA S p).2.2 ≠ 0 then (thereA S p).2.2 else (@ite _ (∃ y b, S.at_ (split p ++ [y]) = some b) (Classical.propDecidable _) 14 0) := by unfold remE; rw [if_neg (by rw [hr]; simp)]
  refine cnd_split (fun hc => ?_) (fun hc => ?_)
  · have hp0 : p = [] := by simpa using hc
    rw [if_pos hp0] at e
    exact ⟨by rw [e], .same h hx1 (by rw [e]; rfl)⟩
  have hp0 : p ≠ [] := by simpa using hc
  rw [if_neg hp0] at e
  refine call_ok has_tree_Tree_there (there_spec (h.ext hx1) p hp) ?_
  rintro _ w2 ⟨rfl, hx2⟩
  have hx := Ext.trans hx1 hx2
  simp only [tri, vxs]
  refine cnd_split (fun hc => ?_) (fun hc => ?_)
  · have hf : (thereA S p).2.2 ≠ 0 := by simpa using hc
    rw [if_pos hf] at e
    exact ⟨by rw [e], .same h hx (by rw [e, if_neg hf])⟩
  have hf : (thereA S p).2.2 = 0 := by simpa using hc
  rw [if_neg (by simp [hf])] at e
  obtain ⟨-, b, d, h1, hat, h3, h4, h5⟩ := thereA_dir hf hp0
  have hR := h.ext hx
  have hbn := (hR.node _ _ hat).1
  rw [h1, h3]
  simp only [ptrO, vxs, Nat.zero_add, hbn, nodeE]
  have fin : (∀ y, S.at_ (split p ++ [y]) = none) → callv Tryz.prog (fnv f_tree_out) [.pointer (some ⟨d, 0, none⟩), str p] w2 fun _ w' => Value.int .i64 0 = .int .i64 (remE S p) ∧ Turned w w' t F (fun S' => if remE S p = 0 then Removed S (split p) S' else S' = S) := by
    intro hno
    have e0 : remE S p = 0 := by
      rw [e, if_neg]
      rintro ⟨y, b, hy⟩
      rw [hno y] at hy; cases hy
    refine call_ok has_tree_out (out_spec hR hp hr hp0 h4 h5 hln hno) ?_
    rintro _ w3 ⟨u3, hR3⟩
    rw [hat] at hR3
    refine ⟨by rw [e0], _, F, hR3, Upd.trans (Ext.to hx) u3 fun _ _ h => h, fun _ h => .inl h, ?_⟩
    show (if remE S p = 0 then _ else _)
    rw [if_pos e0]
    exact ⟨b, hat, rfl⟩
  by_cases hk : (S.nd b).kind = 2
  · rw [kv_dir hk]
    obtain ⟨kb, -⟩ := hR.kids _ _ hat hk
    refine kb.len fun n hn => ?_
    obtain ⟨ks, k1, k2, k3⟩ := hn
    simp only [vxs]
    refine cnd_split (fun hc => ?_) (fun hc => ?_)
    · have hn : 0 < ks.length := by simp at hc; omega
      cases ks with
      | nil => simp at hn
      | cons y r =>
        obtain ⟨c, hc⟩ := (k2 y).1 (by simp)
        have e0 : remE S p = 14 := by rw [e, if_pos ⟨y, c, hc⟩]
        exact ⟨by rw [e0], .same h hx (by rw [e0]; rfl)⟩
    · have hn : ks = [] := by
        have : ¬ (0 : Int) < n := by simpa using hc
        exact List.length_eq_zero_iff.1 (by omega)
      refine fin fun y => ?_
      cases hy : S.at_ (split p ++ [y]) with
      | none => rfl
      | some c => have := (k2 y).2 ⟨c, hy⟩; rw [hn] at this; cases this
  · rw [kv_not hk]
    simp only [vxs]
    refine fin fun y => up_none h (.inr ⟨b, hat, hk⟩) [y] (by simp)

/-- What stands at, and below, a path stands elsewhere. -/
theorem Rep.move {w w' : World} {t : Nat} {S : St} {F : Nat → Prop} (h : Rep w t S F) {po pp : List Bytes} {bo bp : Bytes} {b df dt : Nat} (hb : S.at_ (po ++ [bo]) = some b) (hno : S.at_ (pp ++ [bp]) = none) (hpre : isPre (po ++ [bo]) (pp ++ [bp]) = false)
    (hf : S.at_ po = some df) (hkf : (S.nd df).kind = 2) (ht : S.at_ pp = some dt) (hkt : (S.nd dt).kind = 2)
    (hu : Upd (fun k => k = S.kid df ∨ k = S.kid dt) w w')
    (hm1 : KidsAt w' (S.kid df) fun x => (moveS S (po ++ [bo]) (pp ++ [bp])).at_ (po ++ [x])) (hm2 : KidsAt w' (S.kid dt) fun x => (moveS S (po ++ [bo]) (pp ++ [bp])).at_ (pp ++ [x])) : Rep w' t (moveS S (po ++ [bo]) (pp ++ [bp])) F := by
  obtain ⟨old, eo⟩ : ∃ old, old = po ++ [bo] := ⟨_, rfl⟩
  obtain ⟨p, ep⟩ : ∃ p, p = pp ++ [bp] := ⟨_, rfl⟩
  rw [← eo] at hb hpre hm1 hm2
  rw [← ep] at hno hpre hm1 hm2
  rw [← eo, ← ep]
  have nop : ∀ r, S.at_ (p ++ r) = none := fun r => by
    by_cases hr : r = []
    · rw [hr, List.append_nil]; exact hno
    · exact up_none h (.inl hno) r hr
  have inv : ∀ {q c}, (moveS S old p).at_ q = some c → (∃ r, q = p ++ r ∧ S.at_ (old ++ r) = some c) ∨ (isPre p q = false ∧ isPre old q = false ∧ S.at_ q = some c) := fun {q c} hc => by
    cases h1 : isPre p q with
    | true => obtain ⟨r, rfl⟩ := isPre_iff.1 h1; rw [moveS_new] at hc; exact .inl ⟨r, rfl, hc⟩
    | false =>
      cases h2 : isPre old q with
      | true => obtain ⟨r, rfl⟩ := isPre_iff.1 h2; rw [moveS_old S h1] at hc; cases hc
      | false => rw [moveS_else S h1 h2] at hc; exact .inr ⟨rfl, rfl, hc⟩
  have old' : ∀ {q c}, (moveS S old p).at_ q = some c → ∃ z, S.at_ z = some c := fun hc => by
    rcases inv hc with ⟨r, -, h⟩ | ⟨-, -, h⟩
    · exact ⟨_, h⟩
    · exact ⟨_, h⟩
  have nn : ∀ {q : List Bytes} {x : Bytes} (r : List Bytes), isPre r q = true → isPre r (q ++ [x]) = true := fun {q x} r hr => by
    obtain ⟨s, rfl⟩ := isPre_iff.1 hr; exact isPre_iff.2 ⟨s ++ [x], by simp⟩
  have short : ∀ {q : List Bytes} {x : Bytes}, isPre (q ++ [x]) q = false := fun {q x} => by
    cases hh : isPre (q ++ [x]) q with
    | false => rfl
    | true => obtain ⟨s, hs⟩ := isPre_iff.1 hh; have := congrArg List.length hs; simp at this
  have nofp : ∀ q, isPre old q = true → isPre q p = true → False := fun q h1 h2 => by
    obtain ⟨s, rfl⟩ := isPre_iff.1 h1
    obtain ⟨s', hs⟩ := isPre_iff.1 h2
    rw [hs, List.append_assoc, isPre_app] at hpre; cases hpre
  have pprep : isPre pp p = true := by rw [ep]; exact isPre_app _ _
  have kidblk : ∀ {q d}, S.at_ q = some d → (S.nd d).kind = 2 → ∀ {r c ty}, w.heap[r]? = some (.cells c ty (0, 0)) → r ≠ S.kid d := fun {q d} hq hk {r c ty} hr e => by
    obtain ⟨es, ck, hm, _⟩ := (h.kids _ _ hq hk).1
    rw [e, hm] at hr; cases hr
  have ob : ∀ {r c ty}, w.heap[r]? = some (.cells c ty (0, 0)) → ¬ (r = S.kid df ∨ r = S.kid dt) := fun hr e => by
    rcases e with e | e
    · exact kidblk hf hkf hr e
    · exact kidblk ht hkt hr e
  have hp0 : p ≠ [] := by rw [ep]; simp
  have ho0 : old ≠ [] := by rw [eo]; simp
  have root : ∀ {q : List Bytes}, q ≠ [] → isPre q [] = false := fun {q} hq => by
    cases hh : isPre q [] with
    | false => rfl
    | true => obtain ⟨s, hs⟩ := isPre_iff.1 hh; exact absurd (List.append_eq_nil_iff.1 hs.symm).1 hq
  refine ⟨?_, h.ft, ?_, fun q x c hc => ?_, fun q c hc => ?_, fun q c hc => ?_, fun q c hc hk2 => ?_, fun q r c hq hr hk2 => ?_, fun q r c c' hq hr hk2 hk2' he => ?_, fun c hc => ?_⟩
  · rw [moveS_else S (root hp0) (root ho0)]; exact hu.get h.tree (ob h.tree)
  · obtain ⟨c, h1, h2⟩ := h.top
    exact ⟨c, by rw [moveS_else S (root hp0) (root ho0)]; exact h1, h2⟩
  · rcases inv hc with ⟨r, e1, h1⟩ | ⟨n1, n2, h1⟩
    · by_cases hr : r = []
      · subst hr
        rw [List.append_nil, ep] at e1
        have e2 := (List.append_inj' e1 rfl).1
        rw [e2]
        refine ⟨dt, ?_, hkt⟩
        rw [moveS_else S (by rw [ep]; exact short) ?_]
        · exact ht
        · cases hh : isPre old pp with
          | false => rfl
          | true => exact (nofp pp hh pprep).elim
      · have es := List.dropLast_concat_getLast hr
        rw [← es, ← List.append_assoc] at e1 h1
        have e2 := (List.append_inj' e1 rfl).1
        obtain ⟨d', h2, h3⟩ := h.up _ _ _ h1
        exact ⟨d', by rw [e2, moveS_new]; exact h2, h3⟩
    · obtain ⟨d', h2, h3⟩ := h.up _ _ _ h1
      refine ⟨d', ?_, h3⟩
      rw [moveS_else S ?_ ?_]
      · exact h2
      · cases hh : isPre p q with
        | false => rfl
        | true => rw [nn p hh] at n1; cases n1
      · cases hh : isPre old q with
        | false => rfl
        | true => rw [nn old hh] at n2; cases n2
  · obtain ⟨z, hz⟩ := old' hc
    have := h.node _ _ hz
    exact ⟨hu.get this.1 (ob this.1), this.2⟩
  · obtain ⟨z, hz⟩ := old' hc
    obtain ⟨h1, h2⟩ := h.data _ _ hz
    refine ⟨?_, h2⟩
    rcases h1 with h1 | ⟨db, cap, cc, h3, h4, h5, h6⟩
    · exact .inl h1
    · exact .inr ⟨db, cap, cc, h3, h4, hu.get h5 (ob h5), h6⟩
  · have hk2 : (S.nd c).kind = 2 := hk2
    show KidsAt w' (S.kid c) _ ∧ F (S.kid c)
    rcases inv hc with ⟨r, rfl, h1⟩ | ⟨n1, n2, h1⟩
    · obtain ⟨k1, k2⟩ := h.kids _ _ h1 hk2
      refine ⟨?_, k2⟩
      have nf : c ≠ df := fun e => by
        have := h.dir _ _ _ h1 (e ▸ hf) hk2
        rw [eo] at this
        have := congrArg List.length this; simp at this
      have nt : c ≠ dt := fun e => by
        have := h.dir _ _ _ h1 (e ▸ ht) hk2
        exact nofp pp (this ▸ isPre_app old r) pprep
      have ef : (fun x => (moveS S old p).at_ (p ++ r ++ [x])) = fun x => S.at_ (old ++ r ++ [x]) := by
        funext x; rw [List.append_assoc, moveS_new, List.append_assoc]
      rw [ef]
      refine k1.mono hu fun e => ?_
      rcases e with e | e
      · exact nf (h.kinj _ _ _ _ h1 hf hk2 hkf e)
      · exact nt (h.kinj _ _ _ _ h1 ht hk2 hkt e)
    · obtain ⟨k1, k2⟩ := h.kids _ _ h1 hk2
      refine ⟨?_, k2⟩
      by_cases nf : c = df
      · have := h.dir _ _ _ h1 (nf ▸ hf) hk2
        rw [this, nf]; exact hm1
      · by_cases nt : c = dt
        · have := h.dir _ _ _ h1 (nt ▸ ht) hk2
          rw [this, nt]; exact hm2
        · have ef : (fun x => (moveS S old p).at_ (q ++ [x])) = fun x => S.at_ (q ++ [x]) := by
            funext x
            rw [moveS_else S]
            · cases hh : isPre p (q ++ [x]) with
              | false => rfl
              | true =>
                obtain ⟨s, hs⟩ := isPre_iff.1 hh
                by_cases hs0 : s = []
                · rw [hs0, List.append_nil, ep] at hs
                  have := (List.append_inj' hs rfl).1
                  rw [this, ht] at h1; injection h1 with h1; exact absurd h1.symm nt
                · have es := List.dropLast_concat_getLast hs0
                  rw [← es, ← List.append_assoc] at hs
                  have := (List.append_inj' hs rfl).1
                  rw [this, isPre_app] at n1; cases n1
            · cases hh : isPre old (q ++ [x]) with
              | false => rfl
              | true =>
                obtain ⟨s, hs⟩ := isPre_iff.1 hh
                by_cases hs0 : s = []
                · rw [hs0, List.append_nil, eo] at hs
                  have := (List.append_inj' hs rfl).1
                  rw [this, hf] at h1; injection h1 with h1; exact absurd h1.symm nf
                · have es := List.dropLast_concat_getLast hs0
                  rw [← es, ← List.append_assoc] at hs
                  have := (List.append_inj' hs rfl).1
                  rw [this, isPre_app] at n2; cases n2
          rw [ef]
          refine k1.mono hu fun e => ?_
          rcases e with e | e
          · exact nf (h.kinj _ _ _ _ h1 hf hk2 hkf e)
          · exact nt (h.kinj _ _ _ _ h1 ht hk2 hkt e)
  · have hk2 : (S.nd c).kind = 2 := hk2
    rcases inv hq with ⟨r1, rfl, h1⟩ | ⟨n1, n2, h1⟩ <;> rcases inv hr with ⟨r2, rfl, h2⟩ | ⟨m1, m2, h2⟩
    · rw [List.append_cancel_left (h.dir _ _ _ h1 h2 hk2)]
    · have := h.dir _ _ _ h1 h2 hk2
      rw [← this, isPre_app] at m2; cases m2
    · have := h.dir _ _ _ h1 h2 hk2
      rw [this, isPre_app] at n2; cases n2
    · exact h.dir _ _ _ h1 h2 hk2
  · obtain ⟨y, hy⟩ := old' hq
    obtain ⟨z, hz⟩ := old' hr
    exact h.kinj _ _ _ _ hy hz hk2 hk2' he
  · have := h.lt c hc; have := hu.size; omega
end Go.Proofs.YtkpefimnggojdaaGreat.VX
