/-
  Contracts: a name in the place of another one (Rename).
-/
import Derived.Test.YtkpefimnggojdaaGreatQa
set_option linter.all false
namespace Go.Proofs.YtkpefimnggojdaaGreat.VX
open Go Pl
set_option maxRecDepth 4000

def Moved (S : St) (old p : List Bytes) (b : Nat) (S' : St) : Prop := ∃ S1, Gave S p b S1 ∧ S' = moveS S1 old p
theorem moveS_drop {S : St} {old p : List Bytes} (h : isPre old p = false) : moveS (dropS S p) old p = moveS S old p := by
  have : (moveS (dropS S p) old p).at_ = (moveS S old p).at_ := by
    funext q
    show (if isPre p q then (if old ++ q.drop p.length = p then none else S.at_ (old ++ q.drop p.length)) else if isPre old q then none else if q = p then none else S.at_ q) = if isPre p q then S.at_ (old ++ q.drop p.length) else if isPre old q then none else S.at_ q
    cases h1 : isPre p q with
    | true =>
      rw [if_pos rfl, if_pos rfl, if_neg]
      intro e
      rw [← e, isPre_app] at h; cases h
    | false =>
      simp only [Bool.false_eq_true, if_false]
      cases h2 : isPre old q with
      | true => rfl
      | false =>
        simp only [Bool.false_eq_true, if_false]
        rw [if_neg]
        intro e; rw [e, isPre_self] at h1; cases h1
  unfold moveS at this ⊢
  simp only at this
  rw [this]; rfl

theorem ren_tail {w0 w : World} {t : Nat} {S : St} {F : Nat → Prop} (h0 : Rep w0 t S F) (hx0 : Ext w0 w) {old p : Bytes} (hol : old.length ≤ 4294967290) (hpl : p.length ≤ 4294967290) (hro : rightB old = true) (hrp : rightB p = true) (ho0 : old ≠ []) (hp0 : p ≠ []) {b df dt : Nat}
    (hb : S.at_ (split old) = some b) (hf : S.at_ (split (parentP old)) = some df) (hkf : (S.nd df).kind = 2) (ht : S.at_ (split (parentP p)) = some dt) (hkt : (S.nd dt).kind = 2) (hpre : isPre (split old) (split p) = false)
    (hwas : ∀ c, S.at_ (split p) = some c → (S.nd c).kind ≠ 2 ∧ c ≠ b) (hln : ∀ q b, S.at_ q = some b → -4294967296 ≤ (S.nd b).links ∧ (S.nd b).links ≤ 4294967296) {K : World → Prop}
    (hK : ∀ w', Turned w0 w' t F (Moved S (split old) (split p) b) → K w') :
    callv Tryz.prog (fnv f_tree_out) [.pointer (some ⟨dt, 0, none⟩), str p] w fun t97 w_11 =>
      drw [(1, [], fun d w_12 k => nck (.pointer (some ⟨df, 0, none⟩)) fun x => k x w_12),
        (2, [1], fun d w_12 k => fa 11 (d 1) fun x => k x w_12),
        (3, [2, 1], fun d w_12 k => ld (d 2) w_12 fun x => k x w_12),
        (5, [], fun d w_12 k => callv Tryz.prog (fnv f_path_Base) [str old] w_12 k),
        (6, [3, 5, 2, 1], fun d w_12 k => delx .string (d 3) (d 5) w_12 fun w_ => k undef w_)] (fun d w_12 =>
      drw [(1, [], fun d_1 w_13 k_1 => nck (.pointer (some ⟨dt, 0, none⟩)) fun x => k_1 x w_13),
        (2, [1], fun d_1 w_13 k_1 => fa 11 (d_1 1) fun x => k_1 x w_13),
        (3, [2, 1], fun d_1 w_13 k_1 => ld (d_1 2) w_13 fun x => k_1 x w_13),
        (5, [], fun d_1 w_13 k_1 => callv Tryz.prog (fnv f_path_Base) [str p] w_13 k_1),
        (7, [3, 5, 1, 2], fun d_1 w_13 k_1 => mux .string (d_1 3) (d_1 5) (.pointer (some ⟨b, 0, none⟩)) w_13 fun w_ => k_1 undef w_)] (fun d_1 w_13 =>
      K w_13) w_12) w_11 := by
  have h := h0.ext hx0
  have hbelow : ∀ y, S.at_ (split p ++ [y]) = none := fun y => by
    cases hs : S.at_ (split p) with
    | none => exact up_none h (.inl hs) [y] (by simp)
    | some c => exact up_none h (.inr ⟨c, hs, (hwas c hs).1⟩) [y] (by simp)
  refine call_ok has_tree_out (out_spec h hpl hrp hp0 ht hkt hln hbelow) ?_
  rintro _ w1 ⟨u1, hR⟩
  have eo := split_last hro ho0
  have ep := split_last hrp hp0
  -- what the tree is now
  obtain ⟨S2, hR2, hat2, hno2, hnd2, hkid2, hS2⟩ : ∃ S2, Rep w1 t S2 F ∧ (∀ q, q ≠ split p → S2.at_ q = S.at_ q) ∧ S2.at_ (split p) = none ∧ (∀ c, (S2.nd c).kind = (S.nd c).kind) ∧ S2.kid = S.kid ∧ Moved S (split old) (split p) b (moveS S2 (split old) (split p)) := by
    cases hs : S.at_ (split p) with
    | none =>
      rw [hs] at hR
      exact ⟨S, hR, fun _ _ => rfl, hs, fun _ => rfl, rfl, S, .inl ⟨hs, rfl⟩, rfl⟩
    | some c =>
      rw [hs] at hR
      refine ⟨_, hR, fun q hq => ?_, ?_, fun x => (unl_same S c x).2.1, rfl, unl S c, .inr ⟨c, hs, (hwas c hs).1, (hwas c hs).2, rfl⟩, moveS_drop hpre⟩
      · show (if q = split p then none else S.at_ q) = _
        rw [if_neg hq]
      · show (if split p = split p then none else _) = _
        rw [if_pos rfl]
  have nopre : ∀ q, isPre (split p) q = true → isPre q (split old) = true → S2.at_ q = none := fun q hq _ => by
    obtain ⟨r, rfl⟩ := isPre_iff.1 hq
    by_cases hr : r = []
    · subst hr; rw [List.append_nil]; exact hno2
    · exact up_none hR2 (.inl hno2) r hr
  have nePar : ∀ {q : Bytes} {d : Nat}, S.at_ (split q) = some d → (S.nd d).kind = 2 → split q ≠ split p := fun hq hk e => by
    have := (hwas _ (e ▸ hq)).1; exact this hk
  have hb2 : S2.at_ (split old) = some b := by
    rw [hat2 _ (fun e => ?_)]
    · exact hb
    · rw [← e, isPre_self] at hpre; cases hpre
  have hf2 : S2.at_ (split (parentP old)) = some df := by rw [hat2 _ (nePar hf hkf)]; exact hf
  have ht2 : S2.at_ (split (parentP p)) = some dt := by rw [hat2 _ (nePar ht hkt)]; exact ht
  have hkf2 : (S2.nd df).kind = 2 := by rw [hnd2]; exact hkf
  have hkt2 : (S2.nd dt).kind = 2 := by rw [hnd2]; exact hkt
  obtain ⟨po, epo⟩ : ∃ po, po = split (parentP old) := ⟨_, rfl⟩
  obtain ⟨pp, epp⟩ : ∃ pp, pp = split (parentP p) := ⟨_, rfl⟩
  obtain ⟨bo, ebo⟩ : ∃ bo, bo = baseP old := ⟨_, rfl⟩
  obtain ⟨bp, ebp⟩ : ∃ bp, bp = baseP p := ⟨_, rfl⟩
  rw [← epo] at hf2 eo
  rw [← epp] at ht2 ep
  rw [← ebo] at eo
  rw [← ebp] at ep
  have hpo : isPre (split p) (split old) = false := by
    cases hh : isPre (split p) (split old) with
    | false => rfl
    | true => rw [nopre _ hh (isPre_self _)] at hb2; cases hb2
  have hfn := (hR2.node _ _ hf2).1
  have htn := (hR2.node _ _ ht2).1
  obtain ⟨kf, kfF⟩ := hR2.kids _ _ hf2 hkf2
  obtain ⟨kt, ktF⟩ := hR2.kids _ _ ht2 hkt2
  have hbl := baseP_len old
  have hbl2 := baseP_len p
  refine drw_last [undef, .pointer (some ⟨df, 0, none⟩), .pointer (some ⟨df, 11, none⟩), .map (some (S2.kid df)), undef, str bo] (steps := [(1, _, _), (2, _, _), (3, _, _), (5, _, _)]) ?_ (by simp) (by simp) ?_ (by simp)
  · refine ⟨?_, ?_, ?_, ?_, trivial⟩ <;> intro dd w5 q hd5 hx5 hk5 <;>
      simp only [List.mem_cons, List.not_mem_nil, or_false, forall_eq_or_imp, forall_eq, vxs] at hd5 hk5 ⊢
    · exact hk5 _ (.refl _ _)
    · rw [hd5]; simp only [vxs, Nat.zero_add]; exact hk5 _ (.refl _ _)
    · rw [hd5.1]
      have hn5 := Ext.get hx5 hfn
      simp only [vxs, hn5, nodeE]
      rw [kv_dir hkf2]
      exact hk5 _ (.refl _ _)
    · refine call_ok has_path_Base (Base_spec old (by omega) w5) ?_
      rintro _ w5 ⟨rfl, rfl⟩
      rw [← ebo]; exact hk5 _ (.refl _ _)
  · intro dd w5 q hd5 hx5 hk5
    simp only [List.mem_cons, List.not_mem_nil, or_false, forall_eq_or_imp, forall_eq, vxs] at hd5
    rw [hd5.1, hd5.2.1]
    refine (kf.mono hx5 fun f => f).del bo fun w6 k6 u6 => hk5 _ _ fun d' _ _ => ?_
    have htn6 : w6.heap[dt]? = some (.cells (nodeE (S2.nd dt) (S2.dv dt) (S2.kv dt)).toArray t_tree_node (0, 0)) := u6.get (Ext.get hx5 htn) (node_kid_ne hR2 ht2 hf2 hkf2)
    refine drw_last [undef, .pointer (some ⟨dt, 0, none⟩), .pointer (some ⟨dt, 11, none⟩), .map (some (S2.kid dt)), undef, str bp] (steps := [(1, _, _), (2, _, _), (3, _, _), (5, _, _)]) ?_ (by simp) (by simp) ?_ (by simp)
    · refine ⟨?_, ?_, ?_, ?_, trivial⟩ <;> intro dd w7 q hd7 hx7 hk7 <;>
        simp only [List.mem_cons, List.not_mem_nil, or_false, forall_eq_or_imp, forall_eq, vxs] at hd7 hk7 ⊢
      · exact hk7 _ (.refl _ _)
      · rw [hd7]; simp only [vxs, Nat.zero_add]; exact hk7 _ (.refl _ _)
      · rw [hd7.1]
        have hn7 := Ext.get hx7 htn6
        simp only [vxs, hn7, nodeE]
        rw [kv_dir hkt2]
        exact hk7 _ (.refl _ _)
      · refine call_ok has_path_Base (Base_spec p (by omega) w7) ?_
        rintro _ w7 ⟨rfl, rfl⟩
        rw [← ebp]; exact hk7 _ (.refl _ _)
    · intro dd7 w7 q7 hd7 hx7 hk7
      simp only [List.mem_cons, List.not_mem_nil, or_false, forall_eq_or_imp, forall_eq, vxs] at hd7
      rw [hd7.1, hd7.2.1]
      have short : ∀ {q : List Bytes} {x : Bytes}, isPre (q ++ [x]) q = false := fun {q x} => by
        cases hh : isPre (q ++ [x]) q with
        | false => rfl
        | true => obtain ⟨s, hs⟩ := isPre_iff.1 hh; have := congrArg List.length hs; simp at this
      -- one step down from a directory that stands apart
      have one : ∀ {q r : List Bytes} {z y : Bytes}, isPre (q ++ [z]) (r ++ [y]) = true → (q ++ [z] = r ++ [y]) ∨ isPre (q ++ [z]) r = true := fun {q r z y} hh => by
        obtain ⟨s, hs⟩ := isPre_iff.1 hh
        by_cases h0 : s = []
        · left; rw [h0, List.append_nil] at hs; exact hs.symm
        · right
          have es := List.dropLast_concat_getLast h0
          rw [← es, ← List.append_assoc] at hs
          rw [(List.append_inj' hs rfl).1]; exact isPre_app _ _
      have n1 : isPre (split old) pp = false := by
        cases hh : isPre (split old) pp with
        | false => rfl
        | true =>
          obtain ⟨s, hs⟩ := isPre_iff.1 hh
          rw [ep, hs, List.append_assoc, isPre_app] at hpre; cases hpre
      have n2 : isPre (split p) po = false := by
        cases hh : isPre (split p) po with
        | false => rfl
        | true =>
          obtain ⟨s, hs⟩ := isPre_iff.1 hh
          rw [eo, hs, List.append_assoc, isPre_app] at hpo; cases hpo
      have n3 : isPre (split p) pp = false := by rw [ep]; exact short
      have n4 : isPre (split old) po = false := by rw [eo]; exact short
      -- the maps, as they are at the end
      have mto : ∀ f : Bytes → Option Nat, (∀ y, f y = if y = bo ∧ pp = po then none else S2.at_ (pp ++ [y])) → (fun y => if y = bp then some b else f y) = fun y => (moveS S2 (split old) (split p)).at_ (pp ++ [y]) := by
        intro f hfy
        funext y
        by_cases hy : y = bp
        · rw [if_pos hy, hy, ← ep]
          have := moveS_new S2 (split old) (split p) []
          rw [List.append_nil, List.append_nil] at this
          rw [this, hb2]
        · rw [if_neg hy, hfy]
          have h1 : isPre (split p) (pp ++ [y]) = false := by
            cases hh : isPre (split p) (pp ++ [y]) with
            | false => rfl
            | true =>
              rw [ep] at hh n3
              rcases one hh with e | e
              · have e2 : bp = y := by simpa using e
                exact absurd e2.symm hy
              · rw [e] at n3; cases n3
          by_cases hbo : y = bo ∧ pp = po
          · rw [if_pos hbo]
            have e2 : pp ++ [y] = split old ++ [] := by rw [eo, hbo.1, hbo.2]; simp
            rw [e2, moveS_old S2 (by rw [← e2]; exact h1)]
          · rw [if_neg hbo]
            have h2 : isPre (split old) (pp ++ [y]) = false := by
              cases hh : isPre (split old) (pp ++ [y]) with
              | false => rfl
              | true =>
                rw [eo] at hh n1
                rcases one hh with e | e
                · obtain ⟨e1, e2⟩ := List.append_inj' e rfl
                  exact absurd ⟨(by simpa using e2.symm), e1.symm⟩ hbo
                · rw [e] at n1; cases n1
            rw [moveS_else S2 h1 h2]
      have mfrom : pp ≠ po → (fun y => if y = bo then none else S2.at_ (po ++ [y])) = fun y => (moveS S2 (split old) (split p)).at_ (po ++ [y]) := by
        intro hne
        funext y
        have h1 : isPre (split p) (po ++ [y]) = false := by
          cases hh : isPre (split p) (po ++ [y]) with
          | false => rfl
          | true =>
            rw [ep] at hh n2
            rcases one hh with e | e
            · exact absurd (List.append_inj' e rfl).1 hne
            · rw [e] at n2; cases n2
        by_cases hy : y = bo
        · rw [if_pos hy]
          have e2 : po ++ [y] = split old ++ [] := by rw [eo, hy]; simp
          rw [e2, moveS_old S2 (by rw [← e2]; exact h1)]
        · rw [if_neg hy]
          have h2 : isPre (split old) (po ++ [y]) = false := by
            cases hh : isPre (split old) (po ++ [y]) with
            | false => rfl
            | true =>
              rw [eo] at hh n4
              rcases one hh with e | e
              · have e2 : bo = y := by simpa using e
                exact absurd e2.symm hy
              · rw [e] at n4; cases n4
          rw [moveS_else S2 h1 h2]
      have fin : ∀ w8, KidsAt w8 (S2.kid df) (fun y => (moveS S2 (split old) (split p)).at_ (po ++ [y])) → KidsAt w8 (S2.kid dt) (fun y => (moveS S2 (split old) (split p)).at_ (pp ++ [y])) → Upd (fun q => q = S2.kid dt) w7 w8 → K w8 := fun w8 m1 m2 u8 => by
        have u18 : Upd (fun k => k = S2.kid df ∨ k = S2.kid dt) w1 w8 := by
          have a1 : Upd (fun k => k = S2.kid df ∨ k = S2.kid dt) w1 w6 := Upd.trans (Ext.to hx5) u6 fun k _ e => .inl e
          have a2 : Upd (fun k => k = S2.kid df ∨ k = S2.kid dt) w1 w7 := Ext.trans a1 hx7
          exact Upd.trans a2 u8 fun k _ e => .inr e
        have hb2' := hb2
        have hno2' := hno2
        have hpre' := hpre
        rw [eo] at hb2' hpre'
        rw [ep] at hno2' hpre'
        have hRm := hR2.move (w' := w8) hb2' hno2' hpre' hf2 hkf2 ht2 hkt2 u18 (by rw [eo, ep] at m1; exact m1) (by rw [eo, ep] at m2; exact m2)
        rw [← eo, ← ep] at hRm
        refine hK w8 ⟨_, F, hRm, ?_, fun _ h => .inl h, hS2⟩
        refine Upd.trans (Upd.trans (Ext.to hx0) u1 fun _ _ h => h) u18 fun k _ e => ?_
        rcases e with e | e
        · rw [e]; exact kfF
        · rw [e]; exact ktF
      by_cases hdd : df = dt
      · have hpp : pp = po := (hR2.dir _ _ _ hf2 (hdd ▸ ht2) hkf2).symm
        refine KidsAt.put (w := w7) (f := fun y => if y = bo then none else S2.at_ (po ++ [y])) (by rw [← hdd]; exact k6.mono hx7 fun f => f) bp b fun w8 k8 u8 => hk7 _ _ fun d8 _ _ => ?_
        rw [mto _ (fun y => by rw [hpp]; simp)] at k8
        refine fin w8 ?_ k8 u8
        rw [hpp] at k8
        rw [hdd]; exact k8
      · have hpp : pp ≠ po := fun e => by rw [e, hf2] at ht2; injection ht2 with ht2; exact hdd ht2
        have hkk : S2.kid dt ≠ S2.kid df := fun e => hdd (hR2.kinj _ _ _ _ hf2 ht2 hkf2 hkt2 e.symm)
        have kt6 : KidsAt w6 (S2.kid dt) (fun x => S2.at_ (pp ++ [x])) := (kt.mono hx5 fun f => f).mono u6 hkk
        refine KidsAt.put (w := w7) (kt6.mono hx7 fun f => f) bp b fun w8 k8 u8 => hk7 _ _ fun d8 _ _ => ?_
        rw [mto _ (fun y => by rw [if_neg fun h => hpp h.2])] at k8
        refine fin w8 ?_ k8 u8
        rw [mfrom hpp] at k6
        exact (k6.mono hx7 fun f => f).mono u8 fun e => hkk e.symm

theorem cntL_le (L : List (List Bytes × Int)) (i : Int) : cntL L i ≤ L.length := List.length_filter_le _ _
theorem Mt.bnd {S : St} {T : PT} {m : Nat} (hm : Mt S T) (hw : Wf T m) (hm0 : m ≤ 100000) : ∀ q b, S.at_ q = some b → -4294967296 ≤ (S.nd b).links ∧ (S.nd b).links ≤ 4294967296 := fun q b hb => by
  rw [hm.links _ _ hb]
  have := cntL_le T.L (S.nd b).ino
  have := hw.len
  split <;> omega

theorem Rename_spec {w : World} {t : Nat} {S : St} {T : PT} {F : Nat → Prop} {m : Nat} (hw : Wf T m) (hm : Mt S T) (hm0 : m ≤ 100000) (h : Rep w t S F) (old p : Bytes) (hol : old.length ≤ 4294967290) (hpl : p.length ≤ 4294967290) :
    CallsV Tryz.prog f_tree_Tree_Rename #[.pointer (some ⟨t, 0, none⟩), str old, str p] w fun v w' => v = .int .i64 (renE' T old p) ∧ Turned w w' t F (fun S' => Mt S' (renT T old p).1) := by
  refine ok_tree_Tree_Rename _ _ _ _ _ ?_
  unfold go_tree_Tree_Rename
  have bad : ∀ (e : Int) (w' : World), e ≠ 0 → renE' T old p = e → Ext w w' → (Value.int .i64 e = .int .i64 (renE' T old p) ∧ Turned w w' t F (fun S' => Mt S' (renT T old p).1)) := fun e w' he hr hx => by
    refine ⟨by rw [hr], .same h hx ?_⟩
    unfold renT; rw [if_neg (by rw [hr]; exact he)]; exact hm
  simp only [vxs]
  refine call_ok has_path_Right (Right_spec old hol w) ?_
  rintro _ w1 ⟨rfl, hx1⟩
  cases hro : rightB old with
  | false =>
    simp only [vxs]
    refine jn_dup fun _ => ?_
    try simp only [vxs]
    exact bad 9 w1 (by decide) (by unfold renE'; rw [if_pos (.inl hro)]) hx1
  | true =>
  simp only [vxs]
  refine jn_dup ?_
  refine call_ok has_path_Right (Right_spec p hpl w1) ?_
  rintro _ w2 ⟨rfl, hx2⟩
  have hx := Ext.trans hx1 hx2
  cases hrp : rightB p with
  | false =>
    simp only [vxs]
    intro _
    exact bad 9 w2 (by decide) (by unfold renE'; rw [if_pos (.inr hrp)]) hx
  | true =>
  simp only [vxs]
  intro _
  have e1 : renE' T old p = if old = [] ∨ p = [] then 2 else if (thereT T old).2 ≠ 0 then (thereT T old).2
      else match (thereT T old).1 with
      | none => 0
      | some i =>
        if (T.th i).kind = 2 ∧ p ≠ old ∧ underB p old = true then 2 else if (lookT T p).2 ≠ 0 then (lookT T p).2
        else if (T.th i).kind = 2 then (if (lookT T p).1 ≠ none then 11 else if fitsT T (split old) (split p) then 0 else 7)
        else match (lookT T p).1 with | some j => if (T.th j).kind = 2 then 13 else 0 | none => 0 := by
    unfold renE'; rw [if_neg (by rw [hro, hrp]; simp)]; rfl
  refine gd_or (fun hc => ?_) (fun hc => ?_)
  · have ho0 : old ≠ [] := by simpa using hc
    simp only [vxs]
    refine cnd_split (fun hc => ?_) (fun hc => ?_)
    · have hp0 : p = [] := by simpa using hc
      exact bad 2 w2 (by decide) (by rw [e1, if_pos (.inr hp0)]) hx
    have hp0 : p ≠ [] := by simpa using hc
    rw [if_neg (by simp [ho0, hp0])] at e1
    refine call_ok has_tree_Tree_there (there_spec (h.ext hx) old hol) ?_
    rintro _ w3 ⟨rfl, hx3⟩
    have hx := Ext.trans hx hx3
    simp only [tri, vxs]
    rw [hm.there old] at e1
    simp only at e1
    refine cnd_split (fun hc => ?_) (fun hc => ?_)
    · have hf : (thereA S old).2.2 ≠ 0 := by simpa using hc
      exact bad _ w3 hf (by rw [e1, if_pos hf]) hx
    have hf : (thereA S old).2.2 = 0 := by simpa using hc
    obtain ⟨-, b, df, hb1, hat, hd1, hdf, hkdf⟩ := thereA_dir hf ho0
    rw [if_neg (by simp [hf]), hb1] at e1
    simp only [Option.map_some] at e1
    rw [hm.kind hat] at e1
    have hthT : (thereT T old).1 = some (S.nd b).ino := by rw [hm.there old, hb1]; rfl
    rw [hb1, hd1]
    have hR3 := h.ext hx
    have hbn := (hR3.node _ _ hat).1
    simp only [ptrO, vxs, Nat.zero_add, hbn, nodeE]
    rw [show (((S.nd b).kind : Int) == 2) = ((S.nd b).kind == 2) from nat_eq _ 2]
    have hthO : (thereT T old).2 = 0 := by rw [hm.there old]; exact hf
    have same_old : split p = split old → p = old := fun e => by rw [← join_split p, e, join_split]
    by_cases hk : (S.nd b).kind = 2
    · rw [show ((S.nd b).kind == 2) = true by simp [hk]]
      simp only [vxs]
      refine jn_dup ?_
      intro _
      simp only [vxs]
      refine ⟨fun g w' => Ext w w' ∧ (p ≠ old → nth g 0 = .bool (underB p old)), ?_, ?_⟩
      · rintro g z w4 ⟨hx4, hj⟩
        have pick : ∀ (A B : Prop), ((p ≠ old ∧ underB p old = true) → A) → (¬ (p ≠ old ∧ underB p old = true) → B) → pickx (.bool (!(p == old))) (nth g 0) (.bool false) fun v => cnd v A B := by
          intro A B hA hB
          by_cases hpo : p = old
          · have : (p == old) = true := by simpa using hpo
            rw [this]
            simp only [vxs]
            exact hB fun hh => hh.1 hpo
          · have : (p == old) = false := by simpa using hpo
            rw [this, hj hpo]
            simp only [vxs]
            exact cnd_split (fun hc => hA ⟨hpo, hc⟩) (fun hc => hB fun hh => by rw [hh.2] at hc; cases hc)
        refine pick _ _ (fun hc => ?_) (fun hc => ?_)
        · exact bad 2 w4 (by decide) (by rw [e1, if_pos ⟨hk, hc.1, hc.2⟩]) hx4
        have hu : p ≠ old → underB p old = false := fun hpo => by
          cases hh : underB p old with
          | false => rfl
          | true => exact absurd ⟨hpo, hh⟩ hc
        rw [if_neg (fun hh => hc hh.2), hm.look p, if_pos hk] at e1
        simp only at e1
        refine call_ok has_tree_Tree_look (look_spec (h.ext hx4) p hpl) ?_
        rintro _ w5 ⟨rfl, hx5⟩
        have hx5 := Ext.trans hx4 hx5
        simp only [tri, vxs]
        refine cnd_split (fun hc => ?_) (fun hc => ?_)
        · have hf : (lookA S p).2.2 ≠ 0 := by simpa using hc
          exact bad _ w5 hf (by rw [e1, if_pos hf]) hx5
        have hfl : (lookA S p).2.2 = 0 := by simpa using hc
        rw [if_neg (by simp [hfl])] at e1
        obtain ⟨-, dt, hd2, hdt, hkdt, hlk⟩ := lookA_dir hfl hp0
        rw [hd2]
        refine jn_dup ?_
        cases hw0 : (lookA S p).1 with
        | some c =>
          simp only [ptrO, vxs]
          intro _
          exact bad 11 w5 (by decide) (by rw [e1, if_pos (by rw [hw0]; simp)]) hx5
        | none =>
          have hno : S.at_ (split p) = none := by rw [← hlk]; exact hw0
          rw [if_neg (by rw [hw0]; simp)] at e1
          simp only [ptrO, vxs, Option.isNone_none]
          intro _
          refine jn_dup ?_
          refine call_ok has_tree_node_fits (fits_spec hw hm hm0 (h.ext hx5) hat hk p hrp hp0) ?_
          rintro _ w6 ⟨rfl, hx6⟩
          have hx6 := Ext.trans hx5 hx6
          simp only [vxs]
          intro _
          refine cnd_split (fun hc => ?_) (fun hc => ?_)
          · have hft : fitsT T (split old) (split p) = false := by simpa using hc
            exact bad 7 w6 (by decide) (by rw [e1, if_neg (by rw [hft]; simp)]) hx6
          have hft : fitsT T (split old) (split p) = true := by simpa using hc
          rw [if_pos hft] at e1
          refine jn_dup ?_
          intro _
          simp only [vxs, Option.isNone_some]
          have hpo : p ≠ old := fun e => by rw [e, hat] at hno; cases hno
          refine ren_tail h hx6 hol hpl hro hrp ho0 hp0 hat hdf hkdf hdt hkdt (hu hpo) (fun c hc => by rw [hno] at hc; cases hc) (hm.bnd hw hm0) fun w' ht => ⟨by rw [e1], ?_⟩
          obtain ⟨S', F', q1, q2, q3, S1, q4, q5⟩ := ht
          refine ⟨S', F', q1, q2, q3, ?_⟩
          rcases q4 with ⟨-, rfl⟩ | ⟨c, hc, -⟩
          · unfold renT
            rw [if_pos e1, hthT]
            simp only
            rw [if_pos (by rw [hm.kind hat]; exact hk), q5]
            exact hm.moved hw hno
          · rw [hno] at hc; cases hc
      · by_cases hpo : p = old
        · have : (p == old) = true := by simpa using hpo
          rw [this]
          simp only [vxs]
          exact ⟨hx, fun hh => absurd hpo hh⟩
        · have : (p == old) = false := by simpa using hpo
          rw [this]
          simp only [vxs]
          refine call_ok has_path_Under (Under_spec p old hpl hol w3) ?_
          rintro _ w4 ⟨rfl, hx4⟩
          exact ⟨Ext.trans hx hx4, fun _ => by simp only [vxs]⟩
    · rw [show ((S.nd b).kind == 2) = false by simp [hk]]
      simp only [vxs]
      refine jn_dup fun _ => ?_
      refine jn_dup fun _ => ?_
      rw [if_neg (fun hh => hk hh.1), hm.look p, if_neg hk] at e1
      simp only at e1
      refine call_ok has_tree_Tree_look (look_spec (h.ext hx) p hpl) ?_
      rintro _ w5 ⟨rfl, hx5⟩
      have hx5 := Ext.trans hx hx5
      simp only [tri, vxs]
      refine cnd_split (fun hc => ?_) (fun hc => ?_)
      · have hf : (lookA S p).2.2 ≠ 0 := by simpa using hc
        exact bad _ w5 hf (by rw [e1, if_pos hf]) hx5
      have hfl : (lookA S p).2.2 = 0 := by simpa using hc
      rw [if_neg (by simp [hfl])] at e1
      obtain ⟨-, dt, hd2, hdt, hkdt, hlk⟩ := lookA_dir hfl hp0
      rw [hd2]
      refine jn_dup fun _ => ?_
      refine jn_dup fun _ => ?_
      have hpre : p ≠ old → isPre (split old) (split p) = false := fun hpo => by
        cases hh : isPre (split old) (split p) with
        | false => rfl
        | true =>
          obtain ⟨r, hr⟩ := isPre_iff.1 hh
          by_cases h0 : r = []
          · rw [h0, List.append_nil] at hr; exact absurd (same_old hr) hpo
          · have es := List.dropLast_concat_getLast h0
            have ep := split_last hrp hp0
            rw [hr, ← es, ← List.append_assoc] at ep
            have ep := (List.append_inj' ep rfl).1
            rw [← ep] at hdt
            by_cases h1 : r.dropLast = []
            · rw [h1, List.append_nil, hat] at hdt; injection hdt with hdt; rw [hdt] at hk; exact absurd hkdt hk
            · rw [up_none h (.inr ⟨b, hat, hk⟩) _ h1] at hdt; cases hdt
      have tailR : ∀ (c0 : Option Nat), (lookA S p).1 = c0 → c0 ≠ some b → renE' T old p = 0 → ∀ w', Turned w w' t F (Moved S (split old) (split p) b) → Value.int .i64 0 = .int .i64 (renE' T old p) ∧ Turned w w' t F fun S' => Mt S' (renT T old p).1 := fun c0 hc0 hcb he w' ht => by
        refine ⟨by rw [he], ?_⟩
        obtain ⟨S', F', q1, q2, q3, S1, q4, q5⟩ := ht
        refine ⟨S', F', q1, q2, q3, ?_⟩
        unfold renT
        rw [if_pos he, hthT]
        simp only
        rw [if_neg (by rw [hm.kind hat]; exact hk), if_neg, q5]
        · exact hm.renamed hw hat hk q4
        · rw [hm.look p, hc0]
          intro e
          cases c0 with
          | none => cases e
          | some c =>
            injection e with e
            exact hcb (by rw [hm.inj _ _ _ _ (by rw [← hlk]; exact hc0) hat e])
      cases hw0 : (lookA S p).1 with
      | none =>
        rw [hw0] at e1
        simp only [ptrO, vxs, Option.isNone_none]
        refine jn_dup fun _ => ?_
        simp only [vxs, Option.isNone_some]
        have hno : S.at_ (split p) = none := by rw [← hlk]; exact hw0
        have hpo : p ≠ old := fun e => by rw [e, hat] at hno; cases hno
        exact ren_tail h hx5 hol hpl hro hrp ho0 hp0 hat hdf hkdf hdt hkdt (hpre hpo) (fun c hc => by rw [hno] at hc; cases hc) (hm.bnd hw hm0) (tailR none hw0 (by simp) e1)
      | some c =>
        rw [hw0] at e1
        have hsc : S.at_ (split p) = some c := by rw [← hlk]; exact hw0
        simp only [Option.map_some] at e1
        rw [hm.kind hsc] at e1
        have hcn := ((h.ext hx5).node _ _ hsc).1
        have hbn5 := ((h.ext hx5).node _ _ hat).1
        simp only [ptrO, vxs, Nat.zero_add, hcn, nodeE]
        rw [show (((S.nd c).kind : Int) == 2) = ((S.nd c).kind == 2) from nat_eq _ 2]
        refine jn_dup ?_
        simp only [vxs]
        intro _
        refine cnd_split (fun hc => ?_) (fun hc => ?_)
        · have hkc : (S.nd c).kind = 2 := by simpa using hc
          exact bad 13 w5 (by decide) (by rw [e1, if_pos hkc]) hx5
        have hkc : (S.nd c).kind ≠ 2 := by simpa using hc
        rw [if_neg hkc] at e1
        by_cases hcb : c = b
        · subst hcb
          simp only [binP, if_pos, eqP]
          refine cnd_of (.inl ⟨by simp, ?_⟩)
          refine ⟨by rw [e1], .same h hx5 ?_⟩
          unfold renT
          rw [if_pos e1, hthT]
          simp only
          rw [if_neg (by rw [hm.kind hat]; exact hk), if_pos (by rw [hm.look p, hw0]; rfl)]
          exact hm
        · simp only [binP, if_neg hcb, eqP]
          refine ⟨⟨_, _, hcn⟩, ⟨_, _, hbn5⟩, ?_⟩
          simp only [vxs]
          have hpo : p ≠ old := fun e => by rw [e, hat] at hsc; injection hsc with hsc; exact hcb hsc.symm
          exact ren_tail h hx5 hol hpl hro hrp ho0 hp0 hat hdf hkdf hdt hkdt (hpre hpo) (fun c' hc' => by rw [hsc] at hc'; injection hc' with hc'; subst hc'; exact ⟨hkc, hcb⟩) (hm.bnd hw hm0) (tailR (some c) hw0 (fun e => hcb (by injection e)) e1)
  · have ho0 : old = [] := by simpa using hc
    simp only [vxs]
    exact bad 2 w2 (by decide) (by rw [e1, if_pos (.inl ho0)]) hx
end Go.Proofs.YtkpefimnggojdaaGreat.VX
