/-
  Contracts: what turns a tree: a new thing is put.
-/
import Derived.Test.YtkpefimnggojdaaGreatPv
set_option linter.all false
namespace Go.Proofs.YtkpefimnggojdaaGreat.VX
open Go Pl
set_option maxRecDepth 4000

def upN {α : Type} (f : Nat → α) (b : Nat) (x : α) : Nat → α := fun k => if k = b then x else f k
theorem upN_self {α : Type} (f : Nat → α) (b : Nat) (x : α) : upN f b x b = x := by simp [upN]
theorem upN_ne {α : Type} (f : Nat → α) {b k : Nat} (x : α) (h : k ≠ b) : upN f b x k = f k := by simp [upN, h]
/-- A new thing stands at a path. -/
def addS (S : St) (p : List Bytes) (nb mb : Nat) (n : Nd) : St := ⟨fun q => if q = p then some nb else S.at_ q, upN S.nd nb n, upN S.dv nb (.slice none 0 0), upN S.kid nb mb, S.next + 1⟩

def freshA (S : St) (p : Bytes) : Option Nat × Int := if (lookA S p).2.2 = 0 ∧ (lookA S p).1 ≠ none then ((lookA S p).2.1, 11) else ((lookA S p).2.1, (lookA S p).2.2)
theorem fresh_spec {w : World} {t : Nat} {S : St} {F : Nat → Prop} (h : Rep w t S F) (p : Bytes) (hp : p.length ≤ 4294967290) :
    CallsV Tryz.prog f_tree_Tree_fresh #[.pointer (some ⟨t, 0, none⟩), str p] w fun v w' => v = .tuple #[ptrO (freshA S p).1, .int .i64 (freshA S p).2] ∧ Ext w w' := by
  refine ok_tree_Tree_fresh _ _ _ _ ?_
  unfold go_tree_Tree_fresh
  refine call_ok has_tree_Tree_look (look_spec h p hp) ?_
  rintro _ w1 ⟨rfl, hx1⟩
  have efr : freshA S p = if (lookA S p).2.2 = 0 ∧ (lookA S p).1 ≠ none then ((lookA S p).2.1, 11) else ((lookA S p).2.1, (lookA S p).2.2) := rfl
  generalize lookA S p = r at *
  obtain ⟨a, d, e⟩ := r
  simp only [tri, vxs]
  simp only at efr
  refine gd_and (fun hc => ?_) (fun hc => ?_)
  · have he : e = 0 := by simpa using hc
    cases a with
    | none =>
      simp only [ptrO, vxs, Option.isNone_none, Bool.not_true]
      rw [efr, if_neg (by simp)]
      exact ⟨rfl, hx1⟩
    | some a =>
      simp only [ptrO, vxs]
      rw [efr, if_pos ⟨he, by simp⟩]
      exact ⟨rfl, hx1⟩
  · have he : e ≠ 0 := by simpa using hc
    simp only [vxs]
    rw [efr, if_neg (by simp [he])]
    exact ⟨rfl, hx1⟩

/-- A thing that stands in no tree yet. -/
structure Loose (w : World) (nb mb : Nat) (n : Nd) : Prop where
  cells : ∃ k, w.heap[nb]? = some (.cells (nodeE n (.slice none 0 0) k).toArray t_tree_node (0, 0)) ∧ k = (if n.kind = 2 then .map (some mb) else .map none)
  kids : n.kind = 2 → KidsAt w mb (fun _ => none)
  data : n.data = []

theorem put_spec {w : World} {t : Nat} {S : St} {F : Nat → Prop} (h : Rep w t S F) {p : Bytes} (hp : p.length ≤ 4294967290) {d nb mb : Nat} {n : Nd} (hr : rightB p = true) (hp0 : p ≠ []) (hd : S.at_ (split (parentP p)) = some d) (hk : (S.nd d).kind = 2) (hno : S.at_ (split p) = none)
    (hl : Loose w nb mb n) (hnb : ¬ F nb) (hmb : n.kind = 2 → ¬ F mb) (hnx : 0 ≤ S.next ∧ S.next ≤ 4294967296) :
    CallsV Tryz.prog f_tree_Tree_put #[.pointer (some ⟨t, 0, none⟩), .pointer (some ⟨d, 0, none⟩), str p, .pointer (some ⟨nb, 0, none⟩)] w fun _ w' =>
      Rep w' t (addS S (split p) nb mb { n with ino := S.next, links := 1 }) (fun b => F b ∨ b = nb ∨ (n.kind = 2 ∧ b = mb)) ∧ Upd (fun b => F b ∨ b = nb) w w' := by
  refine ok_tree_Tree_put _ _ _ _ _ _ ?_
  unfold go_tree_Tree_put
  obtain ⟨k0, hcell, ek⟩ := hl.cells
  have htree := h.tree
  have htn : t ≠ nb := fun e => hnb (e ▸ h.ft)
  simp only [vxs, htree, Nat.zero_add]
  refine st1_in hcell rfl (by show 1 < 12; omega) ?_
  obtain ⟨w1, ew1⟩ : ∃ w1, w1 = setB w nb (.cells ((nodeE n (.slice none 0 0) k0).toArray.setIfInBounds 1 (.int .i64 S.next)) t_tree_node (0, 0)) := ⟨_, rfl⟩
  rw [← ew1]
  have c1 : w1.heap[nb]? = some (.cells (nodeE { n with ino := S.next } (.slice none 0 0) k0).toArray t_tree_node (0, 0)) := by rw [ew1, setB_new hcell]; rfl
  have u1 : Upd (fun b => b = nb) w w1 := by rw [ew1]; exact setB_upd _ _ _
  refine st1_in c1 rfl (by show 3 < 12; omega) ?_
  obtain ⟨w2, ew2⟩ : ∃ w2, w2 = setB w1 nb (.cells ((nodeE { n with ino := S.next } (.slice none 0 0) k0).toArray.setIfInBounds 3 (.int .i64 1)) t_tree_node (0, 0)) := ⟨_, rfl⟩
  rw [← ew2]
  have c2 : w2.heap[nb]? = some (.cells (nodeE { n with ino := S.next, links := 1 } (.slice none 0 0) k0).toArray t_tree_node (0, 0)) := by rw [ew2, setB_new c1]; rfl
  have u2 : Upd (fun b => b = nb) w w2 := Upd.trans u1 (by rw [ew2]; exact setB_upd _ _ _) fun _ _ h => h
  have htree2 := u2.get htree htn
  simp only [vxs, htree2]
  refine int_add (by omega) (st1_in htree2 rfl (by show 1 < 2; omega) ?_)
  obtain ⟨w3, ew3⟩ : ∃ w3, w3 = setB w2 t (.cells ((#[ptrO (S.at_ []), .int .i64 S.next] : Array Value).setIfInBounds 1 (.int .i64 (S.next + 1))) t_tree_Tree (0, 0)) := ⟨_, rfl⟩
  rw [← ew3]
  have t3 : w3.heap[t]? = some (.cells #[ptrO (S.at_ []), .int .i64 (S.next + 1)] t_tree_Tree (0, 0)) := by rw [ew3, setB_new htree2]; rfl
  have u23 : Upd (fun b => b = t) w2 w3 := by rw [ew3]; exact setB_upd _ _ _
  have c3 := u23.get c2 (fun e => htn e.symm)
  have u3 : Upd (fun b => b = nb ∨ b = t) w w3 := Upd.trans (u2.mono fun _ _ e => .inl e) u23 fun _ _ e => .inr e
  have hdb := h.node _ _ hd
  have hdn : d ≠ nb := fun e => hnb (e ▸ hdb.2)
  have hdt : d ≠ t := by
    intro e
    have h1 := hdb.1
    rw [e, htree] at h1
    injection h1 with h1; injection h1 with h1 h2; exact absurd h2 (by decide)
  have d3 := u3.get hdb.1 (by rintro (e | e); exact hdn e; exact hdt e)
  obtain ⟨kd, kf⟩ := h.kids _ _ hd hk
  obtain ⟨es0, ck0, hes0, _⟩ := id kd
  have hkn : S.kid d ≠ nb := fun e => hnb (e ▸ kf)
  have hkt : S.kid d ≠ t := by intro e; rw [e, htree] at hes0; cases hes0
  have k3 : KidsAt w3 (S.kid d) (fun x => S.at_ (split (parentP p) ++ [x])) := kd.mono u3 (by rintro (e | e); exact hkn e; exact hkt e)
  have hes := split_last hr hp0
  have hbl := baseP_len p
  refine drw_last [undef, .pointer (some ⟨d, 0, none⟩), .pointer (some ⟨d, 11, none⟩), .map (some (S.kid d)), undef, str (baseP p)] (steps := [(1, _, _), (2, _, _), (3, _, _), (5, _, _)]) ?_ (by simp) (by simp) ?_ (by simp)
  · refine ⟨?_, ?_, ?_, ?_, trivial⟩ <;> intro dd w4 q hd4 hx4 hk4 <;>
      simp only [List.mem_cons, List.not_mem_nil, or_false, forall_eq_or_imp, forall_eq, vxs] at hd4 hk4 ⊢
    · exact hk4 _ (.refl _ _)
    · rw [hd4]; simp only [vxs, Nat.zero_add]; exact hk4 _ (.refl _ _)
    · rw [hd4.1]
      have hn4 := hx4.get d3
      simp only [vxs, hn4, nodeE]
      rw [kv_dir hk]
      exact hk4 _ (.refl _ _)
    · refine call_ok has_path_Base (Base_spec p (by omega) w4) ?_
      rintro _ w4 ⟨rfl, rfl⟩
      exact hk4 _ (.refl _ _)
  · intro dd w4 q hd4 hx4 hk4
    simp only [List.mem_cons, List.not_mem_nil, or_false, forall_eq_or_imp, forall_eq, vxs] at hd4
    rw [hd4.1, hd4.2.1]
    refine (k3.mono hx4 fun f => f).put (baseP p) nb fun w5 k5 u5 => hk4 _ _ fun d' _ _ => ?_
    have u45 : Upd (fun b => b = S.kid d) w3 w5 := Upd.trans hx4.to u5 fun _ _ e => e
    have u : Upd (fun b => b = nb ∨ b = t ∨ b = S.kid d) w w5 := Upd.trans (u3.mono fun _ _ e => by rcases e with e | e; exact .inl e; exact .inr (.inl e)) u45 fun _ _ e => .inr (.inr e)
    refine ⟨?_, u.mono fun b _ e => ?_⟩
    · generalize hq : split (parentP p) = qq at *
      generalize hP : split p = PP at *
      have hP0 : PP ≠ [] := by rw [hes]; simp
      have at1 : ∀ x, (addS S PP nb mb { n with ino := S.next, links := 1 }).at_ x = if x = PP then some nb else S.at_ x := fun _ => rfl
      have ob : ∀ {x b}, S.at_ x = some b → b ≠ nb := fun hx e => hnb (e ▸ (h.node _ _ hx).2)
      have split' : ∀ x b, (addS S PP nb mb { n with ino := S.next, links := 1 }).at_ x = some b → (x = PP ∧ b = nb) ∨ (x ≠ PP ∧ S.at_ x = some b) := fun x b hx => by
        rw [at1] at hx
        by_cases e : x = PP
        · rw [if_pos e] at hx; injection hx with hx; exact .inl ⟨e, hx.symm⟩
        · rw [if_neg e] at hx; exact .inr ⟨e, hx⟩
      have nd1 : ∀ {b}, b ≠ nb → (addS S PP nb mb { n with ino := S.next, links := 1 }).nd b = S.nd b := fun e => upN_ne _ _ e
      have kid1 : ∀ {b}, b ≠ nb → (addS S PP nb mb { n with ino := S.next, links := 1 }).kid b = S.kid b := fun e => upN_ne _ _ e
      have dv1 : ∀ {b}, b ≠ nb → (addS S PP nb mb { n with ino := S.next, links := 1 }).dv b = S.dv b := fun e => upN_ne _ _ e
      have ndn : (addS S PP nb mb { n with ino := S.next, links := 1 }).nd nb = { n with ino := S.next, links := 1 } := upN_self _ _ _
      have kidn : (addS S PP nb mb { n with ino := S.next, links := 1 }).kid nb = mb := upN_self _ _ _
      have dvn : (addS S PP nb mb { n with ino := S.next, links := 1 }).dv nb = .slice none 0 0 := upN_self _ _ _
      -- blocks apart by what they hold
      have nNode : ∀ {b c}, w.heap[b]? = some (.cells c t_tree_node (0, 0)) → b ≠ nb → ¬ (b = nb ∨ b = t ∨ b = S.kid d) := fun hb e => by
        rintro (e1 | e1 | e1)
        · exact e e1
        · rw [e1, htree] at hb; injection hb with hb; injection hb with h1 h2; exact absurd h2 (by decide)
        · rw [e1, hes0] at hb; cases hb
      have nMap : ∀ {r es ck}, w.heap[r]? = some (.map es ck) → r ≠ S.kid d → ¬ (r = nb ∨ r = t ∨ r = S.kid d) := fun hb e => by
        rintro (e1 | e1 | e1)
        · rw [e1, hcell] at hb; cases hb
        · rw [e1, htree] at hb; cases hb
        · exact e e1
      have nData : ∀ {b c}, w.heap[b]? = some (.cells c t_uint8 (0, 0)) → ¬ (b = nb ∨ b = t ∨ b = S.kid d) := fun hb => by
        rintro (e1 | e1 | e1)
        · rw [e1, hcell] at hb; injection hb with hb; injection hb with h1 h2; exact absurd h2 (by decide)
        · rw [e1, htree] at hb; injection hb with hb; injection hb with h1 h2; exact absurd h2 (by decide)
        · rw [e1, hes0] at hb; cases hb
      refine ⟨?_, .inl h.ft, ?_, fun x y b hx => ?_, fun x b hx => ?_, fun x b hx => ?_, fun x b hx hk2 => ?_, fun x y b hx hy hk2 => ?_, fun x y b b' hx hy hk2 hk2' he => ?_, fun b hb => ?_⟩
      · rw [at1, if_neg (fun e => hP0 e.symm)]
        exact u45.get t3 (fun e => hkt e.symm)
      · obtain ⟨b, h1, h2⟩ := h.top
        refine ⟨b, by rw [at1, if_neg (fun e => hP0 e.symm)]; exact h1, by rw [nd1 (ob h1)]; exact h2⟩
      · rcases split' _ _ hx with ⟨e, -⟩ | ⟨-, hx⟩
        · rw [hes] at e
          have := (List.append_inj' e rfl).1
          subst this
          refine ⟨d, ?_, by rw [nd1 hdn]; exact hk⟩
          rw [at1, if_neg (fun e => by rw [e, hno] at hd; cases hd)]; exact hd
        · obtain ⟨d', h1, h2⟩ := h.up _ _ _ hx
          refine ⟨d', ?_, by rw [nd1 (ob h1)]; exact h2⟩
          rw [at1, if_neg (fun e => by rw [e, hno] at h1; cases h1)]; exact h1
      · rcases split' _ _ hx with ⟨-, rfl⟩ | ⟨-, hx⟩
        · refine ⟨?_, .inr (.inl rfl)⟩
          have := u45.get c3 (fun e => hkn e.symm)
          rw [this, ndn, dvn, ek]
          unfold St.kv
          rw [ndn, kidn]
        · have hb := h.node _ _ hx
          have hbn := ob hx
          refine ⟨?_, .inl hb.2⟩
          have e : (addS S PP nb mb { n with ino := S.next, links := 1 }).kv b = S.kv b := by unfold St.kv; rw [nd1 hbn, kid1 hbn]
          rw [u.get hb.1 (nNode hb.1 hbn), nd1 hbn, dv1 hbn, e]
      · rcases split' _ _ hx with ⟨-, rfl⟩ | ⟨-, hx⟩
        · rw [ndn, dvn]
          exact ⟨.inl ⟨rfl, hl.data⟩, fun a l c e => by cases e⟩
        · have hbn := ob hx
          rw [nd1 hbn, dv1 hbn]
          obtain ⟨h1, h2⟩ := h.data _ _ hx
          refine ⟨?_, fun a l c e => .inl (h2 a l c e)⟩
          rcases h1 with h1 | ⟨db, cap, c, h3, h4, h5, h6⟩
          · exact .inl h1
          · exact .inr ⟨db, cap, c, h3, h4, u.get h5 (nData h5), h6⟩
      · rcases split' _ _ hx with ⟨rfl, rfl⟩ | ⟨hxP, hx⟩
        · rw [ndn] at hk2
          rw [kidn]
          have hkl := hl.kids hk2
          refine ⟨?_, .inr (.inr ⟨hk2, rfl⟩)⟩
          obtain ⟨esm, ckm, hm, _⟩ := id hkl
          have hmk : mb ≠ S.kid d := fun e => hmb hk2 (e ▸ kf)
          have := hkl.mono u (nMap hm hmk)
          have ef : (fun y => (addS S x b mb { n with ino := S.next, links := 1 }).at_ (x ++ [y])) = fun _ => none := by
            funext y
            rw [at1, if_neg (fun e => by have := congrArg List.length e; simp at this)]
            exact up_none h (.inl hno) [y] (by simp)
          rw [ef]; exact this
        · have hbn := ob hx
          rw [nd1 hbn] at hk2
          rw [kid1 hbn]
          obtain ⟨kb, kbf⟩ := h.kids _ _ hx hk2
          refine ⟨?_, .inl kbf⟩
          by_cases hbd : b = d
          · subst hbd
            have hxq : x = qq := h.dir _ _ _ hx hd hk
            subst hxq
            have ef : (fun y => (addS S PP nb mb { n with ino := S.next, links := 1 }).at_ (x ++ [y])) = fun y => if y = baseP p then some nb else S.at_ (x ++ [y]) := by
              funext y
              rw [at1, hes]
              by_cases hy : y = baseP p
              · rw [hy, if_pos rfl, if_pos rfl]
              · rw [if_neg hy, if_neg (fun e => hy (by simpa using e))]
            rw [ef]; exact k5
          · have hkk : S.kid b ≠ S.kid d := fun e => hbd (h.kinj _ _ _ _ hx hd hk2 hk e)
            obtain ⟨esm, ckm, hm, _⟩ := id kb
            have := kb.mono u (nMap hm hkk)
            have ef : (fun y => (addS S PP nb mb { n with ino := S.next, links := 1 }).at_ (x ++ [y])) = fun y => S.at_ (x ++ [y]) := by
              funext y
              rw [at1, if_neg]
              intro e
              rw [hes] at e
              have := (List.append_inj' e rfl).1
              subst this
              rw [hd] at hx; injection hx with hx; exact hbd hx.symm
            rw [ef]; exact this
      · rcases split' _ _ hx with ⟨e1, e2⟩ | ⟨hxP, hx1⟩
        · rcases split' _ _ hy with ⟨e3, -⟩ | ⟨hyP, hy1⟩
          · rw [e1, e3]
          · exact absurd e2 (ob hy1)
        · rcases split' _ _ hy with ⟨-, e4⟩ | ⟨hyP, hy1⟩
          · exact absurd e4 (ob hx1)
          · rw [nd1 (ob hx1)] at hk2
            exact h.dir _ _ _ hx1 hy1 hk2
      · rcases split' _ _ hx with ⟨-, e2⟩ | ⟨hxP, hx1⟩
        · rcases split' _ _ hy with ⟨-, e4⟩ | ⟨hyP, hy1⟩
          · rw [e2, e4]
          · rw [e2, ndn] at hk2
            rw [nd1 (ob hy1)] at hk2'
            rw [e2, kidn, kid1 (ob hy1)] at he
            exact absurd (he ▸ (h.kids _ _ hy1 hk2').2) (hmb hk2)
        · rcases split' _ _ hy with ⟨-, e4⟩ | ⟨hyP, hy1⟩
          · rw [e4, ndn] at hk2'
            rw [nd1 (ob hx1)] at hk2
            rw [e4, kidn, kid1 (ob hx1)] at he
            exact absurd (he ▸ (h.kids _ _ hx1 hk2).2) (hmb hk2')
          · rw [nd1 (ob hx1)] at hk2
            rw [nd1 (ob hy1)] at hk2'
            rw [kid1 (ob hx1), kid1 (ob hy1)] at he
            exact h.kinj _ _ _ _ hx1 hy1 hk2 hk2' he
      · have hsz := u.size
        rcases hb with hb | rfl | ⟨hk2, rfl⟩
        · have := h.lt b hb; omega
        · have := lt_of_blk hcell; omega
        · obtain ⟨esm, ckm, hm, _⟩ := hl.kids hk2
          have := lt_of_blk hm; omega
    · rcases e with rfl | rfl | rfl
      · exact .inr rfl
      · exact .inl h.ft
      · exact .inl kf

theorem fresh_ok {w : World} {t : Nat} {S : St} {F : Nat → Prop} (h : Rep w t S F) {p : Bytes} (hf : (freshA S p).2 = 0) :
    ∃ d, (freshA S p).1 = some d ∧ rightB p = true ∧ p ≠ [] ∧ S.at_ (split (parentP p)) = some d ∧ (S.nd d).kind = 2 ∧ S.at_ (split p) = none := by
  have key : (lookA S p).2.2 = 0 → (lookA S p).1 = none → ∃ d, (lookA S p).2.1 = some d ∧ rightB p = true ∧ p ≠ [] ∧ S.at_ (split (parentP p)) = some d ∧ (S.nd d).kind = 2 ∧ S.at_ (split p) = none := by
    intro hf h1
    have el : lookA S p = if rightB p = false then ((none, none, 9) : Option Nat × Option Nat × Int) else if p = [] then (S.at_ [], none, 0) else match S.at_ (split (parentP p)) with
      | none => (none, none, 10)
      | some d => if (S.nd d).kind ≠ 2 then (none, none, 12) else (S.at_ (split p), some d, 0) := rfl
    cases hr : rightB p with
    | false => rw [if_pos hr] at el; rw [el] at hf; cases hf
    | true =>
      rw [if_neg (by rw [hr]; exact Bool.noConfusion)] at el
      by_cases hp : p = []
      · rw [if_pos hp] at el
        rw [el] at h1
        obtain ⟨b, hb, -⟩ := h.top
        simp only at h1
        rw [hb] at h1; cases h1
      · rw [if_neg hp] at el
        cases hat : S.at_ (split (parentP p)) with
        | none => rw [hat] at el; rw [el] at hf; cases hf
        | some d =>
          rw [hat] at el
          simp only at el
          by_cases hk : (S.nd d).kind = 2
          · rw [if_neg (by simp [hk])] at el
            rw [el] at h1 ⊢
            exact ⟨d, rfl, rfl, hp, rfl, hk, h1⟩
          · rw [if_pos hk] at el; rw [el] at hf; cases hf
  unfold freshA at hf ⊢
  split at hf
  · cases hf
  · rename_i hn
    rw [if_neg hn]
    refine key hf ?_
    cases hh : (lookA S p).1 with
    | none => rfl
    | some b => exact absurd ⟨hf, by rw [hh]; simp⟩ hn

/-- What a call has made of a tree. -/
def Turned (w w' : World) (t : Nat) (F : Nat → Prop) (Q : St → Prop) : Prop := ∃ S' F', Rep w' t S' F' ∧ Upd F w w' ∧ (∀ b, F' b → F b ∨ w.heap.size ≤ b) ∧ Q S'
theorem Turned.same {w w' : World} {t : Nat} {S : St} {F : Nat → Prop} {Q : St → Prop} (h : Rep w t S F) (hx : Ext w w') (hq : Q S) : Turned w w' t F Q := ⟨S, F, h.ext hx, hx.to, fun _ hb => .inl hb, hq⟩
/-- Something new stands at a path; nobody had its block. -/
def Added (S : St) (p : List Bytes) (n : Nd) (S' : St) : Prop := ∃ nb mb, (∀ q, S.at_ q ≠ some nb) ∧ S' = addS S p nb mb n

theorem put_turned {w0 w : World} {t : Nat} {S : St} {F : Nat → Prop} (h0 : Rep w0 t S F) (hx : Ext w0 w) {p : Bytes} (hp : p.length ≤ 4294967290) {d nb mb : Nat} {n : Nd} (hr : rightB p = true) (hp0 : p ≠ []) (hd : S.at_ (split (parentP p)) = some d) (hk : (S.nd d).kind = 2) (hno : S.at_ (split p) = none)
    (hl : Loose w nb mb n) (hnb : w0.heap.size ≤ nb) (hmb : n.kind = 2 → w0.heap.size ≤ mb) (hnx : 0 ≤ S.next ∧ S.next ≤ 4294967296) {K : Value → World → Prop}
    (hK : ∀ v w', Rep w' t (addS S (split p) nb mb { n with ino := S.next, links := 1 }) (fun b => F b ∨ b = nb ∨ (n.kind = 2 ∧ b = mb)) → Upd F w0 w' → (∀ q, S.at_ q ≠ some nb) → Turned w0 w' t F (Added S (split p) { n with ino := S.next, links := 1 }) → K v w') :
    callv Tryz.prog (fnv f_tree_Tree_put) [.pointer (some ⟨t, 0, none⟩), .pointer (some ⟨d, 0, none⟩), str p, .pointer (some ⟨nb, 0, none⟩)] w K := by
  have nF : ∀ b, w0.heap.size ≤ b → ¬ F b := fun b hb hf => by have := h0.lt b hf; omega
  refine call_ok has_tree_Tree_put (put_spec (h0.ext hx) hp hr hp0 hd hk hno hl (nF nb hnb) (fun hk => nF mb (hmb hk)) hnx) ?_
  rintro v w' ⟨hR, hu⟩
  have hu' : Upd F w0 w' := Upd.trans hx.to hu fun k hk e => by
    rcases e with e | e
    · exact e
    · omega
  have hfr : ∀ q, S.at_ q ≠ some nb := fun q e => nF nb hnb (h0.node _ _ e).2
  exact hK v w' hR hu' hfr ⟨_, _, hR, hu', fun b hb => by
    rcases hb with hb | rfl | ⟨hk, rfl⟩
    · exact .inl hb
    · exact .inr hnb
    · exact .inr (hmb hk), nb, mb, hfr, rfl⟩

def mkdirE (S : St) (p : Bytes) (m : Meta) : Int := if mayE p m ≠ 0 then mayE p m else (freshA S p).2
theorem Mkdir_spec {w : World} {t : Nat} {S : St} {F : Nat → Prop} (h : Rep w t S F) (p : Bytes) (hp : p.length ≤ 4294967290) (m : Meta) (hnx : 0 ≤ S.next ∧ S.next ≤ 4294967296) :
    CallsV Tryz.prog f_tree_Tree_Mkdir #[.pointer (some ⟨t, 0, none⟩), str p, .agg (metaE m).toArray] w fun v w' => v = .int .i64 (mkdirE S p m) ∧ Turned w w' t F (fun S' => if mkdirE S p m = 0 then Added S (split p) ⟨2, S.next, 1, m, [], []⟩ S' else S' = S) := by
  refine ok_tree_Tree_Mkdir _ _ _ _ _ ?_
  unfold go_tree_Tree_Mkdir
  refine boxx_ok ?_
  obtain ⟨w1, ew1⟩ : ∃ w1, w1 = w.alloc (.cells (metaE m).toArray t_api_Meta) := ⟨_, rfl⟩
  have hx1 : Ext w w1 := by rw [ew1]; exact alloc_ext _ _
  have hb : w1.heap[w.heap.size]? = some (.cells (metaE m).toArray t_api_Meta (0, 0)) := by rw [ew1]; exact alloc_new _ _
  rw [← ew1]
  refine lds_all hb rfl ?_
  refine call_ok has_tree_Tree_may (may_spec t p hp m w1) ?_
  rintro _ w2 ⟨rfl, hx2⟩
  have hx := Ext.trans hx1 hx2
  simp only [vxs]
  refine cnd_split (fun hc => ?_) (fun hc => ?_)
  · have hm : mayE p m ≠ 0 := by simpa using hc
    have e : mkdirE S p m = mayE p m := by unfold mkdirE; rw [if_pos hm]
    exact ⟨by rw [e], .same h hx (by rw [e, if_neg hm])⟩
  · have hm : mayE p m = 0 := by simpa using hc
    have e : mkdirE S p m = (freshA S p).2 := by unfold mkdirE; rw [if_neg (by simp [hm])]
    refine call_ok has_tree_Tree_fresh (fresh_spec (h.ext hx) p hp) ?_
    rintro _ w3 ⟨rfl, hx3⟩
    have hx' := Ext.trans hx hx3
    simp only [vxs]
    refine cnd_split (fun hc => ?_) (fun hc => ?_)
    · have hf : (freshA S p).2 ≠ 0 := by simpa using hc
      exact ⟨by rw [e], .same h hx' (by rw [e, if_neg hf])⟩
    · have hf : (freshA S p).2 = 0 := by simpa using hc
      obtain ⟨d, hd, hr, hp0, hat, hk, hno⟩ := fresh_ok h hf
      rw [hd]
      refine lds_all (hx3.get (hx2.get hb)) rfl ?_
      have e3 : ∀ K : Value → Prop, K (.agg (statE ⟨2, 0, 0, 0, m, []⟩).toArray) → bld [(.int .i64 0), (.int .i64 0), (.int .i64 0), (.int .i64 0), (.int .i64 0), (.int .i64 0), (.int .i64 0), (.int .i64 0), (.int .i64 0), (str [])] [(0, 1, (.int .i64 2)), (4, 5, .agg (metaE m).toArray)] K := fun K h => h
      refine e3 _ ?_
      have e4 : ∀ (r : Nat) (K : Value → Prop), K (.agg (nodeE ⟨2, 0, 0, m, [], []⟩ (.slice none 0 0) (.map (some r))).toArray) → bld [(.int .i64 0), (.int .i64 0), (.int .i64 0), (.int .i64 0), (.int .i64 0), (.int .i64 0), (.int .i64 0), (.int .i64 0), (.int .i64 0), (str []), (.slice none 0 0), (.map none)] [(0, 10, .agg (statE ⟨2, 0, 0, 0, m, []⟩).toArray), (11, 1, .map (some r))] K := fun r K h => h
      refine e4 _ _ ?_
      simp only [Value.cells]
      obtain ⟨w4, ew4⟩ : ∃ w4, w4 = w3.alloc (.map #[] 0) := ⟨_, rfl⟩
      rw [← ew4]
      obtain ⟨n5, en⟩ : ∃ n5, n5 = nodeE ⟨2, 0, 0, m, [], []⟩ (.slice none 0 0) (.map (some w3.heap.size)) := ⟨_, rfl⟩
      rw [← en]
      obtain ⟨w5, ew5⟩ : ∃ w5, w5 = w4.alloc (.cells n5.toArray t_tree_node) := ⟨_, rfl⟩
      rw [← ew5]
      have x4 : Ext w3 w4 := by rw [ew4]; exact alloc_ext _ _
      have x5 : Ext w4 w5 := by rw [ew5]; exact alloc_ext _ _
      have s3 := hx'.size
      have s4 := x4.size
      refine put_turned (mb := w3.heap.size) (n := ⟨2, 0, 0, m, [], []⟩) h (Ext.trans (Ext.trans hx' x4) x5) hp hr hp0 hat hk hno ⟨⟨_, by rw [ew5, en]; exact alloc_new _ _, rfl⟩, fun _ => ⟨#[], 0, x5.get (by rw [ew4]; exact alloc_new _ _), MapKept.stamped_empty 0, by simp, fun k b h => by cases h⟩, rfl⟩ (by omega) (fun _ => s3) hnx fun v w' hR hu hfr hT => ?_
      refine ⟨by rw [e, hf], ?_⟩
      obtain ⟨S', F', q1, q2, q3, q4⟩ := hT
      exact ⟨S', F', q1, q2, q3, by show (if mkdirE S p m = 0 then _ else _); rw [e, if_pos hf]; exact q4⟩

def symE (S : St) (p target : Bytes) (m : Meta) : Int := if mayE p m ≠ 0 then mayE p m else if target = [] then 2 else if 200 < target.length then 7 else (freshA S p).2
theorem Symlink_spec {w : World} {t : Nat} {S : St} {F : Nat → Prop} (h : Rep w t S F) (p target : Bytes) (hp : p.length ≤ 4294967290) (m : Meta) (hnx : 0 ≤ S.next ∧ S.next ≤ 4294967296) :
    CallsV Tryz.prog f_tree_Tree_Symlink #[.pointer (some ⟨t, 0, none⟩), str p, str target, .agg (metaE m).toArray] w fun v w' => v = .int .i64 (symE S p target m) ∧ Turned w w' t F (fun S' => if symE S p target m = 0 then Added S (split p) ⟨3, S.next, 1, m, target, []⟩ S' else S' = S) := by
  refine ok_tree_Tree_Symlink _ _ _ _ _ _ ?_
  unfold go_tree_Tree_Symlink
  refine boxx_ok ?_
  obtain ⟨w1, ew1⟩ : ∃ w1, w1 = w.alloc (.cells (metaE m).toArray t_api_Meta) := ⟨_, rfl⟩
  have hx1 : Ext w w1 := by rw [ew1]; exact alloc_ext _ _
  have hb : w1.heap[w.heap.size]? = some (.cells (metaE m).toArray t_api_Meta (0, 0)) := by rw [ew1]; exact alloc_new _ _
  rw [← ew1]
  refine lds_all hb rfl ?_
  refine call_ok has_tree_Tree_may (may_spec t p hp m w1) ?_
  rintro _ w2 ⟨rfl, hx2⟩
  have hx := Ext.trans hx1 hx2
  simp only [vxs]
  refine cnd_split (fun hc => ?_) (fun hc => ?_)
  · have hm : mayE p m ≠ 0 := by simpa using hc
    have e : symE S p target m = mayE p m := by unfold symE; rw [if_pos hm]
    exact ⟨by rw [e], .same h hx (by rw [e, if_neg hm])⟩
  · have hm : mayE p m = 0 := by simpa using hc
    have e : symE S p target m = if target = [] then 2 else if 200 < target.length then 7 else (freshA S p).2 := by unfold symE; rw [if_neg (by simp [hm])]
    refine cnd_split (fun hc => ?_) (fun hc => ?_)
    · have ht : target = [] := by simpa using hc
      rw [if_pos ht] at e
      exact ⟨by rw [e], .same h hx (by rw [e]; rfl)⟩
    have ht : target ≠ [] := by simpa using hc
    rw [if_neg ht] at e
    refine cnd_split (fun hc => ?_) (fun hc => ?_)
    · have ht : 200 < target.length := by simp at hc; omega
      rw [if_pos ht] at e
      exact ⟨by rw [e], .same h hx (by rw [e]; rfl)⟩
    have ht2 : ¬ 200 < target.length := by simp at hc; omega
    rw [if_neg ht2] at e
    refine call_ok has_tree_Tree_fresh (fresh_spec (h.ext hx) p hp) ?_
    rintro _ w3 ⟨rfl, hx3⟩
    have hx' := Ext.trans hx hx3
    simp only [vxs]
    refine cnd_split (fun hc => ?_) (fun hc => ?_)
    · have hf : (freshA S p).2 ≠ 0 := by simpa using hc
      exact ⟨by rw [e], .same h hx' (by rw [e, if_neg hf])⟩
    · have hf : (freshA S p).2 = 0 := by simpa using hc
      obtain ⟨d, hd, hr, hp0, hat, hk, hno⟩ := fresh_ok h hf
      rw [hd]
      refine lds_all (hx3.get (hx2.get hb)) rfl ?_
      have e3 : ∀ K : Value → Prop, K (.agg (statE ⟨3, 0, 0, 0, m, target⟩).toArray) → bld [(.int .i64 0), (.int .i64 0), (.int .i64 0), (.int .i64 0), (.int .i64 0), (.int .i64 0), (.int .i64 0), (.int .i64 0), (.int .i64 0), (str [])] [(0, 1, (.int .i64 3)), (4, 5, .agg (metaE m).toArray), (9, 1, str target)] K := fun K h => h
      refine e3 _ ?_
      have e4 : ∀ (K : Value → Prop), K (.agg (nodeE ⟨3, 0, 0, m, target, []⟩ (.slice none 0 0) (.map none)).toArray) → bld [(.int .i64 0), (.int .i64 0), (.int .i64 0), (.int .i64 0), (.int .i64 0), (.int .i64 0), (.int .i64 0), (.int .i64 0), (.int .i64 0), (str []), (.slice none 0 0), (.map none)] [(0, 10, .agg (statE ⟨3, 0, 0, 0, m, target⟩).toArray)] K := fun K h => h
      refine e4 _ ?_
      simp only [Value.cells]
      obtain ⟨n5, en⟩ : ∃ n5, n5 = nodeE ⟨3, 0, 0, m, target, []⟩ (.slice none 0 0) (.map none) := ⟨_, rfl⟩
      rw [← en]
      obtain ⟨w5, ew5⟩ : ∃ w5, w5 = w3.alloc (.cells n5.toArray t_tree_node) := ⟨_, rfl⟩
      rw [← ew5]
      have x5 : Ext w3 w5 := by rw [ew5]; exact alloc_ext _ _
      have s3 := hx'.size
      refine put_turned (mb := w3.heap.size) (n := ⟨3, 0, 0, m, target, []⟩) h (Ext.trans hx' x5) hp hr hp0 hat hk hno ⟨⟨_, by rw [ew5, en]; exact alloc_new _ _, rfl⟩, fun h => (by cases h), rfl⟩ s3 (fun _ => s3) hnx fun v w' hR hu hfr hT => ?_
      refine ⟨by rw [e, hf], ?_⟩
      obtain ⟨S', F', q1, q2, q3, q4⟩ := hT
      exact ⟨S', F', q1, q2, q3, by show (if symE S p target m = 0 then _ else _); rw [e, if_pos hf]; exact q4⟩
end Go.Proofs.YtkpefimnggojdaaGreat.VX
