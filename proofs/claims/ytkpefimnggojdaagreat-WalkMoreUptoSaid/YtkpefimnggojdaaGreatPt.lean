/-
  Trees: what they are in memory; contracts of looking up.
-/
import Derived.Test.YtkpefimnggojdaaGreatPm
import Derived.Test.YtkpefimnggojdaaGreatVp2
import Derived.MapKept
set_option linter.all false
namespace Go.Proofs.YtkpefimnggojdaaGreat.VX
open Go Pl
set_option maxRecDepth 4000

structure Nd where
  kind : Nat
  ino : Int
  links : Int
  mt : Meta
  target : Bytes
  data : Bytes
structure St where
  at_ : List Bytes → Option Nat
  nd : Nat → Nd
  dv : Nat → Value
  kid : Nat → Nat
  next : Int
def St.kv (S : St) (b : Nat) : Value := if (S.nd b).kind = 2 then .map (some (S.kid b)) else .map none
def nodeE (n : Nd) (dv kv : Value) : List Value := [.int .i64 n.kind, .int .i64 n.ino, .int .i64 0, .int .i64 n.links, .int .i64 n.mt.mode, .int .i64 n.mt.sec, .int .i64 n.mt.nano, .int .i64 n.mt.uid, .int .i64 n.mt.gid, str n.target, dv, kv]
def u8E (x : UInt8) : List Value := [.int .u8 x.toNat]
theorem u8E_len (x : UInt8) : (u8E x).length = 1 := rfl
def ptrO : Option Nat → Value | some b => .pointer (some ⟨b, 0, none⟩) | none => .pointer none

/-- A map of names: f tells the block that stands at a name. -/
def KidsAt (w : World) (r : Nat) (f : Bytes → Option Nat) : Prop :=
  ∃ es clock, w.heap[r]? = some (.map es clock) ∧ MapKept.Stamped es clock ∧ (∀ e ∈ es.toList, ∃ k b, e.key = str k ∧ e.val = .pointer (some ⟨b, 0, none⟩) ∧ f k = some b) ∧ (∀ k b, f k = some b → ∃ e ∈ es.toList, e.key = str k)
theorem str_inj {a b : Bytes} (h : str a = str b) : a = b := by injection h with h; injection h with h; injection h
theorem KidsAt.mono {w w' : World} {r : Nat} {f : Bytes → Option Nat} {M : Nat → Prop} (h : KidsAt w r f) (hu : Upd M w w') (hm : ¬ M r) : KidsAt w' r f := by
  obtain ⟨es, clock, hb, h⟩ := h
  exact ⟨es, clock, hu.get hb hm, h⟩
theorem KidsAt.find {es : Array MapEntry} {clock : Nat} {f : Bytes → Option Nat} (h2 : ∀ e ∈ es.toList, ∃ k b, e.key = str k ∧ e.val = .pointer (some ⟨b, 0, none⟩) ∧ f k = some b) (h3 : ∀ k b, f k = some b → ∃ e ∈ es.toList, e.key = str k) (k : Bytes) :
    (Instr.findNow .string (str k) es.toList 0 = some none ∧ f k = none ∧ ∀ e ∈ es.toList, e.key ≠ str k) ∨ ∃ j b e, Instr.findNow .string (str k) es.toList 0 = some (some (j, .pointer (some ⟨b, 0, none⟩))) ∧ f k = some b ∧ es.toList[j]? = some e ∧ e.key = str k := by
  have hks : ∀ x ∈ es.toList, MapKept.IsKey .string x.key := fun x hx => by obtain ⟨k', b, e, _⟩ := h2 x hx; rw [e]; trivial
  rcases MapKept.findNow_spec (d := .string) (k := str k) trivial es.toList 0 hks with ⟨h4, h5⟩ | ⟨j, e, h4, h5, h6⟩
  · refine .inl ⟨h4, ?_, h5⟩
    cases hf : f k with
    | none => rfl
    | some b => obtain ⟨e, he, hk⟩ := h3 k b hf; exact absurd hk (h5 e he)
  · obtain ⟨k', b, e1, e2, e3⟩ := h2 e (List.mem_of_getElem? h5)
    have : k' = k := str_inj (e1.symm.trans h6)
    subst this
    refine .inr ⟨j, b, e, ?_, e3, h5, h6⟩
    rw [h4, e2, Nat.zero_add]
theorem KidsAt.lk {w : World} {r : Nat} {f : Bytes → Option Nat} (h : KidsAt w r f) (k : Bytes) {K : Value → Prop} (hk : K (ptrO (f k))) : VX.lk .string (.pointer none) (.map (some r)) (str k) false w K := by
  obtain ⟨es, clock, hb, h1, h2, h3⟩ := h
  simp only [VX.lk, hb]
  rcases KidsAt.find (clock := clock) h2 h3 k with ⟨h4, h5, -⟩ | ⟨j, b, e, h4, h5, -, -⟩
  · rw [h4]; rw [h5] at hk; exact hk
  · rw [h4]; rw [h5] at hk; exact hk

structure Rep (w : World) (t : Nat) (S : St) (F : Nat → Prop) : Prop where
  tree : w.heap[t]? = some (.cells #[ptrO (S.at_ []), .int .i64 S.next] t_tree_Tree (0, 0))
  ft : F t
  top : ∃ b, S.at_ [] = some b ∧ (S.nd b).kind = 2
  up : ∀ p x b, S.at_ (p ++ [x]) = some b → ∃ d, S.at_ p = some d ∧ (S.nd d).kind = 2
  node : ∀ p b, S.at_ p = some b → w.heap[b]? = some (.cells (nodeE (S.nd b) (S.dv b) (S.kv b)).toArray t_tree_node (0, 0)) ∧ F b
  data : ∀ p b, S.at_ p = some b → Own t_uint8 1 u8E 0 w (S.dv b) (S.nd b).data ∧ (∀ a l c, S.dv b = .slice (some a) l c → F a.block)
  kids : ∀ p b, S.at_ p = some b → (S.nd b).kind = 2 → KidsAt w (S.kid b) (fun x => S.at_ (p ++ [x])) ∧ F (S.kid b)
  dir : ∀ p q b, S.at_ p = some b → S.at_ q = some b → (S.nd b).kind = 2 → p = q
  kinj : ∀ p q b d, S.at_ p = some b → S.at_ q = some d → (S.nd b).kind = 2 → (S.nd d).kind = 2 → S.kid b = S.kid d → b = d
  lt : ∀ b, F b → b < w.heap.size

theorem Rep.mono {w w' : World} {t : Nat} {S : St} {F M : Nat → Prop} (h : Rep w t S F) (hu : Upd M w w') (hm : ∀ b, F b → ¬ M b) : Rep w' t S F where
  tree := hu.get h.tree (hm _ h.ft)
  ft := h.ft
  top := h.top
  up := h.up
  node p b hb := ⟨hu.get (h.node p b hb).1 (hm _ (h.node p b hb).2), (h.node p b hb).2⟩
  data p b hb := by
    obtain ⟨h1, h2⟩ := h.data p b hb
    refine ⟨?_, h2⟩
    rcases h1 with h1 | ⟨db, cap, c, h3, h4, h5, h6⟩
    · exact .inl h1
    · exact .inr ⟨db, cap, c, h3, h4, hu.get h5 (hm _ (h2 _ _ _ h4)), h6⟩
  kids p b hb hk := ⟨(h.kids p b hb hk).1.mono hu (hm _ (h.kids p b hb hk).2), (h.kids p b hb hk).2⟩
  dir := h.dir
  kinj := h.kinj
  lt b hb := Nat.lt_of_lt_of_le (h.lt b hb) hu.size
theorem Rep.ext {w w' : World} {t : Nat} {S : St} {F : Nat → Prop} (h : Rep w t S F) (hx : Ext w w') : Rep w' t S F := h.mono hx fun _ _ f => f

theorem up_none {w : World} {t : Nat} {S : St} {F : Nat → Prop} (h : Rep w t S F) {p : List Bytes} (hp : S.at_ p = none ∨ ∃ b, S.at_ p = some b ∧ (S.nd b).kind ≠ 2) : ∀ q : List Bytes, q ≠ [] → S.at_ (p ++ q) = none := by
  have one : ∀ p x, (S.at_ p = none ∨ ∃ b, S.at_ p = some b ∧ (S.nd b).kind ≠ 2) → S.at_ (p ++ [x]) = none := by
    intro p x hp
    cases hh : S.at_ (p ++ [x]) with
    | none => rfl
    | some b =>
      obtain ⟨d, h1, h2⟩ := h.up p x b hh
      rcases hp with hp | ⟨b', hb, hk⟩
      · rw [hp] at h1; cases h1
      · rw [hb] at h1; cases h1; exact absurd h2 hk
  intro q
  induction q generalizing p with
  | nil => intro hq; exact absurd rfl hq
  | cons x q ih =>
    intro _
    have h1 := one p x hp
    by_cases hq : q = []
    · subst hq; exact h1
    · have := ih (p := p ++ [x]) (.inl h1) hq
      simpa using this

theorem kv_dir {S : St} {b : Nat} (h : (S.nd b).kind = 2) : S.kv b = .map (some (S.kid b)) := by simp [St.kv, h]
theorem kv_not {S : St} {b : Nat} (h : (S.nd b).kind ≠ 2) : S.kv b = .map none := by simp [St.kv, h]

theorem at_spec {w : World} {t : Nat} {S : St} {F : Nat → Prop} (h : Rep w t S F) (p : Bytes) (hp : p.length ≤ 4294967290) :
    CallsV Tryz.prog f_tree_Tree_at #[.pointer (some ⟨t, 0, none⟩), str p] w fun v w' => v = ptrO (S.at_ (split p)) ∧ Ext w w' := by
  refine ok_tree_Tree_at _ _ _ _ ?_
  unfold go_tree_Tree_at
  simp only [h.tree, vxs, Nat.zero_add]
  refine call_ok has_path_Split (Split_spec p hp w) ?_
  rintro v w1 ⟨ho, hx1⟩
  have hsl := Sl.of_own strE_len ho
  have hlen := split_len p
  refine hsl.len ?_
  refine ⟨fun g w' => ∃ k : Nat, k ≤ (split p).length ∧ nth g 3 = .int .i64 k ∧ nth g 2 = ptrO (S.at_ ((split p).take k)) ∧ w' = w1, fun g _ => (split p).length - ixOf g 3, ⟨0, Nat.zero_le _, rfl, rfl, rfl⟩, ?_⟩
  rintro g z w1 ⟨k, hk, hg3, hg2, rfl⟩
  have hR := h.ext hx1
  simp only [hg3, vxs]
  refine cnd_split (fun hc => ?_) (fun hc => ?_)
  · have hlt : k < (split p).length := by simp at hc; omega
    refine hsl.ia strE_len k hlt fun b off hr => ?_
    refine hr.ld1 (i := 0) rfl _ ?_
    have etk : (split p).take (k + 1) = (split p).take k ++ [(split p)[k]] := by rw [List.take_succ_eq_append_getElem hlt]
    have eall : split p = (split p).take k ++ (split p).drop k := (List.take_append_drop _ _).symm
    have edr : (split p).drop k ≠ [] := by intro e; have := congrArg List.length e; simp at this; omega
    cases hat : S.at_ ((split p).take k) with
    | none =>
      have hg2 : nth g 2 = .pointer none := by rw [hg2, hat]; rfl
      simp only [hg2, vxs, Option.isNone_none]
      refine jn_dup fun _ => ?_
      try simp only [vxs]
      refine ⟨?_, hx1⟩
      rw [eall, up_none hR (.inl hat) _ edr]; rfl
    | some b =>
      have hg2 : nth g 2 = .pointer (some ⟨b, 0, none⟩) := by rw [hg2, hat]; rfl
      obtain ⟨hnb, -⟩ := hR.node _ _ hat
      simp only [hg2, vxs, hnb, nodeE, Nat.zero_add]
      by_cases hk2 : (S.nd b).kind = 2
      · rw [kv_dir hk2]
        simp only [vxs]
        refine jn_dup fun _ => ?_
        simp only [vxs, hnb, nodeE, Nat.zero_add]
        rw [kv_dir hk2]
        refine (hR.kids _ _ hat hk2).1.lk _ ?_
        refine int_add (by omega) ⟨⟨k + 1, hlt, rfl, ?_, trivial⟩, ?_⟩
        · rw [etk]
        · rw [ixOf_of hg3, ixOf_of (n := k + 1) rfl]; omega
      · rw [kv_not hk2]
        simp only [vxs]
        refine jn_dup fun _ => ?_
        try simp only [vxs]
        refine ⟨?_, hx1⟩
        rw [eall, up_none hR (.inr ⟨b, hat, hk2⟩) _ edr]; rfl
  · have hke : k = (split p).length := by simp at hc; omega
    subst hke
    rw [List.take_length] at hg2
    exact ⟨hg2, hx1⟩

theorem spl_append : ∀ (a b : Bytes), spl (a ++ 47 :: b) = spl a ++ spl b
  | [], b => by simp [spl]
  | c :: a, b => by
    rw [List.cons_append, spl, spl]
    by_cases hc : c = 47
    · rw [if_pos hc, if_pos hc, spl_append a b]; rfl
    · rw [if_neg hc, if_neg hc, spl_append a b]
      cases hs : spl a with
      | nil => exact absurd hs (spl_ne a)
      | cons h t => rfl
theorem split_last {p : Bytes} (hr : rightB p = true) (hp : p ≠ []) : split p = split (parentP p) ++ [baseP p] := by
  rcases last_cases p with h | ⟨a, b, rfl, h⟩
  · rw [parentP_plain h, baseP_plain h]
    unfold split
    rw [if_neg hp, spl_plain p (fun x hx e => h (e ▸ hx))]; rfl
  · rw [parentP_cut h, baseP_cut h]
    have e : split (a ++ 47 :: b) = spl a ++ [b] := by
      unfold split
      rw [if_neg (by simp), spl_append, spl_plain b (fun x hx e => h (e ▸ hx))]
    rw [e]
    by_cases ha : a = []
    · subst ha
      unfold rightB at hr
      rw [e] at hr
      simp [spl, partB] at hr
    · unfold split; rw [if_neg ha]

/-- A path is looked up: what stands there, its directory, the error. -/
def lookA (S : St) (p : Bytes) : Option Nat × Option Nat × Int :=
  if rightB p = false then (none, none, 9) else if p = [] then (S.at_ [], none, 0)
  else match S.at_ (split (parentP p)) with
    | none => (none, none, 10)
    | some d => if (S.nd d).kind ≠ 2 then (none, none, 12) else (S.at_ (split p), some d, 0)
def thereA (S : St) (p : Bytes) : Option Nat × Option Nat × Int :=
  let r := lookA S p
  if r.2.2 = 0 ∧ r.1 = none then (r.1, r.2.1, 10) else r
def tri (r : Option Nat × Option Nat × Int) : Value := .tuple #[ptrO r.1, ptrO r.2.1, .int .i64 r.2.2]

theorem look_spec {w : World} {t : Nat} {S : St} {F : Nat → Prop} (h : Rep w t S F) (p : Bytes) (hp : p.length ≤ 4294967290) :
    CallsV Tryz.prog f_tree_Tree_look #[.pointer (some ⟨t, 0, none⟩), str p] w fun v w' => v = tri (lookA S p) ∧ Ext w w' := by
  refine ok_tree_Tree_look _ _ _ _ ?_
  unfold go_tree_Tree_look
  refine call_ok has_path_Right (Right_spec p hp w) ?_
  rintro _ w1 ⟨rfl, hx1⟩
  cases hr : rightB p with
  | false =>
    simp only [vxs]
    exact ⟨by simp [lookA, hr, tri, ptrO], hx1⟩
  | true =>
    simp only [vxs]
    refine cnd_split (fun hc => ?_) (fun hc => ?_)
    · have hp0 : p = [] := by simpa using hc
      have h1 := (h.ext hx1).tree
      simp only [h1, vxs]
      have e : lookA S p = (S.at_ [], none, 0) := by unfold lookA; rw [if_neg (by rw [hr]; exact Bool.noConfusion), if_pos hp0]
      exact ⟨by rw [e]; rfl, hx1⟩
    · have hp0 : p ≠ [] := by simpa using hc
      refine call_ok has_path_Parent (Parent_spec p (by omega) w1) ?_
      rintro _ w1 ⟨rfl, rfl⟩
      have hpl := parentP_len p
      refine call_ok has_tree_Tree_at (at_spec (h.ext hx1) (parentP p) (by omega)) ?_
      rintro _ w2 ⟨rfl, hx2⟩
      have hx := Ext.trans hx1 hx2
      have hR := h.ext hx
      cases hat : S.at_ (split (parentP p)) with
      | none =>
        simp only [ptrO, vxs, Option.isNone_none]
        exact ⟨by simp [lookA, hr, hp0, hat, tri, ptrO], hx⟩
      | some d =>
        have hnd := (hR.node _ _ hat).1
        simp only [ptrO]
        simp only [vxs, hnd, nodeE, Nat.zero_add]
        rw [show (((S.nd d).kind : Int) != 2) = !((S.nd d).kind == 2) from congrArg (fun b => !b) (nat_eq _ 2)]
        refine cnd_split (fun hc => ?_) (fun hc => ?_)
        · have hk : (S.nd d).kind ≠ 2 := by simpa using hc
          exact ⟨by simp [lookA, hr, hp0, hat, hk, tri, ptrO], hx⟩
        · have hk : (S.nd d).kind = 2 := by simpa using hc
          have hes := split_last hr hp0
          refine drw_det [undef, .pointer (some ⟨d, 0, none⟩), .pointer (some ⟨d, 11, none⟩), .map (some (S.kid d)), undef, str (baseP p), ptrO (S.at_ (split p))] ?_ ?_
          · refine ⟨?_, ?_, ?_, ?_, ?_, trivial⟩ <;> intro dd w4 q hd hx4 hk4 <;>
              simp only [List.mem_cons, List.not_mem_nil, or_false, forall_eq_or_imp, forall_eq, vxs] at hd hk4 ⊢
            · exact hk4 _ (.refl _ _)
            · rw [hd]; simp only [vxs, Nat.zero_add]; exact hk4 _ (.refl _ _)
            · rw [hd.1]
              have hn4 := hx4.get hnd
              simp only [vxs, hn4, nodeE]
              rw [kv_dir hk]
              exact hk4 _ (.refl _ _)
            · refine call_ok has_path_Base (Base_spec p (by omega) w4) ?_
              rintro _ w4 ⟨rfl, rfl⟩
              exact hk4 _ (.refl _ _)
            · rw [hd.1, hd.2.1]
              refine ((hR.ext hx4).kids _ _ hat hk).1.lk _ ?_
              rw [← hes]; exact hk4 _ (.refl _ _)
          · intro dd w4 hd hx4
            rw [hd 6 (by simp)]
            exact ⟨by simp [lookA, hr, hp0, hat, hk, tri, ptrO, nth], Ext.trans hx hx4⟩

theorem lookA_none_of_err {S : St} {p : Bytes} (h : (lookA S p).2.2 ≠ 0) : (lookA S p).1 = none := by
  unfold lookA at h ⊢
  split
  · rfl
  · rename_i h1
    rw [if_neg h1] at h
    split
    · rename_i h2; rw [if_pos h2] at h; exact absurd rfl h
    · rename_i h2
      rw [if_neg h2] at h
      split
      · rfl
      · rename_i d hd
        rw [hd] at h
        simp only at h
        split
        · rfl
        · rename_i h3; rw [if_neg h3] at h; exact absurd rfl h

theorem there_spec {w : World} {t : Nat} {S : St} {F : Nat → Prop} (h : Rep w t S F) (p : Bytes) (hp : p.length ≤ 4294967290) :
    CallsV Tryz.prog f_tree_Tree_there #[.pointer (some ⟨t, 0, none⟩), str p] w fun v w' => v = tri (thereA S p) ∧ Ext w w' := by
  refine ok_tree_Tree_there _ _ _ _ ?_
  unfold go_tree_Tree_there
  simp only [vxs]
  refine call_ok has_tree_Tree_look (look_spec h p hp) ?_
  rintro _ w1 ⟨rfl, hx1⟩
  simp only [tri, vxs]
  have eth : thereA S p = if (lookA S p).2.2 = 0 ∧ (lookA S p).1 = none then ((lookA S p).1, (lookA S p).2.1, 10) else lookA S p := rfl
  generalize hl : lookA S p = r at *
  obtain ⟨a, b, e⟩ := r
  simp only at eth ⊢
  refine jn_dup ?_
  refine gd_and (fun hc => ?_) (fun hc => ?_)
  · have he : e = 0 := by simpa using hc
    cases a with
    | none =>
      simp only [ptrO, vxs, Option.isNone_none]
      intro _
      rw [eth, if_pos ⟨he, rfl⟩]
      exact ⟨rfl, hx1⟩
    | some a =>
      simp only [ptrO, vxs]
      intro _
      rw [eth, if_neg (by simp)]
      exact ⟨rfl, hx1⟩
  · have he : e ≠ 0 := by simpa using hc
    simp only [vxs]
    intro _
    rw [eth, if_neg (by simp [he])]
    exact ⟨rfl, hx1⟩

def fileE (n : Nd) : Int := if n.kind = 2 then 13 else if n.kind = 3 then 17 else 0
theorem file_spec {w : World} {t : Nat} {S : St} {F : Nat → Prop} (h : Rep w t S F) {p : List Bytes} {b : Nat} (hb : S.at_ p = some b) :
    CallsV Tryz.prog f_tree_file #[.pointer (some ⟨b, 0, none⟩)] w fun v w' => v = .int .i64 (fileE (S.nd b)) ∧ w' = w := by
  refine ok_tree_file _ _ _ ?_
  unfold go_tree_file
  have hnb := (h.node _ _ hb).1
  simp only [vxs, hnb, nodeE, Nat.zero_add]
  rw [show (((S.nd b).kind : Int) == 2) = ((S.nd b).kind == 2) from nat_eq _ 2]
  refine cnd_split (fun hc => ?_) (fun hc => ?_)
  · have hk : (S.nd b).kind = 2 := by simpa using hc
    exact ⟨by simp [fileE, hk], trivial⟩
  · have hk : (S.nd b).kind ≠ 2 := by simpa using hc
    rw [show (((S.nd b).kind : Int) == 3) = ((S.nd b).kind == 3) from nat_eq _ 3]
    refine cnd_split (fun hc => ?_) (fun hc => ?_)
    · have hk3 : (S.nd b).kind = 3 := by simpa using hc
      exact ⟨by simp [fileE, hk3], trivial⟩
    · have hk3 : (S.nd b).kind ≠ 3 := by simpa using hc
      exact ⟨by simp [fileE, hk, hk3], trivial⟩

/-- How many names a map of names has. -/
def Card (f : Bytes → Option Nat) (n : Nat) : Prop := ∃ ks : List Bytes, ks.Nodup ∧ (∀ k, k ∈ ks ↔ ∃ b, f k = some b) ∧ ks.length = n
def keyB (e : MapEntry) : Bytes := match e.key with | .string s => s.data.toList | _ => []
theorem KidsAt.card {es : Array MapEntry} {clock : Nat} {f : Bytes → Option Nat} (h1 : MapKept.Stamped es clock) (h2 : ∀ e ∈ es.toList, ∃ k b, e.key = str k ∧ e.val = .pointer (some ⟨b, 0, none⟩) ∧ f k = some b) (h3 : ∀ k b, f k = some b → ∃ e ∈ es.toList, e.key = str k) :
    (es.toList.map keyB).Nodup ∧ (∀ k, k ∈ es.toList.map keyB ↔ ∃ b, f k = some b) := by
  have hk : ∀ e ∈ es.toList, e.key = str (keyB e) := fun e he => by
    obtain ⟨k, b, e1, _⟩ := h2 e he
    rw [e1]; congr 1; unfold keyB; rw [e1]
  constructor
  · have h := h1.2.2
    have : es.toList.map (·.key) = (es.toList.map keyB).map str := by
      rw [List.map_map]; exact List.map_congr_left hk
    rw [this] at h
    exact (List.Pairwise.of_map str (fun a b hab e => hab (by rw [e])) h)
  · intro k
    constructor
    · intro hm
      obtain ⟨e, he, rfl⟩ := List.mem_map.1 hm
      obtain ⟨k, b, e1, _, e3⟩ := h2 e he
      have := hk e he
      rw [e1] at this
      exact ⟨b, by rw [← str_inj this]; exact e3⟩
    · rintro ⟨b, hb⟩
      obtain ⟨e, he, e1⟩ := h3 k b hb
      have := hk e he
      rw [e1] at this
      exact List.mem_map.2 ⟨e, he, (str_inj this).symm⟩
theorem KidsAt.len {w : World} {r : Nat} {f : Bytes → Option Nat} (h : KidsAt w r f) {K : Value → Prop} (hk : ∀ n, Card f n → K (.int .i64 n)) : lenM (.map (some r)) w K := by
  obtain ⟨es, clock, hb, h1, h2, h3⟩ := h
  simp only [lenM, hb]
  obtain ⟨c1, c2⟩ := KidsAt.card h1 h2 h3
  exact hk es.size ⟨_, c1, c2, by simp⟩
theorem Card.unique {f : Bytes → Option Nat} {n m : Nat} (h : Card f n) (h' : Card f m) : n = m := by
  obtain ⟨ks, h1, h2, rfl⟩ := h
  obtain ⟨ks', h1', h2', rfl⟩ := h'
  have : ks.Perm ks' := (List.perm_ext_iff_of_nodup h1 h1').2 fun k => by rw [h2, h2']
  exact this.length_eq

structure Stat where
  kind : Nat
  ino : Int
  size : Int
  links : Int
  mt : Meta
  target : Bytes
def statE (s : Stat) : List Value := [.int .i64 s.kind, .int .i64 s.ino, .int .i64 s.size, .int .i64 s.links, .int .i64 s.mt.mode, .int .i64 s.mt.sec, .int .i64 s.mt.nano, .int .i64 s.mt.uid, .int .i64 s.mt.gid, str s.target]
def stat0 : Stat := ⟨0, 0, 0, 0, ⟨0, 0, 0, 0, 0⟩, []⟩
/-- What is told of a thing. -/
def Told (S : St) (p : List Bytes) (b : Nat) (s : Stat) : Prop :=
  s.kind = (S.nd b).kind ∧ s.ino = (S.nd b).ino ∧ s.links = (S.nd b).links ∧ s.mt = (S.nd b).mt ∧ s.target = (S.nd b).target ∧
  (if s.kind = 1 then s.size = (S.nd b).data.length else if s.kind = 2 then ∃ n, Card (fun x => S.at_ (p ++ [x])) n ∧ s.size = n else if s.kind = 3 then s.size = (S.nd b).target.length else s.size = 0)
theorem Told.unique {S : St} {p : List Bytes} {b : Nat} {s s' : Stat} (h : Told S p b s) (h' : Told S p b s') : s = s' := by
  obtain ⟨k, i, z, l, m, t⟩ := s
  obtain ⟨k', i', z', l', m', t'⟩ := s'
  obtain ⟨h1, h2, h3, h4, h5, h6⟩ := h
  obtain ⟨g1, g2, g3, g4, g5, g6⟩ := h'
  simp only at *
  subst h1 h2 h3 h4 h5 g1 g2 g3 g4 g5
  congr 1
  split at h6
  · rename_i hk; rw [if_pos hk] at g6; rw [h6, g6]
  · rename_i hk
    rw [if_neg hk] at g6
    split at h6
    · rename_i hk2
      rw [if_pos hk2] at g6
      obtain ⟨n, c1, rfl⟩ := h6
      obtain ⟨n', c2, rfl⟩ := g6
      rw [c1.unique c2]
    · rename_i hk2
      rw [if_neg hk2] at g6
      split at h6
      · rename_i hk3; rw [if_pos hk3] at g6; rw [h6, g6]
      · rename_i hk3; rw [if_neg hk3] at g6; rw [h6, g6]

def StatAt (w : World) (b : Nat) (s : Stat) : Prop := w.heap[b]? = some (.cells (statE s).toArray t_api_Stat (0, 0))
theorem statE_one (s : Stat) : ∀ v ∈ statE s, oneCell v = true := by
  intro v hv
  simp only [statE, List.mem_cons, List.not_mem_nil, or_false] at hv
  rcases hv with rfl | rfl | rfl | rfl | rfl | rfl | rfl | rfl | rfl | rfl <;> rfl
theorem st_all {w : World} {b n : Nat} {vs vs' : List Value} {t : TypeId} (h : w.heap[b]? = some (.cells vs.toArray t (0, 0))) (hn : vs.length = n) (hn' : vs'.length = n) (h0 : 0 < n) (h1 : ∀ v ∈ vs', oneCell v = true) {K : World → Prop}
    (hk : ∀ w', w'.heap[b]? = some (.cells vs'.toArray t (0, 0)) → Upd (fun k => k = b) w w' → K w') : st n (.pointer (some ⟨b, 0, none⟩)) (.agg vs'.toArray) w K := by
  refine st_in ?_
  rw [h]
  refine ⟨rfl, hn', h0, List.all_eq_true.2 h1, by show 0 + n ≤ vs.length; omega, ?_⟩
  have : fillL vs.toArray.toList 0 (Value.agg vs'.toArray).cells.toList = vs' := by
    show fillL vs 0 vs' = vs'
    have hd : vs.drop (0 + vs'.length) = [] := List.drop_eq_nil_of_le (by omega)
    simp only [fillL, hd, List.take_zero, List.nil_append, List.append_nil]
  rw [this]
  exact hk _ (setB_new h) (setB_upd _ _ _)
theorem stat_ret {w : World} {B3 B2 : Nat} {s s' : Stat} (h3 : StatAt w B3 s) (h2 : StatAt w B2 s') {K : Value → World → Prop} (hk : ∀ w5, Upd (fun k => k = B2) w w5 → K (.agg (statE s).toArray) w5) :
    ldS 10 (.pointer (some ⟨B3, 0, none⟩)) w fun t => st 10 (.pointer (some ⟨B2, 0, none⟩)) t w fun w5 => ldS 10 (.pointer (some ⟨B2, 0, none⟩)) w5 fun r => K r w5 :=
  lds_all h3 rfl (st_all (vs' := statE s) (n := 10) h2 rfl rfl (by omega) (statE_one s) fun w5 h5 hu => lds_all h5 rfl (hk w5 hu))
theorem newx_any {zs : List Value} {t : TypeId} {w : World} {K : Value → World → Prop} (hk : ∀ w', w'.heap[w.heap.size]? = some (.cells zs.toArray t (0, 0)) → Ext w w' → w'.heap.size = w.heap.size + 1 → K (.pointer (some ⟨w.heap.size, 0, none⟩)) w') : newx zs t w K :=
  hk _ (alloc_new _ _) (alloc_ext _ _) (alloc_size _ _)
/-- A variable is made, and set. -/
theorem newst {zs vs : List Value} {n : Nat} {t : TypeId} {w : World} {K : Value → World → Prop} (hz : zs.length = n) (hv : vs.length = n) (hn : 0 < n) (h1 : ∀ v ∈ vs, oneCell v = true)
    (hk : ∀ w', w'.heap[w.heap.size]? = some (.cells vs.toArray t (0, 0)) → Ext w w' → K (.pointer (some ⟨w.heap.size, 0, none⟩)) w') : newx zs t w fun a w1 => st n a (.agg vs.toArray) w1 fun w2 => K a w2 :=
  newx_ok (new_st (by simpa using hz) hv hn h1 hk)
theorem stat_size {w : World} {B : Nat} {s : Stat} (h : StatAt w B s) (n : Int) {K : World → Prop} (hk : ∀ w', StatAt w' B { s with size := n } → Upd (fun k => k = B) w w' → K w') : st 1 (.pointer (some ⟨B, 2, none⟩)) (.int .i64 n) w K :=
  st1_in h rfl (by show 2 < 10; omega) (hk _ (by unfold StatAt; rw [setB_new h]; rfl) (setB_upd _ _ _))

theorem tell_spec {w : World} {t : Nat} {S : St} {F : Nat → Prop} (h : Rep w t S F) {p : List Bytes} {b : Nat} (hb : S.at_ p = some b) :
    CallsV Tryz.prog f_tree_node_tell #[.pointer (some ⟨b, 0, none⟩)] w fun v w' => (∃ s, v = .agg (statE s).toArray ∧ Told S p b s) ∧ Ext w w' := by
  refine ok_tree_node_tell _ _ _ ?_
  unfold go_tree_node_tell
  refine newx_any fun w1 s2 hx1 hsz => ?_
  have s2 : StatAt w1 w.heap.size stat0 := s2
  obtain ⟨B2, e2⟩ : ∃ B, B = w.heap.size := ⟨_, rfl⟩
  rw [← e2] at s2 ⊢
  have hR := h.ext hx1
  have hnb := (hR.node _ _ hb).1
  obtain ⟨n, en⟩ : ∃ n, n = S.nd b := ⟨_, rfl⟩
  obtain ⟨sz, es⟩ : ∃ s : Stat, s = ⟨n.kind, n.ino, 0, n.links, n.mt, n.target⟩ := ⟨_, rfl⟩
  show nck _ _
  simp only [nck]
  have fa' : ∀ (B o n : Nat) (K : Value → Prop), fa n (.pointer (some ⟨B, o, none⟩)) K = K (.pointer (some ⟨B, o + n, none⟩)) := fun B o n K => by simp only [fa, addr_add]
  rw [fa']
  have hld : ∀ K : Value → Prop, K (.agg (statE sz).toArray) → ldS 10 (.pointer (some ⟨b, 0 + 0, none⟩)) w1 K := fun K hK => by
    refine ldS_in w1 b 0 10 K ?_
    rw [hnb]
    simp only [cellsIn]
    rw [if_pos (by show 0 + 10 ≤ 12; omega), ← en]
    rw [es] at hK
    exact hK
  refine hld _ ?_
  refine newst (n := 10) rfl rfl (by omega) (statE_one sz) fun w3 s3 hx3 => ?_
  obtain ⟨B3, e3⟩ : ∃ B, B = w1.heap.size := ⟨_, rfl⟩
  rw [← e3] at s3 ⊢
  have s2 : StatAt w3 B2 stat0 := hx3.get s2
  have hne : B2 ≠ B3 := by rw [e2, e3, hsz]; omega
  have hB2 : w.heap.size ≤ B2 := by omega
  have hB3 : w.heap.size ≤ B3 := by rw [e3]; exact hx1.size
  have hx := Ext.trans hx1 hx3
  have hR := h.ext hx
  have hnb := (hR.node _ _ hb).1
  rw [← en] at hnb
  have told : ∀ z : Int, (if n.kind = 1 then z = n.data.length else if n.kind = 2 then ∃ m : Nat, Card (fun x => S.at_ (p ++ [x])) m ∧ z = m else if n.kind = 3 then z = n.target.length else z = 0) → Told S p b { sz with size := z } := fun z hz => by
    subst es; exact ⟨by rw [en], by rw [en], by rw [en], by rw [en], by rw [en], by rw [← en]; exact hz⟩
  -- the end
  have fin : ∀ (z : Int), Told S p b { sz with size := z } → st 1 (.pointer (some ⟨B3, 2, none⟩)) (.int .i64 z) w3 fun w4 => ldS 10 (.pointer (some ⟨B3, 0, none⟩)) w4 fun t => st 10 (.pointer (some ⟨B2, 0, none⟩)) t w4 fun w5 => ldS 10 (.pointer (some ⟨B2, 0, none⟩)) w5 fun r =>
      (∃ s, r = .agg (statE s).toArray ∧ Told S p b s) ∧ Ext w w5 := fun z hz => by
    refine stat_size s3 z fun w4 h4 hu4 => ?_
    refine stat_ret h4 (hu4.get s2 hne) fun w5 hu5 => ⟨⟨_, rfl, hz⟩, ?_⟩
    exact Upd.trans (Upd.trans hx hu4 fun k hk e => by omega) hu5 fun k hk e => by omega
  have k0 : cellIn w3.heap[B3]? 0 = some (.int .i64 n.kind) := by rw [s3, es]; rfl
  rw [fa']
  have ldk : ∀ K : Value → Prop, K (.int .i64 n.kind) → ld (.pointer (some ⟨B3, 0 + 0, none⟩)) w3 K := fun K hK => by
    simp only [vxs, Nat.zero_add, k0]; exact hK
  refine ldk _ ?_
  rw [show ∀ K, bin .eql (.int .i64 (n.kind : Int)) (.int .i64 1) K = K (.bool (n.kind == 1)) from fun K => by simp only [vxs]; rw [show ((n.kind : Int) == 1) = (n.kind == 1) from nat_eq _ 1]]
  refine cnd_split (fun hc => ?_) (fun hc => ?_)
  · have hk : n.kind = 1 := by simpa using hc
    rw [fa']
    have hd : ∀ K : Value → Prop, K (S.dv b) → ld (.pointer (some ⟨b, 0 + 10, none⟩)) w3 K := fun K hK => by
      simp only [vxs, Nat.zero_add, hnb, nodeE]; exact hK
    refine hd _ ?_
    refine (Sl.of_own u8E_len (hR.data _ _ hb).1).len ?_
    rw [fa']
    exact fin _ (told _ (by rw [if_pos hk, en]))
  · have hk : n.kind ≠ 1 := by simpa using hc
    rw [show ∀ K, bin .eql (.int .i64 (n.kind : Int)) (.int .i64 2) K = K (.bool (n.kind == 2)) from fun K => by simp only [vxs]; rw [show ((n.kind : Int) == 2) = (n.kind == 2) from nat_eq _ 2]]
    refine cnd_split (fun hc => ?_) (fun hc => ?_)
    · have hk2 : n.kind = 2 := by simpa using hc
      rw [fa']
      have hk2' : (S.nd b).kind = 2 := by rw [← en]; exact hk2
      have hd : ∀ K : Value → Prop, K (.map (some (S.kid b))) → ld (.pointer (some ⟨b, 0 + 11, none⟩)) w3 K := fun K hK => by
        simp only [vxs, Nat.zero_add, hnb, nodeE]; rw [kv_dir hk2']; exact hK
      refine hd _ ?_
      refine (hR.kids _ _ hb hk2').1.len fun m hm => ?_
      rw [fa']
      exact fin _ (told _ (by rw [if_neg hk, if_pos hk2]; exact ⟨m, hm, rfl⟩))
    · have hk2 : n.kind ≠ 2 := by simpa using hc
      rw [show ∀ K, bin .eql (.int .i64 (n.kind : Int)) (.int .i64 3) K = K (.bool (n.kind == 3)) from fun K => by simp only [vxs]; rw [show ((n.kind : Int) == 3) = (n.kind == 3) from nat_eq _ 3]]
      refine cnd_split (fun hc => ?_) (fun hc => ?_)
      · have hk3 : n.kind = 3 := by simpa using hc
        rw [fa']
        have hd : ∀ K : Value → Prop, K (str n.target) → ld (.pointer (some ⟨B3, 0 + 9, none⟩)) w3 K := fun K hK => by
          have : cellIn w3.heap[B3]? 9 = some (str n.target) := by rw [s3, es]; rfl
          simp only [vxs, Nat.zero_add, this]; exact hK
        refine hd _ ?_
        simp only [lenS]
        rw [fa']
        exact fin _ (told _ (by rw [if_neg hk, if_neg hk2, if_pos hk3]))
      · have hk3 : n.kind ≠ 3 := by simpa using hc
        refine stat_ret s3 s2 fun w5 hu5 => ⟨⟨_, rfl, ?_⟩, Upd.trans hx hu5 fun k hk e => by omega⟩
        have := told 0 (by rw [if_neg hk, if_neg hk2, if_neg hk3])
        rw [es] at this ⊢; exact this

/-- What Stat answers. -/
def StatR (S : St) (p : Bytes) (v : Value) : Prop :=
  if (thereA S p).2.2 ≠ 0 then v = .tuple #[.agg (statE stat0).toArray, .int .i64 (thereA S p).2.2]
  else ∃ b s, (thereA S p).1 = some b ∧ S.at_ (split p) = some b ∧ v = .tuple #[.agg (statE s).toArray, .int .i64 0] ∧ Told S (split p) b s

theorem thereA_some {S : St} {p : Bytes} (h : (thereA S p).2.2 = 0) : ∃ b, (thereA S p).1 = some b ∧ S.at_ (split p) = some b := by
  have e0 : thereA S p = if (lookA S p).2.2 = 0 ∧ (lookA S p).1 = none then ((lookA S p).1, (lookA S p).2.1, 10) else lookA S p := rfl
  rw [e0] at h ⊢
  split at h
  · cases h
  · rename_i hn
    rw [if_neg hn]
    cases ha : (lookA S p).1 with
    | none => exact absurd ⟨h, ha⟩ hn
    | some b =>
      refine ⟨b, rfl, ?_⟩
      unfold lookA at ha
      split at ha
      · cases ha
      · split at ha
        · rename_i hp; subst hp; exact ha
        · split at ha
          · cases ha
          · split at ha
            · cases ha
            · exact ha

theorem Stat_spec {w : World} {t : Nat} {S : St} {F : Nat → Prop} (h : Rep w t S F) (p : Bytes) (hp : p.length ≤ 4294967290) :
    CallsV Tryz.prog f_tree_Tree_Stat #[.pointer (some ⟨t, 0, none⟩), str p] w fun v w' => StatR S p v ∧ Ext w w' := by
  refine ok_tree_Tree_Stat _ _ _ _ ?_
  unfold go_tree_Tree_Stat
  refine newx_any fun w1 s4 hx1 hsz => ?_
  have s4 : StatAt w1 w.heap.size stat0 := s4
  obtain ⟨B4, e4⟩ : ∃ B, B = w.heap.size := ⟨_, rfl⟩
  rw [← e4] at s4 ⊢
  refine call_ok has_tree_Tree_there (there_spec (h.ext hx1) p hp) ?_
  rintro _ w2 ⟨rfl, hx2⟩
  have s4 : StatAt w2 B4 stat0 := hx2.get s4
  have hx := Ext.trans hx1 hx2
  have hR := h.ext hx
  have hth := thereA_some (S := S) (p := p)
  unfold StatR
  generalize thereA S p = r at *
  obtain ⟨a, d, e⟩ := r
  simp only [tri, vxs]
  simp only at hth
  refine cnd_split (fun hc => ?_) (fun hc => ?_)
  · have he : e ≠ 0 := by simpa using hc
    have e1 : ∀ K : Value → Prop, K (.agg (statE stat0).toArray) → bld [(.int .i64 0), (.int .i64 0), (.int .i64 0), (.int .i64 0), (.int .i64 0), (.int .i64 0), (.int .i64 0), (.int .i64 0), (.int .i64 0), (str [])] [] K := fun K hK => hK
    refine e1 _ (st_all (vs' := statE stat0) (n := 10) s4 rfl rfl (by omega) (statE_one _) fun w3 s3 hu3 => ?_)
    refine lds_all s3 rfl ⟨?_, Upd.trans hx hu3 fun k hk e => by omega⟩
    rw [if_pos he]
  · have he : e = 0 := by simpa using hc
    obtain ⟨b, hb, hat⟩ := hth he
    subst hb
    refine call_ok has_tree_node_tell (tell_spec hR hat) ?_
    rintro _ w3 ⟨⟨s, rfl, hs⟩, hx3⟩
    refine st_all (vs' := statE s) (n := 10) (hx3.get s4) rfl rfl (by omega) (statE_one _) fun w4 h4 hu4 => ?_
    refine lds_all h4 rfl ⟨?_, Upd.trans (Ext.trans hx hx3) hu4 fun k hk e => by omega⟩
    rw [if_neg (by simp [he])]
    exact ⟨b, s, rfl, hat, rfl, hs⟩
end Go.Proofs.YtkpefimnggojdaaGreat.VX
