/-
  Contracts: a tree is walked (below, Each).
-/
import Derived.Test.YtkpefimnggojdaaGreatQf
set_option linter.all false
namespace Go.Proofs.YtkpefimnggojdaaGreat.VX
open Go Pl
set_option maxRecDepth 4000

theorem there_at {T : PT} {m : Nat} (hw : Wf T m) {q : List Bytes} {i : Int} (hi : (q, i) ∈ T.L) : thereT T (joinP q) = (some i, 0) := by
  have hr := hw.right _ hi
  have hl : lookT T (joinP q) = (some i, 0) := by
    unfold lookT
    rw [if_neg (by rw [rightB_join hr]; simp)]
    by_cases hq : q = []
    · subst hq
      have e0 : joinP ([] : List Bytes) = [] := rfl
      rw [if_pos e0, hw.at_iff.2 hi]
    · rw [if_neg (joinP_ne hq (RightL_ne hr))]
      have es := List.dropLast_concat_getLast hq
      rw [← es] at hi hr ⊢
      obtain ⟨d, h1, h2⟩ := hw.up _ _ _ hi
      have hx : 47 ∉ q.getLast hq := RightL_no hr _ (by simp)
      rw [parentP_join hx, split_join (RightL_snoc hr), hw.at_iff.2 h1]
      simp only
      rw [if_neg (by simp [h2]), split_join hr, hw.at_iff.2 hi]
  unfold thereT
  rw [hl, if_neg (by simp)]

def visX (T : PT) (L : List Rule) (n : Nat) (q : List Bytes) (x : Bytes) : List (List Bytes) := if hidT T L (q ++ [x]) then [] else (q ++ [x]) :: (if dirT T (q ++ [x]) then visT T L n (q ++ [x]) else [])
theorem visT_succ (T : PT) (L : List Rule) (n : Nat) (q : List Bytes) : visT T L (n + 1) q = (kidsT T q).flatMap (visX T L n q) := rfl
theorem gsT_len {T : PT} : ∀ (l : List (List Bytes)) (gs : List Int), (gsT T l gs).length ≤ gs.length + l.length
  | [], _ => Nat.le_refl _
  | q :: l, gs => by
    simp only [gsT, List.length_cons]
    split
    · have := gsT_len (T := T) l gs; omega
    · rename_i i _
      have := gsT_len (T := T) l (gsX T gs i)
      have := gsX_len T gs i
      omega
theorem entsT_le {T : PT} : ∀ (l : List (List Bytes)) (gs : List Int), (entsT T l gs).length ≤ l.length
  | [], _ => Nat.le_refl _
  | q :: l, gs => by
    simp only [entsT, List.length_cons]
    split
    · have := entsT_le (T := T) l gs; omega
    · rename_i i _
      have := entsT_le (T := T) l (gsX T gs i)
      simp only [List.length_cons]; omega

def entArg (e : Ent) : List Value := [.agg (entE e).toArray]
def entOk (l : List Ent) (_ : Ent) : Prop := l.length < 1000000
/-- What stands fast while a tree is walked. -/
structure Walk (w0 : World) (O0 : Nat → Prop) (wb t gm : Nat) (rv yv : Value) (S : St) (T : PT) (F : Nat → Prop) (L : List Rule) : Prop where
  wk : ∀ w, Upd (fun b => b = gm ∨ O0 b) w0 w → w.heap[wb]? = some (.cells (wkE t rv gm yv).toArray t_walk_walker (0, 0))
  tree : ∀ w, Upd (fun b => b = gm ∨ O0 b) w0 w → Rep w t S F
  rules : ∀ w, Upd (fun b => b = gm ∨ O0 b) w0 w → Sl 4 ruleE w rv L
  gm0 : gm < w0.heap.size
  wb0 : wb < w0.heap.size ∧ wb ≠ gm
  wbO : ¬ O0 wb
  own : ¬ O0 gm
  own0 : ∀ b, O0 b → b < w0.heap.size
  len : L.length ≤ 4294967296
  pat : ∀ r ∈ L, r.pat.length ≤ 4294967296

theorem below_spec {w0 : World} {O0 : Nat → Prop} {wb t gm : Nat} {rv yv : Value} {S : St} {T : PT} {F : Nat → Prop} {L : List Rule} {m : Nat} (hw : Wf T m) (hm : Mt S T) (hm0 : m ≤ 100000) (hk : Walk w0 O0 wb t gm rv yv S T F L)
    {Y : List Ent → (Nat → Prop) → World → Prop} (hs : Sink Tryz.prog yv entArg entOk (.bool true) Y) : ∀ (n : Nat) {w : World} {q : List Bytes} {i : Int} {l : List Ent} {O : Nat → Prop} {gs : List Int},
    (q, i) ∈ T.L → (T.th i).kind = 2 → q.length + n = 13 → Y l O w → (∀ b, O b → O0 b ∨ w0.heap.size ≤ b) → Upd (fun b => b = gm ∨ O0 b) w0 w → GroupsAt w gm gs →
    l.length + (visT T L n q).length ≤ 1000000 → gs.length + (visT T L n q).length ≤ 1000000 →
    CallsV Tryz.prog f_walk_walker_below #[.pointer (some ⟨wb, 0, none⟩), str (joinP q)] w fun v w' => v = .bool true ∧ ∃ O', Y (l ++ entsT T (visT T L n q) gs) O' w' ∧ GroupsAt w' gm (gsT T (visT T L n q) gs) ∧ Upd (fun b => b = gm ∨ O b) w w' ∧ (∀ b, O' b → O b ∨ w.heap.size ≤ b) := by
  intro n
  induction n with
  | zero =>
    intro w q i l O gs hi hkd hn hY hO hu hg hl hgl
    have := (RightL_iff.1 (hw.right _ hi)).2.1
    simp only at this; omega
  | succ n ih =>
    intro w q i l O gs hi hkd hn hY hO hu hg hl hgl
    refine ok_walk_walker_below _ _ _ _ ?_
    unfold go_walk_walker_below
    have hR := hk.tree w hu
    have hwk := hk.wk w hu
    have hri := RightL_iff.1 (hw.right _ hi)
    simp only [vxs, hwk, wkE, Nat.zero_add]
    refine call_ok has_tree_Tree_List (List_T hw hm hm0 hR (joinP q) (by have := hri.2.2; simp only at this; omega)) ?_
    rintro _ w1 ⟨⟨u, rfl, ho⟩, hx1⟩
    have hl0 : listT T (joinP q) = 0 := by unfold listT; rw [there_at hw hi]; simp [hkd]
    rw [if_pos hl0, split_join (hw.right _ hi)] at ho
    simp only [vxs]
    obtain ⟨ks, eks⟩ : ∃ ks, ks = kidsT T q := ⟨_, rfl⟩
    rw [visT_succ, ← eks] at hl hgl ⊢
    rw [← eks] at ho
    have hkb : ks.length ≤ m + 1 := by rw [eks]; exact kids_len hw q
    have hsl := Sl.of_own strE_len ho
    refine hsl.len ?_
    have hsz1 := hx1.size
    have hgw : gm < w.heap.size := by have := hk.gm0; have := hu.size; omega
    have hOlt := hs.lt hY
    have hnog : ¬ O gm := fun h => by
      rcases hO _ h with h | h
      · exact hk.own h
      · have := hk.gm0; omega
    refine ⟨fun g w' => ∃ (k : Nat) (O' : Nat → Prop), k ≤ ks.length ∧ nth g 4 = .int .i64 k ∧ Y (l ++ entsT T ((ks.take k).flatMap (visX T L n q)) gs) O' w' ∧ GroupsAt w' gm (gsT T ((ks.take k).flatMap (visX T L n q)) gs) ∧ Upd (fun b => b = gm ∨ O b) w1 w' ∧ (∀ b, O' b → O b ∨ w1.heap.size ≤ b),
      fun g _ => ks.length - ixOf g 4, ⟨0, O, Nat.zero_le _, rfl, by simpa [entsT] using hs.keep hY hx1 fun _ _ f => f, by simpa [gsT] using hg.mono hx1 fun f => f, .refl _ _, fun _ h => .inl h⟩, ?_⟩
    rintro g z w2 ⟨k, O2, hkl, hg4, hY2, hg2, hu2, hO2⟩
    have hO20 : ∀ b, O2 b → O0 b ∨ w0.heap.size ≤ b := fun b hb => by
      rcases hO2 b hb with h | h
      · exact hO b h
      · have := hu.size; right; omega
    have stay : ∀ {w'}, Upd (fun b => b = gm ∨ O b) w1 w' → Upd (fun b => b = gm ∨ O0 b) w0 w' := fun hu' => Upd.trans (Ext.trans hu hx1) hu' fun b hb h => by
      rcases h with h | h
      · exact .inl h
      · rcases hO b h with h | h
        · exact .inr h
        · omega
    have hu02 := stay hu2
    simp only [hg4, vxs]
    refine cnd_split (fun hc => ?_) (fun hc => ?_)
    · have hlt : k < ks.length := by simp at hc; omega
      have hsl2 : Sl 1 strE w2 u ks := Sl.of_own strE_len (ho.mono hu2 (fun bb hbb h => by
        rcases h with h | h
        · omega
        · have := hOlt bb h; omega) (Nat.le_refl _))
      refine hsl2.ia strE_len k hlt fun ab ao hr => ?_
      refine hr.ld1 (i := 0) rfl _ ?_
      obtain ⟨x, ex⟩ : ∃ x, x = ks[k] := ⟨_, rfl⟩
      rw [← ex]
      have hxm : x ∈ kidsT T q := by rw [← eks, ex]; exact List.getElem_mem hlt
      obtain ⟨j, hj⟩ := mem_kidsT.1 hxm
      have hrj := hw.right _ hj
      have hrj' := RightL_iff.1 hrj
      obtain ⟨p, ep⟩ : ∃ p, p = joinP (q ++ [x]) := ⟨_, rfl⟩
      have hp200 : p.length ≤ 200 := by rw [ep]; exact hrj'.2.2
      have hxs : (ks.take (k + 1)).flatMap (visX T L n q) = (ks.take k).flatMap (visX T L n q) ++ visX T L n q x := by
        rw [List.take_succ_eq_append_getElem hlt, List.flatMap_append, ← ex]; simp
      have hb2 : (ks.take k).flatMap (visX T L n q) ++ visX T L n q x ++ (ks.drop (k + 1)).flatMap (visX T L n q) = ks.flatMap (visX T L n q) := by
        rw [← hxs, ← List.flatMap_append, List.take_append_drop]
      have hlb := congrArg List.length hb2
      simp only [List.length_append] at hlb
      obtain ⟨pre, epre⟩ : ∃ pre, pre = (ks.take k).flatMap (visX T L n q) := ⟨_, rfl⟩
      rw [← epre] at hY2 hg2 hxs hlb
      obtain ⟨gs2, egs2⟩ : ∃ gs2, gs2 = gsT T pre gs := ⟨_, rfl⟩
      obtain ⟨l2, el2⟩ : ∃ l2, l2 = l ++ entsT T pre gs := ⟨_, rfl⟩
      rw [← el2] at hY2
      rw [← egs2] at hg2
      have hl2 : l2.length ≤ l.length + pre.length := by rw [el2, List.length_append]; have := entsT_le (T := T) pre gs; omega
      have hgs2 : gs2.length ≤ gs.length + pre.length := by rw [egs2]; exact gsT_len _ _
      have ndT : T.at_ (q ++ [x]) = some j := hw.at_iff.2 hj
      have hdT : dirT T (q ++ [x]) = ((T.th j).kind == 2) := by unfold dirT; rw [ndT]
      -- the next round
      have again : ∀ (O4 : Nat → Prop) (w4 : World) (g3 g2' g1 g0 : Value), Y (l2 ++ entsT T (visX T L n q x) gs2) O4 w4 → GroupsAt w4 gm (gsT T (visX T L n q x) gs2) → Upd (fun b => b = gm ∨ O b) w1 w4 → (∀ b, O4 b → O b ∨ w1.heap.size ≤ b) →
          bin .add (.int .i64 k) (.int .i64 1) fun t => (∃ (k : Nat) (O' : Nat → Prop), k ≤ ks.length ∧ nth [g0, g1, g2', g3, t] 4 = .int .i64 k ∧ Y (l ++ entsT T ((ks.take k).flatMap (visX T L n q)) gs) O' w4 ∧ GroupsAt w4 gm (gsT T ((ks.take k).flatMap (visX T L n q)) gs) ∧ Upd (fun b => b = gm ∨ O b) w1 w4 ∧ (∀ b, O' b → O b ∨ w1.heap.size ≤ b)) ∧
            ks.length - ixOf [g0, g1, g2', g3, t] 4 < ks.length - ixOf g 4 := fun O4 w4 g3 g2' g1 g0 h1 h2 h3 h4 => by
        refine int_add (by omega) ?_
        refine ⟨⟨k + 1, O4, by omega, by simp only [vxs]; rfl, ?_, ?_, h3, h4⟩, ?_⟩
        · rw [hxs, entsT_append, ← egs2, ← List.append_assoc, ← el2]; exact h1
        · rw [hxs, gsT_append, ← egs2]; exact h2
        · rw [ixOf_of hg4, ixOf_of (n := k + 1) rfl]; omega
      refine ⟨fun g' w' => nth g' 0 = str p ∧ w' = w2, ?_, ?_⟩
      · rintro g' z' w3 ⟨hg0, rfl⟩
        have hwk2 := hk.wk w3 hu02
        have hR2 := hk.tree w3 hu02
        simp only [hg0, hwk2, wkE, vxs, Nat.zero_add]
        refine call_ok has_tree_Tree_Stat (Stat_T hw hm hR2 p (by omega)) ?_
        rintro _ w4 ⟨rfl, hx4⟩
        have hth : thereT T p = (some j, 0) := by rw [ep]; exact there_at hw hj
        obtain ⟨s, es⟩ : ∃ s, s = statT T (q ++ [x]) j := ⟨_, rfl⟩
        have hst : statP T p = s := by unfold statP; rw [hth, es, ep, split_join hrj]; rfl
        rw [hst, hth]
        simp only [vxs]
        generalize hw5 : w4.alloc _ = w5
        have h10 : w5.heap[w4.heap.size]? = some (.cells (statE stat0).toArray t_api_Stat (0, 0)) := by rw [← hw5]; exact alloc_new _ _
        have hx5 : Ext w4 w5 := by rw [← hw5]; exact alloc_ext _ _
        refine st_all (vs' := statE s) (n := 10) h10 rfl rfl (by omega) (statE_one _) fun w6 h106 u6 => ?_
        obtain ⟨B, eB⟩ : ∃ B, B = w4.heap.size := ⟨_, rfl⟩
        rw [← eB] at h106 u6 ⊢
        have s24 := hx4.size
        have s12 := hu2.size
        have hx6 : Ext w3 w6 := Upd.trans (Ext.trans hx4 hx5) u6 fun b hb e => by omega
        have hu6 : Upd (fun b => b = gm ∨ O b) w1 w6 := Ext.trans hu2 hx6
        have hu06 := stay hu6
        have hwk6 := hk.wk w6 hu06
        have hY6 := hs.keep hY2 hx6 fun _ _ f => f
        have hg6 := hg2.mono hx6 fun f => f
        have hO2lt := hs.lt hY2
        -- what is passed over
        have hide : ∀ (d16 : Bool), d16 = hidT T L (q ++ [x]) → ∀ (w7 : World), Ext w6 w7 → d16 = true → bin .add (.int .i64 k) (.int .i64 1) fun t => (∃ (k : Nat) (O' : Nat → Prop), k ≤ ks.length ∧ nth [str x, str p, .int .i64 0, nth g 3, t] 4 = .int .i64 k ∧ Y (l ++ entsT T ((ks.take k).flatMap (visX T L n q)) gs) O' w7 ∧ GroupsAt w7 gm (gsT T ((ks.take k).flatMap (visX T L n q)) gs) ∧ Upd (fun b => b = gm ∨ O b) w1 w7 ∧ (∀ b, O' b → O b ∨ w1.heap.size ≤ b)) ∧
            ks.length - ixOf [str x, str p, .int .i64 0, nth g 3, t] 4 < ks.length - ixOf g 4 := fun d16 he w7 hx7 h16 => by
          have hv : visX T L n q x = [] := by unfold visX; rw [if_pos (by rw [← he, h16])]
          refine again O2 w7 _ _ _ _ ?_ ?_ (Ext.trans hu6 hx7) hO2
          · rw [hv]; simpa [entsT] using hs.keep hY6 hx7 fun _ _ f => f
          · rw [hv]; exact hg6.mono hx7 fun f => f
        have eh : decide (q ++ [x] = [homeB]) = (p == homeB) := by
          rw [Bool.eq_iff_iff, decide_eq_true_eq, beq_iff_eq, ep]
          constructor
          · intro e; rw [e]; rfl
          · intro e
            have hr : RightL [homeB] = true := by decide
            exact joinP_inj hrj hr e
        cases hph : (p == homeB) with
        | true =>
          refine drw_det [undef, .bool false, undef, str p, .bool true, .bool true, undef, undef, undef, undef, undef, undef, undef, undef, undef, undef, .bool true] ?_ ?_
          · refine ⟨?_, ?_, ?_, ?_, ?_, ?_, ?_, ?_, ?_, ?_, ?_, ?_, ?_, ?_, trivial⟩ <;> intro dd w7 kk hd hx7 hkk <;>
              simp only [List.mem_cons, List.not_mem_nil, or_false, forall_eq_or_imp, forall_eq, vxs] at hd hkk ⊢
            all_goals try simp only [hd, vxs]
            all_goals first
              | exact hkk _ (.refl _ _)
              | skip
            · have : (p == [46, 114, 101, 109, 111, 114, 97]) = true := hph
              rw [this]; exact hkk _ (.refl _ _)
          · intro d w7 hd hx7
            simp only [List.map_cons, List.map_nil, List.mem_cons, List.not_mem_nil, or_false, forall_eq_or_imp, forall_eq, vxs] at hd
            simp only [hd, vxs]
            exact hide true (by unfold hidT; rw [eh, hph]; rfl) w7 hx7 rfl
        | false =>
          have ehid : hidT T L (q ++ [x]) = hiddenR L p ((T.th j).kind == 2) := by unfold hidT; rw [eh, hph, hdT, ep]; rfl
          refine drw_det [undef, .bool false, undef, str p, .bool false, .bool false, undef, .pointer (some ⟨wb, 0, none⟩), .pointer (some ⟨wb, 0, none⟩), .pointer (some ⟨wb, 1, none⟩), rv, str p, .pointer (some ⟨B, 0, none⟩), .int .i64 s.kind, .bool ((T.th j).kind == 2), .bool (hidT T L (q ++ [x])), .bool (hidT T L (q ++ [x]))] ?_ ?_
          · refine ⟨?_, ?_, ?_, ?_, ?_, ?_, ?_, ?_, ?_, ?_, ?_, ?_, ?_, ?_, trivial⟩ <;> intro dd w7 kk hd hx7 hkk <;>
              simp only [List.mem_cons, List.not_mem_nil, or_false, forall_eq_or_imp, forall_eq, vxs] at hd hkk ⊢
            all_goals try simp only [hd, vxs, Nat.zero_add]
            all_goals first
              | exact hkk _ (.refl _ _)
              | skip
            · have : (p == [46, 114, 101, 109, 111, 114, 97]) = false := hph
              rw [this]; exact hkk _ (.refl _ _)
            · have hwk7 := Ext.get hx7 hwk6
              simp only [hwk7, wkE, vxs]; exact hkk _ (.refl _ _)
            · have h107 := Ext.get hx7 h106
              simp only [h107, statE, vxs]; exact hkk _ (.refl _ _)
            · rw [show ((s.kind : Int) == 2) = ((T.th j).kind == 2) by rw [es]; exact nat_eq _ 2]
              exact hkk _ (.refl _ _)
            · refine call_ok has_rules_Hidden (Hidden_spec (hk.rules w7 (Ext.trans hu06 hx7)) hk.len hk.pat p (by omega) _) ?_
              rintro _ w8 ⟨rfl, hx8⟩
              rw [← ehid]
              exact hkk _ hx8
          · intro d w7 hd hx7
            simp only [List.map_cons, List.map_nil, List.mem_cons, List.not_mem_nil, or_false, forall_eq_or_imp, forall_eq, vxs] at hd
            simp only [hd]
            refine cnd_split (fun hc => ?_) (fun hc => ?_)
            · exact hide _ rfl w7 hx7 hc
            have hx67 := Ext.trans hx6 hx7
            have hu7 : Upd (fun b => b = gm ∨ O b) w1 w7 := Ext.trans hu2 hx67
            have hwk7 := hk.wk w7 (stay hu7)
            have h107 := Ext.get hx7 h106
            have hg7 := hg6.mono hx7 fun f => f
            have hY7 := hs.keep hY6 hx7 fun _ _ f => f
            have hBgm : B ≠ gm := by omega
            have hvx : visX T L n q x = (q ++ [x]) :: (if dirT T (q ++ [x]) then visT T L n (q ++ [x]) else []) := by unfold visX; rw [if_neg (by rw [hc]; simp)]
            have hvl := congrArg List.length hvx
            simp only [List.length_cons] at hvl
            obtain ⟨e, ee⟩ : ∃ e, e = entT T (q ++ [x]) j (grp T gs2 j) := ⟨_, rfl⟩
            obtain ⟨gs3, egs3⟩ : ∃ gs3, gs3 = gsX T gs2 j := ⟨_, rfl⟩
            have hment : manyS s = manyT T j := by rw [es]; rfl
            have heq : entS p s (if manyS s then (ixG (gsAdd gs2 s.ino) s.ino : Int) else 0) = e := by
              rw [hment, ee, ep]
              have : s.ino = j := by rw [es]; rfl
              rw [this, es]; rfl
            have hgq : (if manyS s then gsAdd gs2 s.ino else gs2) = gs3 := by
              rw [hment, egs3]
              have : s.ino = j := by rw [es]; rfl
              rw [this]; rfl
            have hent : entsT T (visX T L n q x) gs2 = e :: entsT T (if dirT T (q ++ [x]) then visT T L n (q ++ [x]) else []) gs3 := by rw [hvx]; simp only [entsT, ndT]; rw [ee, egs3]
            have hgst : gsT T (visX T L n q x) gs2 = gsT T (if dirT T (q ++ [x]) then visT T L n (q ++ [x]) else []) gs3 := by rw [hvx]; simp only [gsT, ndT]; rw [egs3]
            have hgs3 : gs3.length ≤ gs2.length + 1 := by rw [egs3]; exact gsX_len _ _ _
            have hO2lt7 : ∀ b, O2 b → b < w7.heap.size := hs.lt hY7
            obtain ⟨U, eU⟩ : ∃ U : List Nat → World → Prop, U = fun ss w' => (7 ∉ ss ∧ 8 ∉ ss ∧ 17 ∉ ss ∧ Ext w7 w') ∨ (7 ∈ ss ∧ 8 ∉ ss ∧ 17 ∉ ss ∧ GroupsAt w' gm gs3 ∧ Upd (fun b => b = gm) w7 w') ∨
              (7 ∈ ss ∧ 8 ∈ ss ∧ 17 ∉ ss ∧ ∃ O3, Y (l2 ++ [e]) O3 w' ∧ GroupsAt w' gm gs3 ∧ Upd (fun b => b = gm ∨ O2 b) w7 w' ∧ (∀ b, O3 b → O2 b ∨ w7.heap.size ≤ b)) ∨
              (7 ∈ ss ∧ 8 ∈ ss ∧ 17 ∈ ss ∧ ∃ O4, Y (l2 ++ entsT T (visX T L n q x) gs2) O4 w' ∧ GroupsAt w' gm (gsT T (visX T L n q x) gs2) ∧ Upd (fun b => b = gm ∨ O2 b) w7 w' ∧ (∀ b, O4 b → O2 b ∨ w7.heap.size ≤ b)) := ⟨_, rfl⟩
            have hO2g : ¬ O2 gm := fun h => by
              rcases hO2 _ h with h | h
              · exact hnog h
              · omega
            have hx67s := hx67.size
            have hwbO : ¬ (wb = gm ∨ O2 wb) := fun h => by
              have h0 := hk.wb0
              rcases h with h | h
              · exact h0.2 h
              · rcases hO20 wb h with h | h
                · exact hk.wbO h
                · omega
            have hBO : ¬ (B = gm ∨ O2 B) := fun h => by
              rcases h with h | h
              · exact hBgm h
              · have := hs.lt hY2 B h; omega
            have hstay : ∀ ss w', U ss w' → Upd (fun b => b = gm ∨ O2 b) w7 w' := fun ss w' h => by
              rw [eU] at h
              rcases h with ⟨-, -, -, h⟩ | ⟨-, -, -, -, h⟩ | ⟨-, -, -, O3, -, -, h, -⟩ | ⟨-, -, -, O4, -, -, h, -⟩
              · exact Ext.to h
              · exact h.mono fun b _ e => .inl e
              · exact h
              · exact h
            have more : ∀ (ss : List Nat) (ii : Nat) (w' : World), ii ≠ 7 → ii ≠ 8 → ii ≠ 17 → U ss w' → U (ss ++ [ii]) w' := fun ss ii w' h7 h8 h17 h => by
              have key : ∀ n, n ≠ ii → (n ∈ ss ++ [ii] ↔ n ∈ ss) := fun n hn => by
                rw [List.mem_append, List.mem_singleton]; exact ⟨fun h => h.elim id fun e => absurd e hn, .inl⟩
              rw [eU] at h ⊢
              simp only [key 7 (Ne.symm h7), key 8 (Ne.symm h8), key 17 (Ne.symm h17)]
              exact h
            have fin : ∀ (ss : List Nat) (w8 : World), 17 ∈ ss → U ss w8 → True := fun _ _ _ _ => trivial
            cases hdir : dirT T (q ++ [x]) with
            | true =>
              rw [hdir] at hent hgst hvl
              rw [if_pos rfl] at hent hgst hvl
              refine drw_seqU [undef, .pointer (some ⟨wb, 0, none⟩), .pointer (some ⟨wb, 3, none⟩), yv, undef, undef, .agg (statE s).toArray, .agg (entE e).toArray, .bool true, .bool false, undef, .pointer (some ⟨B, 0, none⟩), .int .i64 s.kind, .bool true, .bool true, .pointer (some ⟨wb, 0, none⟩), str p, .bool true, .bool false, .bool false, .bool false] U
                (A := [(1, _, _), (2, _, _), (3, _, _), (6, _, _), (7, _, _), (8, _, _), (9, _, _), (11, _, _), (12, _, _), (13, _, _), (14, _, _), (15, _, _), (16, _, _), (17, _, _), (18, _, _), (19, _, _), (20, _, _)]) (C := []) (by rw [eU]; exact .inl ⟨by simp, by simp, by simp, d1_ext _⟩) ?_ rfl ?_
              · refine ⟨?_, ?_, ?_, ?_, ?_, ?_, ?_, ?_, ?_, ?_, ?_, ?_, ?_, ?_, ?_, ?_, ?_, trivial⟩ <;> intro ss dd w8 kk hd8 hU hin han hkk
                all_goals have hst := hstay _ _ hU
                all_goals simp only [List.mem_cons, List.not_mem_nil, or_false, forall_eq_or_imp, forall_eq, vxs] at hd8 hkk han ⊢
                · exact hkk _ (more _ _ _ (by decide) (by decide) (by decide) hU)
                · simp only [hd8, vxs, Nat.zero_add]; exact hkk _ (more _ _ _ (by decide) (by decide) (by decide) hU)
                · have := hst.get hwk7 hwbO
                  simp only [hd8, vxs, this, wkE]; exact hkk _ (more _ _ _ (by decide) (by decide) (by decide) hU)
                · have := hst.get h107 hBO
                  exact lds_all this rfl (hkk _ (more _ _ _ (by decide) (by decide) (by decide) hU))
                · rw [eU] at hU
                  rcases hU with ⟨h7, h8, h17, hx8⟩ | ⟨h7, -⟩ | ⟨h7, -⟩ | ⟨h7, -⟩
                  · simp only [hd8]
                    refine call_ok has_walk_walker_entry (entry_spec (Ext.get hx8 hwk7) (hg7.mono hx8 fun f => f) (by omega) p s) ?_
                    rintro _ w9 ⟨rfl, hg9, hu9⟩
                    rw [heq]
                    rw [hgq] at hg9
                    refine hkk _ ?_
                    rw [eU]
                    exact .inr (.inl ⟨by simp, by simp [h8], by simp [h17], hg9, Upd.trans (Ext.to hx8) hu9 fun _ _ h => h⟩)
                  · exact absurd h7 hin
                  · exact absurd h7 hin
                  · exact absurd h7 hin
                · rw [eU] at hU
                  rcases hU with ⟨h7, -⟩ | ⟨h7, h8, h17, hg8, hu8⟩ | ⟨-, h8, -⟩ | ⟨-, h8, -⟩
                  · exact absurd (by simp [han]) h7
                  · simp only [hd8]
                    have hY8 := hs.keep hY7 hu8 fun b hb e => hO2g (e ▸ hb)
                    have s78 := hu8.size
                    refine hs.call (x := e) hY8 (by show l2.length < 1000000; omega) fun O3 w9 hY9 hu9 hO9 => ?_
                    refine hkk _ ?_
                    rw [eU]
                    refine .inr (.inr (.inl ⟨by simp [h7], by simp, by simp [h17], O3, hY9, hg8.mono hu9 hO2g, Upd.trans (hu8.mono fun b _ e => .inl e) hu9 fun b hb h => .inr h, fun b hb => (hO9 b hb).imp id fun h => by omega⟩))
                  · exact absurd h8 hin
                  · exact absurd h8 hin
                · simp only [hd8, vxs]; exact hkk _ (more _ _ _ (by decide) (by decide) (by decide) hU)
                · simp only [hd8, vxs, Nat.zero_add]; exact hkk _ (more _ _ _ (by decide) (by decide) (by decide) hU)
                · have := hst.get h107 hBO
                  simp only [hd8, vxs, this, statE]; exact hkk _ (more _ _ _ (by decide) (by decide) (by decide) hU)
                · simp only [hd8, vxs]
                  rw [show ((s.kind : Int) == 2) = dirT T (q ++ [x]) by rw [hdT, es]; exact nat_eq _ 2, hdir]
                  exact hkk _ (more _ _ _ (by decide) (by decide) (by decide) hU)
                · simp only [hd8, vxs]; exact hkk _ (more _ _ _ (by decide) (by decide) (by decide) hU)
                · simp only [hd8, vxs]; exact hkk _ (more _ _ _ (by decide) (by decide) (by decide) hU)
                · simp only [hd8, vxs]; exact hkk _ (more _ _ _ (by decide) (by decide) (by decide) hU)
                · rw [eU] at hU
                  rcases hU with ⟨h7, -⟩ | ⟨-, h8, -⟩ | ⟨h7, h8, h17, O3, hY9, hg9, hu9, hO9⟩ | ⟨-, -, h17, -⟩
                  · exact absurd (by simp [han]) h7
                  · exact absurd (by simp [han]) h8
                  · have hkd2 : (T.th j).kind = 2 := by rw [hdT] at hdir; simpa using hdir
                    simp only [hd8, vxs]
                    rw [ep]
                    have hu19 : Upd (fun b => b = gm ∨ O b) w1 w8 := Upd.trans hu7 hu9 fun b hb h => by
                      rcases h with h | h
                      · exact .inl h
                      · rcases hO2 b h with h | h
                        · exact .inr h
                        · omega
                    have hO3 : ∀ b, O3 b → O b ∨ w1.heap.size ≤ b := fun b hb => by
                      rcases hO9 b hb with h | h
                      · exact hO2 b h
                      · right; have := hx67.size; omega
                    refine call_ok has_walk_walker_below (ih (l := l2 ++ [e]) (gs := gs3) (O := O3) hj hkd2 (by simp only [List.length_append, List.length_cons, List.length_nil]; omega) hY9 (fun b hb => by
                      rcases hO3 b hb with h | h
                      · exact hO b h
                      · have := hu.size; right; omega) (stay hu19) hg9 (by simp only [List.length_append, List.length_cons, List.length_nil]; omega) (by omega)) ?_
                    rintro _ w10 ⟨rfl, O4, hY10, hg10, hu10, hO10⟩
                    have s19 := hu19.size
                    have s79 := hu9.size
                    refine hkk _ ?_
                    rw [eU]
                    refine .inr (.inr (.inr ⟨by simp [h7], by simp [h8], by simp, O4, ?_, by rw [hgst]; exact hg10, ?_, ?_⟩))
                    · rw [hent]
                      have : l2 ++ e :: entsT T (visT T L n (q ++ [x])) gs3 = l2 ++ [e] ++ entsT T (visT T L n (q ++ [x])) gs3 := by simp
                      rw [this]; exact hY10
                    · exact Upd.trans hu9 hu10 fun b hb h => by
                        rcases h with h | h
                        · exact .inl h
                        · rcases hO9 b h with h | h
                          · exact .inr h
                          · omega
                    · intro b hb
                      rcases hO10 b hb with h | h
                      · exact hO9 b h
                      · right; omega
                  · exact absurd h17 hin
                · simp only [hd8, vxs]; exact hkk _ (more _ _ _ (by decide) (by decide) (by decide) hU)
                · simp only [hd8, vxs]; exact hkk _ (more _ _ _ (by decide) (by decide) (by decide) hU)
                · simp only [hd8, vxs]; exact hkk _ (more _ _ _ (by decide) (by decide) (by decide) hU)
              · intro ss w8 hA hU
                simp only [List.mem_cons, List.not_mem_nil, or_false, forall_eq_or_imp, forall_eq] at hA
                rw [eU] at hU
                rcases hU with ⟨h7, -⟩ | ⟨-, h8, -⟩ | ⟨-, -, h17, -⟩ | ⟨-, -, -, O4, hY4, hg4', hu4, hO4⟩
                · exact absurd (by simp [hA]) h7
                · exact absurd (by simp [hA]) h8
                · exact absurd (by simp [hA]) h17
                simp only [seqC, knownA, List.map_cons, List.map_nil, List.mem_cons, List.not_mem_nil, or_false, forall_eq_or_imp, forall_eq, vxs]
                intro d hd
                simp only [hd, vxs]
                refine again O4 w8 _ _ _ _ hY4 hg4' ?_ ?_
                · exact Upd.trans hu7 hu4 fun b hb h => by
                    rcases h with h | h
                    · exact .inl h
                    · rcases hO2 b h with h | h
                      · exact .inr h
                      · omega
                · intro b hb
                  rcases hO4 b hb with h | h
                  · exact hO2 b h
                  · right; omega
            | false =>
              rw [hdir] at hent hgst hvl
              rw [if_neg (by simp)] at hent hgst hvl
              refine drw_seqU [undef, .pointer (some ⟨wb, 0, none⟩), .pointer (some ⟨wb, 3, none⟩), yv, undef, undef, .agg (statE s).toArray, .agg (entE e).toArray, .bool true, .bool false, undef, .pointer (some ⟨B, 0, none⟩), .int .i64 s.kind, .bool false, .bool false, undef, undef, undef, undef, .bool false, .bool false] U
                (A := [(1, _, _), (2, _, _), (3, _, _), (6, _, _), (7, _, _), (8, _, _), (9, _, _), (11, _, _), (12, _, _), (13, _, _), (14, _, _), (15, _, _), (16, _, _), (17, _, _), (18, _, _), (19, _, _), (20, _, _)]) (C := []) (by rw [eU]; exact .inl ⟨by simp, by simp, by simp, d1_ext _⟩) ?_ rfl ?_
              · refine ⟨?_, ?_, ?_, ?_, ?_, ?_, ?_, ?_, ?_, ?_, ?_, ?_, ?_, ?_, ?_, ?_, ?_, trivial⟩ <;> intro ss dd w8 kk hd8 hU hin han hkk
                all_goals have hst := hstay _ _ hU
                all_goals simp only [List.mem_cons, List.not_mem_nil, or_false, forall_eq_or_imp, forall_eq, vxs] at hd8 hkk han ⊢
                · exact hkk _ (more _ _ _ (by decide) (by decide) (by decide) hU)
                · simp only [hd8, vxs, Nat.zero_add]; exact hkk _ (more _ _ _ (by decide) (by decide) (by decide) hU)
                · have := hst.get hwk7 hwbO
                  simp only [hd8, vxs, this, wkE]; exact hkk _ (more _ _ _ (by decide) (by decide) (by decide) hU)
                · have := hst.get h107 hBO
                  exact lds_all this rfl (hkk _ (more _ _ _ (by decide) (by decide) (by decide) hU))
                · rw [eU] at hU
                  rcases hU with ⟨h7, h8, h17, hx8⟩ | ⟨h7, -⟩ | ⟨h7, -⟩ | ⟨h7, -⟩
                  · simp only [hd8]
                    refine call_ok has_walk_walker_entry (entry_spec (Ext.get hx8 hwk7) (hg7.mono hx8 fun f => f) (by omega) p s) ?_
                    rintro _ w9 ⟨rfl, hg9, hu9⟩
                    rw [heq]
                    rw [hgq] at hg9
                    refine hkk _ ?_
                    rw [eU]
                    exact .inr (.inl ⟨by simp, by simp [h8], by simp [h17], hg9, Upd.trans (Ext.to hx8) hu9 fun _ _ h => h⟩)
                  · exact absurd h7 hin
                  · exact absurd h7 hin
                  · exact absurd h7 hin
                · rw [eU] at hU
                  rcases hU with ⟨h7, -⟩ | ⟨h7, h8, h17, hg8, hu8⟩ | ⟨-, h8, -⟩ | ⟨-, h8, -⟩
                  · exact absurd (by simp [han]) h7
                  · simp only [hd8]
                    have hY8 := hs.keep hY7 hu8 fun b hb e => hO2g (e ▸ hb)
                    have s78 := hu8.size
                    refine hs.call (x := e) hY8 (by show l2.length < 1000000; omega) fun O3 w9 hY9 hu9 hO9 => ?_
                    refine hkk _ ?_
                    rw [eU]
                    refine .inr (.inr (.inl ⟨by simp [h7], by simp, by simp [h17], O3, hY9, hg8.mono hu9 hO2g, Upd.trans (hu8.mono fun b _ e => .inl e) hu9 fun b hb h => .inr h, fun b hb => (hO9 b hb).imp id fun h => by omega⟩))
                  · exact absurd h8 hin
                  · exact absurd h8 hin
                · simp only [hd8, vxs]; exact hkk _ (more _ _ _ (by decide) (by decide) (by decide) hU)
                · simp only [hd8, vxs, Nat.zero_add]; exact hkk _ (more _ _ _ (by decide) (by decide) (by decide) hU)
                · have := hst.get h107 hBO
                  simp only [hd8, vxs, this, statE]; exact hkk _ (more _ _ _ (by decide) (by decide) (by decide) hU)
                · simp only [hd8, vxs]
                  rw [show ((s.kind : Int) == 2) = dirT T (q ++ [x]) by rw [hdT, es]; exact nat_eq _ 2, hdir]
                  exact hkk _ (more _ _ _ (by decide) (by decide) (by decide) hU)
                · simp only [hd8, vxs]; exact hkk _ (more _ _ _ (by decide) (by decide) (by decide) hU)
                · simp only [hd8, vxs]; exact hkk _ (more _ _ _ (by decide) (by decide) (by decide) hU)
                · simp only [hd8, vxs]; exact hkk _ (more _ _ _ (by decide) (by decide) (by decide) hU)
                · rw [eU] at hU
                  rcases hU with ⟨h7, -⟩ | ⟨-, h8, -⟩ | ⟨h7, h8, h17, O3, hY9, hg9, hu9, hO9⟩ | ⟨-, -, h17, -⟩
                  · exact absurd (by simp [han]) h7
                  · exact absurd (by simp [han]) h8
                  · simp only [hd8, vxs]
                    refine hkk _ ?_
                    rw [eU]
                    refine .inr (.inr (.inr ⟨by simp [h7], by simp [h8], by simp, O3, ?_, by rw [hgst]; exact hg9, hu9, hO9⟩))
                    rw [hent]; exact hY9
                  · exact absurd h17 hin
                · simp only [hd8, vxs]; exact hkk _ (more _ _ _ (by decide) (by decide) (by decide) hU)
                · simp only [hd8, vxs]; exact hkk _ (more _ _ _ (by decide) (by decide) (by decide) hU)
                · simp only [hd8, vxs]; exact hkk _ (more _ _ _ (by decide) (by decide) (by decide) hU)
              · intro ss w8 hA hU
                simp only [List.mem_cons, List.not_mem_nil, or_false, forall_eq_or_imp, forall_eq] at hA
                rw [eU] at hU
                rcases hU with ⟨h7, -⟩ | ⟨-, h8, -⟩ | ⟨-, -, h17, -⟩ | ⟨-, -, -, O4, hY4, hg4', hu4, hO4⟩
                · exact absurd (by simp [hA]) h7
                · exact absurd (by simp [hA]) h8
                · exact absurd (by simp [hA]) h17
                simp only [seqC, knownA, List.map_cons, List.map_nil, List.mem_cons, List.not_mem_nil, or_false, forall_eq_or_imp, forall_eq, vxs]
                intro d hd
                simp only [hd, vxs]
                refine again O4 w8 _ _ _ _ hY4 hg4' ?_ ?_
                · exact Upd.trans hu7 hu4 fun b hb h => by
                    rcases h with h | h
                    · exact .inl h
                    · rcases hO2 b h with h | h
                      · exact .inr h
                      · omega
                · intro b hb
                  rcases hO4 b hb with h | h
                  · exact hO2 b h
                  · right; omega
      · simp only [vxs]
        by_cases hq : q = []
        · subst hq
          have : (!(joinP [] == [])) = false := rfl
          rw [this]
          simp only [vxs]
          rw [ep]; exact ⟨rfl, trivial⟩
        · have : (!(joinP q == [])) = true := by
            have := joinP_ne hq (RightL_ne (hw.right _ hi))
            simpa using this
          rw [this]
          simp only [vxs]
          refine str_add (by have := hri.2.2; simp only at this; simp; omega) ?_
          refine str_add (by rw [ep, joinP_snoc x hq] at hp200; simp at hp200 ⊢; omega) ?_
          refine ⟨?_, trivial⟩
          rw [ep, joinP_snoc x hq]; simp [nth]
    · have hke : k = ks.length := by simp at hc; omega
      subst hke
      rw [List.take_length] at hY2 hg2
      exact ⟨trivial, O2, hY2, hg2, Upd.trans (Ext.to hx1) hu2 fun _ _ h => h, fun b hb => (hO2 b hb).imp id fun h => by omega⟩
end Go.Proofs.YtkpefimnggojdaaGreat.VX
