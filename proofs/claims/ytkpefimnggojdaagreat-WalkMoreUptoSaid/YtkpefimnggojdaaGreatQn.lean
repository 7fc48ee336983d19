/-
  The walk of WalkMore: whatever the input, true.
-/
import Derived.Test.YtkpefimnggojdaaGreatQm
set_option linter.all false
namespace Go.Proofs.YtkpefimnggojdaaGreat.VX
open Go Pl
set_option maxRecDepth 8000

theorem home_rem : homeB = [46, 114, 101, 109, 111, 114, 97] := rfl
theorem WalkMore_spec {w : World} {av lv : Value} {acts : List (Deed × Value)} {L : List Rule} {pat : Bytes} (ha : ActsAt w av acts) (hl : Sl 4 ruleE w lv L) (h1 : oneCell lv = true)
    (hal : acts.length ≤ 9223372036854775806) (hL : L.length ≤ 4000000000) (hp : ∀ r ∈ L, r.pat.length ≤ 4294967296) (hpat : pat.length ≤ 4294967296) :
    CallsV Tryz.prog f_remoralaw19_WalkMore #[av, lv, str pat] w fun v w' => v = .bool true ∧ Ext w w' := by
  refine ok_remoralaw19_WalkMore _ _ _ _ _ ?_
  unfold go_remoralaw19_WalkMore
  refine call_ok has_remoraref17_Small (Small_spec ha hal) ?_
  rintro _ w1 ⟨rfl, rfl⟩
  simp only [vxs]
  refine ⟨fun g w' => w' = w1 ∧ (smallB (acts.map (·.1)) = true → nth g 0 = .bool (decide (60 < L.length))), ?_, ?_⟩
  rotate_left
  · cases hs : smallB (acts.map (·.1)) with
    | true =>
      simp only [vxs]
      refine hl.len ?_
      simp only [vxs]
      refine ⟨trivial, fun _ => ?_⟩
      congr 1
      rw [Bool.eq_iff_iff, decide_eq_true_eq, decide_eq_true_eq]; omega
    | false =>
      simp only [vxs]
      exact ⟨trivial, fun h => by cases h⟩
  rintro g z w1 ⟨rfl, hg⟩
  have aw : ∀ {w'}, Ext w1 w' → callv Tryz.prog (fnv f_remoralaw19_awake) [] w' fun t25 w_3 => t25 = .bool true ∧ Ext w1 w_3 := fun hx => by
    refine call_ok has_remoralaw19_awake (awake_spec _) ?_
    rintro _ w3 ⟨rfl, hx3⟩
    exact ⟨rfl, Ext.trans hx hx3⟩
  cases hs : smallB (acts.map (·.1)) with
  | false =>
    simp only [vxs]
    exact aw (.refl _ _)
  | true =>
  rw [hg hs]
  simp only [vxs]
  refine cnd_split (fun hc => ?_) (fun hc => ?_)
  · exact aw (.refl _ _)
  have hlight := smallB_iff.1 hs
  have hlen := hlight.len
  have hL60' : ¬ 60 < L.length := by simpa using hc
  have hL60 : L.length ≤ 60 := by omega
  refine call_ok has_remoralaw17_Build (Build_spec ha hlight) ?_
  rintro _ w2 ⟨t, F, rfl, hT, hx2, hF⟩
  obtain ⟨T, eT⟩ : ∃ T, T = buildT (acts.map (·.1)) := ⟨_, rfl⟩
  have hw : Wf T (acts.map (·.1)).length := by rw [eT]; exact wf_build _
  have hm0 : (acts.map (·.1)).length ≤ 100000 := by omega
  obtain ⟨m, em⟩ : ∃ m, m = (acts.map (·.1)).length := ⟨_, rfl⟩
  rw [← em] at hw hm0 hlen
  rw [← eT] at hT
  obtain ⟨S, hR, hm⟩ := hT
  simp only [vxs, Option.isNone_some]
  refine call_ok has_tree_Tree_Paths (Paths_spec hw hm hm0 hR) ?_
  rintro pv w3 ⟨hpo, hx3⟩
  have hx23 := Ext.trans hx2 hx3
  have hpsl := Sl.of_own strE_len hpo
  have hpl : (pathsT T).length ≤ m + 1 := by unfold pathsT; rw [List.length_map]; exact relT_len hw 13 []
  have hp200 : ∀ p ∈ pathsT T, p.length ≤ 200 := fun p hp => by
    obtain ⟨r, hr, rfl⟩ := List.mem_map.1 hp
    obtain ⟨-, i, hi⟩ := relT_mem hw 13 hr
    exact (RightL_iff.1 (hw.right _ hi)).2.2
  refine ⟨fun g w' => ∃ k : Nat, k ≤ (pathsT T).length ∧ nth g 1 = .int .i64 k ∧ nth g 0 = .int .i64 (((pathsT T).take k).filter seenB).length ∧ Ext w3 w', fun g _ => (pathsT T).length - ixOf g 1, ⟨0, Nat.zero_le _, rfl, rfl, .refl _ _⟩, ?_⟩
  rintro g1 z1 w4 ⟨k, hk, hg1, hg0, hx4⟩
  refine hpsl.len ?_
  simp only [hg1, hg0, vxs]
  refine cnd_split (fun hc => ?_) (fun hc => ?_)
  · have hlt : k < (pathsT T).length := by simp at hc; omega
    refine (hpsl.ext hx4).ia strE_len k hlt fun b off hr => ?_
    refine hr.ld1 (i := 0) rfl _ ?_
    obtain ⟨p, ep⟩ : ∃ p, p = (pathsT T)[k] := ⟨_, rfl⟩
    rw [← ep]
    have hpp : p.length ≤ 200 := by rw [ep]; exact hp200 _ (List.getElem_mem hlt)
    have etk : ((pathsT T).take (k + 1)).filter seenB = ((pathsT T).take k).filter seenB ++ (if seenB p then [p] else []) := by
      rw [List.take_succ_eq_append_getElem hlt, List.filter_append, ← ep]
      congr 1
      rw [List.filter_cons]
      split <;> rfl
    have cnt : (((pathsT T).take k).filter seenB).length ≤ k := Nat.le_trans (List.length_filter_le _ _) (by rw [List.length_take]; omega)
    have next : ∀ (w5 : World) (n : Int), Ext w3 w5 → n = (((pathsT T).take (k + 1)).filter seenB).length → bin .add (.int .i64 k) (.int .i64 1) fun t37 => (∃ k' : Nat, k' ≤ (pathsT T).length ∧ nth [.int .i64 n, t37] 1 = .int .i64 k' ∧ nth [.int .i64 n, t37] 0 = .int .i64 (((pathsT T).take k').filter seenB).length ∧ Ext w3 w5) ∧ (pathsT T).length - ixOf [.int .i64 n, t37] 1 < (pathsT T).length - ixOf g1 1 := fun w5 n hx5 hn => by
      refine int_add (by omega) ⟨⟨k + 1, by omega, rfl, by rw [hn]; rfl, hx5⟩, ?_⟩
      rw [ixOf_of hg1, ixOf_of (n := k + 1) rfl]; omega
    have step : ∀ (w5 : World), Ext w3 w5 → cnd (.bool (seenB p)) (bin .add (.int .i64 (((pathsT T).take k).filter seenB).length) (.int .i64 1) fun t52 => bin .add (.int .i64 k) (.int .i64 1) fun t37 => (∃ k' : Nat, k' ≤ (pathsT T).length ∧ nth [t52, t37] 1 = .int .i64 k' ∧ nth [t52, t37] 0 = .int .i64 (((pathsT T).take k').filter seenB).length ∧ Ext w3 w5) ∧ (pathsT T).length - ixOf [t52, t37] 1 < (pathsT T).length - ixOf g1 1)
        (bin .add (.int .i64 k) (.int .i64 1) fun t37 => (∃ k' : Nat, k' ≤ (pathsT T).length ∧ nth [.int .i64 (((pathsT T).take k).filter seenB).length, t37] 1 = .int .i64 k' ∧ nth [.int .i64 (((pathsT T).take k).filter seenB).length, t37] 0 = .int .i64 (((pathsT T).take k').filter seenB).length ∧ Ext w3 w5) ∧ (pathsT T).length - ixOf [.int .i64 (((pathsT T).take k).filter seenB).length, t37] 1 < (pathsT T).length - ixOf g1 1) := fun w5 hx5 => by
      refine cnd_split (fun hs => ?_) (fun hs => ?_)
      · refine int_add (by omega) ?_
        exact next w5 _ hx5 (by rw [etk, if_pos hs, List.length_append]; simp)
      · exact next w5 _ hx5 (by rw [etk, if_neg (by rw [hs]; simp)]; simp)
    refine gd_and (fun hne => ?_) (fun hne => ?_)
    · refine (hpsl.ext hx4).ia strE_len k hlt fun b' off' hr' => ?_
      refine hr'.ld1 (i := 0) rfl _ ?_
      rw [← ep]
      refine call_ok has_path_Under (Under_spec p [46, 114, 101, 109, 111, 114, 97] (by omega) (by simp) w4) ?_
      rintro _ w5 ⟨rfl, hx5⟩
      simp only [vxs]
      have : (!underB p [46, 114, 101, 109, 111, 114, 97]) = seenB p := by
        unfold seenB
        rw [hne, home_rem]; rfl
      rw [this]
      exact step w5 (Ext.trans hx4 hx5)
    · have : seenB p = false := by unfold seenB; rw [hne]; rfl
      have st := step w4 hx4
      rw [this] at st
      exact st
  have hke : k = (pathsT T).length := by simp at hc; omega
  subst hke
  rw [List.take_length] at hg0
  have hx34 := Ext.trans hx23 hx4
  -- the rules with one more
  refine Own.append' (base := w4.heap.size) E_rule (by omega) (by omega) ruleE_len ruleE_one (xs := ([] : List Rule)) (.inl ⟨rfl, rfl⟩) (hl.ext hx34) (Nat.le_refl _) (by simp; omega) fun v5 w5 ho5 hu5 _ => ?_
  rw [List.nil_append] at ho5
  have hx5 : Ext w4 w5 := hu5.mono fun k _ e => by obtain ⟨-, c, l, e, -⟩ := e; cases e
  obtain ⟨r, er⟩ : ∃ r : Rule, r = ⟨2, pat, false, false⟩ := ⟨_, rfl⟩
  have b1 : ∀ K : Value → Prop, K (.agg (ruleE r).toArray) → bld [(.int .i64 0), (str []), (.bool false), (.bool false)] [(0, 1, (.int .i64 2)), (1, 1, str pat)] K := fun K h => by rw [er] at h; exact h
  refine b1 _ ?_
  have b2 : ∀ K : Value → World → Prop, K (.slice (some ⟨w5.heap.size, 0, none⟩) 1 1) (w5.alloc (.cells (ruleE r).toArray t_api_Rule)) → bsl t_api_Rule 1 [(.int .i64 0), (str []), (.bool false), (.bool false)] [(0, 4, .agg (ruleE r).toArray)] w5 K := fun K h => h
  refine b2 _ ?_
  have hone : Sl 4 ruleE (w5.alloc (.cells (ruleE r).toArray t_api_Rule)) (.slice (some ⟨w5.heap.size, 0, none⟩) 1 1) [r] := ⟨_, _, rfl, by simp, fun _ => ⟨_, _, rfl, _, _, _, alloc_new _ _, by simp [ruleE], by simp [ruleE]⟩⟩
  refine Own.append' (base := w4.heap.size) E_rule (by omega) (by omega) ruleE_len ruleE_one (ho5.ext (alloc_ext _ _)) hone (by rw [alloc_size]; have := hx5.size; omega) (by simp; omega) fun v6 w6 ho6 hu6 _ => ?_
  have hx46 : Ext w4 w6 := Upd.trans (Ext.trans hx5 (alloc_ext _ _)) hu6 fun k hk e => by have := e.1; omega
  have hx6 := Ext.trans hx34 hx46
  have hmsl := Sl.of_own ruleE_len ho6
  have hmp : ∀ x ∈ L ++ [r], x.pat.length ≤ 4294967296 := fun x hx => by
    rcases List.mem_append.1 hx with hx | hx
    · exact hp x hx
    · rw [List.mem_singleton.1 hx, er]; exact hpat
  refine call_ok has_rules_Check (Check_spec hmsl (by simp; omega) hmp) ?_
  rintro _ w7 ⟨rfl, hx7⟩
  have hx67 := Ext.trans hx6 hx7
  simp only [vxs]
  refine cnd_split (fun hc => ?_) (fun hc => ?_)
  · exact aw hx67
  have hR7 : Rep w7 t S F := ((hR.ext hx3).ext hx4).ext (Ext.trans hx46 hx7)
  refine call_ok has_walk_List (WList_spec hw hm hm0 hR7 (hl.ext hx67) h1 (by omega) hp) ?_
  rintro va w8 ⟨hoa, hx8⟩
  have hR8 := hR7.ext hx8
  refine call_ok has_walk_List (WList_spec hw hm hm0 hR8 (hmsl.ext (Ext.trans hx7 hx8)) ho6.one (by simp; omega) hmp) ?_
  rintro vb w9 ⟨hob, hx9⟩
  have hx09 := Ext.trans (Ext.trans hx67 hx8) hx9
  obtain ⟨A, eA⟩ : ∃ A, A = walkT T L := ⟨_, rfl⟩
  obtain ⟨Bl, eB⟩ : ∃ Bl, Bl = walkT T (L ++ [r]) := ⟨_, rfl⟩
  rw [← eA] at hoa
  rw [← eB] at hob
  have hle : Bl.length ≤ A.length := by rw [eA, eB]; exact walk_le L r hw
  have hAl : A.length ≤ m + 1 := by
    rw [eA]; unfold walkT
    rw [entsT_len hw _ _ fun p hp => visT_mem 13 hp]
    have key := visT_len hw L
    exact key
  have hsa := (Sl.of_own entE_len hoa).ext hx9
  have hsb := Sl.of_own entE_len hob
  refine ⟨fun g w' => ∃ k : Nat, k ≤ Bl.length ∧ nth g 2 = .int .i64 k ∧ Ext w9 w', fun g _ => Bl.length - ixOf g 2, ⟨0, Nat.zero_le _, rfl, .refl _ _⟩, ?_⟩
  rintro g3 z3 w10 ⟨k, hk, hg3, hx10⟩
  have hsa := hsa.ext hx10
  have hsb := hsb.ext hx10
  refine hsb.len ?_
  simp only [hg3, vxs]
  refine cnd_split (fun hc => ?_) (fun hc => ?_)
  · have hlt : k < Bl.length := by simp at hc; omega
    obtain ⟨e, ee⟩ : ∃ e, e = Bl[k] := ⟨_, rfl⟩
    have hem : e ∈ walkT T (L ++ [r]) := by rw [ee, ← eB]; exact List.getElem_mem hlt
    obtain ⟨j, j1, j2, j3, j4⟩ := walk_more hw L r hem
    simp only [← eA] at j1 j2 j3 j4
    -- where the two stand
    obtain ⟨ba, offa, iaA, rowA⟩ : ∃ ba off, (∀ K : Value → Prop, K (.pointer (some ⟨ba, off, none⟩)) → ia 11 va (.int .i64 j) K) ∧ Row w10 ba off (entE A[j]) := by
      obtain ⟨a, cap, q1, -, q2⟩ := hsa
      obtain ⟨b', off, q3, q4⟩ := q2 (by intro e; rw [e] at j2; simp at j2)
      refine ⟨b', off + j * 11, fun K hK => ?_, q4.at entE_len j j2⟩
      rw [q1, q3]
      refine ⟨⟨by omega, by omega⟩, ?_⟩
      rw [addr_add, Int.toNat_natCast]; exact hK
    obtain ⟨bb, offb, iaB, rowB⟩ : ∃ bb off, (∀ K : Value → Prop, K (.pointer (some ⟨bb, off, none⟩)) → ia 11 vb (.int .i64 k) K) ∧ Row w10 bb off (entE e) := by
      obtain ⟨a, cap, q1, -, q2⟩ := hsb
      obtain ⟨b', off, q3, q4⟩ := q2 (by intro e; rw [e] at hlt; simp at hlt)
      refine ⟨b', off + k * 11, fun K hK => ?_, by rw [ee]; exact q4.at entE_len k hlt⟩
      rw [q1, q3]
      refine ⟨⟨by omega, by omega⟩, ?_⟩
      rw [addr_add, Int.toNat_natCast]; exact hK
    refine iaB _ ?_
    have cp := rowB.pick 0 (v := str e.path) rfl
    rw [Nat.add_zero] at cp
    simp only [vxs, Nat.add_zero, cp]
    refine call_ok has_remoralaw19_where (where_spec hsa (by omega) e.path) ?_
    rintro _ w10' ⟨rfl, rfl⟩
    rw [j1]
    simp only [vxs]
    refine cnd_split (fun hc => ?_) (fun _ => ?_)
    · have : (j : Int) < 0 := by simpa using hc
      omega
    refine iaA _ ?_
    refine rowA.ldn _ ?_
    generalize hw11 : w10'.alloc _ = w11
    have h11 : w11.heap[w10'.heap.size]? = some (.cells (entE ent0).toArray t_api_Entry (0, 0)) := by rw [← hw11]; exact alloc_new _ _
    have hx11 : Ext w10' w11 := by rw [← hw11]; exact alloc_ext _ _
    refine st_all (vs' := entE A[j]) (n := 11) h11 rfl rfl (by omega) (entE_one _) fun w12 h12 u12 => ?_
    obtain ⟨X, eX⟩ : ∃ X, X = w10'.heap.size := ⟨_, rfl⟩
    rw [← eX] at h12 u12 ⊢
    have hx12 : Ext w10' w12 := Upd.trans hx11 u12 fun b hb e => by omega
    refine iaB _ ?_
    have cg := (rowB.mono hx12 fun f => f).pick 10 (v := .int .i64 e.group) rfl
    simp only [vxs, cg, Nat.zero_add]
    refine st1_in h12 rfl (by show 10 < 11; omega) ?_
    generalize hw13 : setB w12 X _ = w13
    have h13 : w13.heap[X]? = some (.cells (entE e).toArray t_api_Entry (0, 0)) := by
      rw [← hw13, setB_new h12, ← j3]; rfl
    have hx13 : Ext w10' w13 := by rw [← hw13]; exact Upd.trans hx12 (setB_upd _ _ _) fun b hb e => by omega
    have hxy : (A[j].group == 0) = (e.group == 0) := by
      rw [Bool.eq_iff_iff, beq_iff_eq, beq_iff_eq]; exact j4
    refine drw_det [.agg (entE e).toArray, undef, undef, .pointer (some ⟨bb, offb, none⟩), .agg (entE e).toArray, .bool false, undef, va, .int .i64 j, .pointer (some ⟨ba, offa, none⟩), .pointer (some ⟨ba, offa + 10, none⟩), .int .i64 A[j].group, .bool (A[j].group == 0), vb, .int .i64 k, .pointer (some ⟨bb, offb, none⟩), .pointer (some ⟨bb, offb + 10, none⟩), .int .i64 e.group, .bool (e.group == 0), .bool false, .bool false] ?_ ?_
    · refine ⟨?_, ?_, ?_, ?_, ?_, ?_, ?_, ?_, ?_, ?_, ?_, ?_, ?_, ?_, ?_, ?_, ?_, ?_, trivial⟩ <;> intro dd w14 kk hd hx14 hkk <;>
        simp only [List.mem_cons, List.not_mem_nil, or_false, forall_eq_or_imp, forall_eq, vxs] at hd hkk ⊢
      all_goals try simp only [hd, vxs]
      all_goals have rA := (rowA.mono hx13 fun f => f).mono hx14 fun f => f
      all_goals have rB := (rowB.mono hx13 fun f => f).mono hx14 fun f => f
      · exact lds_all (Ext.get hx14 h13) rfl (hkk _ (.refl _ _))
      · exact iaB _ (hkk _ (.refl _ _))
      · exact rB.ldn _ (hkk _ (.refl _ _))
      · refine entry_neq ?_
        rw [decide_eq_true rfl]
        exact hkk _ (.refl _ _)
      · exact hkk _ (.refl _ _)
      · exact hkk _ (.refl _ _)
      · exact iaA _ (hkk _ (.refl _ _))
      · exact hkk _ (.refl _ _)
      · have := rA.pick 10 (v := .int .i64 A[j].group) rfl
        simp only [this, vxs]; exact hkk _ (.refl _ _)
      · exact hkk _ (.refl _ _)
      · exact hkk _ (.refl _ _)
      · exact hkk _ (.refl _ _)
      · exact iaB _ (hkk _ (.refl _ _))
      · exact hkk _ (.refl _ _)
      · have := rB.pick 10 (v := .int .i64 e.group) rfl
        simp only [this, vxs]; exact hkk _ (.refl _ _)
      · exact hkk _ (.refl _ _)
      · rw [hxy]
        simp only [beq_self_eq_true, Bool.not_true]
        exact hkk _ (.refl _ _)
      · exact hkk _ (.refl _ _)
    · intro d w14 hd hx14
      simp only [List.map_cons, List.map_nil, List.mem_cons, List.not_mem_nil, or_false, forall_eq_or_imp, forall_eq, vxs] at hd
      simp only [hd, vxs]
      refine int_add (by omega) ⟨⟨k + 1, by omega, rfl, Ext.trans (Ext.trans hx10 hx13) hx14⟩, ?_⟩
      rw [ixOf_of hg3, ixOf_of (n := k + 1) rfl]; omega
  have hke : k = Bl.length := by simp at hc; omega
  have hx010 := Ext.trans hx09 hx10
  have hR10 : Rep w10 t S F := (hR8.ext hx9).ext hx10
  refine call_ok has_walk_List (WList_spec hw hm hm0 hR10 (Sl.nil 4 ruleE w10 none 0) rfl (by simp) (by simp)) ?_
  rintro vn w11 ⟨hon, hx11⟩
  have hx011 := Ext.trans hx010 hx11
  refine (Sl.of_own entE_len hon).len ?_
  have en : (walkT T []).length = ((pathsT T).filter seenB).length := walk_nil hw
  rw [List.take_length, en]
  simp only [vxs, beq_self_eq_true]
  refine jn_dup ?_
  refine (hsb.ext hx11).len ?_
  refine (hsa.ext hx11).len ?_
  simp only [vxs]
  have hb : decide ((Bl.length : Int) ≤ A.length) = true := by simp; omega
  rw [hb]
  intro _
  simp only [vxs]
  refine jn_dup ?_
  refine call_ok has_remoralaw19_awake (awake_spec _) ?_
  rintro _ w12 ⟨rfl, hx12⟩
  intro _
  simp only [vxs]
  exact ⟨trivial, Ext.trans hx011 hx12⟩
end Go.Proofs.YtkpefimnggojdaaGreat.VX
