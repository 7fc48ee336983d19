/-
  Contracts: what a tree tells (Stat, List); the entry of a thing (walk).
-/
import Derived.Test.YtkpefimnggojdaaGreatQd
import Derived.Test.YtkpefimnggojdaaGreatLv
set_option linter.all false
namespace Go.Proofs.YtkpefimnggojdaaGreat.VX
open Go Pl
set_option maxRecDepth 4000

def statT (T : PT) (q : List Bytes) (i : Int) : Stat := ⟨(T.th i).kind, i, sizeT T q i, linksT T i, (T.th i).mt, (T.th i).target⟩
def statP (T : PT) (p : Bytes) : Stat := if (thereT T p).2 ≠ 0 then stat0 else match (thereT T p).1 with | none => stat0 | some i => statT T (split p) i
theorem card_kids {S : St} {T : PT} {m : Nat} (hw : Wf T m) (hm : Mt S T) (q : List Bytes) : Card (fun x => S.at_ (q ++ [x])) (kidsT T q).length :=
  ⟨kidsT T q, hw.nodup_kids q, fun k => by
    rw [mem_kidsT]
    constructor
    · rintro ⟨i, hi⟩; obtain ⟨c, hc, -⟩ := hm.back (hw.at_iff.2 hi); exact ⟨c, hc⟩
    · rintro ⟨c, hc⟩; exact ⟨_, hm.mem hc⟩, rfl⟩
theorem told_stat {S : St} {T : PT} {m : Nat} (hw : Wf T m) (hm : Mt S T) {q : List Bytes} {b : Nat} (hb : S.at_ q = some b) : Told S q b (statT T q (S.nd b).ino) := by
  have ht := hm.th _ _ hb
  unfold statT
  refine ⟨by rw [ht], rfl, ?_, by rw [ht], by rw [ht], ?_⟩
  · show linksT T _ = _
    unfold linksT; rw [hm.links _ _ hb, ht]
  · show if (T.th (S.nd b).ino).kind = 1 then sizeT T q (S.nd b).ino = _ else if _ then ∃ n, _ ∧ sizeT T q (S.nd b).ino = _ else if _ then sizeT T q (S.nd b).ino = _ else sizeT T q (S.nd b).ino = 0
    unfold sizeT
    rw [ht]
    simp only
    by_cases h1 : (S.nd b).kind = 1
    · rw [if_pos h1, if_pos h1]
    · rw [if_neg h1, if_neg h1]
      by_cases h2 : (S.nd b).kind = 2
      · rw [if_pos h2, if_pos h2]; exact ⟨_, card_kids hw hm q, rfl⟩
      · rw [if_neg h2, if_neg h2]
        by_cases h3 : (S.nd b).kind = 3
        · rw [if_pos h3, if_pos h3]
        · rw [if_neg h3, if_neg h3]
theorem Stat_T {w : World} {t : Nat} {S : St} {T : PT} {F : Nat → Prop} {m : Nat} (hw : Wf T m) (hm : Mt S T) (h : Rep w t S F) (p : Bytes) (hp : p.length ≤ 4294967290) :
    CallsV Tryz.prog f_tree_Tree_Stat #[.pointer (some ⟨t, 0, none⟩), str p] w fun v w' => v = .tuple #[.agg (statE (statP T p)).toArray, .int .i64 (thereT T p).2] ∧ Ext w w' := by
  refine (Stat_spec h p hp).mono ?_
  rintro v w' ⟨hr, hx⟩
  refine ⟨?_, hx⟩
  unfold StatR at hr
  unfold statP
  rw [hm.there]
  simp only
  by_cases hf : (thereA S p).2.2 ≠ 0
  · rw [if_pos hf] at hr ⊢; exact hr
  · rw [if_neg hf] at hr ⊢
    obtain ⟨b, s, h1, h2, h3, h4⟩ := hr
    have hf : (thereA S p).2.2 = 0 := by simpa using hf
    rw [h3, h1, hf]
    simp only [Option.map_some]
    rw [h4.unique (told_stat hw hm h2)]
def listT (T : PT) (p : Bytes) : Int := if (thereT T p).2 ≠ 0 then (thereT T p).2 else match (thereT T p).1 with | some i => if (T.th i).kind ≠ 2 then 12 else 0 | none => 0
theorem List_T {w : World} {t : Nat} {S : St} {T : PT} {F : Nat → Prop} {m : Nat} (hw : Wf T m) (hm : Mt S T) (hm0 : m ≤ 100000) (h : Rep w t S F) (p : Bytes) (hp : p.length ≤ 4294967290) :
    CallsV Tryz.prog f_tree_Tree_List #[.pointer (some ⟨t, 0, none⟩), str p] w fun v w' => (∃ u, v = .tuple #[u, .int .i64 (listT T p)] ∧ Own t_string 1 strE w.heap.size w' u (if listT T p = 0 then kidsT T (split p) else [])) ∧ Ext w w' := by
  have e : listT T p = listE S p := by
    unfold listT listE; rw [hm.there]
    simp only
    by_cases hz : (thereA S p).2.2 = 0
    · obtain ⟨b, h1, h2⟩ := thereA_some hz
      rw [h1]
      simp only [Option.map_some]
      rw [hm.kind h2]
    · rw [if_pos hz, if_pos hz]
  refine (List_spec h p hp fun n hn => ?_).mono ?_
  · have := hn.unique (card_kids hw hm _)
    have := kids_len hw (split p)
    omega
  · rintro v w' ⟨⟨u, ks, h1, h2, h3⟩, hx⟩
    refine ⟨⟨u, by rw [e]; exact h1, ?_⟩, hx⟩
    rw [e]
    by_cases h0 : listE S p = 0
    · rw [if_pos h0] at h3 ⊢
      have := kids_of_names hw (fun x => by
        constructor
        · rintro ⟨c, hc⟩; exact ⟨_, hm.at_some hc⟩
        · rintro ⟨i, hi⟩; obtain ⟨c, hc, -⟩ := hm.back hi; exact ⟨c, hc⟩) h3
      rw [← this]; exact h2
    · rw [if_neg h0] at h3 ⊢; rw [← h3]; exact h2

/-! Groups. -/
def entE (e : Ent) : List Value := [str e.path, .int .i64 e.kind, .int .i64 e.size, .int .i64 e.mt.mode, .int .i64 e.mt.sec, .int .i64 e.mt.nano, .int .i64 e.mt.uid, .int .i64 e.mt.gid, str e.target, str e.sum, .int .i64 e.group]
theorem entE_len (e : Ent) : (entE e).length = 11 := rfl
theorem entE_one (e : Ent) : ∀ v ∈ entE e, oneCell v = true := by
  intro v hv
  simp only [entE, List.mem_cons, List.not_mem_nil, or_false] at hv
  rcases hv with rfl | rfl | rfl | rfl | rfl | rfl | rfl | rfl | rfl | rfl | rfl <;> rfl
def GroupsAt (w : World) (gm : Nat) (gs : List Int) : Prop := ∃ es clock, w.heap[gm]? = some (.map es clock) ∧ es.size = gs.length ∧ gs.Nodup ∧ ∀ j (h : j < gs.length), ∃ e, es.toList[j]? = some e ∧ e.key = .int .i64 gs[j] ∧ e.val = .int .i64 ((j : Int) + 1)
theorem GroupsAt.mono {w w' : World} {gm : Nat} {gs : List Int} {M : Nat → Prop} (h : GroupsAt w gm gs) (hu : Upd M w w') (hm : ¬ M gm) : GroupsAt w' gm gs := by
  obtain ⟨es, ck, h1, h2⟩ := h; exact ⟨es, ck, hu.get h1 hm, h2⟩
theorem int_inj {a b : Int} (h : Value.int .i64 a = .int .i64 b) : a = b := by injection h
theorem GroupsAt.keys {es : Array MapEntry} {gs : List Int} (h2 : es.size = gs.length) (h3 : ∀ j (h : j < gs.length), ∃ e, es.toList[j]? = some e ∧ e.key = .int .i64 gs[j] ∧ e.val = .int .i64 ((j : Int) + 1)) {x : MapEntry} {j : Nat} (hx : es.toList[j]? = some x) : ∃ (hj : j < gs.length), x.key = .int .i64 gs[j] ∧ x.val = .int .i64 ((j : Int) + 1) := by
  have hj : j < gs.length := by
    rw [← h2]
    by_cases hlt : j < es.size
    · exact hlt
    · rw [List.getElem?_eq_none (by simp; omega)] at hx; cases hx
  obtain ⟨e, h4, h5⟩ := h3 j hj
  rw [hx] at h4; injection h4 with h4; subst h4
  exact ⟨hj, h5⟩
theorem GroupsAt.find {es : Array MapEntry} {gs : List Int} (h2 : es.size = gs.length) (hn : gs.Nodup) (h3 : ∀ j (h : j < gs.length), ∃ e, es.toList[j]? = some e ∧ e.key = .int .i64 gs[j] ∧ e.val = .int .i64 ((j : Int) + 1)) (i : Int) :
    (Instr.findNow (.int .i64) (.int .i64 i) es.toList 0 = some none ∧ ixG gs i = 0) ∨ ∃ j, Instr.findNow (.int .i64) (.int .i64 i) es.toList 0 = some (some (j, .int .i64 ((j : Int) + 1))) ∧ ixG gs i = j + 1 := by
  have hks : ∀ x ∈ es.toList, MapKept.IsKey (.int .i64) x.key := fun x hx => by
    obtain ⟨j, hj⟩ := List.getElem?_of_mem hx
    obtain ⟨_, h, _⟩ := GroupsAt.keys h2 h3 hj
    rw [h]; trivial
  rcases MapKept.findNow_spec (d := .int .i64) (k := .int .i64 i) rfl es.toList 0 hks with ⟨h4, h5⟩ | ⟨j, e, h4, h5, h6⟩
  · refine .inl ⟨h4, ixG_zero.2 fun hm => ?_⟩
    obtain ⟨j, hj, e⟩ := List.getElem_of_mem hm
    obtain ⟨x, hx, hk, _⟩ := h3 j hj
    exact h5 x (List.mem_of_getElem? hx) (by rw [hk, e])
  · obtain ⟨hj, hk, hv⟩ := GroupsAt.keys h2 h3 h5
    refine .inr ⟨j, by rw [h4, hv, Nat.zero_add], ?_⟩
    have hij : gs[j] = i := int_inj (hk.symm.trans h6)
    cases hx : ixG gs i with
    | zero => exact absurd (ixG_zero.1 hx) (by simp only [Classical.not_not]; rw [← hij]; exact List.getElem_mem hj)
    | succ k =>
      have := ixG_get hx
      have hk' : k < gs.length := by
        by_cases hlt : k < gs.length
        · exact hlt
        · rw [List.getElem?_eq_none (by omega)] at this; cases this
      rw [List.getElem?_eq_getElem hk'] at this; injection this with this
      have : k = j := (List.getElem_inj (h₀ := hk') (h₁ := hj) hn).1 (by rw [this, hij])
      rw [this]
theorem GroupsAt.lk {w : World} {gm : Nat} {gs : List Int} (h : GroupsAt w gm gs) (i : Int) {K : Value → Prop} (hk : K (.int .i64 (ixG gs i))) : VX.lk (.int .i64) (.int .i64 0) (.map (some gm)) (.int .i64 i) false w K := by
  obtain ⟨es, clock, hb, h2, hn, h3⟩ := h
  simp only [VX.lk, hb]
  rcases GroupsAt.find h2 hn h3 i with ⟨h4, h5⟩ | ⟨j, h4, h5⟩
  · rw [h4]; rw [h5] at hk; exact hk
  · rw [h4]; rw [h5] at hk; exact hk
theorem GroupsAt.len {w : World} {gm : Nat} {gs : List Int} (h : GroupsAt w gm gs) {K : Value → Prop} (hk : K (.int .i64 gs.length)) : lenM (.map (some gm)) w K := by
  obtain ⟨es, clock, hb, h2, -⟩ := h
  simp only [lenM, hb]; rw [h2]; exact hk
theorem GroupsAt.put {w : World} {gm : Nat} {gs : List Int} (h : GroupsAt w gm gs) (i : Int) (hi : ixG gs i = 0) {K : World → Prop} (hk : ∀ w', GroupsAt w' gm (gs ++ [i]) → Upd (fun b => b = gm) w w' → K w') : mux (.int .i64) (.map (some gm)) (.int .i64 i) (.int .i64 ((gs.length : Int) + 1)) w K := by
  obtain ⟨es, clock, hb, h2, hn, h3⟩ := h
  simp only [mux, hb]
  rcases GroupsAt.find h2 hn h3 i with ⟨h4, h5⟩ | ⟨j, h4, h5⟩
  · rw [h4]
    refine hk _ ⟨_, clock + 1, setB_new hb, by simp [h2], ?_, fun j hj => ?_⟩ (setB_upd _ _ _)
    · rw [List.nodup_append]
      exact ⟨hn, by simp, fun a ha b hb e => by rw [List.mem_singleton.1 hb] at e; exact ixG_zero.1 hi (e ▸ ha)⟩
    · simp only [List.length_append, List.length_cons, List.length_nil] at hj
      by_cases hlt : j < gs.length
      · obtain ⟨e, q1, q2, q3⟩ := h3 j hlt
        refine ⟨e, ?_, ?_, q3⟩
        · rw [Array.toList_push, List.getElem?_append_left (by simp; omega)]; exact q1
        · rw [List.getElem_append_left hlt]; exact q2
      · have hj : j = gs.length := by omega
        subst hj
        refine ⟨{ key := .int .i64 i, val := .int .i64 ((gs.length : Int) + 1), born := clock }, ?_, ?_, rfl⟩
        · rw [Array.toList_push, List.getElem?_append_right (by simp; omega)]; simp [h2]
        · simp
  · rw [hi] at h5; cases h5

/-- The walker's struct. -/
def wkE (t : Nat) (rv : Value) (gm : Nat) (yv : Value) : List Value := [.pointer (some ⟨t, 0, none⟩), rv, .map (some gm), yv]
def manyS (s : Stat) : Bool := s.kind == 1 && decide (1 < s.links)
def entS (p : Bytes) (s : Stat) (g : Int) : Ent := ⟨p, s.kind, s.size, s.mt, s.target, [], g⟩
theorem entry_spec {w : World} {wb t gm : Nat} {rv yv : Value} {gs : List Int} (hwb : w.heap[wb]? = some (.cells (wkE t rv gm yv).toArray t_walk_walker (0, 0))) (hg : GroupsAt w gm gs) (hgl : gs.length ≤ 1000000) (p : Bytes) (s : Stat) :
    CallsV Tryz.prog f_walk_walker_entry #[.pointer (some ⟨wb, 0, none⟩), str p, .agg (statE s).toArray] w fun v w' =>
      v = .agg (entE (entS p s (if manyS s then (ixG (gsAdd gs s.ino) s.ino : Int) else 0))).toArray ∧ GroupsAt w' gm (if manyS s then gsAdd gs s.ino else gs) ∧ Upd (fun b => b = gm) w w' := by
  refine ok_walk_walker_entry _ _ _ _ _ ?_
  unfold go_walk_walker_entry
  refine boxx_ok ?_
  obtain ⟨w1, ew1⟩ : ∃ w1, w1 = w.alloc (.cells (statE s).toArray t_api_Stat) := ⟨_, rfl⟩
  have hx1 : Ext w w1 := by rw [ew1]; exact alloc_ext _ _
  have h5 : w1.heap[w.heap.size]? = some (.cells (statE s).toArray t_api_Stat (0, 0)) := by rw [ew1]; exact alloc_new _ _
  have z1 : w1.heap.size = w.heap.size + 1 := by rw [ew1]; exact alloc_size _ _
  rw [← ew1]
  refine newx_any fun w2 h6 hx2 z2 => ?_
  have h52 := Ext.get hx2 h5
  have hmeta : ∀ K : Value → Prop, K (.agg (metaE s.mt).toArray) → ldS 5 (.pointer (some ⟨w.heap.size, 4, none⟩)) w2 K := fun K hK => lds_at h52 (by show 4 + 5 ≤ 10; omega) rfl hK
  simp only [vxs, h52, statE, Nat.zero_add]
  refine hmeta _ ?_
  obtain ⟨e0, ee0⟩ : ∃ e0, e0 = entS p s 0 := ⟨_, rfl⟩
  have e1 : ∀ K : Value → Prop, K (.agg (entE e0).toArray) → bld [(str []), (.int .i64 0), (.int .i64 0), (.int .i64 0), (.int .i64 0), (.int .i64 0), (.int .i64 0), (.int .i64 0), (str []), (str []), (.int .i64 0)] [(0, 1, str p), (1, 1, .int .i64 s.kind), (2, 1, .int .i64 s.size), (3, 5, .agg (metaE s.mt).toArray), (8, 1, str s.target)] K := fun K hK => by rw [ee0] at hK; exact hK
  refine e1 _ ?_
  generalize hw3 : w2.alloc _ = w3
  have h7 : w3.heap[w2.heap.size]? = some (.cells (entE ⟨[], 0, 0, ⟨0, 0, 0, 0, 0⟩, [], [], 0⟩).toArray t_api_Entry (0, 0)) := by rw [← hw3]; exact alloc_new _ _
  have hx3 : Ext w2 w3 := by rw [← hw3]; exact alloc_ext _ _
  have z3 : w3.heap.size = w2.heap.size + 1 := by rw [← hw3]; exact alloc_size _ _
  refine st_all (vs' := entE e0) (n := 11) h7 rfl rfl (by omega) (entE_one _) fun w4 h74 u4 => ?_
  obtain ⟨B5, eB5⟩ : ∃ B, B = w.heap.size := ⟨_, rfl⟩
  obtain ⟨B6, eB6⟩ : ∃ B, B = w1.heap.size := ⟨_, rfl⟩
  obtain ⟨B7, eB7⟩ : ∃ B, B = w2.heap.size := ⟨_, rfl⟩
  rw [← eB7] at h74 u4 ⊢
  rw [← eB6] at h6 ⊢
  rw [← eB5] at h52 ⊢
  have hgm := lt_of_blk hg.choose_spec.choose_spec.1
  have hwl := lt_of_blk hwb
  have hx4 : Ext w w4 := Upd.trans (Ext.trans (Ext.trans hx1 hx2) hx3) u4 fun k hk e => by omega
  have h54 : w4.heap[B5]? = some (.cells (statE s).toArray t_api_Stat (0, 0)) := u4.get (Ext.get hx3 h52) (by omega)
  have h64 : w4.heap[B6]? = some (.cells (entE ⟨[], 0, 0, ⟨0, 0, 0, 0, 0⟩, [], [], 0⟩).toArray t_api_Entry (0, 0)) := u4.get (Ext.get hx3 h6) (by omega)
  have hwb4 := Ext.get hx4 hwb
  have hg4 := hg.mono hx4 fun f => f
  -- the end, from a world in which the entry stands
  have fin : ∀ (e : Ent) (w' : World) (gs' : List Int), w'.heap[B7]? = some (.cells (entE e).toArray t_api_Entry (0, 0)) → w'.heap[B6]? = some (.cells (entE ⟨[], 0, 0, ⟨0, 0, 0, 0, 0⟩, [], [], 0⟩).toArray t_api_Entry (0, 0)) → GroupsAt w' gm gs' → Upd (fun b => b = gm) w w' →
      e = entS p s (if manyS s then (ixG (gsAdd gs s.ino) s.ino : Int) else 0) → gs' = (if manyS s then gsAdd gs s.ino else gs) →
      ldS 11 (.pointer (some ⟨B7, 0, none⟩)) w' fun t54 => st 11 (.pointer (some ⟨B6, 0, none⟩)) t54 w' fun w8 => ldS 11 (.pointer (some ⟨B6, 0, none⟩)) w8 fun r =>
        r = .agg (entE (entS p s (if manyS s then (ixG (gsAdd gs s.ino) s.ino : Int) else 0))).toArray ∧ GroupsAt w8 gm (if manyS s then gsAdd gs s.ino else gs) ∧ Upd (fun b => b = gm) w w8 := by
    intro e w' gs' q7 q6 qg qu he hgs
    refine lds_all q7 rfl ?_
    refine st_all (vs' := entE e) (n := 11) q6 rfl rfl (by omega) (entE_one _) fun w8 q8 u8 => ?_
    refine lds_all q8 rfl ⟨by rw [he], ?_, Upd.trans qu u8 fun k hk e => by omega⟩
    rw [← hgs]; exact qg.mono u8 fun e => by omega
  simp only [vxs, h54, statE]
  rw [show ((s.kind : Int) == 1) = (s.kind == 1) from nat_eq _ 1]
  have notmany : manyS s = false → ldS 11 (.pointer (some ⟨B7, 0, none⟩)) w4 fun t54 => st 11 (.pointer (some ⟨B6, 0, none⟩)) t54 w4 fun w8 => ldS 11 (.pointer (some ⟨B6, 0, none⟩)) w8 fun r =>
        r = .agg (entE (entS p s (if manyS s then (ixG (gsAdd gs s.ino) s.ino : Int) else 0))).toArray ∧ GroupsAt w8 gm (if manyS s then gsAdd gs s.ino else gs) ∧ Upd (fun b => b = gm) w w8 := fun hn =>
    fin e0 w4 gs h74 h64 hg4 (Ext.to hx4) (by rw [ee0, hn]; rfl) (by rw [hn]; rfl)
  refine gd_and (fun hc => ?_) (fun hc => ?_)
  · simp only [vxs]
    refine cnd_split (fun hc2 => ?_) (fun hc2 => ?_)
    · have hm : manyS s = true := by unfold manyS; rw [hc]; simpa using hc2
      refine ⟨fun g w' => w'.heap[B7]? = some (.cells (entE e0).toArray t_api_Entry (0, 0)) ∧ w'.heap[B6]? = some (.cells (entE ⟨[], 0, 0, ⟨0, 0, 0, 0, 0⟩, [], [], 0⟩).toArray t_api_Entry (0, 0)) ∧ w'.heap[B5]? = some (.cells (statE s).toArray t_api_Stat (0, 0)) ∧ GroupsAt w' gm (gsAdd gs s.ino) ∧ Upd (fun b => b = gm) w w', ?_, ?_⟩
      · rintro g z w5 ⟨q7, q6, q5, qg, qu⟩
        have hwb5 : w5.heap[wb]? = some (.cells (wkE t rv gm yv).toArray t_walk_walker (0, 0)) := qu.get hwb fun e => by
          obtain ⟨es, ck, hgb, _⟩ := hg
          rw [e, hgb] at hwb; cases hwb
        refine drw_last [undef, .pointer (some ⟨wb, 0, none⟩), .pointer (some ⟨wb, 2, none⟩), .map (some gm), .pointer (some ⟨B5, 1, none⟩), .int .i64 s.ino, .int .i64 (ixG (gsAdd gs s.ino) s.ino), .pointer (some ⟨B7, 10, none⟩)]
          (steps := [(1, _, _), (2, _, _), (3, _, _), (4, _, _), (5, _, _), (6, _, _), (7, _, _)]) ?_ (by simp) (by simp) ?_ (by simp)
        · refine ⟨?_, ?_, ?_, ?_, ?_, ?_, ?_, trivial⟩ <;> intro dd w6 q hd6 hx6 hk6 <;>
            simp only [List.mem_cons, List.not_mem_nil, or_false, forall_eq_or_imp, forall_eq, vxs] at hd6 hk6 ⊢
          · exact hk6 _ (.refl _ _)
          · simp only [hd6, vxs, Nat.zero_add]; exact hk6 _ (.refl _ _)
          · have := Ext.get hx6 hwb5
            simp only [hd6, vxs, this, wkE]; exact hk6 _ (.refl _ _)
          · exact hk6 _ (.refl _ _)
          · have := Ext.get hx6 q5
            simp only [hd6, vxs, this, statE]; exact hk6 _ (.refl _ _)
          · simp only [hd6]
            exact (qg.mono hx6 fun f => f).lk s.ino (hk6 _ (.refl _ _))
          · exact hk6 _ (.refl _ _)
        · intro dd w6 q hd6 hx6 hk6
          simp only [List.mem_cons, List.not_mem_nil, or_false, forall_eq_or_imp, forall_eq, vxs] at hd6
          simp only [hd6]
          have q76 := Ext.get hx6 q7
          refine st1_in q76 rfl (by show 10 < 11; omega) ?_
          refine hk6 _ _ fun d' _ _ => ?_
          have u7 := setB_upd w6 B7 (.cells ((entE e0).toArray.setIfInBounds 10 (.int .i64 (ixG (gsAdd gs s.ino) s.ino))) t_api_Entry (0, 0))
          refine fin { e0 with group := (ixG (gsAdd gs s.ino) s.ino : Int) } _ (gsAdd gs s.ino) (by rw [setB_new q76]; rfl) (u7.get (Ext.get hx6 q6) (by omega)) ((qg.mono hx6 fun f => f).mono u7 fun e => by omega) (Upd.trans (Ext.trans qu hx6) u7 fun k hk e => by omega) (by rw [ee0, hm]; rfl) (by rw [hm]; rfl)
      · refine drw_det [undef, .pointer (some ⟨wb, 0, none⟩), .pointer (some ⟨wb, 2, none⟩), .map (some gm), .pointer (some ⟨B5, 1, none⟩), .int .i64 s.ino, .int .i64 (ixG gs s.ino), .bool ((ixG gs s.ino : Int) == 0)] ?_ ?_
        · refine ⟨?_, ?_, ?_, ?_, ?_, ?_, ?_, trivial⟩ <;> intro dd w6 q hd6 hx6 hk6 <;>
            simp only [List.mem_cons, List.not_mem_nil, or_false, forall_eq_or_imp, forall_eq, vxs] at hd6 hk6 ⊢
          · exact hk6 _ (.refl _ _)
          · simp only [hd6, vxs, Nat.zero_add]; exact hk6 _ (.refl _ _)
          · have := Ext.get hx6 hwb4
            simp only [hd6, vxs, this, wkE]; exact hk6 _ (.refl _ _)
          · exact hk6 _ (.refl _ _)
          · have := Ext.get hx6 h54
            simp only [hd6, vxs, this, statE]; exact hk6 _ (.refl _ _)
          · simp only [hd6]
            exact (hg4.mono hx6 fun f => f).lk s.ino (hk6 _ (.refl _ _))
          · simp only [hd6, vxs]; exact hk6 _ (.refl _ _)
        · intro d w5 hd5 hx5
          simp only [List.map_cons, List.map_nil, List.mem_cons, List.not_mem_nil, or_false, forall_eq_or_imp, forall_eq, vxs] at hd5
          simp only [hd5]
          have q75 := Ext.get hx5 h74
          have q65 := Ext.get hx5 h64
          have q55 := Ext.get hx5 h54
          have qw5 := Ext.get hx5 hwb4
          have qg5 := hg4.mono hx5 fun f => f
          refine cnd_split (fun hc => ?_) (fun hc => ?_)
          · have hz : ixG gs s.ino = 0 := by simpa using hc
            refine drw_last [undef, .pointer (some ⟨wb, 0, none⟩), .pointer (some ⟨wb, 2, none⟩), .map (some gm), .pointer (some ⟨B5, 1, none⟩), .int .i64 s.ino, undef, .pointer (some ⟨wb, 0, none⟩), .pointer (some ⟨wb, 2, none⟩), .map (some gm), .int .i64 gs.length, .int .i64 ((gs.length : Int) + 1)]
              (steps := [(1, _, _), (2, _, _), (3, _, _), (4, _, _), (5, _, _), (7, _, _), (8, _, _), (9, _, _), (10, _, _), (11, _, _)]) ?_ (by simp) (by simp) ?_ (by simp)
            · refine ⟨?_, ?_, ?_, ?_, ?_, ?_, ?_, ?_, ?_, ?_, trivial⟩ <;> intro dd w6 q hd6 hx6 hk6 <;>
                simp only [List.mem_cons, List.not_mem_nil, or_false, forall_eq_or_imp, forall_eq, vxs] at hd6 hk6 ⊢
              · exact hk6 _ (.refl _ _)
              · simp only [hd6, vxs, Nat.zero_add]; exact hk6 _ (.refl _ _)
              · have := Ext.get hx6 qw5
                simp only [hd6, vxs, this, wkE]; exact hk6 _ (.refl _ _)
              · exact hk6 _ (.refl _ _)
              · have := Ext.get hx6 q55
                simp only [hd6, vxs, this, statE]; exact hk6 _ (.refl _ _)
              · exact hk6 _ (.refl _ _)
              · simp only [hd6, vxs, Nat.zero_add]; exact hk6 _ (.refl _ _)
              · have := Ext.get hx6 qw5
                simp only [hd6, vxs, this, wkE]; exact hk6 _ (.refl _ _)
              · simp only [hd6]
                exact (qg5.mono hx6 fun f => f).len (hk6 _ (.refl _ _))
              · simp only [hd6]
                exact int_add (by omega) (hk6 _ (.refl _ _))
            · intro dd w6 q hd6 hx6 hk6
              simp only [List.mem_cons, List.not_mem_nil, or_false, forall_eq_or_imp, forall_eq, vxs] at hd6
              simp only [hd6]
              refine (qg5.mono hx6 fun f => f).put s.ino hz fun w7 hg7 u7 => hk6 _ _ fun d' _ _ => ?_
              have hgb : ∀ {B : Nat} {vs : List Value} {ty : TypeId}, w6.heap[B]? = some (.cells vs.toArray ty (0, 0)) → B ≠ gm := fun hB e => by
                obtain ⟨es, ck, hb, _⟩ := qg5.mono hx6 fun f => f
                rw [e, hb] at hB; cases hB
              refine ⟨u7.get (Ext.get hx6 q75) (hgb (Ext.get hx6 q75)), u7.get (Ext.get hx6 q65) (hgb (Ext.get hx6 q65)), u7.get (Ext.get hx6 q55) (hgb (Ext.get hx6 q55)), ?_, Upd.trans (Ext.to (Ext.trans (Ext.trans hx4 hx5) hx6)) u7 fun _ _ h => h⟩
              unfold gsAdd; rw [if_pos hz]; exact hg7
          · have hz : ixG gs s.ino ≠ 0 := by simpa using hc
            refine ⟨q75, q65, q55, ?_, Ext.to (Ext.trans hx4 hx5)⟩
            unfold gsAdd; rw [if_neg hz]; exact qg5
    · refine notmany ?_
      unfold manyS; rw [hc]; simpa using hc2
  · simp only [vxs]
    refine notmany ?_
    unfold manyS; rw [hc]; rfl
end Go.Proofs.YtkpefimnggojdaaGreat.VX
