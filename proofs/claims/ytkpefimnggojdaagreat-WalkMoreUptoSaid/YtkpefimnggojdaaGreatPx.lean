/-
  Contracts: what turns a tree: a thing is told anew (Set, Write, Append; the count of its names).
  Contracts: what turns a tree: another name (Link).
-/
import Derived.Test.YtkpefimnggojdaaGreatPw
set_option linter.all false
namespace Go.Proofs.YtkpefimnggojdaaGreat.VX
open Go Pl
set_option maxRecDepth 4000

/-- A thing's own data turn. -/
def setS (S : St) (b : Nat) (n : Nd) (dv : Value) : St := ⟨S.at_, upN S.nd b n, upN S.dv b dv, S.kid, S.next⟩

theorem Rep.setNode {w w' : World} {t : Nat} {S : St} {F : Nat → Prop} (h : Rep w t S F) {p : List Bytes} {b : Nat} (hb : S.at_ p = some b) {n : Nd} {dv : Value} (hk : n.kind = (S.nd b).kind)
    (hcell : w'.heap[b]? = some (.cells (nodeE n dv (S.kv b)).toArray t_tree_node (0, 0))) (hu : Upd (fun q => q = b) w w') {F' : Nat → Prop} (hF : ∀ q, F q → F' q) (hlt : ∀ q, F' q → q < w'.heap.size) (hd : Own t_uint8 1 u8E 0 w' dv n.data) (hdF : ∀ a l c, dv = .slice (some a) l c → F' a.block) :
    Rep w' t (setS S b n dv) F' := by
  have nd1 : ∀ {q}, q ≠ b → (setS S b n dv).nd q = S.nd q := fun e => upN_ne _ _ e
  have dv1 : ∀ {q}, q ≠ b → (setS S b n dv).dv q = S.dv q := fun e => upN_ne _ _ e
  have ndb : (setS S b n dv).nd b = n := upN_self _ _ _
  have dvb : (setS S b n dv).dv b = dv := upN_self _ _ _
  have kind1 : ∀ q, ((setS S b n dv).nd q).kind = (S.nd q).kind := fun q => by
    by_cases e : q = b
    · rw [e, ndb, hk]
    · rw [nd1 e]
  have kv1 : ∀ q, (setS S b n dv).kv q = S.kv q := fun q => by unfold St.kv; rw [kind1]; rfl
  have hbn := (h.node _ _ hb).1
  have nT : t ≠ b := by
    intro e
    rw [← e, h.tree] at hbn; injection hbn with hbn; injection hbn with h1 h2; exact absurd h2 (by decide)
  refine ⟨hu.get h.tree nT, hF _ h.ft, ?_, fun x y q hx => ?_, fun x q hx => ?_, fun x q hx => ?_, fun x q hx hk2 => ?_, fun x y q hx hy hk2 => ?_, fun x y q q' hx hy hk2 hk2' he => ?_, hlt⟩
  · obtain ⟨q, h1, h2⟩ := h.top
    exact ⟨q, h1, by rw [kind1]; exact h2⟩
  · obtain ⟨q', h1, h2⟩ := h.up _ _ _ hx
    exact ⟨q', h1, by rw [kind1]; exact h2⟩
  · have hq := h.node _ _ hx
    refine ⟨?_, hF _ hq.2⟩
    rw [kv1]
    by_cases e : q = b
    · rw [e, ndb, dvb]; exact hcell
    · rw [nd1 e, dv1 e]; exact hu.get hq.1 e
  · by_cases e : q = b
    · rw [e, ndb, dvb]; exact ⟨hd, hdF⟩
    · rw [nd1 e, dv1 e]
      obtain ⟨h1, h2⟩ := h.data _ _ hx
      refine ⟨?_, fun a l c e => hF _ (h2 a l c e)⟩
      rcases h1 with h1 | ⟨db, cap, c, h3, h4, h5, h6⟩
      · exact .inl h1
      · refine .inr ⟨db, cap, c, h3, h4, hu.get h5 ?_, h6⟩
        intro e2
        rw [e2, hbn] at h5; injection h5 with h5; injection h5 with h7 h8; exact absurd h8 (by decide)
  · rw [kind1] at hk2
    obtain ⟨h1, h2⟩ := h.kids _ _ hx hk2
    obtain ⟨es, ck, hm, _⟩ := id h1
    exact ⟨h1.mono hu (fun e => by rw [e, hbn] at hm; cases hm), hF _ h2⟩
  · rw [kind1] at hk2; exact h.dir _ _ _ hx hy hk2
  · rw [kind1] at hk2 hk2'; exact h.kinj _ _ _ _ hx hy hk2 hk2' he

theorem metaE_one (m : Meta) : ∀ v ∈ metaE m, oneCell v = true := by
  intro v hv
  simp only [metaE, List.mem_cons, List.not_mem_nil, or_false] at hv
  rcases hv with rfl | rfl | rfl | rfl | rfl <;> rfl
theorem node_meta {w : World} {b : Nat} {n : Nd} {dv kv : Value} (hb : w.heap[b]? = some (.cells (nodeE n dv kv).toArray t_tree_node (0, 0))) (m : Meta) {K : World → Prop}
    (hk : ∀ w', w'.heap[b]? = some (.cells (nodeE { n with mt := m } dv kv).toArray t_tree_node (0, 0)) → Upd (fun q => q = b) w w' → K w') : st 5 (.pointer (some ⟨b, 4, none⟩)) (.agg (metaE m).toArray) w K := by
  refine st_in ?_
  rw [hb]
  exact ⟨rfl, rfl, by omega, List.all_eq_true.2 (metaE_one m), by show 4 + 5 ≤ 12; omega, hk _ (setB_new hb) (setB_upd _ _ _)⟩

def setE (S : St) (p : Bytes) (m : Meta) : Int := if mayE p m ≠ 0 then mayE p m else (thereA S p).2.2
/-- What a thing is told anew. -/
def Reset (S : St) (b : Nat) (n : Nd) (S' : St) : Prop := ∃ dv, S' = setS S b n dv
theorem Set_spec {w : World} {t : Nat} {S : St} {F : Nat → Prop} (h : Rep w t S F) (p : Bytes) (hp : p.length ≤ 4294967290) (m : Meta) :
    CallsV Tryz.prog f_tree_Tree_Set #[.pointer (some ⟨t, 0, none⟩), str p, .agg (metaE m).toArray] w fun v w' => v = .int .i64 (setE S p m) ∧ Turned w w' t F (fun S' => if setE S p m = 0 then ∃ b, S.at_ (split p) = some b ∧ Reset S b { S.nd b with mt := m } S' else S' = S) := by
  refine ok_tree_Tree_Set _ _ _ _ _ ?_
  unfold go_tree_Tree_Set
  refine boxx_ok ?_
  obtain ⟨w1, ew1⟩ : ∃ w1, w1 = w.alloc (.cells (metaE m).toArray t_api_Meta) := ⟨_, rfl⟩
  have hx1 : Ext w w1 := by rw [ew1]; exact alloc_ext _ _
  have hb : w1.heap[w.heap.size]? = some (.cells (metaE m).toArray t_api_Meta (0, 0)) := by rw [ew1]; exact alloc_new _ _
  rw [← ew1]
  refine lds_all hb rfl ?_
  refine call_ok has_tree_Tree_may (may_spec t p hp m w1) ?_
  rintro _ w2 ⟨rfl, hx2⟩
  have hx := Ext.trans hx1 hx2
  simp only [vxs]
  refine cnd_split (fun hc => ?_) (fun hc => ?_)
  · have hm : mayE p m ≠ 0 := by simpa using hc
    have e : setE S p m = mayE p m := by unfold setE; rw [if_pos hm]
    exact ⟨by rw [e], .same h hx (by rw [e, if_neg hm])⟩
  · have hm : mayE p m = 0 := by simpa using hc
    have e : setE S p m = (thereA S p).2.2 := by unfold setE; rw [if_neg (by simp [hm])]
    refine call_ok has_tree_Tree_there (there_spec (h.ext hx) p hp) ?_
    rintro _ w3 ⟨rfl, hx3⟩
    have hx' := Ext.trans hx hx3
    simp only [tri, vxs]
    refine cnd_split (fun hc => ?_) (fun hc => ?_)
    · have hf : (thereA S p).2.2 ≠ 0 := by simpa using hc
      exact ⟨by rw [e], .same h hx' (by rw [e, if_neg hf])⟩
    · have hf : (thereA S p).2.2 = 0 := by simpa using hc
      obtain ⟨b, hb1, hat⟩ := thereA_some hf
      have hR := h.ext hx'
      have hnb := (hR.node _ _ hat).1
      rw [hb1]
      refine lds_all (hx3.get (hx2.get hb)) rfl ?_
      simp only [ptrO, vxs, Nat.zero_add]
      refine node_meta hnb m fun w4 h4 u4 => ?_
      refine ⟨by rw [e, hf], ?_⟩
      have hu : Upd F w w4 := Upd.trans (Ext.to hx') u4 fun k hk e => by rw [e]; exact (h.node _ _ hat).2
      obtain ⟨hd1, hd2⟩ := hR.data _ _ hat
      refine ⟨_, F, hR.setNode hat (n := { S.nd b with mt := m }) rfl h4 u4 (fun _ h => h) (fun q hq => by have := hR.lt q hq; have := u4.size; omega) ?_ hd2, hu, fun _ h => .inl h, ?_⟩
      · rcases hd1 with h1 | ⟨db, cap, c, q3, q4, q5, q6⟩
        · exact .inl h1
        · refine .inr ⟨db, cap, c, q3, q4, u4.get q5 ?_, q6⟩
          intro e2
          rw [e2, hnb] at q5; injection q5 with q5; injection q5 with q7 q8; exact absurd q8 (by decide)
      · show (if setE S p m = 0 then _ else _)
        rw [e, if_pos hf]
        exact ⟨b, hat, _, rfl⟩

theorem node_data {w : World} {b : Nat} {n : Nd} {dv kv : Value} (hb : w.heap[b]? = some (.cells (nodeE n dv kv).toArray t_tree_node (0, 0))) (dv' : Value) (h1 : oneCell dv' = true) (ds : Bytes) {K : World → Prop}
    (hk : ∀ w', w'.heap[b]? = some (.cells (nodeE { n with data := ds } dv' kv).toArray t_tree_node (0, 0)) → Upd (fun q => q = b) w w' → K w') : st 1 (.pointer (some ⟨b, 10, none⟩)) dv' w K :=
  st1_in hb h1 (by show 10 < 12; omega) (hk _ (by rw [setB_new hb]; rfl) (setB_upd _ _ _))
theorem own_cell {t : TypeId} {base : Nat} {w : World} {v : Value} {xs : Bytes} (h : Own t 1 u8E base w v xs) : oneCell v = true := by
  rcases h with ⟨rfl, -⟩ | ⟨b, cap, c, _, rfl, _⟩ <;> rfl
/-- The blocks of a tree and of a row. -/
def withB (F : Nat → Prop) (v : Value) : Nat → Prop := fun q => F q ∨ ∃ a l c, v = .slice (some a) l c ∧ a.block = q

/-- A file's bytes are set, and what is told of it: n.data = dv; n.stat.Meta = m. -/
theorem Rep.setData {w5 w' : World} {t base : Nat} {S : St} {F : Nat → Prop} (h : Rep w5 t S F) {p : List Bytes} {b : Nat} (hb : S.at_ p = some b) {dv : Value} {ds : Bytes} {n : Nd} (hn : n.kind = (S.nd b).kind) (hds : n.data = ds)
    (ho : Own t_uint8 1 u8E base w5 dv ds) (hcell : w'.heap[b]? = some (.cells (nodeE n dv (S.kv b)).toArray t_tree_node (0, 0))) (hu : Upd (fun q => q = b) w5 w') : Rep w' t (setS S b n dv) (withB F dv) := by
  have hnb := (h.node _ _ hb).1
  refine h.setNode hb hn hcell hu (fun q hq => .inl hq) (fun q hq => ?_) ?_ (fun a l c e => .inr ⟨a, l, c, e, rfl⟩)
  · have hsz := hu.size
    rcases hq with hq | ⟨a, l, c, e, rfl⟩
    · have := h.lt q hq; omega
    · rcases ho with ⟨h1, -⟩ | ⟨db, cap, cc, q3, q4, q5, q6⟩
      · rw [h1] at e; cases e
      · rw [q4] at e; injection e with e; injection e with e; rw [← e]
        have := lt_of_blk q5; show db < _; omega
  · rcases ho with h1 | ⟨db, cap, cc, q3, q4, q5, q6⟩
    · rw [hds]; exact .inl h1
    · rw [hds]
      refine .inr ⟨db, cap, cc, Nat.zero_le _, q4, hu.get q5 ?_, q6⟩
      intro e2
      rw [e2, hnb] at q5; injection q5 with q5; injection q5 with q7 q8; exact absurd q8 (by decide)

/-- The error of Write. -/
def writeE (S : St) (p : Bytes) (ln : Nat) (m : Meta) : Int :=
  if mayE p m ≠ 0 then mayE p m else if 65536 < ln then 7 else if (lookA S p).2.2 ≠ 0 then (lookA S p).2.2
  else match (lookA S p).1 with | none => 0 | some b => fileE (S.nd b)
/-- What Write makes: a new file, or an old one with other bytes and another Meta. -/
def Wrote (S : St) (p : List Bytes) (bs : Bytes) (m : Meta) (S' : St) : Prop :=
  match S.at_ p with
  | some b => Reset S b { S.nd b with data := bs, mt := m } S'
  | none => ∃ S1 b, Added S p ⟨1, S.next, 1, ⟨0, 0, 0, 0, 0⟩, [], []⟩ S1 ∧ S1.at_ p = some b ∧ Reset S1 b ⟨1, S.next, 1, m, [], bs⟩ S'
theorem look_at {w : World} {t : Nat} {S : St} {F : Nat → Prop} (h : Rep w t S F) {p : Bytes} (hf : (lookA S p).2.2 = 0) : S.at_ (split p) = (lookA S p).1 := by
  cases hh : (lookA S p).1 with
  | some b =>
    have : (thereA S p).2.2 = 0 ∧ (thereA S p).1 = some b := by
      have e0 : thereA S p = if (lookA S p).2.2 = 0 ∧ (lookA S p).1 = none then ((lookA S p).1, (lookA S p).2.1, 10) else lookA S p := rfl
      rw [e0, if_neg (by rw [hh]; simp)]
      exact ⟨hf, hh⟩
    obtain ⟨b', h1, h2⟩ := thereA_some this.1
    rw [this.2] at h1; injection h1 with h1; rw [h1]; exact h2
  | none =>
    have hfr : (freshA S p).2 = 0 := by
      unfold freshA; rw [if_neg (by rw [hh]; simp)]; exact hf
    obtain ⟨d, -, -, -, -, -, h6⟩ := fresh_ok h hfr
    exact h6

theorem Write_spec {w : World} {t : Nat} {S : St} {F : Nat → Prop} (h : Rep w t S F) (p : Bytes) (hp : p.length ≤ 4294967290) (v : Value) (bs : Bytes) (hv : ∀ w', Upd F w w' → Sl 1 u8E w' v bs) (m : Meta) (hnx : 0 ≤ S.next ∧ S.next ≤ 4294967296) :
    CallsV Tryz.prog f_tree_Tree_Write #[.pointer (some ⟨t, 0, none⟩), str p, v, .agg (metaE m).toArray] w fun r w' => r = .int .i64 (writeE S p bs.length m) ∧ Turned w w' t F (fun S' => if writeE S p bs.length m = 0 then Wrote S (split p) bs m S' else S' = S) := by
  refine ok_tree_Tree_Write _ _ _ _ _ _ ?_
  unfold go_tree_Tree_Write
  refine boxx_ok ?_
  obtain ⟨w1, ew1⟩ : ∃ w1, w1 = w.alloc (.cells (metaE m).toArray t_api_Meta) := ⟨_, rfl⟩
  have hx1 : Ext w w1 := by rw [ew1]; exact alloc_ext _ _
  have hb : w1.heap[w.heap.size]? = some (.cells (metaE m).toArray t_api_Meta (0, 0)) := by rw [ew1]; exact alloc_new _ _
  rw [← ew1]
  obtain ⟨B7, e7⟩ : ∃ B, B = w.heap.size := ⟨_, rfl⟩
  rw [← e7] at hb ⊢
  refine lds_all hb rfl ?_
  refine call_ok has_tree_Tree_may (may_spec t p hp m w1) ?_
  rintro _ w2 ⟨rfl, hx2⟩
  have hx := Ext.trans hx1 hx2
  simp only [vxs]
  refine cnd_split (fun hc => ?_) (fun hc => ?_)
  · have hm : mayE p m ≠ 0 := by simpa using hc
    have e : writeE S p bs.length m = mayE p m := by unfold writeE; rw [if_pos hm]
    exact ⟨by rw [e], .same h hx (by rw [e, if_neg hm])⟩
  have hm : mayE p m = 0 := by simpa using hc
  have e : writeE S p bs.length m = if 65536 < bs.length then 7 else if (lookA S p).2.2 ≠ 0 then (lookA S p).2.2 else match (lookA S p).1 with | none => 0 | some b => fileE (S.nd b) := by unfold writeE; rw [if_neg (by simp [hm])]
  refine (hv w2 (Ext.to hx)).len ?_
  simp only [vxs]
  refine cnd_split (fun hc => ?_) (fun hc => ?_)
  · have ht : 65536 < bs.length := by simp at hc; omega
    rw [if_pos ht] at e
    exact ⟨by rw [e], .same h hx (by rw [e]; rfl)⟩
  have ht : ¬ 65536 < bs.length := by simp at hc; omega
  rw [if_neg ht] at e
  refine call_ok has_tree_Tree_look (look_spec (h.ext hx) p hp) ?_
  rintro _ w3 ⟨rfl, hx3⟩
  have hx' := Ext.trans hx hx3
  have hb3 : w3.heap[B7]? = some (.cells (metaE m).toArray t_api_Meta (0, 0)) := hx3.get (hx2.get hb)
  simp only [tri, vxs]
  refine cnd_split (fun hc => ?_) (fun hc => ?_)
  · have hf : (lookA S p).2.2 ≠ 0 := by simpa using hc
    rw [if_pos hf] at e
    exact ⟨by rw [e], .same h hx' (by rw [e, if_neg hf])⟩
  have hf : (lookA S p).2.2 = 0 := by simpa using hc
  rw [if_neg (by simp [hf])] at e
  have hat := look_at h hf
  have hR3 := h.ext hx'
  refine ⟨fun g w' => ∃ S1 F1 b n1, nth g 0 = .pointer (some ⟨b, 0, none⟩) ∧ Rep w' t S1 F1 ∧ Upd F w3 w' ∧ (∀ q, F1 q → F q ∨ w.heap.size ≤ q) ∧ (∀ q, F1 q → q ≠ B7) ∧ S1.at_ (split p) = some b ∧ S1.nd b = n1 ∧
    writeE S p bs.length m = 0 ∧ (∀ S', Reset S1 b { n1 with data := bs, mt := m } S' → Wrote S (split p) bs m S'), ?_, ?_⟩
  · rintro g z w4 ⟨S1, F1, b, n1, hg, hR, hu, hF1, hF7, hat1, hn1, he0, hW⟩
    have hbF := (hR.node _ _ hat1).2
    have hu4 : Upd F w w4 := Upd.trans (Ext.to hx') hu fun _ _ h => h
    refine call_ok has_bytes_Clone (BClone_spec (hv w4 hu4) (by omega)) ?_
    rintro dv w5 ⟨ho, hx5⟩
    have hR5 := hR.ext hx5
    have hnb := (hR5.node _ _ hat1).1
    simp only [hg, vxs, Nat.zero_add]
    refine node_data hnb dv (own_cell ho) bs fun w6 h6 u6 => ?_
    have hB7F : ¬ F B7 := fun hh => by have := h.lt _ hh; omega
    have hb6 : w6.heap[B7]? = some (.cells (metaE m).toArray t_api_Meta (0, 0)) := u6.get (hx5.get (hu.get hb3 hB7F)) (fun e => hF7 b hbF e.symm)
    refine lds_all hb6 rfl ?_
    refine node_meta h6 m fun w7 h7 u7 => ?_
    have u67 : Upd (fun q => q = b) w5 w7 := Upd.trans u6 u7 fun _ _ h => h
    refine ⟨by rw [he0], _, _, hR5.setData hat1 (n := { S1.nd b with data := bs, mt := m }) rfl rfl ho h7 u67, ?_, ?_, ?_⟩
    · have hsz := hu4.size
      have hsz3 := hx'.size
      refine Upd.trans (Upd.trans hu4 hx5 fun _ _ f => f.elim) u67 fun k hk e => ?_
      rcases hF1 _ hbF with hh | hh
      · rw [e]; exact hh
      · omega
    · intro q hq
      rcases hq with hq | ⟨a, l, c, ea, rfl⟩
      · exact hF1 q hq
      · rcases ho with ⟨h1, -⟩ | ⟨db, cap, cc, q3, q4, q5, q6⟩
        · rw [h1] at ea; cases ea
        · rw [q4] at ea; injection ea with ea; injection ea with ea; rw [← ea]
          have := hu4.size; right; show w.heap.size ≤ db; omega
    · show (if writeE S p bs.length m = 0 then _ else _)
      rw [if_pos he0]
      exact hW _ ⟨dv, by rw [hn1]⟩
  · cases hn : (lookA S p).1 with
    | none =>
      rw [hn] at e hat
      simp only at e
      have hfr : (freshA S p).2 = 0 := by unfold freshA; rw [if_neg (by rw [hn]; simp)]; exact hf
      obtain ⟨d, hd, hr, hp0, hatp, hk, hno⟩ := fresh_ok h hfr
      have hd2 : (lookA S p).2.1 = some d := by
        unfold freshA at hd; rw [if_neg (by rw [hn]; simp)] at hd; exact hd
      rw [hd2]
      simp only [ptrO, vxs, Option.isNone_none]
      have e3 : ∀ K : Value → Prop, K (.agg (statE ⟨1, 0, 0, 0, ⟨0, 0, 0, 0, 0⟩, []⟩).toArray) → bld [(.int .i64 0), (.int .i64 0), (.int .i64 0), (.int .i64 0), (.int .i64 0), (.int .i64 0), (.int .i64 0), (.int .i64 0), (.int .i64 0), (str [])] [(0, 1, (.int .i64 1))] K := fun K h => h
      refine e3 _ ?_
      have e4 : ∀ (K : Value → Prop), K (.agg (nodeE ⟨1, 0, 0, ⟨0, 0, 0, 0, 0⟩, [], []⟩ (.slice none 0 0) (.map none)).toArray) → bld [(.int .i64 0), (.int .i64 0), (.int .i64 0), (.int .i64 0), (.int .i64 0), (.int .i64 0), (.int .i64 0), (.int .i64 0), (.int .i64 0), (str []), (.slice none 0 0), (.map none)] [(0, 10, .agg (statE ⟨1, 0, 0, 0, ⟨0, 0, 0, 0, 0⟩, []⟩).toArray)] K := fun K h => h
      refine e4 _ ?_
      simp only [Value.cells]
      obtain ⟨n5, en⟩ : ∃ n5, n5 = nodeE ⟨1, 0, 0, ⟨0, 0, 0, 0, 0⟩, [], []⟩ (.slice none 0 0) (.map none) := ⟨_, rfl⟩
      rw [← en]
      obtain ⟨w5, ew5⟩ : ∃ w5, w5 = w3.alloc (.cells n5.toArray t_tree_node) := ⟨_, rfl⟩
      rw [← ew5]
      have x5 : Ext w3 w5 := by rw [ew5]; exact alloc_ext _ _
      have hsz3 := hx'.size
      have hB7lt := lt_of_blk hb3
      refine put_turned (mb := w3.heap.size) (n := ⟨1, 0, 0, ⟨0, 0, 0, 0, 0⟩, [], []⟩) hR3 x5 hp hr hp0 hatp hk hno ⟨⟨_, by rw [ew5, en]; exact alloc_new _ _, rfl⟩, fun h => (by cases h), rfl⟩ (Nat.le_refl _) (fun _ => Nat.le_refl _) hnx fun v w' hR hu hfr2 hT => ?_
      refine ⟨_, _, w3.heap.size, _, rfl, hR, hu, fun q hq => ?_, fun q hq => ?_, ?_, rfl, e, ?_⟩
      · rcases hq with hq | rfl | ⟨hk, -⟩
        · exact .inl hq
        · exact .inr hsz3
        · cases hk
      · rcases hq with hq | rfl | ⟨hk, -⟩
        · have := h.lt q hq; omega
        · omega
        · cases hk
      · show (if split p = split p then _ else _) = _
        rw [if_pos rfl]
      · rintro S' hS'
        unfold Wrote
        rw [hat]
        refine ⟨_, w3.heap.size, ⟨w3.heap.size, w3.heap.size, hfr2, rfl⟩, by show (if split p = split p then _ else _) = _; rw [if_pos rfl], ?_⟩
        have : (addS S (split p) w3.heap.size w3.heap.size ⟨1, S.next, 1, ⟨0, 0, 0, 0, 0⟩, [], []⟩).nd w3.heap.size = ⟨1, S.next, 1, ⟨0, 0, 0, 0, 0⟩, [], []⟩ := upN_self _ _ _
        rw [this] at hS'
        exact hS'
    | some b =>
      rw [hn] at e hat
      simp only at e
      simp only [ptrO, vxs]
      refine call_ok has_tree_file (file_spec hR3 hat) ?_
      rintro _ w3 ⟨rfl, rfl⟩
      simp only [vxs]
      refine cnd_split (fun hc => ?_) (fun hc => ?_)
      · have hfe : fileE (S.nd b) ≠ 0 := by simpa using hc
        exact ⟨by rw [e], .same h hx' (by rw [e, if_neg hfe])⟩
      · have hfe : fileE (S.nd b) = 0 := by simpa using hc
        refine ⟨S, F, b, _, rfl, hR3, .refl _ _, fun q hq => .inl hq, fun q hq => ?_, hat, rfl, by rw [e, hfe], fun S' hS' => ?_⟩
        · have := h.lt q hq; omega
        · unfold Wrote; rw [hat]; exact hS'
end Go.Proofs.YtkpefimnggojdaaGreat.VX

namespace Go.Proofs.YtkpefimnggojdaaGreat.VX
open Go Pl
set_option maxRecDepth 4000

/-- A file has another name. -/
def nameS (S : St) (p : List Bytes) (b : Nat) : St := ⟨fun q => if q = p then some b else S.at_ q, S.nd, S.dv, S.kid, S.next⟩
theorem Rep.addName {w w' : World} {t : Nat} {S : St} {F : Nat → Prop} (h : Rep w t S F) {q : List Bytes} {x : Bytes} {d b : Nat} {old : List Bytes} (hd : S.at_ q = some d) (hk : (S.nd d).kind = 2) (hno : S.at_ (q ++ [x]) = none) (hb : S.at_ old = some b) (hkb : (S.nd b).kind ≠ 2)
    (hm : KidsAt w' (S.kid d) (fun y => if y = x then some b else S.at_ (q ++ [y]))) (hu : Upd (fun k => k = S.kid d) w w') : Rep w' t (nameS S (q ++ [x]) b) F := by
  have at1 : ∀ y, (nameS S (q ++ [x]) b).at_ y = if y = q ++ [x] then some b else S.at_ y := fun _ => rfl
  obtain ⟨es0, ck0, hes0, _⟩ := (h.kids _ _ hd hk).1
  have ob : ∀ {r c ty}, w.heap[r]? = some (.cells c ty (0, 0)) → r ≠ S.kid d := fun hr e => by rw [e, hes0] at hr; cases hr
  have old' : ∀ y c, (nameS S (q ++ [x]) b).at_ y = some c → ∃ z, S.at_ z = some c ∧ ((S.nd c).kind = 2 → z = y ∧ y ≠ q ++ [x]) := fun y c hy => by
    rw [at1] at hy
    by_cases e : y = q ++ [x]
    · rw [if_pos e] at hy; injection hy with hy; subst hy; exact ⟨old, hb, fun h => absurd h hkb⟩
    · rw [if_neg e] at hy; exact ⟨y, hy, fun _ => ⟨rfl, e⟩⟩
  have hqx : ∀ z c, S.at_ z = some c → z ≠ q ++ [x] := fun z c hz e => by rw [e, hno] at hz; cases hz
  refine ⟨?_, h.ft, ?_, fun y z c hy => ?_, fun y c hy => ?_, fun y c hy => ?_, fun y c hy hk2 => ?_, fun y z c hy hz hk2 => ?_, fun y z c c' hy hz hk2 hk2' he => ?_, fun c hc => ?_⟩
  · rw [at1, if_neg (by simp)]; exact hu.get h.tree (ob h.tree)
  · obtain ⟨c, h1, h2⟩ := h.top
    exact ⟨c, by rw [at1, if_neg (by simp)]; exact h1, h2⟩
  · rw [at1] at hy
    by_cases e : y ++ [z] = q ++ [x]
    · have := (List.append_inj' e rfl).1
      subst this
      exact ⟨d, by rw [at1, if_neg (hqx _ _ hd)]; exact hd, hk⟩
    · rw [if_neg e] at hy
      obtain ⟨d', h1, h2⟩ := h.up _ _ _ hy
      exact ⟨d', by rw [at1, if_neg (hqx _ _ h1)]; exact h1, h2⟩
  · obtain ⟨z, hz, -⟩ := old' y c hy
    have := h.node _ _ hz
    exact ⟨hu.get this.1 (ob this.1), this.2⟩
  · obtain ⟨z, hz, -⟩ := old' y c hy
    obtain ⟨h1, h2⟩ := h.data _ _ hz
    refine ⟨?_, h2⟩
    rcases h1 with h1 | ⟨db, cap, cc, h3, h4, h5, h6⟩
    · exact .inl h1
    · exact .inr ⟨db, cap, cc, h3, h4, hu.get h5 (ob h5), h6⟩
  · have hk2 : (S.nd c).kind = 2 := hk2
    obtain ⟨z, hz, hzy⟩ := old' y c hy
    obtain ⟨e1, e2⟩ := hzy hk2
    subst e1
    obtain ⟨k1, k2⟩ := h.kids _ _ hz hk2
    refine ⟨?_, k2⟩
    show KidsAt w' (S.kid c) _
    by_cases hcd : c = d
    · subst hcd
      have := h.dir _ _ _ hz hd hk
      subst this
      have ef : (fun y => (nameS S (z ++ [x]) b).at_ (z ++ [y])) = fun y => if y = x then some b else S.at_ (z ++ [y]) := by
        funext y
        rw [at1]
        by_cases hy : y = x
        · rw [hy, if_pos rfl, if_pos rfl]
        · rw [if_neg hy, if_neg (fun e => hy (by simpa using e))]
      rw [ef]; exact hm
    · have hkk : S.kid c ≠ S.kid d := fun e => hcd (h.kinj _ _ _ _ hz hd hk2 hk e)
      have ef : (fun y => (nameS S (q ++ [x]) b).at_ (z ++ [y])) = fun y => S.at_ (z ++ [y]) := by
        funext y
        rw [at1, if_neg]
        intro e
        have := (List.append_inj' e rfl).1
        subst this
        rw [hd] at hz; injection hz with hz; exact hcd hz.symm
      rw [ef]; exact k1.mono hu hkk
  · have hk2 : (S.nd c).kind = 2 := hk2
    obtain ⟨y', h1, h2⟩ := old' y c hy
    obtain ⟨z', h3, h4⟩ := old' z c hz
    obtain ⟨e1, -⟩ := h2 hk2
    obtain ⟨e2, -⟩ := h4 hk2
    rw [← e1, ← e2]; exact h.dir _ _ _ h1 h3 hk2
  · obtain ⟨y', h1, -⟩ := old' y c hy
    obtain ⟨z', h3, -⟩ := old' z c' hz
    exact h.kinj _ _ _ _ h1 h3 hk2 hk2' he
  · have := h.lt c hc; have := hu.size; omega

theorem node_links {w : World} {b : Nat} {n : Nd} {dv kv : Value} (hb : w.heap[b]? = some (.cells (nodeE n dv kv).toArray t_tree_node (0, 0))) (k : Int) {K : World → Prop}
    (hk : ∀ w', w'.heap[b]? = some (.cells (nodeE { n with links := k } dv kv).toArray t_tree_node (0, 0)) → Upd (fun q => q = b) w w' → K w') : st 1 (.pointer (some ⟨b, 3, none⟩)) (.int .i64 k) w K :=
  st1_in hb rfl (by show 3 < 12; omega) (hk _ (by rw [setB_new hb]; rfl) (setB_upd _ _ _))
theorem Rep.setLinks {w w' : World} {t : Nat} {S : St} {F : Nat → Prop} (h : Rep w t S F) {p : List Bytes} {b : Nat} (hb : S.at_ p = some b) {k : Int} (hcell : w'.heap[b]? = some (.cells (nodeE { S.nd b with links := k } (S.dv b) (S.kv b)).toArray t_tree_node (0, 0))) (hu : Upd (fun q => q = b) w w') :
    Rep w' t (setS S b { S.nd b with links := k } (S.dv b)) F := by
  obtain ⟨hd1, hd2⟩ := h.data _ _ hb
  have hnb := (h.node _ _ hb).1
  refine h.setNode hb (n := { S.nd b with links := k }) rfl hcell hu (fun _ h => h) (fun q hq => by have := h.lt q hq; have := hu.size; omega) ?_ hd2
  rcases hd1 with h1 | ⟨db, cap, c, q3, q4, q5, q6⟩
  · exact .inl h1
  · refine .inr ⟨db, cap, c, q3, q4, hu.get q5 ?_, q6⟩
    intro e2
    rw [e2, hnb] at q5; injection q5 with q5; injection q5 with q7 q8; exact absurd q8 (by decide)

def linkE (S : St) (old p : Bytes) : Int :=
  if rightB old = false ∨ rightB p = false then 9 else if (thereA S old).2.2 ≠ 0 then (thereA S old).2.2
  else match (thereA S old).1 with | none => 0 | some b => if fileE (S.nd b) ≠ 0 then fileE (S.nd b) else (freshA S p).2
def Linked (S : St) (old p : List Bytes) (S' : St) : Prop := ∃ b, S.at_ old = some b ∧ fileE (S.nd b) = 0 ∧ S' = setS (nameS S p b) b { S.nd b with links := (S.nd b).links + 1 } (S.dv b)
theorem Link_spec {w : World} {t : Nat} {S : St} {F : Nat → Prop} (h : Rep w t S F) (old p : Bytes) (ho : old.length ≤ 4294967290) (hp : p.length ≤ 4294967290) (hln : ∀ q b, S.at_ q = some b → -4294967296 ≤ (S.nd b).links ∧ (S.nd b).links ≤ 4294967296) :
    CallsV Tryz.prog f_tree_Tree_Link #[.pointer (some ⟨t, 0, none⟩), str old, str p] w fun r w' => r = .int .i64 (linkE S old p) ∧ Turned w w' t F (fun S' => if linkE S old p = 0 then Linked S (split old) (split p) S' else S' = S) := by
  refine ok_tree_Tree_Link _ _ _ _ _ ?_
  unfold go_tree_Tree_Link
  simp only [vxs]
  refine call_ok has_path_Right (Right_spec old ho w) ?_
  rintro _ w1 ⟨rfl, hx1⟩
  have bad : ∀ w', Ext w w' → (rightB old = false ∨ rightB p = false) → (Value.int .i64 9 = .int .i64 (linkE S old p) ∧ Turned w w' t F (fun S' => if linkE S old p = 0 then Linked S (split old) (split p) S' else S' = S)) := fun w' hx hb => by
    have e : linkE S old p = 9 := by unfold linkE; rw [if_pos hb]
    exact ⟨by rw [e], .same h hx (by rw [e]; rfl)⟩
  cases hro : rightB old with
  | false =>
    simp only [vxs]
    refine jn_dup fun _ => ?_
    try simp only [vxs]
    exact bad w1 hx1 (.inl hro)
  | true =>
  simp only [vxs]
  refine jn_dup ?_
  refine call_ok has_path_Right (Right_spec p hp w1) ?_
  rintro _ w2 ⟨rfl, hx2⟩
  have hx := Ext.trans hx1 hx2
  cases hrp : rightB p with
  | false =>
    simp only [vxs]
    intro _
    exact bad w2 hx (.inr hrp)
  | true =>
  simp only [vxs]
  intro _
  have e : linkE S old p = if (thereA S old).2.2 ≠ 0 then (thereA S old).2.2 else match (thereA S old).1 with | none => 0 | some b => if fileE (S.nd b) ≠ 0 then fileE (S.nd b) else (freshA S p).2 := by
    unfold linkE; rw [if_neg (by rw [hro, hrp]; simp)]
  refine call_ok has_tree_Tree_there (there_spec (h.ext hx) old ho) ?_
  rintro _ w3 ⟨rfl, hx3⟩
  have hx := Ext.trans hx hx3
  simp only [tri, vxs]
  refine cnd_split (fun hc => ?_) (fun hc => ?_)
  · have hf : (thereA S old).2.2 ≠ 0 := by simpa using hc
    rw [if_pos hf] at e
    exact ⟨by rw [e], .same h hx (by rw [e, if_neg hf])⟩
  have hf : (thereA S old).2.2 = 0 := by simpa using hc
  obtain ⟨b, hb1, hat⟩ := thereA_some hf
  rw [if_neg (by simp [hf]), hb1] at e
  simp only at e
  rw [hb1]
  refine call_ok has_tree_file (file_spec (h.ext hx) hat) ?_
  rintro _ w3 ⟨rfl, rfl⟩
  simp only [vxs]
  refine cnd_split (fun hc => ?_) (fun hc => ?_)
  · have hfe : fileE (S.nd b) ≠ 0 := by simpa using hc
    rw [if_pos hfe] at e
    exact ⟨by rw [e], .same h hx (by rw [e, if_neg hfe])⟩
  have hfe : fileE (S.nd b) = 0 := by simpa using hc
  rw [if_neg (by simp [hfe])] at e
  refine call_ok has_tree_Tree_fresh (fresh_spec (h.ext hx) p hp) ?_
  rintro _ w4 ⟨rfl, hx4⟩
  have hx := Ext.trans hx hx4
  simp only [vxs]
  refine cnd_split (fun hc => ?_) (fun hc => ?_)
  · have hff : (freshA S p).2 ≠ 0 := by simpa using hc
    exact ⟨by rw [e], .same h hx (by rw [e, if_neg hff])⟩
  have hff : (freshA S p).2 = 0 := by simpa using hc
  obtain ⟨d, hd, hr, hp0, hatp, hk, hno⟩ := fresh_ok h hff
  rw [hd]
  have hR := h.ext hx
  have hdb := (hR.node _ _ hatp).1
  have hes := split_last hr hp0
  have hbl := baseP_len p
  have hkb : (S.nd b).kind ≠ 2 := by intro e2; unfold fileE at hfe; rw [if_pos e2] at hfe; cases hfe
  obtain ⟨kd, kf⟩ := hR.kids _ _ hatp hk
  refine drw_last [undef, .pointer (some ⟨d, 0, none⟩), .pointer (some ⟨d, 11, none⟩), .map (some (S.kid d)), undef, str (baseP p)] (steps := [(1, _, _), (2, _, _), (3, _, _), (5, _, _)]) ?_ (by simp) (by simp) ?_ (by simp)
  · refine ⟨?_, ?_, ?_, ?_, trivial⟩ <;> intro dd w5 q hd5 hx5 hk5 <;>
      simp only [List.mem_cons, List.not_mem_nil, or_false, forall_eq_or_imp, forall_eq, vxs, ptrO] at hd5 hk5 ⊢
    · exact hk5 _ (.refl _ _)
    · rw [hd5]; simp only [vxs, Nat.zero_add]; exact hk5 _ (.refl _ _)
    · rw [hd5.1]
      have hn5 := hx5.get hdb
      simp only [vxs, hn5, nodeE]
      rw [kv_dir hk]
      exact hk5 _ (.refl _ _)
    · refine call_ok has_path_Base (Base_spec p (by omega) w5) ?_
      rintro _ w5 ⟨rfl, rfl⟩
      exact hk5 _ (.refl _ _)
  · intro dd w5 q hd5 hx5 hk5
    simp only [List.mem_cons, List.not_mem_nil, or_false, forall_eq_or_imp, forall_eq, vxs] at hd5
    rw [hd5.1, hd5.2.1]
    refine (kd.mono hx5 fun f => f).put (baseP p) b fun w6 k6 u6 => hk5 _ _ fun d' _ _ => ?_
    have hR5 := hR.ext hx5
    rw [hes] at hno
    have hR6 := hR5.addName hatp hk hno hat hkb k6 u6
    have hat6 : (nameS S (split (parentP p) ++ [baseP p]) b).at_ (split old) = some b := by
      show (if split old = split (parentP p) ++ [baseP p] then _ else _) = _
      split
      · rfl
      · exact hat
    have hnb6 := (hR6.node _ _ hat6).1
    have hl := hln _ b hat
    simp only [ptrO, vxs, Nat.zero_add, hnb6, nodeE]
    refine int_add (by show -9223372036854775808 ≤ (S.nd b).links + 1 ∧ (S.nd b).links + 1 ≤ 9223372036854775807; omega) ?_
    refine node_links hnb6 ((S.nd b).links + 1) fun w7 h7 u7 => ?_
    refine ⟨by rw [e, hff], ?_⟩
    have hu : Upd F w w7 := Upd.trans (Upd.trans (Ext.to (Ext.trans hx hx5)) u6 fun k _ e => by rw [e]; exact kf) u7 fun k _ e => by rw [e]; exact (h.node _ _ hat).2
    refine ⟨_, F, hR6.setLinks hat6 h7 u7, hu, fun _ h => .inl h, ?_⟩
    show (if linkE S old p = 0 then _ else _)
    rw [e, if_pos hff, hes]
    exact ⟨b, hat, hfe, rfl⟩

/-- A name goes. -/
def dropS (S : St) (p : List Bytes) : St := ⟨fun q => if q = p then none else S.at_ q, S.nd, S.dv, S.kid, S.next⟩
theorem Rep.dropName {w w' : World} {t : Nat} {S : St} {F : Nat → Prop} (h : Rep w t S F) {q : List Bytes} {x : Bytes} {d : Nat} (hd : S.at_ q = some d) (hk : (S.nd d).kind = 2) (hbelow : ∀ y, S.at_ (q ++ [x] ++ [y]) = none)
    (hm : KidsAt w' (S.kid d) (fun y => if y = x then none else S.at_ (q ++ [y]))) (hu : Upd (fun k => k = S.kid d) w w') : Rep w' t (dropS S (q ++ [x])) F := by
  have at1 : ∀ y, (dropS S (q ++ [x])).at_ y = if y = q ++ [x] then none else S.at_ y := fun _ => rfl
  obtain ⟨es0, ck0, hes0, _⟩ := (h.kids _ _ hd hk).1
  have ob : ∀ {r c ty}, w.heap[r]? = some (.cells c ty (0, 0)) → r ≠ S.kid d := fun hr e => by rw [e, hes0] at hr; cases hr
  have old' : ∀ y c, (dropS S (q ++ [x])).at_ y = some c → S.at_ y = some c ∧ y ≠ q ++ [x] := fun y c hy => by
    rw [at1] at hy
    by_cases e : y = q ++ [x]
    · rw [if_pos e] at hy; cases hy
    · rw [if_neg e] at hy; exact ⟨hy, e⟩
  have qne : q ≠ q ++ [x] := fun e => by have := congrArg List.length e; simp at this
  refine ⟨?_, h.ft, ?_, fun y z c hy => ?_, fun y c hy => ?_, fun y c hy => ?_, fun y c hy hk2 => ?_, fun y z c hy hz hk2 => ?_, fun y z c c' hy hz hk2 hk2' he => ?_, fun c hc => ?_⟩
  · rw [at1, if_neg (by simp)]; exact hu.get h.tree (ob h.tree)
  · obtain ⟨c, h1, h2⟩ := h.top
    exact ⟨c, by rw [at1, if_neg (by simp)]; exact h1, h2⟩
  · obtain ⟨h1, h2⟩ := old' _ _ hy
    obtain ⟨d', h3, h4⟩ := h.up _ _ _ h1
    refine ⟨d', ?_, h4⟩
    rw [at1, if_neg]
    · exact h3
    · intro e; rw [e, hbelow z] at h1; cases h1
  · obtain ⟨h1, -⟩ := old' _ _ hy
    have := h.node _ _ h1
    exact ⟨hu.get this.1 (ob this.1), this.2⟩
  · obtain ⟨h0, -⟩ := old' _ _ hy
    obtain ⟨h1, h2⟩ := h.data _ _ h0
    refine ⟨?_, h2⟩
    rcases h1 with h1 | ⟨db, cap, cc, h3, h4, h5, h6⟩
    · exact .inl h1
    · exact .inr ⟨db, cap, cc, h3, h4, hu.get h5 (ob h5), h6⟩
  · have hk2 : (S.nd c).kind = 2 := hk2
    obtain ⟨h0, hne⟩ := old' _ _ hy
    obtain ⟨k1, k2⟩ := h.kids _ _ h0 hk2
    refine ⟨?_, k2⟩
    show KidsAt w' (S.kid c) _
    by_cases hcd : c = d
    · subst hcd
      have := h.dir _ _ _ h0 hd hk
      subst this
      have ef : (fun z => (dropS S (y ++ [x])).at_ (y ++ [z])) = fun z => if z = x then none else S.at_ (y ++ [z]) := by
        funext z
        rw [at1]
        by_cases hz : z = x
        · rw [hz, if_pos rfl, if_pos rfl]
        · rw [if_neg hz, if_neg (fun e => hz (by simpa using e))]
      rw [ef]; exact hm
    · have hkk : S.kid c ≠ S.kid d := fun e => hcd (h.kinj _ _ _ _ h0 hd hk2 hk e)
      have ef : (fun z => (dropS S (q ++ [x])).at_ (y ++ [z])) = fun z => S.at_ (y ++ [z]) := by
        funext z
        rw [at1, if_neg]
        intro e
        have := (List.append_inj' e rfl).1
        subst this
        rw [hd] at h0; injection h0 with h0; exact hcd h0.symm
      rw [ef]; exact k1.mono hu hkk
  · exact h.dir _ _ _ (old' _ _ hy).1 (old' _ _ hz).1 hk2
  · exact h.kinj _ _ _ _ (old' _ _ hy).1 (old' _ _ hz).1 hk2 hk2' he
  · have := h.lt c hc; have := hu.size; omega
end Go.Proofs.YtkpefimnggojdaaGreat.VX
