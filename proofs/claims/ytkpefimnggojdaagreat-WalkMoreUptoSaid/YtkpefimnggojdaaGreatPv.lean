/-
  Contracts: a name put into a directory's map, or taken out; a new tree; bytes.Clone.
-/
import Derived.Test.YtkpefimnggojdaaGreatPu
set_option linter.all false
namespace Go.Proofs.YtkpefimnggojdaaGreat.VX
open Go Pl
set_option maxRecDepth 4000

theorem same_str (k : Bytes) : Instr.sameBits 10000 (str k) (str k) = true := by
  simp [Instr.sameBits, MapKept.bytes_beq]

theorem nodup_of_map {α β : Type} {g : α → β} {l : List α} (h : (l.map g).Nodup) : l.Nodup := List.Pairwise.of_map g (fun a b hab e => hab (by rw [e])) h
theorem cut_at {α : Type} {l : List α} {j : Nat} {e : α} (hn : l.Nodup) (h : l[j]? = some e) : ∃ a c, l = a ++ e :: c ∧ a.length = j ∧ e ∉ a ∧ e ∉ c := by
  obtain ⟨hj, he⟩ := List.getElem?_eq_some_iff.1 h
  refine ⟨l.take j, l.drop (j + 1), ?_, by rw [List.length_take]; omega, ?_, ?_⟩
  · rw [← he, ← List.drop_eq_getElem_cons hj, List.take_append_drop]
  all_goals
    have e1 : l = l.take j ++ e :: l.drop (j + 1) := by rw [← he, ← List.drop_eq_getElem_cons hj, List.take_append_drop]
    rw [e1, List.nodup_append] at hn
    obtain ⟨-, h2, h3⟩ := hn
    first
    | (intro hm; exact h3 e hm e (by simp) rfl)
    | exact (List.nodup_cons.1 h2).1
theorem modify_list {es : Array MapEntry} {j : Nat} {e : MapEntry} {g : MapEntry → MapEntry} {a c : List MapEntry} (h : es.toList = a ++ e :: c) (ha : a.length = j) : (es.modify j g).toList = a ++ g e :: c := by
  apply List.ext_getElem?
  intro i
  rw [Array.getElem?_toList, Array.getElem?_modify, ← Array.getElem?_toList, h]
  by_cases hi : j = i
  · subst hi
    rw [if_pos rfl, List.getElem?_append_right (by omega), List.getElem?_append_right (by omega), ha]
    simp
  · rw [if_neg hi]
    by_cases hlt : i < j
    · rw [List.getElem?_append_left (by omega), List.getElem?_append_left (by omega)]
    · rw [List.getElem?_append_right (by omega), List.getElem?_append_right (by omega), ha]
      obtain ⟨n, hn⟩ : ∃ n, i - j = n + 1 := ⟨i - j - 1, by omega⟩
      rw [hn]; rfl
theorem erase_list {es : Array MapEntry} {j : Nat} {e : MapEntry} {a c : List MapEntry} (h : es.toList = a ++ e :: c) (ha : a.length = j) : (es.eraseIdxIfInBounds j).toList = a ++ c := by
  have hj : j < es.size := by
    have := congrArg List.length h
    simp at this; omega
  unfold Array.eraseIdxIfInBounds
  rw [dif_pos hj, Array.toList_eraseIdx, h, List.eraseIdx_append_of_length_le (by omega), ha, Nat.sub_self]
  rfl
theorem KidsAt.put {w : World} {r : Nat} {f : Bytes → Option Nat} (h : KidsAt w r f) (k : Bytes) (b : Nat) {K : World → Prop}
    (hk : ∀ w', KidsAt w' r (fun y => if y = k then some b else f y) → Upd (fun q => q = r) w w' → K w') : mux .string (.map (some r)) (str k) (.pointer (some ⟨b, 0, none⟩)) w K := by
  obtain ⟨es, clock, hb, h1, h2, h3⟩ := h
  simp only [mux, hb]
  rcases KidsAt.find (clock := clock) h2 h3 k with ⟨h4, h5, h6⟩ | ⟨j, b0, e, h4, h5, h6, h7⟩
  · rw [h4]
    refine hk _ ⟨_, clock + 1, setB_new hb, MapKept.stamped_push h1 h6, ?_, ?_⟩ (setB_upd _ _ _)
    · intro e he
      rw [Array.toList_push, List.mem_append, List.mem_singleton] at he
      rcases he with he | rfl
      · obtain ⟨k', b', e1, e2, e3⟩ := h2 e he
        refine ⟨k', b', e1, e2, ?_⟩
        have : k' ≠ k := fun e => h6 _ he (by rw [e1, e])
        simp only [if_neg this]; exact e3
      · exact ⟨k, b, rfl, rfl, by simp⟩
    · intro k' b' hh
      rw [Array.toList_push]
      by_cases hkk : k' = k
      · subst hkk; exact ⟨_, List.mem_append.2 (.inr (List.mem_singleton.2 rfl)), rfl⟩
      · simp only [if_neg hkk] at hh
        obtain ⟨e, he, h8⟩ := h3 k' b' hh
        exact ⟨e, List.mem_append.2 (.inl he), h8⟩
  · rw [h4]
    have hj : es[j]? = some e := by rw [← Array.getElem?_toList]; exact h6
    refine ⟨by rw [hj, ← h7]; rfl, same_str k, ?_⟩
    have hlt : j < es.size := by rw [Array.getElem?_eq_some_iff] at hj; exact hj.1
    have hmem : ∀ x, x ∈ (es.modify j fun e => { e with key := str k, val := .pointer (some ⟨b, 0, none⟩) }).toList ↔ x = { e with key := str k, val := .pointer (some ⟨b, 0, none⟩) } ∨ (x ∈ es.toList ∧ x ≠ e) := by
      obtain ⟨a, c, hl, ha, n1, n2⟩ := cut_at (nodup_of_map h1.2.2) h6
      intro x
      rw [modify_list hl ha, hl]
      simp only [List.mem_append, List.mem_cons]
      constructor
      · rintro (h | h | h)
        · exact .inr ⟨.inl h, fun ee => n1 (ee ▸ h)⟩
        · exact .inl h
        · exact .inr ⟨.inr (.inr h), fun ee => n2 (ee ▸ h)⟩
      · rintro (h | ⟨h | h | h, hne⟩)
        · exact .inr (.inl h)
        · exact .inl h
        · exact absurd h hne
        · exact .inr (.inr h)
    refine hk _ ⟨_, clock, setB_new hb, MapKept.stamped_modify h1 j _ (fun _ _ => rfl) (fun e' he' hj' => ?_), ?_, ?_⟩ (setB_upd _ _ _)
    · rw [hj] at hj'; injection hj' with hj'; subst hj'; exact h7.symm
    · intro x hx
      rcases (hmem x).1 hx with rfl | ⟨hx, hne⟩
      · exact ⟨k, b, rfl, rfl, by simp⟩
      · obtain ⟨k', b', e1, e2, e3⟩ := h2 x hx
        refine ⟨k', b', e1, e2, ?_⟩
        have : k' ≠ k := fun ee => hne (map_inj' (g := MapEntry.key) h1.2.2 hx (List.mem_of_getElem? h6) (by rw [e1, h7, ee]))
        simp only [if_neg this]; exact e3
    · intro k' b' hh
      by_cases hkk : k' = k
      · subst hkk; exact ⟨_, (hmem _).2 (.inl rfl), rfl⟩
      · simp only [if_neg hkk] at hh
        obtain ⟨e', he', h8⟩ := h3 k' b' hh
        refine ⟨e', (hmem _).2 (.inr ⟨he', fun ee => hkk ?_⟩), h8⟩
        rw [ee, h7] at h8; exact (str_inj h8).symm

theorem KidsAt.del {w : World} {r : Nat} {f : Bytes → Option Nat} (h : KidsAt w r f) (k : Bytes) {K : World → Prop}
    (hk : ∀ w', KidsAt w' r (fun y => if y = k then none else f y) → Upd (fun q => q = r) w w' → K w') : delx .string (.map (some r)) (str k) w K := by
  obtain ⟨es, clock, hb, h1, h2, h3⟩ := h
  simp only [delx, hb]
  rcases KidsAt.find (clock := clock) h2 h3 k with ⟨h4, h5, h6⟩ | ⟨j, b0, e, h4, h5, h6, h7⟩
  · rw [h4]
    refine hk _ ⟨es, clock, setB_new hb, h1, fun e he => ?_, fun k' b' hh => ?_⟩ (setB_upd _ _ _)
    · obtain ⟨k', b', e1, e2, e3⟩ := h2 e he
      refine ⟨k', b', e1, e2, ?_⟩
      have : k' ≠ k := fun ee => h6 _ he (by rw [e1, ee])
      simp only [if_neg this]; exact e3
    · by_cases hkk : k' = k
      · simp [hkk] at hh
      · simp only [if_neg hkk] at hh; exact h3 k' b' hh
  · rw [h4]
    have hj : es[j]? = some e := by rw [← Array.getElem?_toList]; exact h6
    have hmem : ∀ x, x ∈ (es.eraseIdxIfInBounds j).toList ↔ x ∈ es.toList ∧ x ≠ e := by
      obtain ⟨a, c, hl, ha, n1, n2⟩ := cut_at (nodup_of_map h1.2.2) h6
      intro x
      rw [erase_list hl ha, hl]
      simp only [List.mem_append, List.mem_cons]
      constructor
      · rintro (h | h)
        · exact ⟨.inl h, fun ee => n1 (ee ▸ h)⟩
        · exact ⟨.inr (.inr h), fun ee => n2 (ee ▸ h)⟩
      · rintro ⟨h | h | h, hne⟩
        · exact .inl h
        · exact absurd h hne
        · exact .inr h
    refine hk _ ⟨_, clock, setB_new hb, MapKept.stamped_erase h1 j, fun x hx => ?_, fun k' b' hh => ?_⟩ (setB_upd _ _ _)
    · obtain ⟨hx, hne⟩ := (hmem x).1 hx
      obtain ⟨k', b', e1, e2, e3⟩ := h2 x hx
      refine ⟨k', b', e1, e2, ?_⟩
      have : k' ≠ k := fun ee => hne (map_inj' (g := MapEntry.key) h1.2.2 hx (List.mem_of_getElem? h6) (by rw [e1, h7, ee]))
      simp only [if_neg this]; exact e3
    · by_cases hkk : k' = k
      · simp [hkk] at hh
      · simp only [if_neg hkk] at hh
        obtain ⟨e', he', h8⟩ := h3 k' b' hh
        refine ⟨e', (hmem _).2 ⟨he', fun ee => hkk ?_⟩, h8⟩
        rw [ee, h7] at h8; exact (str_inj h8).symm

def meta0 : Meta := ⟨493, 0, 0, 0, 0⟩
/-- A new tree: its top alone. -/
def newS (nb mb : Nat) : St := ⟨fun p => if p = [] then some nb else none, fun _ => ⟨2, 1, 1, meta0, [], []⟩, fun _ => .slice none 0 0, fun _ => mb, 2⟩
theorem New_spec (w : World) : CallsV Tryz.prog f_tree_New #[] w fun v w' => (∃ t nb mb F, v = .pointer (some ⟨t, 0, none⟩) ∧ Rep w' t (newS nb mb) F ∧ (∀ b, F b → w.heap.size ≤ b)) ∧ Ext w w' := by
  refine ok_tree_New _ _ ?_
  unfold go_tree_New
  have e1 : ∀ K : Value → Prop, K (.agg [.pointer none, .int .i64 2].toArray) → bld [(.pointer none), (.int .i64 0)] [(1, 1, (.int .i64 2))] K := fun K h => h
  refine e1 _ (boxx_ok ?_)
  have e2 : ∀ K : Value → Prop, K (.agg (metaE meta0).toArray) → bld [(.int .i64 0), (.int .i64 0), (.int .i64 0), (.int .i64 0), (.int .i64 0)] [(0, 1, (.int .i64 493))] K := fun K h => h
  refine e2 _ ?_
  have e3 : ∀ K : Value → Prop, K (.agg (statE ⟨2, 1, 0, 1, meta0, []⟩).toArray) → bld [(.int .i64 0), (.int .i64 0), (.int .i64 0), (.int .i64 0), (.int .i64 0), (.int .i64 0), (.int .i64 0), (.int .i64 0), (.int .i64 0), (str [])] [(0, 1, (.int .i64 2)), (1, 1, (.int .i64 1)), (3, 1, (.int .i64 1)), (4, 5, .agg (metaE meta0).toArray)] K := fun K h => h
  refine e3 _ ?_
  simp only [mkmap]
  have e4 : ∀ (m : Nat) (K : Value → Prop), K (.agg (nodeE ⟨2, 1, 1, meta0, [], []⟩ (.slice none 0 0) (.map (some m))).toArray) → bld [(.int .i64 0), (.int .i64 0), (.int .i64 0), (.int .i64 0), (.int .i64 0), (.int .i64 0), (.int .i64 0), (.int .i64 0), (.int .i64 0), (str []), (.slice none 0 0), (.map none)] [(0, 10, .agg (statE ⟨2, 1, 0, 1, meta0, []⟩).toArray), (11, 1, .map (some m))] K := fun m K h => h
  refine e4 _ _ (boxx_ok ?_)
  obtain ⟨w1, ew1⟩ : ∃ w1, w1 = w.alloc (.cells [.pointer none, .int .i64 2].toArray t_tree_Tree) := ⟨_, rfl⟩
  rw [← ew1]
  obtain ⟨w2, ew2⟩ : ∃ w2, w2 = w1.alloc (.map #[] 0) := ⟨_, rfl⟩
  rw [← ew2]
  obtain ⟨n, en⟩ : ∃ n, n = nodeE ⟨2, 1, 1, meta0, [], []⟩ (.slice none 0 0) (.map (some w1.heap.size)) := ⟨_, rfl⟩
  rw [← en]
  obtain ⟨w3, ew3⟩ : ∃ w3, w3 = w2.alloc (.cells n.toArray t_tree_node) := ⟨_, rfl⟩
  rw [← ew3]
  have x1 : Ext w w1 := by rw [ew1]; exact alloc_ext _ _
  have x2 : Ext w1 w2 := by rw [ew2]; exact alloc_ext _ _
  have x3 : Ext w2 w3 := by rw [ew3]; exact alloc_ext _ _
  have z1 : w1.heap.size = w.heap.size + 1 := by rw [ew1, alloc_size]
  have z2 : w2.heap.size = w1.heap.size + 1 := by rw [ew2, alloc_size]
  have b1 : w3.heap[w.heap.size]? = some (.cells [.pointer none, .int .i64 2].toArray t_tree_Tree (0, 0)) := x3.get (x2.get (by rw [ew1]; exact alloc_new _ _))
  have b2 : w3.heap[w1.heap.size]? = some (.map #[] 0) := x3.get (by rw [ew2]; exact alloc_new _ _)
  have b3 : w3.heap[w2.heap.size]? = some (.cells n.toArray t_tree_node (0, 0)) := by rw [ew3]; exact alloc_new _ _
  simp only [vxs, Nat.zero_add]
  refine st1_in b1 rfl (by show 0 < 2; omega) ?_
  refine ⟨⟨w.heap.size, w2.heap.size, w1.heap.size, fun b => b = w.heap.size ∨ b = w2.heap.size ∨ b = w1.heap.size, rfl, ?_, fun b h => by omega⟩, Upd.trans (Ext.trans (Ext.trans x1 x2) x3) (setB_upd _ _ _) fun k hk e => by omega⟩
  have hat : ∀ p b, (newS w2.heap.size w1.heap.size).at_ p = some b → p = [] ∧ b = w2.heap.size := fun p b h => by
    simp only [newS] at h
    split at h
    · rename_i hp; injection h with h; exact ⟨hp, h.symm⟩
    · cases h
  have hno : ∀ (p : List Bytes) x, (newS w2.heap.size w1.heap.size).at_ (p ++ [x]) = none := fun p x => by
    simp only [newS]; rw [if_neg (by simp)]
  refine ⟨?_, .inl rfl, ⟨_, rfl, rfl⟩, fun p x b h => ?_, fun p b h => ?_, fun p b h => ?_, fun p b h hk => ?_, fun p q b h h' _ => ?_, fun p q b d h h' _ _ _ => ?_, fun b h => ?_⟩
  · rw [setB_new b1]; rfl
  · rw [hno] at h; cases h
  · obtain ⟨rfl, rfl⟩ := hat p b h
    refine ⟨?_, .inr (.inl rfl)⟩
    rw [setB_old (by omega), b3, en]; rfl
  · exact ⟨.inl ⟨rfl, rfl⟩, fun a l c h => by cases h⟩
  · refine ⟨⟨#[], 0, ?_, MapKept.stamped_empty 0, by simp, fun k b h => by have := hno p k; simp only at h; rw [this] at h; cases h⟩, .inr (.inr rfl)⟩
    show (setB w3 _ _).heap[w1.heap.size]? = _
    rw [setB_old (by omega), b2]
  · rw [(hat p b h).1, (hat q b h').1]
  · rw [(hat p b h).2, (hat q d h').2]
  · have h' : b = w.heap.size ∨ b = w2.heap.size ∨ b = w1.heap.size := h
    have := lt_of_blk b3
    rw [setB_size]; omega

theorem BClone_spec {w : World} {u : Value} {xs : Bytes} (hu : Sl 1 u8E w u xs) (hx : xs.length ≤ 4294967296) :
    CallsV Tryz.prog f_bytes_Clone #[u] w fun r w' => Own t_uint8 1 u8E w.heap.size w' r xs ∧ Ext w w' := by
  obtain ⟨a, c, rfl, hc, hr⟩ := hu
  have em : ∀ l : Bytes, l.flatMap u8E = l.map fun x => Value.int .u8 x.toNat := fun l => by
    induction l with
    | nil => rfl
    | cons x l ih => rw [List.flatMap_cons, ih]; rfl
  cases a with
  | none =>
    have : xs = [] := by
      by_cases h0 : xs = []
      · exact h0
      · obtain ⟨b, o, e, _⟩ := hr h0; cases e
    subst this
    exact (of_calls (Tryz.bytes_Clone_nil 0 c w)).mono fun r w' h => ⟨.inl ⟨h.1, rfl⟩, by rw [h.2]; exact .refl _ _⟩
  | some a =>
    refine Calls.mono (Tryz.bytes_Clone_at a xs.length c (xs.map fun x => (x.toNat : Int)) w (by simp) (by omega) (fun i hi => ?_)) ?_
    · obtain ⟨b, o, e, hrow⟩ := hr (by intro e; rw [e] at hi; simp at hi)
      cases e
      rw [addr_add]
      refine hrow.cell ?_
      rw [em, List.getElem?_map, List.getElem?_eq_getElem hi, List.getD_eq_getElem?_getD, List.getElem?_map, List.getElem?_eq_getElem hi]; rfl
    · rintro e w' ⟨v', rfl, ⟨hl, h1⟩, -, h2⟩
      refine ⟨v', rfl, ?_, .of_below h2⟩
      rcases h1 with ⟨rfl, h0⟩ | ⟨g, cap, cur, rfl, hb, hh, hn, -, hs, ht⟩
      · exact .inl ⟨rfl, List.length_eq_zero_iff.1 h0⟩
      · refine .inr ⟨g, cap, cur, hb, rfl, hh, by simpa using Nat.le_of_eq hs.symm, hn, ?_⟩
        rw [ht, em, List.map_map]; rfl

def mayE (p : Bytes) (m : Meta) : Int := if rightB p = false then 9 else if ckM m ≠ 0 then 2 else 0
theorem may_spec (t : Nat) (p : Bytes) (hp : p.length ≤ 4294967290) (m : Meta) (w : World) :
    CallsV Tryz.prog f_tree_Tree_may #[.pointer (some ⟨t, 0, none⟩), str p, .agg (metaE m).toArray] w fun v w' => v = .int .i64 (mayE p m) ∧ Ext w w' := by
  refine ok_tree_Tree_may _ _ _ _ _ ?_
  unfold go_tree_Tree_may
  refine boxx_ok ?_
  obtain ⟨w1, ew1⟩ : ∃ w1, w1 = w.alloc (.cells (metaE m).toArray t_api_Meta) := ⟨_, rfl⟩
  have hx1 : Ext w w1 := by rw [ew1]; exact alloc_ext _ _
  have hb : w1.heap[w.heap.size]? = some (.cells (metaE m).toArray t_api_Meta (0, 0)) := by rw [ew1]; exact alloc_new _ _
  rw [← ew1]
  simp only [vxs]
  refine call_ok has_path_Right (Right_spec p hp w1) ?_
  rintro _ w2 ⟨rfl, hx2⟩
  have hx := Ext.trans hx1 hx2
  cases hr : rightB p with
  | false => simp only [vxs]; exact ⟨by simp [mayE, hr], hx⟩
  | true =>
    simp only [vxs]
    refine lds_all (hx2.get hb) rfl ?_
    refine call_ok has_meta_Check (metaCheck_spec m w2) ?_
    rintro _ w3 ⟨rfl, hx3⟩
    simp only [vxs]
    refine cnd_split (fun hc => ?_) (fun hc => ?_)
    · have hc : ckM m ≠ 0 := by simpa using hc
      exact ⟨by simp [mayE, hr, hc], Ext.trans hx hx3⟩
    · have hc : ckM m = 0 := by simpa using hc
      exact ⟨by simp [mayE, hr, hc], Ext.trans hx hx3⟩
end Go.Proofs.YtkpefimnggojdaaGreat.VX
