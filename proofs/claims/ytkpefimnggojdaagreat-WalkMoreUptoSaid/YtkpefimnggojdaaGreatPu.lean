/-
  Contracts: the names in a directory, rising.
-/
import Derived.Test.YtkpefimnggojdaaGreatPt
import Derived.Laws.IdiomRangeMap
set_option linter.all false
namespace Go.Proofs.YtkpefimnggojdaaGreat.VX
open Go Pl
set_option maxRecDepth 4000
variable {P : Program}

/-- One step of a range over a map that nobody turns meanwhile. -/
theorem next_map {w : World} {B m since c0 : Nat} {seen : Array Nat} {es : Array MapEntry} {clock : Nat} {ty : TypeId} (hB : w.heap[B]? = some (.mapIter (some m) since seen c0)) (hm : w.heap[m]? = some (.map es clock)) (hold : ∀ x ∈ es.toList, x.born < since) (hsc : since ≤ c0)
    {K : Value → World → Prop} (h0 : (leftOf es seen).size = 0 → K (.tuple #[.bool false]) w)
    (h1 : ∀ e ∈ (leftOf es seen).toList, ∀ w', w'.heap[B]? = some (.mapIter (some m) since (seen.push e.born) clock) → Upd (fun k => k = B) w w' → K (.tuple #[.bool true, e.key, e.val]) w') :
    rn P (Instr.next (.pointer (some ⟨B, 0, none⟩)) false ty) w K := by
  unfold leftOf at h0 h1
  have hmem : ∀ x ∈ (Array.filter (fun e => !seen.contains e.born) es).toList, x.born < since := fun x hx => hold x (by simp at hx ⊢; exact hx.1)
  have key : (((Array.filter (fun e => !seen.contains e.born) es).size = 0 ∧ (Instr.next (.pointer (some ⟨B, 0, none⟩)) false ty).run P w = .ok (.tuple #[.bool false]) w)) ∨
      ∃ e ∈ (Array.filter (fun e => !seen.contains e.born) es).toList, ∃ w1 : World, Ext w w1 ∧ (Instr.next (.pointer (some ⟨B, 0, none⟩)) false ty).run P w = .ok (.tuple #[.bool true, e.key, e.val]) (setB w1 B (.mapIter (some m) since (seen.push e.born) clock)) := by
    simp only [Instr.next, getObj, Sem.run_bind, Sem.run, hB, hm, Result.andThen, next_test_false seen es since c0 hold hsc, Bool.false_eq_true, if_false]
    clear h0 h1
    generalize Array.filter (fun e => !seen.contains e.born) es = L at hmem ⊢
    have e1 : L.filter (fun x => decide (x.born < since)) = L := Array.filter_eq_self.2 (fun x hx => by simpa using hmem x (by simpa using hx))
    have e2 : L.filter (fun x => decide (x.born ≥ since)) = #[] := by
      rw [Array.filter_eq_empty_iff]
      intro x hx
      have := hmem x (by simpa using hx)
      simp
      omega
    simp only [e1, e2, Array.append_empty]
    by_cases hz : L.size = 0
    · left
      have : L = #[] := Array.eq_empty_of_size_eq_zero hz
      subst this
      refine ⟨rfl, ?_⟩
      simp [choose, Sem.run, Question.forced]
    · right
      have hne : L.isEmpty = false := by simp [Array.isEmpty, hz]
      simp only [hne, Bool.false_eq_true, if_false, Array.empty_append, Array.size_map]
      have hch : ∃ (j : Nat) (w1 : World), j < L.size ∧ (w1 = w ∨ w1 = w.drew) ∧ (choose (Question.mapNext L.size)).run P w = .ok j w1 := by
        by_cases hf : L.size ≤ 1
        · exact ⟨0, w, by omega, .inl rfl, by simp [choose, Sem.run, Question.forced, hf]⟩
        · exact ⟨_, w.drew, Nat.mod_lt _ (by omega), .inr rfl, by
            simp only [choose, Sem.run, Question.forced, decide_eq_true_eq, hf, if_false, Question.cut]
            rfl⟩
      obtain ⟨j, w1, hj, hal, hrun⟩ := hch
      have hx : Ext w w1 := by
        rcases hal with rfl | rfl
        · exact .refl _ _
        · exact drew_upd _ w _
      refine ⟨L[j], by simp, w1, hx, ?_⟩
      have hset : ∀ (o' : Obj), (setObj B o').run P w1 = .ok () (setB w1 B o') := fun o' => by
        simp only [setObj, Sem.run, hx.get hB]
        rfl
      simp only [hrun, Array.getElem?_map, Array.getElem?_eq_getElem hj, Option.map_some, Sem.run_bind, hset, Result.andThen]
      rfl
  rcases key with ⟨hz, hrun⟩ | ⟨e, he, w1, hx, hrun⟩
  · exact rn_ok hrun (h0 hz)
  · refine rn_ok hrun (h1 e he _ (setB_new (hx.get hB)) (Upd.trans hx.to (setB_upd _ _ _) fun _ _ h => h))
theorem entry_map {w : World} {B m since : Nat} {seen : Array Nat} {es : Array MapEntry} {clock : Nat} {e : MapEntry} (hB : w.heap[B]? = some (.mapIter (some m) since (seen.push e.born) clock)) (hm : w.heap[m]? = some (.map es clock)) (he : e ∈ es.toList) (hn : (es.toList.map (·.born)).Nodup)
    {K : Value → Prop} (hK : K (.tuple #[e.key, e.val])) : enx (.pointer (some ⟨B, 0, none⟩)) w K := by
  have hf : es.find? (·.born == e.born) = some e := by rw [← Array.find?_toList]; exact find_born e es.toList hn he
  simp only [enx, hB, Array.back?_push, hm]
  refine ⟨trivial, ?_⟩
  rw [hf]; exact hK

theorem map_inj' {α β : Type} {g : α → β} : ∀ {l : List α}, (l.map g).Nodup → ∀ {x y : α}, x ∈ l → y ∈ l → g x = g y → x = y
  | [], _, x, y, hx, _, _ => by cases hx
  | a :: l, hn, x, y, hx, hy, h => by
    have hn' := List.nodup_cons.1 hn
    rcases List.mem_cons.1 hx with e1 | hx1
    · rcases List.mem_cons.1 hy with e2 | hy1
      · rw [e1, e2]
      · exact absurd (List.mem_map.2 ⟨y, hy1, by rw [← h, e1]⟩) hn'.1
    · rcases List.mem_cons.1 hy with e2 | hy1
      · exact absurd (List.mem_map.2 ⟨x, hx1, by rw [h, e2]⟩) hn'.1
      · exact map_inj' hn'.2 hx1 hy1 h
theorem len_le_of_nodup {α : Type} [DecidableEq α] : ∀ (l l' : List α), l.Nodup → (∀ x ∈ l, x ∈ l') → l.length ≤ l'.length
  | [], _, _, _ => Nat.zero_le _
  | a :: l, l', h, hs => by
    have hn := List.nodup_cons.1 h
    have ha := hs a (by simp)
    have := len_le_of_nodup l (l'.erase a) hn.2 fun x hx => by
      have hxa : x ≠ a := fun e => hn.1 (e ▸ hx)
      exact (List.mem_erase_of_ne hxa).2 (hs x (by simp [hx]))
    rw [List.length_erase_of_mem ha] at this
    have := List.length_pos_of_mem ha
    simp; omega
theorem sorted_le (l : List Bytes) : (sorted l).Pairwise (fun a b => a ≤ b) := by
  have := List.pairwise_mergeSort (le := fun x y : Bytes => decide (x ≤ y)) (fun a b c h1 h2 => by
    simp only [decide_eq_true_eq] at h1 h2 ⊢; exact List.le_trans h1 h2) (fun a b => by
    simp only [Bool.or_eq_true, decide_eq_true_eq]; exact List.le_total a b) l
  exact this.imp fun h => by simpa using h

/-- The names of a map of names, rising. -/
def Names (f : Bytes → Option Nat) (ks : List Bytes) : Prop := ks.Nodup ∧ (∀ k, k ∈ ks ↔ ∃ b, f k = some b) ∧ ks.Pairwise (fun a b => a ≤ b)

theorem iter_meas {w : World} {B : Nat} {a : Option Nat} {b c : Nat} {s : Array Nat} (h : w.heap[B]? = some (.mapIter a b s c)) : w.iterSeen B = s := by
  unfold World.iterSeen; rw [h]

theorem names_spec {w : World} {t : Nat} {S : St} {F : Nat → Prop} (h : Rep w t S F) {p : List Bytes} {b : Nat} (hb : S.at_ p = some b) (hk : (S.nd b).kind = 2) (hc : ∀ n, Card (fun x => S.at_ (p ++ [x])) n → n ≤ 1048576) :
    CallsV Tryz.prog f_tree_node_names #[.pointer (some ⟨b, 0, none⟩)] w fun v w' => (∃ ks, Own t_string 1 strE w.heap.size w' v ks ∧ Names (fun x => S.at_ (p ++ [x])) ks) ∧ Ext w w' := by
  refine ok_tree_node_names _ _ _ ?_
  unfold go_tree_node_names
  have hnb := (h.node _ _ hb).1
  have hkid := (h.kids _ _ hb hk).1
  generalize hf : (fun x => S.at_ (p ++ [x])) = f at *
  obtain ⟨es, clock, hm, st1, st2, st3⟩ := hkid
  obtain ⟨cd1, cd2⟩ := KidsAt.card st1 st2 st3
  have hsz : es.size ≤ 1048576 := hc _ ⟨_, cd1, cd2, by simp⟩
  have hkey : ∀ e ∈ es.toList, e.key = str (keyB e) := fun e he => by
    obtain ⟨k, b, e1, _⟩ := st2 e he
    rw [e1]; congr 1; unfold keyB; rw [e1]
  simp only [vxs, hnb, nodeE, Nat.zero_add]
  rw [kv_dir hk]
  simp only [lenM, hm]
  refine ⟨⟨by omega, by omega, by omega, by omega⟩, ?_⟩
  obtain ⟨w1, ew1⟩ : ∃ w1, w1 = w.alloc (.cells (List.replicate (es.size : Int).toNat [str []]).flatten.toArray t_string) := ⟨_, rfl⟩
  rw [← ew1]
  have hx1 : Ext w w1 := by rw [ew1]; exact alloc_ext _ _
  have ho : Own t_string 1 strE w.heap.size w1 (.slice (some ⟨w.heap.size, 0, none⟩) 0 es.size) ([] : List Bytes) :=
    .inr ⟨_, es.size, _, Nat.le_refl _, rfl, by rw [ew1]; exact alloc_new _ _, by simp, Nat.zero_le _, rfl⟩
  have hm1 : w1.heap[S.kid b]? = some (.map es clock) := hx1.get hm
  have hnb1 := hx1.get hnb
  simp only [vxs, hnb1, nodeE, Nat.zero_add]
  rw [kv_dir hk]
  simp only [rgM, hm1, Int.toNat_natCast]
  obtain ⟨B, eB⟩ : ∃ B, B = w1.heap.size := ⟨_, rfl⟩
  rw [← eB]
  have hBw : w.heap.size ≤ B := by rw [eB]; exact hx1.size
  refine ⟨fun g w' => ∃ (seen : Array Nat) (out : List Bytes), w'.heap[B]? = some (.mapIter (some (S.kid b)) clock seen clock) ∧ Own t_string 1 strE w.heap.size w' (nth g 1) out ∧ out.Nodup ∧ (∀ k, k ∈ out ↔ ∃ e ∈ es.toList, seen.contains e.born = true ∧ keyB e = k) ∧ out.length ≤ es.size ∧ Ext w w',
    fun _ w' => (leftOf es (w'.iterSeen B)).size, ⟨#[], [], by rw [eB]; exact alloc_new _ _, ho.ext (alloc_ext _ _), List.nodup_nil, by simp, Nat.zero_le _, Ext.trans hx1 (alloc_ext _ _)⟩, ?_⟩
  rintro g z w2 ⟨seen, out, hB, ho, hnd, hmem, hol, hx⟩
  have hm2 := hx.get hm
  refine next_map hB hm2 (fun x hx => st1.1 x hx) (Nat.le_refl _) (fun hz => ?_) (fun e he w3 hB3 hu3 => ?_)
  · simp only [vxs]
    refine call_ok has_sort_Strings (SortStrings_spec ho (by omega)) ?_
    rintro _ w4 ⟨-, ho4, hu4⟩
    have hall := all_seen es seen hz
    refine ⟨⟨sorted out, ho4, ?_, fun k => ?_, ?_⟩, Upd.trans hx hu4 fun k hk e => by omega⟩
    · exact (List.mergeSort_perm out _).nodup_iff.2 hnd
    · rw [show k ∈ sorted out ↔ k ∈ out from (List.mergeSort_perm out _).mem_iff, hmem, ← cd2]
      constructor
      · rintro ⟨e, he, -, rfl⟩; exact List.mem_map.2 ⟨e, he, rfl⟩
      · intro hh
        obtain ⟨e, he, rfl⟩ := List.mem_map.1 hh
        exact ⟨e, he, hall e he, rfl⟩
    · exact sorted_le out
  · obtain ⟨hee, hens⟩ := mem_left he
    simp only [vxs]
    have hm3 : w3.heap[S.kid b]? = some (.map es clock) := hu3.get hm2 (by intro e; rw [e] at hm2; rw [hm2] at hB; cases hB)
    refine entry_map hB3 hm3 hee st1.2.1 ?_
    simp only [vxs]
    rw [hkey e hee]
    have hne : ∀ {wq : World} {bq : Nat} {c : Array Value} {ty}, wq.heap[bq]? = some (.cells c ty (0, 0)) → wq.heap[B]? = some (.mapIter (some (S.kid b)) clock (seen.push e.born) clock) → bq ≠ B := fun h1 h2 e => by rw [e, h2] at h1; cases h1
    have ho3 : Own t_string 1 strE w.heap.size w3 (nth g 1) out := by
      rcases ho with ho | ⟨ob, cap, c, h1, h2, h3, h4⟩
      · exact .inl ho
      · have hob : ob ≠ B := by intro e; rw [e, hB] at h3; cases h3
        exact .inr ⟨ob, cap, c, h1, h2, hu3.get h3 hob, h4⟩
    have hx3 : Ext w w3 := Upd.trans hx hu3 fun k hk e => by omega
    refine app_str ho3 hx3.size (by omega) fun v' w' ho' hu' => ?_
    have hB' : w'.heap[B]? = some (.mapIter (some (S.kid b)) clock (seen.push e.born) clock) := hu'.get hB3 (by
      rintro ⟨-, c, l, hv⟩
      rcases ho3 with ⟨h1, -⟩ | ⟨ob, cap, c, h1, h2, h3, h4⟩
      · rw [h1] at hv; cases hv
      · rw [h2] at hv; injection hv with hv; injection hv with hv; injection hv with hv; exact hne h3 hB3 hv)
    have hnew : keyB e ∉ out := by
      intro hh
      obtain ⟨e', he', hs', hk'⟩ := (hmem _).1 hh
      have e1 : e'.key = e.key := by rw [hkey e' he', hkey e hee, hk']
      have : e' = e := map_inj' (g := MapEntry.key) st1.2.2 he' hee e1
      rw [this] at hs'
      rw [hs'] at hens; cases hens
    have hnd' : (out ++ [keyB e]).Nodup := by rw [List.nodup_append]; exact ⟨hnd, by simp, by intro a ha b hb; simp at hb; subst hb; intro e; subst e; exact hnew ha⟩
    refine ⟨⟨seen.push e.born, out ++ [keyB e], hB', ho', hnd', fun k => ?_, ?_, Upd.trans hx3 hu' fun k hk e => by omega⟩, ?_⟩
    · rw [List.mem_append, hmem, List.mem_singleton]
      constructor
      · rintro (⟨e', h1, h2, h3⟩ | rfl)
        · exact ⟨e', h1, by rw [contains_push, h2]; rfl, h3⟩
        · exact ⟨e, hee, by rw [contains_push]; simp, rfl⟩
      · rintro ⟨e', h1, h2, h3⟩
        rw [contains_push] at h2
        simp only [Bool.or_eq_true, beq_iff_eq] at h2
        rcases h2 with h2 | h2
        · exact .inl ⟨e', h1, h2, h3⟩
        · have := born_inj st1.2.1 h1 hee h2
          subst this; exact .inr h3.symm
    · have := len_le_of_nodup _ (es.toList.map keyB) hnd' fun x hx => by
        rcases List.mem_append.1 hx with hx | hx
        · obtain ⟨e', h1, -, h3⟩ := (hmem x).1 hx
          exact List.mem_map.2 ⟨e', h1, h3⟩
        · rw [List.mem_singleton.1 hx]; exact List.mem_map.2 ⟨e, hee, rfl⟩
      simpa using this
    · rw [iter_meas hB, iter_meas hB']
      exact left_shrinks es seen e he

/-- What List answers: the error, or the names. -/
def listE (S : St) (p : Bytes) : Int := if (thereA S p).2.2 ≠ 0 then (thereA S p).2.2 else match (thereA S p).1 with | some b => if (S.nd b).kind ≠ 2 then 12 else 0 | none => 0
theorem List_spec {w : World} {t : Nat} {S : St} {F : Nat → Prop} (h : Rep w t S F) (p : Bytes) (hp : p.length ≤ 4294967290) (hc : ∀ n, Card (fun x => S.at_ (split p ++ [x])) n → n ≤ 1048576) :
    CallsV Tryz.prog f_tree_Tree_List #[.pointer (some ⟨t, 0, none⟩), str p] w fun v w' => (∃ u ks, v = .tuple #[u, .int .i64 (listE S p)] ∧ Own t_string 1 strE w.heap.size w' u ks ∧ (if listE S p = 0 then Names (fun x => S.at_ (split p ++ [x])) ks else ks = [])) ∧ Ext w w' := by
  refine ok_tree_Tree_List _ _ _ _ ?_
  unfold go_tree_Tree_List
  refine call_ok has_tree_Tree_there (there_spec h p hp) ?_
  rintro _ w1 ⟨rfl, hx1⟩
  have hR := h.ext hx1
  have hth := thereA_some (S := S) (p := p)
  have hle : listE S p = if (thereA S p).2.2 ≠ 0 then (thereA S p).2.2 else match (thereA S p).1 with | some b => if (S.nd b).kind ≠ 2 then 12 else 0 | none => 0 := rfl
  generalize thereA S p = r at *
  obtain ⟨a, d, e⟩ := r
  simp only [tri, vxs]
  simp only at hth hle
  refine ⟨fun g w' => nth g 0 = .int .i64 (listE S p) ∧ Ext w w' ∧ (listE S p = 0 → ∃ b, a = some b ∧ S.at_ (split p) = some b ∧ (S.nd b).kind = 2), ?_, ?_⟩
  · rintro g z w2 ⟨hg, hx, hb⟩
    simp only [hg, vxs]
    refine cnd_split (fun hc => ?_) (fun hcc => ?_)
    · have he : listE S p ≠ 0 := by simpa using hc
      exact ⟨⟨_, [], rfl, .inl ⟨rfl, rfl⟩, by rw [if_neg he]⟩, hx⟩
    · have he : listE S p = 0 := by simpa using hcc
      obtain ⟨b, rfl, hat, hk⟩ := hb he
      refine call_ok has_tree_node_names (names_spec (h.ext hx) hat hk hc) ?_
      rintro v3 w3 ⟨⟨ks, ho, hn⟩, hx3⟩
      refine ⟨⟨v3, ks, by rw [he], ho.mono (.refl (fun _ => False) _) (fun _ _ h => h) hx.size, by rw [if_pos he]; exact hn⟩, Ext.trans hx hx3⟩
  · refine gd_and (fun hc => ?_) (fun hc => ?_)
    · have he : e = 0 := by simpa using hc
      obtain ⟨b, hb, hat⟩ := hth he
      subst hb
      have hnb := (hR.node _ _ hat).1
      simp only [ptrO, vxs, hnb, nodeE, Nat.zero_add]
      rw [show (((S.nd b).kind : Int) != 2) = !((S.nd b).kind == 2) from congrArg (fun b => !b) (nat_eq _ 2)]
      rw [if_neg (by simp [he])] at hle
      simp only at hle
      refine cnd_split (fun hc => ?_) (fun hc => ?_)
      · have hk : (S.nd b).kind ≠ 2 := by simpa using hc
        rw [if_pos hk] at hle
        exact ⟨by rw [hle], hx1, fun h0 => by rw [hle] at h0; cases h0⟩
      · have hk : (S.nd b).kind = 2 := by simpa using hc
        rw [if_neg (by simp [hk])] at hle
        exact ⟨by rw [hle, he], hx1, fun _ => ⟨b, rfl, hat, hk⟩⟩
    · have he : e ≠ 0 := by simpa using hc
      simp only [vxs]
      rw [if_pos he] at hle
      exact ⟨by rw [hle], hx1, fun h0 => absurd (hle.symm.trans h0) he⟩
end Go.Proofs.YtkpefimnggojdaaGreat.VX
