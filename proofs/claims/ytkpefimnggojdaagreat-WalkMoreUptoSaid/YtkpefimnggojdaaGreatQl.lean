/-
  Contracts: what there is in all (walk.Total).
-/
import Derived.Test.YtkpefimnggojdaaGreatQk
set_option linter.all false
namespace Go.Proofs.YtkpefimnggojdaaGreat.VX
open Go Pl
set_option maxRecDepth 4000

/-- A set of numbers as a map to true. -/
def SeenAt (w : World) (r : Nat) (s : List Int) : Prop := ∃ es clock, w.heap[r]? = some (.map es clock) ∧ (∀ e ∈ es.toList, ∃ i, e.key = .int .i64 i ∧ e.val = .bool true ∧ i ∈ s) ∧ (∀ i ∈ s, ∃ e ∈ es.toList, e.key = .int .i64 i)
theorem SeenAt.mono {w w' : World} {r : Nat} {s : List Int} {M : Nat → Prop} (h : SeenAt w r s) (hu : Upd M w w') (hm : ¬ M r) : SeenAt w' r s := by
  obtain ⟨es, ck, h1, h2⟩ := h; exact ⟨es, ck, hu.get h1 hm, h2⟩
theorem SeenAt.find {es : Array MapEntry} {s : List Int} (h2 : ∀ e ∈ es.toList, ∃ i, e.key = .int .i64 i ∧ e.val = .bool true ∧ i ∈ s) (h3 : ∀ i ∈ s, ∃ e ∈ es.toList, e.key = .int .i64 i) (i : Int) :
    (Instr.findNow (.int .i64) (.int .i64 i) es.toList 0 = some none ∧ i ∉ s) ∨ ∃ j e, Instr.findNow (.int .i64) (.int .i64 i) es.toList 0 = some (some (j, .bool true)) ∧ i ∈ s ∧ es.toList[j]? = some e ∧ e.key = .int .i64 i := by
  have hks : ∀ x ∈ es.toList, MapKept.IsKey (.int .i64) x.key := fun x hx => by
    obtain ⟨_, h, _⟩ := h2 x hx; rw [h]; trivial
  rcases MapKept.findNow_spec (d := .int .i64) (k := .int .i64 i) rfl es.toList 0 hks with ⟨h4, h5⟩ | ⟨j, e, h4, h5, h6⟩
  · refine .inl ⟨h4, fun hm => ?_⟩
    obtain ⟨e, he, hk⟩ := h3 i hm
    exact h5 e he hk
  · obtain ⟨i', k1, k2, k3⟩ := h2 e (List.mem_of_getElem? h5)
    have : i' = i := int_inj (k1.symm.trans h6)
    subst this
    exact .inr ⟨j, e, by rw [h4, k2, Nat.zero_add], k3, h5, h6⟩
theorem SeenAt.lk {w : World} {r : Nat} {s : List Int} (h : SeenAt w r s) (i : Int) {K : Value → Prop} (hk : K (.bool (decide (i ∈ s)))) : VX.lk (.int .i64) (.bool false) (.map (some r)) (.int .i64 i) false w K := by
  obtain ⟨es, clock, hb, h2, h3⟩ := h
  simp only [VX.lk, hb]
  rcases SeenAt.find h2 h3 i with ⟨h4, h5⟩ | ⟨j, e, h4, h5, -, -⟩
  · rw [h4]; rw [decide_eq_false h5] at hk; exact hk
  · rw [h4]; rw [decide_eq_true h5] at hk; exact hk
theorem SeenAt.put {w : World} {r : Nat} {s : List Int} (h : SeenAt w r s) (i : Int) {K : World → Prop} (hk : ∀ w', SeenAt w' r (i :: s) → Upd (fun b => b = r) w w' → K w') : mux (.int .i64) (.map (some r)) (.int .i64 i) (.bool true) w K := by
  obtain ⟨es, clock, hb, h2, h3⟩ := h
  simp only [mux, hb]
  rcases SeenAt.find h2 h3 i with ⟨h4, h5⟩ | ⟨j, e, h4, h5, h6, h7⟩
  · rw [h4]
    refine hk _ ⟨_, clock + 1, setB_new hb, fun x hx => ?_, fun k hkm => ?_⟩ (setB_upd _ _ _)
    · rw [Array.toList_push] at hx
      rcases List.mem_append.1 hx with hx | hx
      · obtain ⟨k, q1, q2, q3⟩ := h2 x hx; exact ⟨k, q1, q2, List.mem_cons_of_mem _ q3⟩
      · rw [List.mem_singleton.1 hx]; exact ⟨i, rfl, rfl, List.mem_cons_self⟩
    · rw [Array.toList_push]
      rcases List.mem_cons.1 hkm with rfl | hkm
      · exact ⟨_, List.mem_append.2 (.inr (List.mem_singleton.2 rfl)), rfl⟩
      · obtain ⟨x, hx, q⟩ := h3 k hkm; exact ⟨x, List.mem_append.2 (.inl hx), q⟩
  · rw [h4]
    have hj : es[j]? = some e := by rw [← Array.getElem?_toList]; exact h6
    refine ⟨by rw [hj]; simp [h7], by simp [Instr.sameBits], hk _ ⟨_, clock, setB_new hb, fun x hx => ?_, fun k hkm => ?_⟩ (setB_upd _ _ _)⟩
    · obtain ⟨q, hq⟩ := List.getElem?_of_mem hx
      rw [Array.getElem?_toList, Array.getElem?_modify] at hq
      by_cases hjq : j = q
      · rw [if_pos hjq, ← hjq, hj] at hq
        simp only [Option.map_some, Option.some.injEq] at hq
        rw [← hq]; exact ⟨i, rfl, rfl, List.mem_cons_self⟩
      · rw [if_neg hjq] at hq
        obtain ⟨k, q1, q2, q3⟩ := h2 x (List.mem_of_getElem? (by rw [Array.getElem?_toList]; exact hq))
        exact ⟨k, q1, q2, List.mem_cons_of_mem _ q3⟩
    · have get : ∀ x ∈ es.toList, ∃ y ∈ (es.modify j fun e => { e with key := .int .i64 i, val := .bool true }).toList, y.key = x.key := fun x hx => by
        obtain ⟨q, hq⟩ := List.getElem?_of_mem hx
        rw [Array.getElem?_toList] at hq
        by_cases hjq : j = q
        · refine ⟨{ e with key := .int .i64 i, val := .bool true }, List.mem_of_getElem? (i := j) ?_, ?_⟩
          · rw [Array.getElem?_toList, Array.getElem?_modify, if_pos rfl, hj]; rfl
          · rw [← hjq, hj] at hq; injection hq with hq; rw [← hq]; exact h7.symm
        · refine ⟨x, List.mem_of_getElem? (i := q) ?_, rfl⟩
          rw [Array.getElem?_toList, Array.getElem?_modify, if_neg hjq, hq]
      rcases List.mem_cons.1 hkm with rfl | hkm
      · obtain ⟨y, hy, q⟩ := get e (List.mem_of_getElem? h6); exact ⟨y, hy, q.trans h7⟩
      · obtain ⟨x, hx, q⟩ := h3 k hkm
        obtain ⟨y, hy, q2⟩ := get x hx
        exact ⟨y, hy, q2.trans q⟩

/-- How many files, directories, links; how many bytes; which groups were met. -/
structure Tot where
  f : Int
  d : Int
  l : Int
  b : Int
  seen : List Int
def totX (t : Tot) (e : Ent) : Tot :=
  if e.kind = 2 then { t with d := t.d + 1 } else if e.kind = 3 then { t with l := t.l + 1 }
  else if e.kind = 1 then { t with f := t.f + 1, b := if e.group ≤ 0 ∨ e.group ∉ t.seen then t.b + e.size else t.b, seen := e.group :: t.seen } else t
def totT (l : List Ent) : Tot := l.foldl totX ⟨0, 0, 0, 0, []⟩
def totE (t : Tot) : List Value := [.int .i64 t.f, .int .i64 t.d, .int .i64 t.l, .int .i64 t.b]
theorem tot_bnd : ∀ (l : List Ent) (t : Tot) (n : Nat), (∀ e ∈ l, 0 ≤ e.size ∧ e.size ≤ 100000) → l.length ≤ n → 0 ≤ t.f ∧ 0 ≤ t.d ∧ 0 ≤ t.l ∧ 0 ≤ t.b → 0 ≤ (l.foldl totX t).f ∧ (l.foldl totX t).f ≤ t.f + n ∧ 0 ≤ (l.foldl totX t).d ∧ (l.foldl totX t).d ≤ t.d + n ∧ 0 ≤ (l.foldl totX t).l ∧ (l.foldl totX t).l ≤ t.l + n ∧ 0 ≤ (l.foldl totX t).b ∧ (l.foldl totX t).b ≤ t.b + 100000 * n
  | [], t, n, _, _, h => by simp only [List.foldl_nil]; omega
  | e :: l, t, n, he, hn, h => by
    rw [List.foldl_cons]
    simp only [List.length_cons] at hn
    have h1 := he e (by simp)
    have hx : 0 ≤ (totX t e).f ∧ (totX t e).f ≤ t.f + 1 ∧ 0 ≤ (totX t e).d ∧ (totX t e).d ≤ t.d + 1 ∧ 0 ≤ (totX t e).l ∧ (totX t e).l ≤ t.l + 1 ∧ 0 ≤ (totX t e).b ∧ (totX t e).b ≤ t.b + 100000 := by
      unfold totX
      split
      · simp only; omega
      · split
        · simp only; omega
        · split
          · simp only
            split <;> omega
          · omega
    have ih := tot_bnd l (totX t e) (n - 1) (fun x hx => he x (by simp [hx])) (by omega) (by omega)
    omega
theorem Total_spec {w : World} {v : Value} {l : List Ent} (h : Sl 11 entE w v l) (hl : l.length ≤ 1000000) (hsz : ∀ e ∈ l, 0 ≤ e.size ∧ e.size ≤ 100000) :
    CallsV Tryz.prog f_walk_Total #[v] w fun r w' => r = .agg (totE (totT l)).toArray ∧ Ext w w' := by
  refine ok_walk_Total _ _ _ ?_
  unfold go_walk_Total
  refine newx_any fun w1 h2 hx1 z1 => ?_
  obtain ⟨B2, eB2⟩ : ∃ B, B = w.heap.size := ⟨_, rfl⟩
  rw [← eB2] at h2 ⊢
  refine newx_any fun w2 h3 hx2 z2 => ?_
  obtain ⟨B3, eB3⟩ : ∃ B, B = w1.heap.size := ⟨_, rfl⟩
  rw [← eB3] at h3 ⊢
  simp only [mkmap]
  generalize hw3 : w2.alloc (Obj.map #[] 0) = w3
  obtain ⟨G, eG⟩ : ∃ G, G = w2.heap.size := ⟨_, rfl⟩
  have hx3 : Ext w2 w3 := by rw [← hw3]; exact alloc_ext _ _
  have hg3 : w3.heap[G]? = some (.map #[] 0) := by rw [← hw3, eG]; exact alloc_new _ _
  have z3 : w3.heap.size = w2.heap.size + 1 := by rw [← hw3]; exact alloc_size _ _
  rw [← eG]
  have hx13 := Ext.trans (Ext.trans hx1 hx2) hx3
  refine h.len ?_
  refine ⟨fun g w' => ∃ k : Nat, k ≤ l.length ∧ nth g 3 = .int .i64 k ∧ w'.heap[B3]? = some (.cells (totE (totT (l.take k))).toArray t__4int (0, 0)) ∧ w'.heap[B2]? = some (.cells (totE ⟨0, 0, 0, 0, []⟩).toArray t__4int (0, 0)) ∧ SeenAt w' G (totT (l.take k)).seen ∧ Ext w w' ∧ w3.heap.size ≤ w'.heap.size,
    fun g _ => l.length - ixOf g 3, ⟨0, Nat.zero_le _, rfl, Ext.get hx3 h3, Ext.get hx3 (Ext.get hx2 h2), ⟨#[], 0, hg3, by simp, fun i hi => by cases hi⟩, hx13, Nat.le_refl _⟩, ?_⟩
  rintro g z w4 ⟨k, hk, hg, c3, c2, hs, hx4, hz4⟩
  simp only [hg, vxs]
  refine cnd_split (fun hc => ?_) (fun hc => ?_)
  · have hlt : k < l.length := by simp at hc; omega
    refine (h.ext hx4).lds entE_len k hlt ?_
    obtain ⟨e, ee⟩ : ∃ e, e = l[k] := ⟨_, rfl⟩
    rw [← ee]
    generalize hw5 : w4.alloc _ = w5
    have h5 : w5.heap[w4.heap.size]? = some (.cells (entE ent0).toArray t_api_Entry (0, 0)) := by rw [← hw5]; exact alloc_new _ _
    have hx5 : Ext w4 w5 := by rw [← hw5]; exact alloc_ext _ _
    refine st_all (vs' := entE e) (n := 11) h5 rfl rfl (by omega) (entE_one _) fun w6 h6 u6 => ?_
    obtain ⟨B6, eB6⟩ : ∃ B, B = w4.heap.size := ⟨_, rfl⟩
    rw [← eB6] at h6 u6 ⊢
    have s4 := hx4.size
    have hx6 : Ext w4 w6 := Upd.trans hx5 u6 fun b hb e => by omega
    have c36 := Ext.get hx6 c3
    have c26 := Ext.get hx6 c2
    have hs6 := hs.mono hx6 fun f => f
    have hx06 := Ext.trans hx4 hx6
    have s6 := hx6.size
    have etk : totT (l.take (k + 1)) = totX (totT (l.take k)) e := by
      unfold totT
      rw [List.take_succ_eq_append_getElem hlt, List.foldl_append, ← ee]; rfl
    obtain ⟨t, et⟩ : ∃ t, t = totT (l.take k) := ⟨_, rfl⟩
    rw [← et] at c36 hs6 etk
    have hb := tot_bnd (l.take k) ⟨0, 0, 0, 0, []⟩ l.length (fun x hx => hsz x (List.mem_of_mem_take hx)) (by rw [List.length_take]; omega) (by simp)
    have hb : 0 ≤ t.f ∧ t.f ≤ 0 + (l.length : Int) ∧ 0 ≤ t.d ∧ t.d ≤ 0 + (l.length : Int) ∧ 0 ≤ t.l ∧ t.l ≤ 0 + (l.length : Int) ∧ 0 ≤ t.b ∧ t.b ≤ 0 + 100000 * (l.length : Int) := by rw [et]; exact hb
    have hse := hsz e (by rw [ee]; exact List.getElem_mem hlt)
    have iaA4 : ∀ (i : Nat) (K : Value → Prop), i < 4 → K (.pointer (some ⟨B3, i, none⟩)) → iaA 4 1 (.pointer (some ⟨B3, 0, none⟩)) (.int .i64 i) K := fun i K hi hK => by
      refine ⟨⟨by omega, by omega⟩, ?_⟩
      rw [addr_add, Int.toNat_natCast, Nat.zero_add, Nat.mul_one]; exact hK
    have iaA4' : ∀ (i : Nat) (n : Int) (K : Value → Prop), n = i → i < 4 → K (.pointer (some ⟨B3, i, none⟩)) → iaA 4 1 (.pointer (some ⟨B3, 0, none⟩)) (.int .i64 n) K := fun i n K hn hi hK => by rw [hn]; exact iaA4 i K hi hK
    -- the next round
    have again : ∀ (t' : Tot) (w' : World) (g0 g1 g2 : Value), t' = totX t e → w'.heap[B3]? = some (.cells (totE t').toArray t__4int (0, 0)) → w'.heap[B2]? = some (.cells (totE ⟨0, 0, 0, 0, []⟩).toArray t__4int (0, 0)) → SeenAt w' G t'.seen → Ext w w' → w3.heap.size ≤ w'.heap.size →
        bin .add (.int .i64 k) (.int .i64 1) fun t53 => (∃ k : Nat, k ≤ l.length ∧ nth [g0, g1, g2, t53] 3 = .int .i64 k ∧ w'.heap[B3]? = some (.cells (totE (totT (l.take k))).toArray t__4int (0, 0)) ∧ w'.heap[B2]? = some (.cells (totE ⟨0, 0, 0, 0, []⟩).toArray t__4int (0, 0)) ∧ SeenAt w' G (totT (l.take k)).seen ∧ Ext w w' ∧ w3.heap.size ≤ w'.heap.size) ∧
          l.length - ixOf [g0, g1, g2, t53] 3 < l.length - ixOf g 3 := fun t' w' g0 g1 g2 ht h1 h2 h3 h4 h5 => by
      refine int_add (by omega) ⟨⟨k + 1, by omega, by simp only [vxs]; rfl, by rw [etk, ← ht]; exact h1, h2, by rw [etk, ← ht]; exact h3, h4, h5⟩, ?_⟩
      rw [ixOf_of hg, ixOf_of (n := k + 1) rfl]; omega
    -- a cell of the four is set
    have put : ∀ (i : Nat) (n : Int) (t' : Tot) (w' : World) (K : World → Prop), i < 4 → (∀ tt : Tot, tt = t → True) → ∀ (tw : Tot), w'.heap[B3]? = some (.cells (totE tw).toArray t__4int (0, 0)) → (totE tw).toArray.setIfInBounds i (.int .i64 n) = (totE t').toArray → (∀ w'', w''.heap[B3]? = some (.cells (totE t').toArray t__4int (0, 0)) → Upd (fun b => b = B3) w' w'' → K w'') → st 1 (.pointer (some ⟨B3, i, none⟩)) (.int .i64 n) w' K := fun i n t' w' K hi _ tw hc he hK => by
      refine st1_in hc rfl hi ?_
      exact hK _ (by rw [setB_new hc, he]) (setB_upd _ _ _)
    simp only [vxs, h6, entE]
    refine cnd_split (fun hc => ?_) (fun hc => ?_)
    · have hk2 : e.kind = 2 := by simpa using hc
      have etx : totX t e = { t with d := t.d + 1 } := by unfold totX; rw [if_pos hk2]
      refine iaA4' 1 1 _ rfl (by omega) ?_
      simp only [vxs, c36, totE]
      refine int_add (by omega) ?_
      refine iaA4' 1 1 _ rfl (by omega) ?_
      refine put 1 (t.d + 1) { t with d := t.d + 1 } w6 _ (by omega) (fun _ _ => trivial) t c36 rfl fun w7 q3 u7 => ?_
      have s7 := u7.size
      exact again { t with d := t.d + 1 } w7 _ _ _ etx.symm q3 (u7.get c26 (by omega)) (hs6.mono u7 (by omega)) (Upd.trans hx06 u7 fun b hb e => by omega) (by omega)
    have hk2 : e.kind ≠ 2 := by simpa using hc
    refine cnd_split (fun hc => ?_) (fun hc => ?_)
    · have hk3 : e.kind = 3 := by simpa using hc
      have etx : totX t e = { t with l := t.l + 1 } := by unfold totX; rw [if_neg hk2, if_pos hk3]
      refine iaA4' 2 2 _ rfl (by omega) ?_
      simp only [vxs, c36, totE]
      refine int_add (by omega) ?_
      refine iaA4' 2 2 _ rfl (by omega) ?_
      refine put 2 (t.l + 1) { t with l := t.l + 1 } w6 _ (by omega) (fun _ _ => trivial) t c36 rfl fun w7 q3 u7 => ?_
      have s7 := u7.size
      exact again { t with l := t.l + 1 } w7 _ _ _ etx.symm q3 (u7.get c26 (by omega)) (hs6.mono u7 (by omega)) (Upd.trans hx06 u7 fun b hb e => by omega) (by omega)
    have hk3 : e.kind ≠ 3 := by simpa using hc
    refine cnd_split (fun hc => ?_) (fun hc => ?_)
    · have hk1 : e.kind = 1 := by simpa using hc
      have etx : totX t e = { t with f := t.f + 1, b := if e.group ≤ 0 ∨ e.group ∉ t.seen then t.b + e.size else t.b, seen := e.group :: t.seen } := by unfold totX; rw [if_neg hk2, if_neg hk3, if_pos hk1]
      refine iaA4' 0 0 _ rfl (by omega) ?_
      simp only [vxs, c36, totE]
      refine int_add (by omega) ?_
      refine iaA4' 0 0 _ rfl (by omega) ?_
      refine put 0 (t.f + 1) { t with f := t.f + 1 } w6 _ (by omega) (fun _ _ => trivial) t c36 rfl fun w7 q3 u7 => ?_
      have s7 := u7.size
      have h67 : w7.heap[B6]? = some (.cells (entE e).toArray t_api_Entry (0, 0)) := u7.get h6 (by omega)
      have c27 := u7.get c26 (by omega)
      have hs7 := hs6.mono u7 (by omega)
      have hx7 : Ext w w7 := Upd.trans hx06 u7 fun b hb e => by omega
      -- the group is marked
      have mark : ∀ (t' : Tot) (w' : World) (g0 g1 g2 : Value), { t' with seen := e.group :: t.seen } = totX t e → w'.heap[B3]? = some (.cells (totE t').toArray t__4int (0, 0)) → Upd (fun b => b = B3) w7 w' →
          ldm (cellIn w'.heap[B6]? 10) fun t52 => mux (.int .i64) (.map (some G)) t52 (.bool true) w' fun w_12 => bin .add (.int .i64 k) (.int .i64 1) fun t53 => (∃ k : Nat, k ≤ l.length ∧ nth [g0, g1, g2, t53] 3 = .int .i64 k ∧ w_12.heap[B3]? = some (.cells (totE (totT (l.take k))).toArray t__4int (0, 0)) ∧ w_12.heap[B2]? = some (.cells (totE ⟨0, 0, 0, 0, []⟩).toArray t__4int (0, 0)) ∧ SeenAt w_12 G (totT (l.take k)).seen ∧ Ext w w_12 ∧ w3.heap.size ≤ w_12.heap.size) ∧
            l.length - ixOf [g0, g1, g2, t53] 3 < l.length - ixOf g 3 := fun t' w' g0 g1 g2 ht h1 hu => by
        have s8 := hu.size
        have := hu.get h67 (by omega)
        simp only [this, vxs, entE]
        refine (hs7.mono hu (by omega)).put e.group fun w8 hs8 u8 => ?_
        have s9 := u8.size
        exact again { t' with seen := e.group :: t.seen } w8 _ _ _ ht (u8.get h1 (by omega)) (u8.get (hu.get c27 (by omega)) (by omega)) hs8 (Upd.trans (Upd.trans hx7 hu fun b hb e => by omega) u8 fun b hb e => by omega) (by omega)
      simp only [vxs, h67, entE]
      have yes : (e.group ≤ 0 ∨ e.group ∉ t.seen) → iaA 4 1 (.pointer (some ⟨B3, 0, none⟩)) (.int .i64 3) fun t44 => ld t44 w7 fun t45 => ldm (cellIn w7.heap[B6]? 2) fun t47 => bin .add t45 t47 fun t48 => iaA 4 1 (.pointer (some ⟨B3, 0, none⟩)) (.int .i64 3) fun t49 => st 1 t49 t48 w7 fun w_11 =>
          ldm (cellIn w_11.heap[B6]? 10) fun t52 => mux (.int .i64) (.map (some G)) t52 (.bool true) w_11 fun w_12 => bin .add (.int .i64 k) (.int .i64 1) fun t53 => (∃ k' : Nat, k' ≤ l.length ∧ nth [.bool (e.kind == 2), .bool (e.kind == 3), .bool (e.kind == 1), t53] 3 = .int .i64 k' ∧ w_12.heap[B3]? = some (.cells (totE (totT (l.take k'))).toArray t__4int (0, 0)) ∧ w_12.heap[B2]? = some (.cells (totE ⟨0, 0, 0, 0, []⟩).toArray t__4int (0, 0)) ∧ SeenAt w_12 G (totT (l.take k')).seen ∧ Ext w w_12 ∧ w3.heap.size ≤ w_12.heap.size) ∧
            l.length - ixOf [.bool (e.kind == 2), .bool (e.kind == 3), .bool (e.kind == 1), t53] 3 < l.length - ixOf g 3 := fun hy => by
        refine iaA4' 3 3 _ rfl (by omega) ?_
        simp only [vxs, q3, totE, h67, entE]
        refine int_add (by omega) ?_
        refine iaA4' 3 3 _ rfl (by omega) ?_
        refine put 3 (t.b + e.size) { t with f := t.f + 1, b := t.b + e.size } w7 _ (by omega) (fun _ _ => trivial) { t with f := t.f + 1 } q3 rfl fun w8 q8 u8 => ?_
        exact mark { t with f := t.f + 1, b := t.b + e.size } w8 _ _ _ (by rw [etx, if_pos hy]) q8 u8
      refine gd_or (fun hc => ?_) (fun hc => ?_)
      · have hgp : ¬ e.group ≤ 0 := by simpa using hc
        refine hs7.lk e.group ?_
        simp only [vxs]
        refine cnd_split (fun hc => ?_) (fun hc => ?_)
        · exact yes (.inr (by simpa using hc))
        · have hin : e.group ∈ t.seen := by simpa using hc
          exact mark { t with f := t.f + 1 } w7 _ _ _ (by rw [etx, if_neg (by simp [hgp, hin])]) q3 (.refl _ _)
      · simp only [vxs]
        exact yes (.inl (by simpa using hc))
    have hk1 : e.kind ≠ 1 := by simpa using hc
    have etx : totX t e = t := by unfold totX; rw [if_neg hk2, if_neg hk3, if_neg hk1]
    exact again t w6 _ _ _ etx.symm c36 c26 hs6 hx06 (by omega)
  · have hke : k = l.length := by simp at hc; omega
    subst hke
    rw [List.take_length] at c3
    refine lds_all c3 rfl ?_
    refine st_all (vs' := totE (totT l)) (n := 4) c2 rfl rfl (by omega) (by intro v hv; simp [totE] at hv; rcases hv with rfl | rfl | rfl | rfl <;> rfl) fun w5 h5 u5 => ?_
    refine lds_all h5 rfl ⟨rfl, Upd.trans hx4 u5 fun b hb e => by omega⟩
end Go.Proofs.YtkpefimnggojdaaGreat.VX
