/-
  Plain trees stay well-formed. No program here.
  Plain trees: each call leaves them well-formed. No program here.
-/
import Derived.Test.YtkpefimnggojdaaGreatLt
set_option linter.all false
namespace Go.Proofs.YtkpefimnggojdaaGreat.VX
open Go Pl

theorem look1_mem : ∀ {L : List (List Bytes × Int)} {q : List Bytes} {i : Int}, look1 L q = some i → (q, i) ∈ L
  | [], _, _, h => by cases h
  | (p, j) :: r, q, i, h => by
    simp only [look1] at h
    split at h
    · rename_i e; subst e; injection h with h; subst h; exact List.mem_cons_self
    · exact List.mem_cons_of_mem _ (look1_mem h)
theorem look1_of : ∀ {L : List (List Bytes × Int)}, (L.map (·.1)).Nodup → ∀ {q : List Bytes} {i : Int}, (q, i) ∈ L → look1 L q = some i
  | [], _, _, _, h => by cases h
  | (p, j) :: r, hn, q, i, h => by
    rw [List.map_cons, List.nodup_cons] at hn
    simp only [look1]
    rcases List.mem_cons.1 h with e | h
    · injection e with e1 e2; subst e1 e2; rw [if_pos rfl]
    · rw [if_neg (fun e => hn.1 (by rw [e]; exact List.mem_map.2 ⟨_, h, rfl⟩))]
      exact look1_of hn.2 h
theorem look1_none {L : List (List Bytes × Int)} {q : List Bytes} : look1 L q = none ↔ ∀ i, (q, i) ∉ L := by
  induction L with
  | nil => simp [look1]
  | cons x r ih =>
    obtain ⟨p, j⟩ := x
    simp only [look1]
    by_cases e : p = q
    · subst e; rw [if_pos rfl]; exact ⟨fun h => by (cases h), fun h => absurd List.mem_cons_self (h j)⟩
    · rw [if_neg e, ih]
      constructor
      · intro h i hh
        rcases List.mem_cons.1 hh with e2 | e2
        · injection e2 with e2; exact e e2.symm
        · exact h i e2
      · intro h i hh; exact h i (List.mem_cons_of_mem _ hh)
theorem look1_append (A B : List (List Bytes × Int)) (q : List Bytes) : look1 (A ++ B) q = match look1 A q with | some i => some i | none => look1 B q := by
  induction A with
  | nil => rfl
  | cons x r ih =>
    obtain ⟨p, j⟩ := x
    rw [List.cons_append]
    simp only [look1]
    split
    · rfl
    · exact ih
theorem look1_cut (L : List (List Bytes × Int)) (p q : List Bytes) : look1 (cutName L p) q = if q = p then none else look1 L q := by
  induction L with
  | nil => simp [cutName, look1]
  | cons x r ih =>
    obtain ⟨a, j⟩ := x
    unfold cutName at ih ⊢
    rw [List.filter_cons]
    by_cases e : a = p
    · subst e
      simp only [decide_true, Bool.not_true, Bool.false_eq_true, if_false, ih, look1]
      by_cases e2 : a = q
      · subst e2; simp
      · rw [if_neg (fun h => e2 h.symm), if_neg (fun h => e2 h.symm), if_neg e2]
    · simp only [e, decide_false, Bool.not_false, if_true, look1, ih]
      by_cases e2 : a = q
      · subst e2; rw [if_pos rfl, if_pos rfl, if_neg e]
      · rw [if_neg e2, if_neg e2]
theorem mem_cut {L : List (List Bytes × Int)} {p : List Bytes} {x : List Bytes × Int} : x ∈ cutName L p ↔ x ∈ L ∧ x.1 ≠ p := by
  simp [cutName, List.mem_filter]

structure ThOk (x : Th) : Prop where
  kind : x.kind = 1 ∨ x.kind = 2 ∨ x.kind = 3
  mt : ckM x.mt = 0
  target : if x.kind = 3 then x.target ≠ [] ∧ x.target.length ≤ 200 else x.target = []
  data : x.kind ≠ 1 → x.data = []
  big : x.data.length ≤ 65536
structure Wf (T : PT) (n : Nat) : Prop where
  head : ∃ r, T.L = ([], 1) :: r ∧ ∀ x ∈ r, x.1 ≠ []
  nodup : (T.L.map (·.1)).Nodup
  lt : ∀ x ∈ T.L, 0 < x.2 ∧ x.2 < T.next
  topk : (T.th 1).kind = 2
  up : ∀ q x i, (q ++ [x], i) ∈ T.L → ∃ d, (q, d) ∈ T.L ∧ (T.th d).kind = 2
  right : ∀ x ∈ T.L, RightL x.1 = true
  one : ∀ x ∈ T.L, ∀ y ∈ T.L, x.2 = y.2 → (T.th x.2).kind ≠ 1 → x.1 = y.1
  thing : ∀ x ∈ T.L, ThOk (T.th x.2)
  len : T.L.length ≤ n + 1
  nx : 2 ≤ T.next ∧ T.next ≤ (n : Int) + 2

theorem Wf.at_iff {T : PT} {n : Nat} (h : Wf T n) {q : List Bytes} {i : Int} : T.at_ q = some i ↔ (q, i) ∈ T.L := ⟨look1_mem, look1_of h.nodup⟩
theorem Wf.at_top {T : PT} {n : Nat} (h : Wf T n) : T.at_ [] = some 1 := by
  obtain ⟨r, e, _⟩ := h.head
  unfold PT.at_; rw [e]; simp [look1]
theorem Wf.more {T : PT} {n m : Nat} (h : Wf T n) (hm : n ≤ m) : Wf T m :=
  ⟨h.head, h.nodup, h.lt, h.topk, h.up, h.right, h.one, h.thing, by have := h.len; omega, by have := h.nx; omega⟩
theorem wf_new : Wf newT 0 where
  head := ⟨[], rfl, by simp⟩
  nodup := by simp [newT]
  lt := by simp [newT]
  topk := rfl
  up := by simp [newT]
  right := by simp [newT, RightL, joinP]
  one := by simp [newT]
  thing := by
    intro x _
    have e : newT.th x.2 = ⟨2, ⟨493, 0, 0, 0, 0⟩, [], []⟩ := rfl
    rw [e]
    exact ⟨.inr (.inl rfl), by decide, rfl, fun _ => rfl, by simp⟩
  len := by simp [newT]
  nx := by simp [newT]
/-- What a name stands below is there, and a directory. -/
theorem Wf.above {T : PT} {n : Nat} (h : Wf T n) {q : List Bytes} : ∀ (r : List Bytes) {i : Int}, (q ++ r, i) ∈ T.L → r ≠ [] → ∃ d, (q, d) ∈ T.L ∧ (T.th d).kind = 2 := by
  intro r
  induction hk : r.length generalizing r with
  | zero => intro i _ hr; exact absurd (List.length_eq_zero_iff.1 hk) hr
  | succ k ih =>
    intro i hi hr
    have e := List.dropLast_concat_getLast hr
    rw [← e, ← List.append_assoc] at hi
    obtain ⟨d, hd, hk2⟩ := h.up _ _ _ hi
    by_cases h0 : r.dropLast = []
    · rw [h0, List.append_nil] at hd; exact ⟨d, hd, hk2⟩
    · exact ih r.dropLast (by rw [List.length_dropLast]; omega) hd h0

theorem lookT_ok {T : PT} {p : Bytes} (h : (lookT T p).2 = 0) (hp : p ≠ []) : rightB p = true ∧ (∃ d, T.at_ (split (parentP p)) = some d ∧ (T.th d).kind = 2) ∧ (lookT T p).1 = T.at_ (split p) := by
  unfold lookT at h ⊢
  by_cases hr : rightB p = false
  · rw [if_pos hr] at h; cases h
  · have hr' : rightB p = true := by simpa using hr
    rw [if_neg hr, if_neg hp] at h ⊢
    split at h
    · cases h
    · rename_i d hd
      split at h
      · cases h
      · rename_i hk
        simp only [hd]
        rw [if_neg hk]
        exact ⟨hr', ⟨d, rfl, by simpa using hk⟩, rfl⟩
theorem lookT_top {T : PT} : lookT T [] = (T.at_ [], 0) := by
  unfold lookT; rw [if_neg (by decide), if_pos rfl]
theorem thereT_ok {T : PT} {p : Bytes} (h : (thereT T p).2 = 0) : (lookT T p).2 = 0 ∧ ∃ i, (thereT T p).1 = some i ∧ (lookT T p).1 = some i ∧ T.at_ (split p) = some i ∧ rightB p = true := by
  unfold thereT at h ⊢
  split at h
  · cases h
  · rename_i hn
    rw [if_neg hn]
    cases ha : (lookT T p).1 with
    | none => exact absurd ⟨h, ha⟩ hn
    | some i =>
      refine ⟨h, i, rfl, rfl, ?_⟩
      by_cases hp : p = []
      · subst hp; rw [lookT_top] at ha; exact ⟨ha, rfl⟩
      · obtain ⟨h1, -, h3⟩ := lookT_ok h hp
        exact ⟨by rw [← h3]; exact ha, h1⟩
theorem freshT_ok {T : PT} {p : Bytes} {n : Nat} (hw : Wf T n) (h : freshT T p = 0) : p ≠ [] ∧ (lookT T p).2 = 0 ∧ T.at_ (split p) = none ∧ rightB p = true ∧ ∃ d, T.at_ (split (parentP p)) = some d ∧ (T.th d).kind = 2 := by
  unfold freshT at h
  split at h
  · cases h
  · rename_i hn
    have h1 : (lookT T p).1 = none := by
      cases ha : (lookT T p).1 with
      | none => rfl
      | some i => exact absurd ⟨h, by rw [ha]; simp⟩ hn
    have hp : p ≠ [] := by intro e; subst e; rw [lookT_top, hw.at_top] at h1; cases h1
    obtain ⟨a, b, c⟩ := lookT_ok h hp
    exact ⟨hp, h, by rw [← c]; exact h1, a, b⟩

/-! What the calls do to a tree, one after the other. -/
theorem Wf.add {T : PT} {n : Nat} (h : Wf T n) {p : Bytes} {i : Int} {th : Int → Th} {nx : Int} (hp : p ≠ []) (hr : rightB p = true) (hno : T.at_ (split p) = none) (hd : ∃ d, T.at_ (split (parentP p)) = some d ∧ (T.th d).kind = 2)
    (hth : ∀ x ∈ T.L, th x.2 = T.th x.2) (hi : (i = T.next ∧ nx = T.next + 1 ∧ ThOk (th i)) ∨ (nx = T.next ∧ (∃ q, T.at_ q = some i) ∧ (T.th i).kind = 1)) : Wf ⟨T.L ++ [(split p, i)], th, nx⟩ (n + 1) := by
  have hno' : ∀ j, (split p, j) ∉ T.L := look1_none.1 hno
  have es := split_last hr hp
  have hnx := h.nx
  have mem : ∀ {x}, x ∈ T.L ++ [(split p, i)] ↔ x ∈ T.L ∨ x = (split p, i) := by simp
  have hi1 : 0 < i ∧ i < nx ∧ T.next ≤ nx ∧ nx ≤ T.next + 1 ∧ ThOk (th i) := by
    rcases hi with ⟨rfl, rfl, h3⟩ | ⟨rfl, ⟨q, hq⟩, h3⟩
    · exact ⟨by omega, by omega, by omega, by omega, h3⟩
    · have hm := look1_mem hq
      have := h.lt _ hm
      exact ⟨this.1, this.2, by omega, by omega, by rw [hth _ hm]; exact h.thing _ hm⟩
  have kd : ∀ x ∈ T.L, x.2 = i → (th i).kind = 1 := by
    intro x hx e
    rcases hi with ⟨rfl, -, -⟩ | ⟨-, -, h3⟩
    · have := (h.lt x hx).2; omega
    · rw [← e, hth x hx, e]; exact h3
  refine ⟨?_, ?_, ?_, ?_, ?_, ?_, ?_, ?_, ?_, ?_⟩
  · obtain ⟨r, e, hr0⟩ := h.head
    refine ⟨r ++ [(split p, i)], by rw [e]; rfl, fun x hx => ?_⟩
    rcases List.mem_append.1 hx with hx | hx
    · exact hr0 x hx
    · rw [List.mem_singleton.1 hx]; rw [es]; simp
  · rw [List.map_append, List.nodup_append]
    refine ⟨h.nodup, by simp, fun a ha b hb => ?_⟩
    simp only [List.map_cons, List.map_nil, List.mem_singleton] at hb
    obtain ⟨x, hx, rfl⟩ := List.mem_map.1 ha
    intro e
    exact hno' x.2 (by rw [← hb, ← e]; exact hx)
  · intro x hx
    rcases mem.1 hx with hx | rfl
    · have := h.lt x hx; exact ⟨this.1, by show x.2 < nx; omega⟩
    · exact ⟨hi1.1, hi1.2.1⟩
  · have hm : (([] : List Bytes), (1 : Int)) ∈ T.L := look1_mem h.at_top
    show (th 1).kind = 2
    rw [hth _ hm]; exact h.topk
  · intro q x j hj
    rcases mem.1 hj with hj | e
    · obtain ⟨d, h1, h2⟩ := h.up _ _ _ hj
      exact ⟨d, mem.2 (.inl h1), by show (th d).kind = 2; rw [hth _ h1]; exact h2⟩
    · injection e with e1 e2
      rw [es] at e1
      obtain ⟨d, h1, h2⟩ := hd
      have hm := look1_mem h1
      rw [← (List.append_inj' e1 rfl).1] at hm
      exact ⟨d, mem.2 (.inl hm), by show (th d).kind = 2; rw [hth _ hm]; exact h2⟩
  · intro x hx
    rcases mem.1 hx with hx | rfl
    · exact h.right x hx
    · show RightL (split p) = true
      rw [← rightB_split]; exact hr
  · intro x hx y hy e hk
    have hk : (th x.2).kind ≠ 1 := hk
    rcases mem.1 hx with hx | rfl
    · rcases mem.1 hy with hy | rfl
      · exact h.one x hx y hy e (by rw [← hth x hx]; exact hk)
      · exact absurd (by rw [e]; exact kd x hx e) hk
    · rcases mem.1 hy with hy | rfl
      · exact absurd (kd y hy e.symm) hk
      · rfl
  · intro x hx
    rcases mem.1 hx with hx | rfl
    · show ThOk (th x.2); rw [hth x hx]; exact h.thing x hx
    · exact hi1.2.2.2.2
  · have := h.len; simp only [List.length_append, List.length_cons, List.length_nil]; omega
  · show 2 ≤ nx ∧ nx ≤ ((n + 1 : Nat) : Int) + 2
    omega
theorem Wf.upd {T : PT} {n : Nat} (h : Wf T n) {i : Int} {x : Th} (hk : x.kind = (T.th i).kind) (hx : ThOk x) : Wf ⟨T.L, upI T.th i x, T.next⟩ n := by
  have k : ∀ j, (upI T.th i x j).kind = (T.th j).kind := fun j => by
    unfold upI; split
    · rename_i e; rw [e]; exact hk
    · rfl
  refine ⟨h.head, h.nodup, h.lt, by show (upI T.th i x 1).kind = 2; rw [k]; exact h.topk, fun q y j hj => ?_, h.right, fun y hy z hz e hk => ?_, fun y hy => ?_, h.len, h.nx⟩
  · obtain ⟨d, h1, h2⟩ := h.up q y j hj
    exact ⟨d, h1, by show (upI T.th i x d).kind = 2; rw [k]; exact h2⟩
  · exact h.one y hy z hz e (by rw [← k]; exact hk)
  · show ThOk (upI T.th i x y.2)
    unfold upI; split
    · exact hx
    · exact h.thing y hy
theorem Wf.cut {T : PT} {n : Nat} (h : Wf T n) {q : List Bytes} (hq : q ≠ []) (hk : ∀ x i, (q ++ [x], i) ∉ T.L) : Wf ⟨cutName T.L q, T.th, T.next⟩ n := by
  obtain ⟨r, e, hr⟩ := h.head
  refine ⟨⟨cutName r q, ?_, fun x hx => hr x (mem_cut.1 hx).1⟩, ?_, fun x hx => h.lt x (mem_cut.1 hx).1, h.topk, fun p x i hi => ?_, fun x hx => h.right x (mem_cut.1 hx).1, fun x hx y hy e hk => h.one x (mem_cut.1 hx).1 y (mem_cut.1 hy).1 e hk, fun x hx => h.thing x (mem_cut.1 hx).1, ?_, h.nx⟩
  · show cutName T.L q = _
    rw [e]; unfold cutName; rw [List.filter_cons, if_pos (by simp only [Bool.not_eq_true', decide_eq_false_iff_not]; exact fun e => hq e.symm)]
  · exact h.nodup.sublist (List.Sublist.map _ (List.filter_sublist))
  · obtain ⟨h1, h2⟩ := mem_cut.1 hi
    obtain ⟨d, h3, h4⟩ := h.up _ _ _ h1
    refine ⟨d, mem_cut.2 ⟨h3, fun e => ?_⟩, h4⟩
    have e : p = q := e
    subst e; exact hk _ _ h1
  · exact Nat.le_trans (List.length_filter_le _ _) h.len

theorem isPre_iff {m l : List Bytes} : isPre m l = true ↔ ∃ r, l = m ++ r := by
  unfold isPre
  rw [Bool.and_eq_true, decide_eq_true_eq, decide_eq_true_eq]
  constructor
  · rintro ⟨-, h⟩; exact ⟨l.drop m.length, by have := List.take_append_drop m.length l; rw [h] at this; exact this.symm⟩
  · rintro ⟨r, rfl⟩; simp
theorem moveL_pre (old q r : List Bytes) : moveL old q (old ++ r) = q ++ r := by
  unfold moveL; rw [if_pos (isPre_iff.2 ⟨r, rfl⟩)]; simp
theorem moveL_not {old q x : List Bytes} (h : isPre old x = false) : moveL old q x = x := by
  unfold moveL; rw [if_neg (by rw [h]; simp)]
theorem look1_map {L : List (List Bytes × Int)} {f : List Bytes → List Bytes} {q y : List Bytes} (h : ∀ x ∈ L, f x.1 = q → x.1 = y) (hq : f y = q) : look1 (L.map fun x => (f x.1, x.2)) q = look1 L y := by
  induction L with
  | nil => rfl
  | cons x r ih =>
    obtain ⟨a, j⟩ := x
    rw [List.map_cons]
    simp only [look1]
    by_cases e : a = y
    · subst e; rw [if_pos hq, if_pos rfl]
    · rw [if_neg (fun e2 => e (h (a, j) (by simp) e2)), if_neg e]
      exact ih fun x hx => h x (by simp [hx])
theorem look1_map_none {L : List (List Bytes × Int)} {f : List Bytes → List Bytes} {q : List Bytes} (h : ∀ x ∈ L, f x.1 ≠ q) : look1 (L.map fun x => (f x.1, x.2)) q = none := by
  rw [look1_none]
  intro i hi
  obtain ⟨x, hx, e⟩ := List.mem_map.1 hi
  injection e with e1 e2
  exact h x hx e1

/-- A directory goes elsewhere, with all that is below it. -/
theorem Wf.move {T : PT} {n : Nat} (h : Wf T n) {old q : List Bytes} (ho : old ≠ []) (hq0 : q ≠ []) (hpre : isPre old q = false) (hno : T.at_ q = none) (hd : ∃ d, (q.dropLast, d) ∈ T.L ∧ (T.th d).kind = 2) (hf : fitsT T old q = true) :
    Wf ⟨T.L.map fun x => (moveL old q x.1, x.2), T.th, T.next⟩ n := by
  have hnoL := look1_none.1 hno
  have nob : ∀ r i, (q ++ r, i) ∉ T.L := fun r i hi => by
    by_cases hr : r = []
    · subst hr; rw [List.append_nil] at hi; exact hnoL i hi
    · obtain ⟨d, h1, -⟩ := h.above r hi hr; exact hnoL d h1
  have inj : ∀ x ∈ T.L, ∀ y ∈ T.L, moveL old q x.1 = moveL old q y.1 → x.1 = y.1 := by
    intro x hx y hy e
    cases h1 : isPre old x.1 with
    | false =>
      rw [moveL_not h1] at e
      cases h2 : isPre old y.1 with
      | false => rw [moveL_not h2] at e; exact e
      | true =>
        obtain ⟨r, hr⟩ := isPre_iff.1 h2
        rw [hr, moveL_pre] at e
        exact absurd (show (q ++ r, x.2) ∈ T.L by rw [← e]; exact hx) (nob r _)
    | true =>
      obtain ⟨r, hr⟩ := isPre_iff.1 h1
      rw [hr, moveL_pre] at e
      cases h2 : isPre old y.1 with
      | false => rw [moveL_not h2] at e; exact absurd (show (q ++ r, y.2) ∈ T.L by rw [e]; exact hy) (nob r _)
      | true =>
        obtain ⟨s, hs⟩ := isPre_iff.1 h2
        rw [hs, moveL_pre] at e
        rw [hr, hs, List.append_cancel_left e]
  obtain ⟨r, e, hr⟩ := h.head
  have mv0 : moveL old q [] = [] := moveL_not (by
    cases hh : isPre old [] with
    | false => rfl
    | true => obtain ⟨s, hs⟩ := isPre_iff.1 hh; exact absurd (List.append_eq_nil_iff.1 hs.symm).1 ho)
  have mvne : ∀ x, x ≠ [] → moveL old q x ≠ [] := fun x hx => by
    cases hh : isPre old x with
    | false => rw [moveL_not hh]; exact hx
    | true => obtain ⟨s, rfl⟩ := isPre_iff.1 hh; rw [moveL_pre]; simp [hq0]
  refine ⟨⟨r.map fun x => (moveL old q x.1, x.2), ?_, fun x hx => ?_⟩, ?_, fun x hx => ?_, h.topk, fun p x i hi => ?_, fun x hx => ?_, fun x hx y hy exy hk => ?_, fun x hx => ?_, ?_, h.nx⟩
  · show T.L.map _ = _
    rw [e, List.map_cons, mv0]
  · obtain ⟨y, hy, rfl⟩ := List.mem_map.1 hx; exact mvne _ (hr y hy)
  · show ((T.L.map fun x => (moveL old q x.1, x.2)).map (·.1)).Nodup
    rw [List.map_map]
    have hn := h.nodup
    rw [List.Nodup, List.pairwise_map] at hn ⊢
    refine List.Pairwise.imp_of_mem (fun {a b} ha hb hab => ?_) hn
    exact fun e => hab (inj a ha b hb e)
  · obtain ⟨y, hy, rfl⟩ := List.mem_map.1 hx; exact h.lt y hy
  · obtain ⟨y, hy, e1⟩ := List.mem_map.1 hi
    injection e1 with e1 e2
    cases hh : isPre old y.1 with
    | false =>
      rw [moveL_not hh] at e1
      have hy' : (p ++ [x], y.2) ∈ T.L := by rw [← e1]; exact hy
      obtain ⟨d, h1, h2⟩ := h.up _ _ _ hy'
      refine ⟨d, List.mem_map.2 ⟨(p, d), h1, ?_⟩, h2⟩
      rw [moveL_not]
      cases h3 : isPre old p with
      | false => rfl
      | true =>
        obtain ⟨s, hs⟩ := isPre_iff.1 h3
        rw [e1, hs, isPre_iff.2 ⟨s ++ [x], by simp⟩] at hh; cases hh
    | true =>
      obtain ⟨s, hs⟩ := isPre_iff.1 hh
      rw [hs, moveL_pre] at e1
      by_cases h0 : s = []
      · subst h0
        rw [List.append_nil] at e1
        obtain ⟨d, h1, h2⟩ := hd
        have ep : q.dropLast = p := by rw [e1]; simp
        rw [ep] at h1
        refine ⟨d, List.mem_map.2 ⟨(p, d), h1, ?_⟩, h2⟩
        rw [moveL_not]
        cases h3 : isPre old p with
        | false => rfl
        | true =>
          obtain ⟨s, hs⟩ := isPre_iff.1 h3
          rw [e1, hs, isPre_iff.2 ⟨s ++ [x], by simp⟩] at hpre; cases hpre
      · have es := List.dropLast_concat_getLast h0
        rw [← es, ← List.append_assoc] at e1 hs
        obtain ⟨e3, e4⟩ := List.append_inj' e1 rfl
        have hy' : (old ++ s.dropLast ++ [s.getLast h0], y.2) ∈ T.L := by rw [← hs]; exact hy
        obtain ⟨d, h1, h2⟩ := h.up _ _ _ hy'
        exact ⟨d, List.mem_map.2 ⟨_, h1, by rw [moveL_pre, e3]⟩, h2⟩
  · obtain ⟨y, hy, rfl⟩ := List.mem_map.1 hx
    exact List.all_eq_true.1 hf y hy
  · obtain ⟨a, ha, rfl⟩ := List.mem_map.1 hx
    obtain ⟨b, hb, rfl⟩ := List.mem_map.1 hy
    show moveL old q a.1 = moveL old q b.1
    rw [h.one a ha b hb exy hk]
  · obtain ⟨a, ha, rfl⟩ := List.mem_map.1 hx; exact h.thing a ha
  · have := h.len; simpa using this

/-- A file has another name in the place of one. -/
theorem Wf.rename {T : PT} {n : Nat} (h : Wf T n) {old q : List Bytes} {i : Int} (hq0 : q ≠ []) (ho : (old, i) ∈ T.L) (hk : (T.th i).kind ≠ 2) (hq : ∀ j, (q, j) ∈ T.L → (T.th j).kind ≠ 2) (hd : ∃ d, (q.dropLast, d) ∈ T.L ∧ (T.th d).kind = 2) (hr : RightL q = true) :
    Wf ⟨(cutName T.L q).map fun x => (if x.1 = old then q else x.1, x.2), T.th, T.next⟩ n := by
  have uniq : ∀ {p i j}, (p, i) ∈ T.L → (p, j) ∈ T.L → i = j := fun h1 h2 => by
    have e1 := h.at_iff.2 h1; rw [h.at_iff.2 h2] at e1; injection e1 with e1; exact e1.symm
  have hC : Wf ⟨cutName T.L q, T.th, T.next⟩ n := h.cut hq0 fun x j hj => by
    obtain ⟨d, h1, h2⟩ := h.up _ _ _ hj; exact hq d h1 h2
  have dirne : ∀ {p d}, (p, d) ∈ T.L → (T.th d).kind = 2 → p ≠ old ∧ p ≠ q := fun h1 h2 =>
    ⟨fun e => hk (by rw [← uniq (e ▸ h1) ho]; exact h2), fun e => hq _ (e ▸ h1) h2⟩
  have ho0 : old ≠ [] := fun e => hk (by
    have e2 : i = 1 := uniq (e ▸ ho) (look1_mem h.at_top)
    rw [e2]; exact h.topk)
  obtain ⟨r, e, hr0⟩ := hC.head
  refine ⟨⟨r.map fun x => (if x.1 = old then q else x.1, x.2), ?_, fun x hx => ?_⟩, ?_, fun x hx => ?_, h.topk, fun p x j hj => ?_, fun x hx => ?_, fun x hx y hy exy hk => ?_, fun x hx => ?_, ?_, h.nx⟩
  · show (cutName T.L q).map _ = _
    have e : cutName T.L q = ([], 1) :: r := e
    rw [e, List.map_cons, if_neg (fun e => ho0 e.symm)]
  · obtain ⟨y, hy, rfl⟩ := List.mem_map.1 hx
    show (if y.1 = old then q else y.1) ≠ []
    split
    · exact hq0
    · exact hr0 y hy
  · show (((cutName T.L q).map fun x => (if x.1 = old then q else x.1, x.2)).map (·.1)).Nodup
    rw [List.map_map]
    have hn := hC.nodup
    have hn : ((cutName T.L q).map (·.1)).Nodup := hn
    rw [List.Nodup, List.pairwise_map] at hn ⊢
    refine List.Pairwise.imp_of_mem (fun {a b} ha hb hab => ?_) hn
    intro e
    have e : (if a.1 = old then q else a.1) = if b.1 = old then q else b.1 := e
    have na := (mem_cut.1 ha).2
    have nb := (mem_cut.1 hb).2
    split at e
    · split at e
      · rename_i h1 h2; exact hab (h1.trans h2.symm)
      · exact nb e.symm
    · split at e
      · exact na e
      · exact hab e
  · obtain ⟨y, hy, rfl⟩ := List.mem_map.1 hx; exact hC.lt y hy
  · obtain ⟨y, hy, e1⟩ := List.mem_map.1 hj
    injection e1 with e1 e2
    have hyL := (mem_cut.1 hy).1
    have fin : ∀ {d}, (p, d) ∈ T.L → (T.th d).kind = 2 → (p, d) ∈ (cutName T.L q).map fun x => (if x.1 = old then q else x.1, x.2) := fun h1 h2 => by
      obtain ⟨n1, n2⟩ := dirne h1 h2
      exact List.mem_map.2 ⟨(p, _), mem_cut.2 ⟨h1, n2⟩, by rw [if_neg n1]⟩
    split at e1
    · obtain ⟨d, h1, h2⟩ := hd
      have ep : q.dropLast = p := by rw [e1]; simp
      rw [ep] at h1
      exact ⟨d, fin h1 h2, h2⟩
    · have hy' : (p ++ [x], y.2) ∈ T.L := by rw [← e1]; exact hyL
      obtain ⟨d, h1, h2⟩ := h.up _ _ _ hy'
      exact ⟨d, fin h1 h2, h2⟩
  · obtain ⟨y, hy, rfl⟩ := List.mem_map.1 hx
    show RightL (if y.1 = old then q else y.1) = true
    split
    · exact hr
    · exact hC.right y hy
  · obtain ⟨a, ha, rfl⟩ := List.mem_map.1 hx
    obtain ⟨b, hb, rfl⟩ := List.mem_map.1 hy
    show (if a.1 = old then q else a.1) = if b.1 = old then q else b.1
    rw [hC.one a ha b hb exy hk]
  · obtain ⟨a, ha, rfl⟩ := List.mem_map.1 hx; exact hC.thing a ha
  · have := hC.len; simpa using this
end Go.Proofs.YtkpefimnggojdaaGreat.VX

namespace Go.Proofs.YtkpefimnggojdaaGreat.VX
open Go Pl

theorem mayT_ok {p : Bytes} {m : Meta} (h : mayT p m = 0) : rightB p = true ∧ ckM m = 0 := by
  unfold mayT at h
  split at h
  · cases h
  · split at h
    · cases h
    · rename_i h1 h2; exact ⟨by simpa using h1, by simpa using h2⟩
theorem Wf.make {T : PT} {n : Nat} (h : Wf T n) {p : Bytes} {x : Th} (hf : freshT T p = 0) (hx : ThOk x) : Wf (makeT T p x) (n + 1) := by
  obtain ⟨h1, h2, h3, h4, h5⟩ := freshT_ok h hf
  refine h.add h1 h4 h3 h5 (fun y hy => ?_) (.inl ⟨rfl, rfl, ?_⟩)
  · have := (h.lt y hy).2
    unfold upI; rw [if_neg (by omega)]
  · unfold upI; rw [if_pos rfl]; exact hx
theorem thOk_dir {m : Meta} (h : ckM m = 0) : ThOk ⟨2, m, [], []⟩ := ⟨.inr (.inl rfl), h, rfl, fun _ => rfl, by simp⟩
theorem thOk_link {m : Meta} {t : Bytes} (h : ckM m = 0) (h1 : t ≠ []) (h2 : t.length ≤ 200) : ThOk ⟨3, m, t, []⟩ := ⟨.inr (.inr rfl), h, ⟨h1, h2⟩, fun _ => rfl, by simp⟩
theorem thOk_file {m : Meta} {b : Bytes} (h : ckM m = 0) (h2 : b.length ≤ 65536) : ThOk ⟨1, m, [], b⟩ := ⟨.inl rfl, h, rfl, fun h => absurd rfl h, h2⟩
theorem symE_ok {T : PT} {p target : Bytes} {m : Meta} (h : symE' T p target m = 0) : mayT p m = 0 ∧ target ≠ [] ∧ target.length ≤ 200 ∧ freshT T p = 0 := by
  unfold symE' at h
  split at h
  · rename_i h1; exact absurd h h1
  rename_i h1
  split at h
  · cases h
  rename_i h2
  split at h
  · cases h
  exact ⟨by simpa using h1, h2, by omega, h⟩
theorem mkdirE_ok {T : PT} {p : Bytes} {m : Meta} (h : mkdirE' T p m = 0) : mayT p m = 0 ∧ freshT T p = 0 := by
  unfold mkdirE' at h
  split at h
  · rename_i h1; exact absurd h h1
  rename_i h1
  exact ⟨by simpa using h1, h⟩
theorem writeE_ok {T : PT} {p : Bytes} {n : Nat} {m : Meta} (h : writeE' T p n m = 0) : mayT p m = 0 ∧ n ≤ 65536 ∧ (lookT T p).2 = 0 ∧ (match (lookT T p).1 with | none => True | some i => fileT (T.th i) = 0) := by
  unfold writeE' at h
  split at h
  · rename_i h1; exact absurd h h1
  rename_i h1
  split at h
  · cases h
  rename_i h2
  split at h
  · rename_i h3; exact absurd h h3
  rename_i h3
  refine ⟨by simpa using h1, by omega, by simpa using h3, ?_⟩
  generalize (lookT T p).1 = o at h ⊢
  cases o with
  | none => trivial
  | some i => exact h
theorem look_some {T : PT} {n : Nat} (hw : Wf T n) {p : Bytes} {i : Int} (h : (lookT T p).2 = 0) (h1 : (lookT T p).1 = some i) : T.at_ (split p) = some i ∧ (split p, i) ∈ T.L := by
  have : T.at_ (split p) = some i := by
    by_cases hp : p = []
    · subst hp; rw [lookT_top] at h1; exact h1
    · rw [← (lookT_ok h hp).2.2]; exact h1
  exact ⟨this, look1_mem this⟩
theorem look_fresh {T : PT} {p : Bytes} (h : (lookT T p).2 = 0) (h1 : (lookT T p).1 = none) : freshT T p = 0 := by
  unfold freshT; rw [if_neg (by rw [h1]; simp)]; exact h
theorem file_kind {x : Th} (hx : ThOk x) (h : fileT x = 0) : x.kind = 1 := by
  unfold fileT at h
  rcases hx.kind with e | e | e
  · exact e
  · rw [if_pos e] at h; cases h
  · rw [if_neg (by omega), if_pos e] at h; cases h
theorem there_some {T : PT} {n : Nat} (hw : Wf T n) {p : Bytes} {i : Int} (h : (thereT T p).2 = 0) (h1 : (thereT T p).1 = some i) : T.at_ (split p) = some i ∧ (split p, i) ∈ T.L ∧ rightB p = true := by
  obtain ⟨-, j, h2, -, h3, h4⟩ := thereT_ok h
  rw [h1] at h2; injection h2 with h2; subst h2
  exact ⟨h3, look1_mem h3, h4⟩
theorem appE_ok {T : PT} {p : Bytes} {n : Nat} (h : appE' T p n = 0) : (thereT T p).2 = 0 ∧ ∃ i, (thereT T p).1 = some i ∧ fileT (T.th i) = 0 ∧ (T.th i).data.length + n ≤ 65536 := by
  unfold appE' at h
  split at h
  · rename_i h1; exact absurd h h1
  rename_i h1
  have h1 : (thereT T p).2 = 0 := by simpa using h1
  obtain ⟨-, i, h2, -⟩ := thereT_ok h1
  rw [h2] at h
  simp only at h
  split at h
  · rename_i h3; exact absurd h h3
  rename_i h3
  split at h
  · cases h
  exact ⟨h1, i, h2, by simpa using h3, by omega⟩
theorem linkE_ok {T : PT} {old p : Bytes} (h : linkE' T old p = 0) : rightB old = true ∧ rightB p = true ∧ (thereT T old).2 = 0 ∧ ∃ i, (thereT T old).1 = some i ∧ fileT (T.th i) = 0 ∧ freshT T p = 0 := by
  unfold linkE' at h
  split at h
  · cases h
  rename_i h0
  split at h
  · rename_i h1; exact absurd h h1
  rename_i h1
  have h1 : (thereT T old).2 = 0 := by simpa using h1
  obtain ⟨-, i, h2, -⟩ := thereT_ok h1
  rw [h2] at h
  simp only at h
  split at h
  · rename_i h3; exact absurd h h3
  rename_i h3
  have h0 : rightB old = true ∧ rightB p = true := by simpa using h0
  exact ⟨h0.1, h0.2, h1, i, h2, by simpa using h3, h⟩
theorem remE_ok {T : PT} {p : Bytes} (h : remE' T p = 0) : rightB p = true ∧ p ≠ [] ∧ (thereT T p).2 = 0 ∧ ∀ x i, (split p ++ [x], i) ∉ T.L := by
  unfold remE' at h
  split at h
  · cases h
  rename_i h0
  split at h
  · cases h
  rename_i h1
  split at h
  · rename_i h2; exact absurd h h2
  rename_i h2
  split at h
  · cases h
  rename_i h3
  refine ⟨by simpa using h0, h1, by simpa using h2, fun x i hi => h3 ?_⟩
  exact List.any_eq_true.2 ⟨_, hi, by simp [childOf]⟩
structure RenOk (T : PT) (old p : Bytes) (i : Int) : Prop where
  ro : rightB old = true
  rp : rightB p = true
  o0 : old ≠ []
  p0 : p ≠ []
  there : (thereT T old).2 = 0
  at_ : (thereT T old).1 = some i
  under : (T.th i).kind = 2 → p ≠ old → underB p old = false
  look : (lookT T p).2 = 0
  dir : (T.th i).kind = 2 → (lookT T p).1 = none ∧ fitsT T (split old) (split p) = true
  file : (T.th i).kind ≠ 2 → ∀ j, (lookT T p).1 = some j → (T.th j).kind ≠ 2
theorem renE_ok {T : PT} {old p : Bytes} (h : renE' T old p = 0) : ∃ i, RenOk T old p i := by
  unfold renE' at h
  split at h
  · cases h
  rename_i h0
  split at h
  · cases h
  rename_i h1
  split at h
  · rename_i h2; exact absurd h h2
  rename_i h2
  have h2 : (thereT T old).2 = 0 := by simpa using h2
  obtain ⟨-, i, h3, -⟩ := thereT_ok h2
  rw [h3] at h
  simp only at h
  split at h
  · cases h
  rename_i h4
  split at h
  · rename_i h5; exact absurd h h5
  rename_i h5
  have h0 : rightB old = true ∧ rightB p = true := by simpa using h0
  have h1 : old ≠ [] ∧ p ≠ [] := by simpa using h1
  refine ⟨i, h0.1, h0.2, h1.1, h1.2, h2, h3, fun hk hp => ?_, by simpa using h5, fun hk => ?_, fun hk j hj => ?_⟩
  · cases hu : underB p old with
    | false => rfl
    | true => exact absurd ⟨hk, hp, hu⟩ h4
  · rw [if_pos hk] at h
    split at h
    · cases h
    rename_i h6
    split at h
    · rename_i h7; exact ⟨by simpa using h6, h7⟩
    · cases h
  · rw [if_neg hk, hj] at h
    simp only at h
    split at h
    · cases h
    · rename_i h7; exact h7

theorem Wf.do_ {T : PT} {n : Nat} (h : Wf T n) (a : Deed) : Wf (doT T a).1 (n + 1) := by
  have same : ∀ e : Int, Wf (T, e).1 (n + 1) := fun _ => h.more (by omega)
  unfold doT
  split
  · unfold mkdirT
    split
    · rename_i _ he
      obtain ⟨h1, h2⟩ := mkdirE_ok he
      exact h.make h2 (thOk_dir (mayT_ok h1).2)
    · exact same _
  split
  · unfold writeT
    split
    · rename_i _ he
      obtain ⟨h1, h2, h3, h4⟩ := writeE_ok he
      split
      · rename_i hn
        exact h.make (look_fresh h3 hn) (thOk_file (mayT_ok h1).2 h2)
      · rename_i i hi
        rw [hi] at h4
        simp only at h4
        obtain ⟨h5, h6⟩ := look_some h h3 hi
        have ht := h.thing _ h6
        have hk := file_kind ht h4
        have hk' : (T.th i).kind = 1 := hk
        exact (h.upd (x := { T.th i with data := a.data, mt := a.mt }) rfl ⟨ht.kind, (mayT_ok h1).2, ht.target, fun hh => absurd hk' hh, h2⟩).more (by omega)
    · exact same _
  split
  · unfold symT
    split
    · rename_i _ he
      obtain ⟨h1, h2, h3, h4⟩ := symE_ok he
      exact h.make h4 (thOk_link (mayT_ok h1).2 h2 h3)
    · exact same _
  split
  · unfold linkT
    split
    · rename_i _ he
      obtain ⟨h1, h2, h3, i, h4, h5, h6⟩ := linkE_ok he
      rw [h4]
      obtain ⟨q1, q2, -⟩ := there_some h h3 h4
      obtain ⟨r1, r2, r3, r4, r5⟩ := freshT_ok h h6
      exact h.add r1 r4 r3 r5 (fun _ _ => rfl) (.inr ⟨rfl, ⟨_, q1⟩, file_kind (h.thing _ q2) h5⟩)
    · exact same _
  split
  · unfold remT
    split
    · rename_i _ he
      obtain ⟨h1, h2, h3, h4⟩ := remE_ok he
      exact (h.cut (by intro e; exact h2 ((join_split a.path).symm.trans (by rw [e]; rfl))) h4).more (by omega)
    · exact same _
  split
  · unfold renT
    split
    · rename_i _ he
      obtain ⟨i, hr⟩ := renE_ok he
      simp only [hr.at_]
      obtain ⟨q1, q2, -⟩ := there_some h hr.there hr.at_
      have ne : ∀ {p : Bytes}, p ≠ [] → split p ≠ [] := fun {p} hp e => hp ((join_split p).symm.trans (by rw [e]; rfl))
      obtain ⟨-, ⟨d, d1, d2⟩, d3⟩ := lookT_ok hr.look hr.p0
      have ed : (split a.to).dropLast = split (parentP a.to) := by rw [split_last hr.rp hr.p0]; simp
      split
      · rename_i hk
        obtain ⟨k1, k2⟩ := hr.dir hk
        have kn : T.at_ (split a.to) = none := by rw [← d3]; exact k1
        refine (h.move (ne hr.o0) (ne hr.p0) ?_ kn ⟨d, by rw [ed]; exact look1_mem d1, d2⟩ k2).more (by omega)
        by_cases e : a.to = a.path
        · rw [e, q1] at kn; cases kn
        · exact hr.under hk e
      · rename_i hk
        split
        · exact same _
        · refine (h.rename (ne hr.p0) q2 hk (fun j hj => hr.file hk j (by rw [d3]; exact h.at_iff.2 hj)) ⟨d, by rw [ed]; exact look1_mem d1, d2⟩ (by rw [← rightB_split]; exact hr.rp)).more (by omega)
    · exact same _
  split
  · unfold setT
    split
    · rename_i _ he
      unfold setE' at he
      split at he
      · rename_i h1; exact absurd he h1
      rename_i h1
      obtain ⟨-, i, h3, -⟩ := thereT_ok he
      rw [h3]
      obtain ⟨q1, q2, -⟩ := there_some h he h3
      have ht := h.thing _ q2
      exact (h.upd (x := { T.th i with mt := a.mt }) rfl ⟨ht.kind, (mayT_ok (by simpa using h1)).2, ht.target, ht.data, ht.big⟩).more (by omega)
    · exact same _
  split
  · unfold appT
    split
    · rename_i _ he
      obtain ⟨h1, i, h2, h3, h4⟩ := appE_ok he
      rw [h2]
      obtain ⟨q1, q2, -⟩ := there_some h h1 h2
      have ht := h.thing _ q2
      have hk : (T.th i).kind = 1 := file_kind ht h3
      exact (h.upd (x := { T.th i with data := (T.th i).data ++ a.data }) rfl ⟨ht.kind, ht.mt, ht.target, fun hh => absurd hk hh, by simpa using h4⟩).more (by omega)
    · exact same _
  · exact same _
theorem wf_fold : ∀ (l : List Deed) {T : PT} {n : Nat}, Wf T n → Wf (l.foldl (fun T a => (doT T a).1) T) (n + l.length)
  | [], _, _, h => h
  | a :: l, T, n, h => by
    have := wf_fold l (h.do_ a)
    rw [List.foldl_cons, List.length_cons]
    exact this.more (by omega)
theorem wf_build (l : List Deed) : Wf (buildT l) l.length := by
  have := wf_fold l wf_new
  rw [Nat.zero_add] at this
  exact this
/-- How many names a thing has. -/
def cntL (L : List (List Bytes × Int)) (i : Int) : Nat := (L.filter fun x => x.2 == i).length
end Go.Proofs.YtkpefimnggojdaaGreat.VX
