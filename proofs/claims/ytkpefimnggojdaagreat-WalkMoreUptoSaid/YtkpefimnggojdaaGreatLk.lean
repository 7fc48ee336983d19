/-
  Plain trees: the names in a directory, rising; all that stands below, in order. No program here.
-/
import Derived.Test.YtkpefimnggojdaaGreatLw
import Derived.Test.YtkpefimnggojdaaGreatPu
set_option linter.all false
namespace Go.Proofs.YtkpefimnggojdaaGreat.VX
open Go Pl

theorem bytesLess_iff : ∀ (a b : Bytes), Op.bytesLess a b = true ↔ a < b
  | [], [] => by simp [Op.bytesLess]
  | [], b :: m => by simp [Op.bytesLess]
  | a :: l, [] => by simp [Op.bytesLess]
  | a :: l, b :: m => by
    rw [List.cons_lt_cons_iff, Op.bytesLess]
    have ih := bytesLess_iff l m
    by_cases h1 : a < b
    · simp [h1]
    · by_cases h2 : a = b
      · subst h2; simp [ih]
      · have : b < a := by
          rcases UInt8.lt_or_lt_of_ne h2 with h | h
          · exact absurd h h1
          · exact h
        simp [h1, h2, this]
theorem cmpB_self (a : Bytes) : cmpB a a = 0 := by
  unfold cmpB
  rw [if_neg (fun h => by have := (bytesLess_iff a a).1 h; exact absurd this (List.lt_irrefl a)), if_pos rfl]
theorem cmpB_gt {a b : Bytes} (h : a ≤ b) (hne : a ≠ b) : cmpB b a = 1 := by
  unfold cmpB
  rw [if_neg (fun hh => by have := (bytesLess_iff b a).1 hh; exact absurd this h), if_neg (fun e => hne e.symm)]
theorem cmpB_lt {a b : Bytes} (h : a ≤ b) (hne : a ≠ b) : cmpB a b = -1 := by
  unfold cmpB
  have : a < b := by
    rcases List.le_iff_lt_or_eq.1 h with h | h
    · exact h
    · exact absurd h hne
  rw [if_pos ((bytesLess_iff a b).2 this)]
theorem cmpL_pre (q a b : List Bytes) : cmpL (q ++ a) (q ++ b) = cmpL a b := by
  induction q with
  | nil => rfl
  | cons x q ih => rw [List.cons_append, List.cons_append, cmpL_cons, cmpB_self, if_pos rfl, ih]

/-! Names, rising. -/
def insB (a : Bytes) : List Bytes → List Bytes
  | [] => [a]
  | b :: r => if a ≤ b then a :: b :: r else b :: insB a r
def isortB : List Bytes → List Bytes
  | [] => []
  | a :: r => insB a (isortB r)
theorem insB_perm (a : Bytes) : ∀ l, (insB a l).Perm (a :: l)
  | [] => .refl _
  | b :: r => by
    unfold insB
    split
    · exact .refl _
    · exact ((insB_perm a r).cons b).trans (.swap a b r)
theorem isortB_perm : ∀ l, (isortB l).Perm l
  | [] => .refl _
  | a :: r => (insB_perm a _).trans ((isortB_perm r).cons a)
theorem insB_sorted (a : Bytes) : ∀ l, l.Pairwise (fun x y => x ≤ y) → (insB a l).Pairwise (fun x y => x ≤ y)
  | [], _ => by simp [insB]
  | b :: r, h => by
    unfold insB
    rw [List.pairwise_cons] at h
    split
    · rename_i hab
      rw [List.pairwise_cons]
      refine ⟨fun y hy => ?_, by rw [List.pairwise_cons]; exact h⟩
      rcases List.mem_cons.1 hy with rfl | hy
      · exact hab
      · exact List.le_trans hab (h.1 y hy)
    · rename_i hab
      have hba : b ≤ a := by
        rcases List.le_total a b with h | h
        · exact absurd h hab
        · exact h
      rw [List.pairwise_cons]
      refine ⟨fun y hy => ?_, insB_sorted a r h.2⟩
      rcases List.mem_cons.1 ((insB_perm a r).mem_iff.1 hy) with rfl | hy
      · exact hba
      · exact h.1 y hy
theorem isortB_sorted : ∀ l, (isortB l).Pairwise (fun x y => x ≤ y)
  | [] => .nil
  | a :: r => insB_sorted a _ (isortB_sorted r)
theorem sorted_unique : ∀ {l m : List Bytes}, l.Nodup → m.Nodup → l.Pairwise (fun x y => x ≤ y) → m.Pairwise (fun x y => x ≤ y) → (∀ x, x ∈ l ↔ x ∈ m) → l = m
  | [], [], _, _, _, _, _ => rfl
  | [], b :: m, _, _, _, _, h => by have := (h b).2 (by simp); cases this
  | a :: l, [], _, _, _, _, h => by have := (h a).1 (by simp); cases this
  | a :: l, b :: m, n1, n2, s1, s2, h => by
    rw [List.nodup_cons] at n1 n2
    rw [List.pairwise_cons] at s1 s2
    have hab : a = b := by
      rcases List.mem_cons.1 ((h a).1 (by simp)) with e | e
      · exact e
      · rcases List.mem_cons.1 ((h b).2 (by simp)) with e2 | e2
        · exact e2.symm
        · exact List.le_antisymm (s1.1 b e2) (s2.1 a e)
    subst hab
    rw [sorted_unique n1.2 n2.2 s1.2 s2.2 fun x => ?_]
    constructor
    · intro hx
      rcases List.mem_cons.1 ((h x).1 (by simp [hx])) with e | e
      · exact absurd (e ▸ hx) n1.1
      · exact e
    · intro hx
      rcases List.mem_cons.1 ((h x).2 (by simp [hx])) with e | e
      · exact absurd (e ▸ hx) n2.1
      · exact e

def kidNames (L : List (List Bytes × Int)) (q : List Bytes) : List Bytes := L.filterMap fun x => if childOf q x.1 then x.1.getLast? else none
def kidsT (T : PT) (q : List Bytes) : List Bytes := isortB (kidNames T.L q)
theorem childOf_iff {q p : List Bytes} : childOf q p = true ↔ ∃ x, p = q ++ [x] := by
  unfold childOf
  rw [Bool.and_eq_true, Bool.not_eq_true', decide_eq_false_iff_not, decide_eq_true_eq]
  constructor
  · rintro ⟨h1, h2⟩
    exact ⟨p.getLast h1, by rw [← h2]; exact (List.dropLast_concat_getLast h1).symm⟩
  · rintro ⟨x, rfl⟩; simp
theorem mem_kidNames {L : List (List Bytes × Int)} {q : List Bytes} {x : Bytes} : x ∈ kidNames L q ↔ ∃ i, (q ++ [x], i) ∈ L := by
  unfold kidNames
  rw [List.mem_filterMap]
  constructor
  · rintro ⟨⟨p, i⟩, hm, h⟩
    split at h
    · rename_i hc
      obtain ⟨y, hy⟩ := childOf_iff.1 hc
      have hy : p = q ++ [y] := hy
      subst hy
      simp at h
      exact ⟨i, by rw [← h]; exact hm⟩
    · cases h
  · rintro ⟨i, hm⟩
    exact ⟨_, hm, by rw [if_pos (childOf_iff.2 ⟨x, rfl⟩)]; simp⟩
theorem nodup_kidNames {q : List Bytes} : ∀ {L : List (List Bytes × Int)}, (L.map (·.1)).Nodup → (kidNames L q).Nodup
  | [], _ => .nil
  | (p, i) :: r, h => by
    rw [List.map_cons, List.nodup_cons] at h
    unfold kidNames
    rw [List.filterMap_cons]
    split
    · exact nodup_kidNames h.2
    · rename_i y hy
      rw [List.nodup_cons]
      refine ⟨fun hm => ?_, nodup_kidNames h.2⟩
      split at hy
      · rename_i hc
        obtain ⟨z, hz⟩ := childOf_iff.1 hc
        have hz : p = q ++ [z] := hz
        subst hz
        simp at hy
        subst hy
        obtain ⟨j, hj⟩ := mem_kidNames.1 hm
        exact h.1 (List.mem_map.2 ⟨_, hj, rfl⟩)
      · cases hy
theorem mem_kidsT {T : PT} {q : List Bytes} {x : Bytes} : x ∈ kidsT T q ↔ ∃ i, (q ++ [x], i) ∈ T.L := by
  unfold kidsT; rw [(isortB_perm _).mem_iff]; exact mem_kidNames
theorem Wf.nodup_kids {T : PT} {n : Nat} (h : Wf T n) (q : List Bytes) : (kidsT T q).Nodup := (isortB_perm _).nodup_iff.2 (nodup_kidNames h.nodup)
theorem kids_sorted (T : PT) (q : List Bytes) : (kidsT T q).Pairwise (fun x y => x ≤ y) := isortB_sorted _
theorem kids_of_names {T : PT} {n : Nat} (h : Wf T n) {q : List Bytes} {f : Bytes → Option Nat} (hf : ∀ x, (∃ b, f x = some b) ↔ ∃ i, T.at_ (q ++ [x]) = some i) {ks : List Bytes} (hk : Names f ks) : ks = kidsT T q :=
  sorted_unique hk.1 (h.nodup_kids q) hk.2.2 (kids_sorted T q) fun x => by
    rw [hk.2.1, hf, mem_kidsT]
    exact ⟨fun ⟨i, hi⟩ => ⟨i, h.at_iff.1 hi⟩, fun ⟨i, hi⟩ => ⟨i, h.at_iff.2 hi⟩⟩
theorem kids_len {T : PT} {n : Nat} (h : Wf T n) (q : List Bytes) : (kidsT T q).length ≤ n + 1 := by
  unfold kidsT
  rw [(isortB_perm _).length_eq]
  exact Nat.le_trans (List.length_filterMap_le _ _) h.len

/-! All that stands below a path, told from there. -/
def dirT (T : PT) (q : List Bytes) : Bool := match T.at_ q with | some i => (T.th i).kind == 2 | none => false
def relT (T : PT) : Nat → List Bytes → List (List Bytes)
  | 0, _ => []
  | n + 1, q => (kidsT T q).flatMap fun x => [x] :: (if dirT T (q ++ [x]) then (relT T n (q ++ [x])).map (x :: ·) else [])
theorem relT_mem {T : PT} {m : Nat} (h : Wf T m) : ∀ (n : Nat) {q r : List Bytes}, r ∈ relT T n q → r ≠ [] ∧ ∃ i, (q ++ r, i) ∈ T.L
  | 0, _, _, hr => by cases hr
  | n + 1, q, r, hr => by
    simp only [relT, List.mem_flatMap] at hr
    obtain ⟨x, hx, hr⟩ := hr
    rcases List.mem_cons.1 hr with rfl | hr
    · exact ⟨by simp, mem_kidsT.1 hx⟩
    · split at hr
      · obtain ⟨s, hs, rfl⟩ := List.mem_map.1 hr
        obtain ⟨-, i, hi⟩ := relT_mem h n hs
        exact ⟨by simp, i, by simpa using hi⟩
      · cases hr
theorem Wf.dir_above {T : PT} {m : Nat} (h : Wf T m) {q : List Bytes} {x : Bytes} {r : List Bytes} {i : Int} (hr : r ≠ []) (hi : (q ++ x :: r, i) ∈ T.L) : (∃ j, (q ++ [x], j) ∈ T.L) ∧ dirT T (q ++ [x]) = true := by
  have hi : (q ++ [x] ++ r, i) ∈ T.L := by simpa using hi
  obtain ⟨d, h1, h2⟩ := h.above r hi hr
  refine ⟨⟨d, h1⟩, ?_⟩
  unfold dirT; rw [h.at_iff.2 h1]; simpa using h2
theorem relT_all {T : PT} {m : Nat} (h : Wf T m) : ∀ (n : Nat) {q r : List Bytes} {i : Int}, r ≠ [] → (q ++ r, i) ∈ T.L → r.length ≤ n → r ∈ relT T n q
  | 0, _, r, _, hr, _, hl => absurd (List.length_eq_zero_iff.1 (by omega)) hr
  | n + 1, q, r, i, hr, hi, hl => by
    cases r with
    | nil => exact absurd rfl hr
    | cons x r =>
      simp only [relT, List.mem_flatMap]
      by_cases h0 : r = []
      · subst h0; exact ⟨x, mem_kidsT.2 ⟨i, hi⟩, by simp⟩
      · obtain ⟨⟨j, hj⟩, hd⟩ := h.dir_above h0 hi
        refine ⟨x, mem_kidsT.2 ⟨j, hj⟩, List.mem_cons_of_mem _ ?_⟩
        rw [if_pos hd]
        exact List.mem_map.2 ⟨r, relT_all h n h0 (i := i) (by simpa using hi) (by simpa using hl), rfl⟩
theorem relT_sorted {T : PT} {m : Nat} (h : Wf T m) : ∀ (n : Nat) (q : List Bytes), (relT T n q).Pairwise fun a b => 0 < cmpL b a
  | 0, _ => .nil
  | n + 1, q => by
    simp only [relT]
    rw [List.pairwise_flatMap]
    refine ⟨fun x _ => ?_, ?_⟩
    · rw [List.pairwise_cons]
      constructor
      · intro y hy
        split at hy
        · obtain ⟨s, hs, rfl⟩ := List.mem_map.1 hy
          have := (relT_mem h n hs).1
          rw [cmpL_cons, cmpB_self, if_pos rfl]
          cases s with
          | nil => exact absurd rfl this
          | cons a s => exact Int.one_pos
        · cases hy
      · split
        · rw [List.pairwise_map]
          exact (relT_sorted h n (q ++ [x])).imp fun {a b} hab => by rw [cmpL_cons, cmpB_self, if_pos rfl]; exact hab
        · exact .nil
    · have hn := h.nodup_kids q
      have hs := kids_sorted T q
      refine List.Pairwise.imp₂ (fun {x y} hne hle => ?_) hn hs
      intro a ha b hb
      have ea : ∃ r, a = x :: r := by
        rcases List.mem_cons.1 ha with rfl | ha
        · exact ⟨[], rfl⟩
        · split at ha
          · obtain ⟨s, _, rfl⟩ := List.mem_map.1 ha; exact ⟨s, rfl⟩
          · cases ha
      have eb : ∃ r, b = y :: r := by
        rcases List.mem_cons.1 hb with rfl | hb
        · exact ⟨[], rfl⟩
        · split at hb
          · obtain ⟨s, _, rfl⟩ := List.mem_map.1 hb; exact ⟨s, rfl⟩
          · cases hb
      obtain ⟨r, rfl⟩ := ea
      obtain ⟨s, rfl⟩ := eb
      rw [cmpL_cons, cmpB_gt hle hne, if_neg (by decide)]
      decide
theorem cmpL_self : ∀ l : List Bytes, cmpL l l = 0
  | [] => rfl
  | a :: l => by rw [cmpL_cons, cmpB_self, if_pos rfl, cmpL_self l]
theorem relT_nodup {T : PT} {m : Nat} (h : Wf T m) (n : Nat) (q : List Bytes) : (relT T n q).Nodup :=
  (relT_sorted h n q).imp fun {a b} hab e => by subst e; rw [cmpL_self] at hab; exact absurd hab (by decide)
theorem relT_len {T : PT} {m : Nat} (h : Wf T m) (n : Nat) (q : List Bytes) : (relT T n q).length ≤ m + 1 := by
  have := len_le_of_nodup ((relT T n q).map (q ++ ·)) (T.L.map (·.1)) (by
    rw [List.Nodup, List.pairwise_map]
    exact (relT_nodup h n q).imp fun hab e => hab (List.append_cancel_left e)) (fun x hx => by
    obtain ⟨r, hr, rfl⟩ := List.mem_map.1 hx
    obtain ⟨-, i, hi⟩ := relT_mem h n hr
    exact List.mem_map.2 ⟨_, hi, rfl⟩)
  rw [List.length_map, List.length_map] at this
  exact Nat.le_trans this h.len
/-- The paths of a tree, as texts. -/
def pathsT (T : PT) : List Bytes := (relT T 13 []).map joinP
theorem paths_ris {T : PT} {m : Nat} (h : Wf T m) : Ris (pathsT T) := by
  intro i j hij hj
  unfold pathsT at hj ⊢
  rw [List.length_map] at hj
  rw [List.getElem_map, List.getElem_map]
  have := List.pairwise_iff_getElem.1 (relT_sorted h 13 []) i j (by omega) hj hij
  have rr : ∀ k (hk : k < (relT T 13 []).length), split (joinP (relT T 13 [])[k]) = (relT T 13 [])[k] := fun k hk => by
    obtain ⟨-, x, hx⟩ := relT_mem h 13 (List.getElem_mem hk)
    exact split_join (h.right _ hx)
  unfold cmpP
  rw [rr j hj, rr i (by omega)]
  omega
theorem fits_rel {T : PT} {m : Nat} (h : Wf T m) {old q : List Bytes} (ho : (∃ i, (old, i) ∈ T.L)) (hq : RightL q = true) : ((relT T (13 - old.length) old).all fun r => RightL (q ++ r)) = fitsT T old q := by
  unfold fitsT
  rw [Bool.eq_iff_iff, List.all_eq_true, List.all_eq_true]
  constructor
  · intro hh x hx
    cases h1 : isPre old x.1 with
    | false => rw [moveL_not h1]; exact h.right x hx
    | true =>
      obtain ⟨r, hr⟩ := isPre_iff.1 h1
      rw [hr, moveL_pre]
      by_cases h0 : r = []
      · rw [h0, List.append_nil]; exact hq
      · have hx' : (old ++ r, x.2) ∈ T.L := by rw [← hr]; exact hx
        have hl := (RightL_iff.1 (h.right _ hx')).2.1
        rw [List.length_append] at hl
        exact hh r (relT_all h _ h0 hx' (by omega))
  · intro hh r hr
    obtain ⟨h1, i, hi⟩ := relT_mem h _ hr
    have := hh _ hi
    rw [moveL_pre] at this
    exact this
end Go.Proofs.YtkpefimnggojdaaGreat.VX
