/-
  The plain law of WalkMore. No program here.
-/
import Derived.Test.YtkpefimnggojdaaGreatQk
set_option linter.all false
namespace Go.Proofs.YtkpefimnggojdaaGreat.VX
open Go Pl

theorem grp_zero (T : PT) (gs : List Int) (i : Int) : grp T gs i = 0 ↔ manyT T i = false := by
  unfold grp
  cases manyT T i with
  | true =>
    simp only [if_true]
    have : ixG (gsAdd gs i) i ≠ 0 := by
      intro h
      refine ixG_zero.1 h ?_
      unfold gsAdd
      split
      · simp
      · rename_i h2; exact Classical.not_not.1 fun hh => h2 (ixG_zero.2 hh)
    constructor
    · intro h; exact absurd (by omega) this
    · intro h; cases h
  | false => simp
theorem ents_get {T : PT} : ∀ (l : List (List Bytes)) (gs : List Int) (e : Ent), e ∈ entsT T l gs → ∃ q i g, q ∈ l ∧ T.at_ q = some i ∧ e = entT T q i g ∧ (g = 0 ↔ manyT T i = false)
  | [], _, _, h => by cases h
  | q :: l, gs, e, h => by
    simp only [entsT] at h
    cases hq : T.at_ q with
    | none =>
      rw [hq] at h
      obtain ⟨q', i, g, h1, h2⟩ := ents_get l gs e h
      exact ⟨q', i, g, by simp [h1], h2⟩
    | some i =>
      rw [hq] at h
      rcases List.mem_cons.1 h with rfl | h
      · exact ⟨q, i, _, by simp, hq, rfl, grp_zero T gs i⟩
      · obtain ⟨q', i', g, h1, h2⟩ := ents_get l _ e h
        exact ⟨q', i', g, by simp [h1], h2⟩
theorem ents_has {T : PT} {q : List Bytes} {i : Int} (hi : T.at_ q = some i) : ∀ (l : List (List Bytes)) (gs : List Int), q ∈ l → ∃ e ∈ entsT T l gs, e.path = joinP q
  | [], _, h => by cases h
  | a :: l, gs, h => by
    simp only [entsT]
    rcases List.mem_cons.1 h with rfl | h
    · rw [hi]; exact ⟨_, List.mem_cons_self, rfl⟩
    · cases T.at_ a with
      | none => exact ents_has hi l gs h
      | some j =>
        obtain ⟨e, h1, h2⟩ := ents_has hi l (gsX T gs j) h
        exact ⟨e, List.mem_cons_of_mem _ h1, h2⟩
theorem whereT_has : ∀ (l : List Ent) (p : Bytes) (k : Nat), (∃ e ∈ l, e.path = p) → ∃ j, whereT l p k = ((k + j : Nat) : Int) ∧ ∃ h : j < l.length, l[j].path = p
  | [], _, _, h => by obtain ⟨_, h, _⟩ := h; cases h
  | e :: l, p, k, h => by
    simp only [whereT]
    by_cases he : e.path = p
    · rw [if_pos he]; exact ⟨0, rfl, by simp, he⟩
    · rw [if_neg he]
      obtain ⟨x, hx, hp⟩ := h
      rcases List.mem_cons.1 hx with rfl | hx
      · exact absurd hp he
      · obtain ⟨j, h1, h2, h3⟩ := whereT_has l p (k + 1) ⟨x, hx, hp⟩
        exact ⟨j + 1, by rw [h1]; omega, by simp; omega, by simpa using h3⟩
theorem walk_more {T : PT} {m : Nat} (hw : Wf T m) (L : List Rule) (r : Rule) {e : Ent} (he : e ∈ walkT T (L ++ [r])) : ∃ j : Nat, whereT (walkT T L) e.path 0 = (j : Int) ∧ ∃ h : j < (walkT T L).length, { (walkT T L)[j] with group := e.group } = e ∧ ((walkT T L)[j].group = 0 ↔ e.group = 0) := by
  obtain ⟨q, i, g, h1, h2, rfl, h4⟩ := ents_get _ _ _ he
  have hq : q ∈ visT T L 13 [] := (visT_more T L r 13 []).subset h1
  obtain ⟨j, k1, k2, k3⟩ := whereT_has (walkT T L) (joinP q) 0 (ents_has h2 _ [] hq)
  refine ⟨j, by rw [Nat.zero_add] at k1; exact k1, k2, ?_⟩
  obtain ⟨q', i', g', h5, h6, h7, h8⟩ := ents_get _ _ _ (List.getElem_mem k2)
  have hp : joinP q' = joinP q := by rw [h7] at k3; exact k3
  have hqq : q' = q := joinP_inj (hw.right _ (look1_mem h6)) (hw.right _ (look1_mem h2)) hp
  subst hqq
  rw [h2] at h6; injection h6 with h6; subst h6
  rw [h7]
  refine ⟨rfl, ?_⟩
  show g' = 0 ↔ g = 0
  rw [h8, h4]
theorem visT_sub (T : PT) (L : List Rule) : ∀ (n : Nat) (q : List Bytes), (visT T L n q).Sublist ((relT T n q).map (q ++ ·))
  | 0, _ => .slnil
  | n + 1, q => by
    simp only [visT, relT, List.map_flatMap]
    refine flatMap_sub _ fun x _ => ?_
    split
    · exact List.nil_sublist _
    · rw [List.map_cons]
      refine .cons_cons _ ?_
      split
      · have := visT_sub T L n (q ++ [x])
        rw [List.map_map]
        refine this.trans ?_
        have e : ((relT T n (q ++ [x])).map ((q ++ ·) ∘ (x :: ·))) = (relT T n (q ++ [x])).map (q ++ [x] ++ ·) := by
          apply List.map_congr_left; intro r _; simp
        rw [e]; exact List.Sublist.refl _
      · exact .slnil
theorem visT_len {T : PT} {m : Nat} (hw : Wf T m) (L : List Rule) : (visT T L 13 []).length ≤ m + 1 := by
  have := (visT_sub T L 13 []).length_le
  rw [List.length_map] at this
  exact Nat.le_trans this (relT_len hw 13 [])
theorem walk_le {T : PT} (L : List Rule) (r : Rule) {m : Nat} (hw : Wf T m) : (walkT T (L ++ [r])).length ≤ (walkT T L).length := by
  unfold walkT
  rw [entsT_len hw _ _ fun p hp => visT_mem 13 hp, entsT_len hw _ _ fun p hp => visT_mem 13 hp]
  exact (visT_more T L r 13 []).length_le
/-- Is a path to be counted? -/
def seenB (p : Bytes) : Bool := !(p == []) && !underB p homeB
theorem walk_nil {T : PT} {m : Nat} (hw : Wf T m) : (walkT T []).length = ((pathsT T).filter seenB).length := by
  unfold walkT
  rw [entsT_len hw _ _ fun p hp => visT_mem 13 hp, vis_nil]
  unfold pathsT
  rw [List.filter_map, List.length_map]
  congr 1
  apply List.filter_congr
  intro r hr
  obtain ⟨h0, i, hi⟩ := relT_mem hw 13 hr
  have hrr := hw.right _ hi
  simp only [List.nil_append] at hrr
  have hj : joinP r ≠ [] := joinP_ne h0 (RightL_ne hrr)
  simp only [Function.comp_apply, seenB, underB]
  rw [split_join hrr]
  have : split homeB = [homeB] := by decide
  rw [this]
  have : (joinP r == []) = false := by simpa using hj
  rw [this]
  simp
end Go.Proofs.YtkpefimnggojdaaGreat.VX
