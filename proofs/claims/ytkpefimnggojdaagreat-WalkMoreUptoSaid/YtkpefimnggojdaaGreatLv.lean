/-
  Plain trees: what is seen of them, and how it is told. No program here.
-/
import Derived.Test.YtkpefimnggojdaaGreatLk
set_option linter.all false
namespace Go.Proofs.YtkpefimnggojdaaGreat.VX
open Go Pl

structure Ent where
  path : Bytes
  kind : Int
  size : Int
  mt : Meta
  target : Bytes
  sum : Bytes
  group : Int
  deriving DecidableEq
def homeB : Bytes := [46, 114, 101, 109, 111, 114, 97]
def sizeT (T : PT) (q : List Bytes) (i : Int) : Int :=
  if (T.th i).kind = 1 then (T.th i).data.length else if (T.th i).kind = 2 then (kidsT T q).length else if (T.th i).kind = 3 then (T.th i).target.length else 0
def linksT (T : PT) (i : Int) : Int := if (T.th i).kind = 1 then (cntL T.L i : Int) else 1
def manyT (T : PT) (i : Int) : Bool := (T.th i).kind == 1 && decide (1 < linksT T i)
/-- Is a path passed over? -/
def hidT (T : PT) (L : List Rule) (p : List Bytes) : Bool := decide (p = [homeB]) || hiddenR L (joinP p) (dirT T p)
def visT (T : PT) (L : List Rule) : Nat → List Bytes → List (List Bytes)
  | 0, _ => []
  | n + 1, q => (kidsT T q).flatMap fun x => if hidT T L (q ++ [x]) then [] else (q ++ [x]) :: (if dirT T (q ++ [x]) then visT T L n (q ++ [x]) else [])
def ixG : List Int → Int → Nat
  | [], _ => 0
  | a :: r, i => if a = i then 1 else match ixG r i with | 0 => 0 | k + 1 => k + 2
/-- The groups behind a thing, and its group's number. -/
def gsAdd (gs : List Int) (i : Int) : List Int := if ixG gs i = 0 then gs ++ [i] else gs
def gsX (T : PT) (gs : List Int) (i : Int) : List Int := if manyT T i then gsAdd gs i else gs
def grp (T : PT) (gs : List Int) (i : Int) : Int := if manyT T i then (ixG (gsAdd gs i) i : Int) else 0
def entT (T : PT) (q : List Bytes) (i : Int) (g : Int) : Ent := ⟨joinP q, (T.th i).kind, sizeT T q i, (T.th i).mt, (T.th i).target, [], g⟩
def entsT (T : PT) : List (List Bytes) → List Int → List Ent
  | [], _ => []
  | q :: r, gs => match T.at_ q with | none => entsT T r gs | some i => entT T q i (grp T gs i) :: entsT T r (gsX T gs i)
def gsT (T : PT) : List (List Bytes) → List Int → List Int
  | [], gs => gs
  | q :: r, gs => match T.at_ q with | none => gsT T r gs | some i => gsT T r (gsX T gs i)
/-- The list of all that is seen. -/
def walkT (T : PT) (L : List Rule) : List Ent := entsT T (visT T L 13 []) []

theorem entsT_append (T : PT) : ∀ (a b : List (List Bytes)) (gs : List Int), entsT T (a ++ b) gs = entsT T a gs ++ entsT T b (gsT T a gs)
  | [], _, _ => rfl
  | q :: a, b, gs => by
    simp only [List.cons_append, entsT, gsT]
    cases T.at_ q with
    | none => exact entsT_append T a b gs
    | some i => simp only [List.cons_append]; rw [entsT_append T a b]
theorem gsT_append (T : PT) : ∀ (a b : List (List Bytes)) (gs : List Int), gsT T (a ++ b) gs = gsT T b (gsT T a gs)
  | [], _, _ => rfl
  | q :: a, b, gs => by
    simp only [List.cons_append, gsT]
    cases T.at_ q with
    | none => exact gsT_append T a b gs
    | some i => exact gsT_append T a b _
theorem ixG_zero : ∀ {gs : List Int} {i : Int}, ixG gs i = 0 ↔ i ∉ gs
  | [], _ => by simp [ixG]
  | a :: r, i => by
    have ih := ixG_zero (gs := r) (i := i)
    simp only [ixG]
    by_cases e : a = i
    · rw [if_pos e]; simp [e]
    · rw [if_neg e]
      cases h : ixG r i with
      | zero =>
        rw [h] at ih
        refine ⟨fun _ hm => ?_, fun _ => rfl⟩
        rcases List.mem_cons.1 hm with hm | hm
        · exact e hm.symm
        · exact (ih.1 rfl) hm
      | succ k =>
        rw [h] at ih
        refine ⟨fun hh => (by simp at hh), fun hm => ?_⟩
        exact absurd (ih.2 fun h => hm (List.mem_cons_of_mem _ h)) (by omega)
theorem ixG_get : ∀ {gs : List Int} {i : Int} {k : Nat}, ixG gs i = k + 1 → gs[k]? = some i
  | [], _, _, h => by simp [ixG] at h
  | a :: r, i, k, h => by
    simp only [ixG] at h
    by_cases e : a = i
    · rw [if_pos e] at h; have : k = 0 := by omega
      subst this; simp [e]
    · rw [if_neg e] at h
      cases h2 : ixG r i with
      | zero => rw [h2] at h; cases h
      | succ j =>
        rw [h2] at h
        have : k = j + 1 := by simp only at h; omega
        subst this
        have := ixG_get h2
        simpa using this
theorem ixG_last : ∀ {gs : List Int} {i : Int}, i ∉ gs → ixG (gs ++ [i]) i = gs.length + 1
  | [], _, _ => by simp [ixG]
  | a :: r, i, h => by
    have h1 : a ≠ i := fun e => h (by simp [e])
    have h2 : i ∉ r := fun e => h (List.mem_cons_of_mem _ e)
    simp only [List.cons_append, ixG, if_neg h1, ixG_last h2, List.length_cons]
theorem gsX_len (T : PT) (gs : List Int) (i : Int) : (gsX T gs i).length ≤ gs.length + 1 := by
  unfold gsX gsAdd; split
  · split <;> simp
  · omega
theorem visT_mem {T : PT} {L : List Rule} : ∀ (n : Nat) {q p : List Bytes}, p ∈ visT T L n q → ∃ i, (p, i) ∈ T.L
  | 0, _, _, h => by cases h
  | n + 1, q, p, h => by
    simp only [visT, List.mem_flatMap] at h
    obtain ⟨x, hx, h⟩ := h
    split at h
    · cases h
    · rcases List.mem_cons.1 h with rfl | h
      · exact mem_kidsT.1 hx
      · split at h
        · exact visT_mem n h
        · cases h
theorem entsT_len {T : PT} {m : Nat} (hw : Wf T m) : ∀ (l : List (List Bytes)) (gs : List Int), (∀ p ∈ l, ∃ i, (p, i) ∈ T.L) → (entsT T l gs).length = l.length
  | [], _, _ => rfl
  | q :: l, gs, h => by
    obtain ⟨i, hi⟩ := h q (by simp)
    simp only [entsT, hw.at_iff.2 hi, List.length_cons]
    rw [entsT_len hw l _ fun p hp => h p (by simp [hp])]

/-! With a rule more, no more is seen. -/
theorem actR_more (l : List Rule) (r : Rule) (p : Bytes) (dir : Bool) (h : actR l p dir false = 2) : actR (l ++ [r]) p dir false = 2 := by
  induction l with
  | nil => simp [actR] at h
  | cons a l ih =>
    simp only [List.cons_append, actR] at h ⊢
    split
    · rename_i hc; rw [if_pos hc] at h; exact h
    · rename_i hc; rw [if_neg hc] at h; exact ih h
theorem hidR_more (l : List Rule) (r : Rule) : ∀ (n : Nat) (p : Bytes) (dir : Bool), hidR l p dir n = true → hidR (l ++ [r]) p dir n = true
  | 0, _, _, h => by simp [hidR] at h
  | n + 1, p, dir, h => by
    simp only [hidR] at h ⊢
    split
    · rename_i hp; rw [if_pos hp] at h; cases h
    · rename_i hp
      rw [if_neg hp] at h
      split
      · rfl
      · rename_i ha
        split at h
        · rename_i ha2; exact absurd (actR_more l r p dir ha2) ha
        · exact hidR_more l r n _ _ h
theorem hidT_more (T : PT) (l : List Rule) (r : Rule) (p : List Bytes) (h : hidT T l p = true) : hidT T (l ++ [r]) p = true := by
  unfold hidT hiddenR at h ⊢
  simp only [Bool.or_eq_true, Bool.and_eq_true, decide_eq_true_eq] at h ⊢
  rcases h with h | ⟨h1, h2⟩
  · exact .inl h
  · exact .inr ⟨h1, hidR_more l r _ _ _ h2⟩
theorem flatMap_sub {α β : Type} {f g : α → List β} : ∀ (l : List α), (∀ x ∈ l, (f x).Sublist (g x)) → (l.flatMap f).Sublist (l.flatMap g)
  | [], _ => .slnil
  | a :: l, h => by
    rw [List.flatMap_cons, List.flatMap_cons]
    exact (h a (by simp)).append (flatMap_sub l fun x hx => h x (by simp [hx]))
theorem visT_more (T : PT) (l : List Rule) (r : Rule) : ∀ (n : Nat) (q : List Bytes), (visT T (l ++ [r]) n q).Sublist (visT T l n q)
  | 0, _ => .slnil
  | n + 1, q => by
    simp only [visT]
    refine flatMap_sub _ fun x _ => ?_
    by_cases h : hidT T (l ++ [r]) (q ++ [x]) = true
    · rw [if_pos h]; exact List.nil_sublist _
    · have h' : ¬ hidT T l (q ++ [x]) = true := fun hh => h (hidT_more T l r _ hh)
      rw [if_neg h, if_neg h']
      refine .cons_cons _ ?_
      split
      · exact visT_more T l r n _
      · exact .slnil

/-! Without rules. -/
theorem hidR_nil : ∀ (n : Nat) (p : Bytes) (dir : Bool), hidR [] p dir n = false
  | 0, _, _ => rfl
  | n + 1, p, dir => by
    simp only [hidR]
    split
    · rfl
    · split
      · rename_i h; simp [actR] at h
      · exact hidR_nil n _ _
theorem hidT_nil (T : PT) (p : List Bytes) : hidT T [] p = decide (p = [homeB]) := by
  unfold hidT hiddenR; rw [hidR_nil]; simp
theorem visT_rel {T : PT} : ∀ (n : Nat) (q : List Bytes), q ≠ [] → visT T [] n q = (relT T n q).map (q ++ ·)
  | 0, _, _ => rfl
  | n + 1, q, hq => by
    simp only [visT, relT, List.map_flatMap]
    congr 1
    funext x
    have h : hidT T [] (q ++ [x]) = false := by
      rw [hidT_nil]
      have : q ++ [x] ≠ [homeB] := fun e => hq (by
        have := congrArg List.length e
        simp only [List.length_append, List.length_cons, List.length_nil] at this
        exact List.length_eq_zero_iff.1 (by omega))
      simpa using this
    rw [if_neg (by rw [h]; simp), List.map_cons]
    congr 1
    split
    · rw [visT_rel n _ (by simp), List.map_map]
      apply List.map_congr_left
      intro r _; simp
    · rfl
theorem vis_nil' (T : PT) (n : Nat) : visT T [] (n + 1) [] = (relT T (n + 1) []).filter fun r => !isPre [homeB] r := by
  simp only [visT, relT, List.filter_flatMap]
  congr 1
  funext x
  rw [List.nil_append]
  have pre : ∀ r, isPre [homeB] (x :: r) = decide (x = homeB) := fun r => by
    rw [Bool.eq_iff_iff, isPre_iff, decide_eq_true_eq]
    constructor
    · rintro ⟨s, hs⟩; injection hs
    · rintro rfl; exact ⟨r, rfl⟩
  rw [hidT_nil]
  by_cases hx : x = homeB
  · have h1 : decide ([x] = [homeB]) = true := by simp [hx]
    rw [if_pos h1]
    symm
    rw [List.filter_eq_nil_iff]
    intro r hr
    have : ∃ s, r = x :: s := by
      rcases List.mem_cons.1 hr with rfl | hr
      · exact ⟨[], rfl⟩
      · split at hr
        · obtain ⟨s, _, rfl⟩ := List.mem_map.1 hr; exact ⟨s, rfl⟩
        · cases hr
    obtain ⟨s, rfl⟩ := this
    rw [pre]; simp [hx]
  · have h1 : decide ([x] = [homeB]) = false := by simp [hx]
    rw [if_neg (by rw [h1]; simp)]
    symm
    rw [List.filter_cons, if_pos (by rw [pre]; simp [hx])]
    congr 1
    split
    · rw [visT_rel n _ (by simp), List.filter_eq_self.2]
      · rfl
      · intro r hr
        obtain ⟨s, _, rfl⟩ := List.mem_map.1 hr
        rw [pre]; simp [hx]
    · rfl
theorem vis_nil (T : PT) : visT T [] 13 [] = (relT T 13 []).filter fun r => !isPre [homeB] r := vis_nil' T 12
end Go.Proofs.YtkpefimnggojdaaGreat.VX
