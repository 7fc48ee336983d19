/-
  Plain trees: names in the order in which they came, things by number; paths as parts and as texts. No program here.
-/
import Derived.Test.YtkpefimnggojdaaGreatPt
set_option linter.all false
namespace Go.Proofs.YtkpefimnggojdaaGreat.VX
open Go Pl

/-! Paths: texts and parts. -/
def joinP : List Bytes → Bytes
  | [] => []
  | [x] => x
  | x :: y :: r => x ++ 47 :: joinP (y :: r)
def okPart (s : Bytes) : Bool := partB s && !decide (47 ∈ s)
def RightL (q : List Bytes) : Bool := q.all okPart && decide (q.length ≤ 12) && decide ((joinP q).length ≤ 200)

theorem joinP_cons (x : Bytes) {q : List Bytes} (h : q ≠ []) : joinP (x :: q) = x ++ 47 :: joinP q := by
  cases q with
  | nil => exact absurd rfl h
  | cons y r => rfl
theorem joinP_snoc : ∀ {q : List Bytes} (x : Bytes), q ≠ [] → joinP (q ++ [x]) = joinP q ++ 47 :: x
  | [], x, h => absurd rfl h
  | [y], x, _ => rfl
  | y :: z :: r, x, _ => by
    rw [List.cons_append, joinP_cons y (by simp), joinP_cons y (by simp), joinP_snoc x (by simp)]
    simp
theorem spl_join : ∀ {q : List Bytes}, q ≠ [] → (∀ s ∈ q, 47 ∉ s) → spl (joinP q) = q
  | [], h, _ => absurd rfl h
  | [x], _, h => by
    have hx := h x (by simp)
    exact spl_plain x fun y hy e => hx (e ▸ hy)
  | x :: y :: r, _, h => by
    have hx := h x (by simp)
    rw [joinP_cons x (by simp), spl_cut x _ fun y hy e => hx (e ▸ hy), spl_join (by simp) fun s hs => h s (by simp [hs])]
theorem join_spl : ∀ s : Bytes, joinP (spl s) = s
  | [] => rfl
  | c :: r => by
    have ih := join_spl r
    rw [spl]
    by_cases hc : c = 47
    · rw [if_pos hc, joinP_cons _ (spl_ne r), ih, hc]; rfl
    · rw [if_neg hc]
      cases hs : spl r with
      | nil => exact absurd hs (spl_ne r)
      | cons h t =>
        rw [hs] at ih
        cases t with
        | nil => simp only [joinP] at ih ⊢; rw [ih]
        | cons y t =>
          rw [joinP_cons _ (by simp)] at ih
          show joinP ((c :: h) :: y :: t) = _
          rw [joinP_cons _ (by simp), List.cons_append, ih]
theorem join_split (s : Bytes) : joinP (split s) = s := by
  unfold split
  split
  · rename_i h; rw [h]; rfl
  · exact join_spl s
theorem joinP_ne {q : List Bytes} (h : q ≠ []) (h0 : ∀ s ∈ q, s ≠ []) : joinP q ≠ [] := by
  cases q with
  | nil => exact absurd rfl h
  | cons x r =>
    have hx := h0 x (by simp)
    by_cases hr : r = []
    · subst hr; exact hx
    · rw [joinP_cons x hr]; simp
theorem okPart_iff {s : Bytes} : okPart s = true ↔ partB s = true ∧ 47 ∉ s := by simp [okPart]
theorem partB_ne {s : Bytes} (h : partB s = true) : s ≠ [] := by intro e; subst e; simp [partB] at h
theorem RightL_iff {q : List Bytes} : RightL q = true ↔ (∀ s ∈ q, okPart s = true) ∧ q.length ≤ 12 ∧ (joinP q).length ≤ 200 := by
  simp [RightL, and_assoc]
theorem RightL_ne {q : List Bytes} (h : RightL q = true) : ∀ s ∈ q, s ≠ [] := fun s hs => partB_ne (okPart_iff.1 ((RightL_iff.1 h).1 s hs)).1
theorem RightL_no {q : List Bytes} (h : RightL q = true) : ∀ s ∈ q, 47 ∉ s := fun s hs => (okPart_iff.1 ((RightL_iff.1 h).1 s hs)).2
theorem split_join {q : List Bytes} (h : RightL q = true) : split (joinP q) = q := by
  by_cases hq : q = []
  · subst hq; rfl
  · unfold split
    rw [if_neg (joinP_ne hq (RightL_ne h)), spl_join hq (RightL_no h)]
theorem spl_no : ∀ (s : Bytes), ∀ x ∈ spl s, 47 ∉ x
  | [] => by simp [spl]
  | c :: r => by
    have ih := spl_no r
    rw [spl]
    by_cases hc : c = 47
    · rw [if_pos hc]
      intro x hx
      rcases List.mem_cons.1 hx with rfl | hx
      · simp
      · exact ih x hx
    · rw [if_neg hc]
      cases hs : spl r with
      | nil => exact absurd hs (spl_ne r)
      | cons h t =>
        rw [hs] at ih
        intro x hx
        rcases List.mem_cons.1 hx with rfl | hx
        · intro hh
          rcases List.mem_cons.1 hh with e | e
          · exact hc e.symm
          · exact ih h (by simp) e
        · exact ih x (by simp [hx])
theorem split_no (s : Bytes) : ∀ x ∈ split s, 47 ∉ x := by
  unfold split
  split
  · simp
  · exact spl_no s
theorem rightB_split {p : Bytes} : rightB p = RightL (split p) := by
  have e : (split p).all okPart = (split p).all partB := by
    rw [Bool.eq_iff_iff, List.all_eq_true, List.all_eq_true]
    exact ⟨fun h x hx => (okPart_iff.1 (h x hx)).1, fun h x hx => okPart_iff.2 ⟨h x hx, split_no p x hx⟩⟩
  unfold RightL rightB
  rw [join_split, e]
theorem rightB_join {q : List Bytes} (h : RightL q = true) : rightB (joinP q) = true := by rw [rightB_split, split_join h]; exact h
theorem RightL_snoc {q : List Bytes} {x : Bytes} (h : RightL (q ++ [x]) = true) : RightL q = true := by
  rw [RightL_iff] at h ⊢
  obtain ⟨h1, h2, h3⟩ := h
  refine ⟨fun s hs => h1 s (by simp [hs]), by simp at h2; omega, ?_⟩
  by_cases hq : q = []
  · subst hq; simp [joinP]
  · rw [joinP_snoc x hq] at h3; simp at h3; omega
theorem baseP_join {q : List Bytes} {x : Bytes} (h : 47 ∉ x) : baseP (joinP (q ++ [x])) = x := by
  by_cases hq : q = []
  · subst hq; exact baseP_plain h
  · rw [joinP_snoc x hq, baseP_cut h]
theorem parentP_join {q : List Bytes} {x : Bytes} (h : 47 ∉ x) : parentP (joinP (q ++ [x])) = joinP q := by
  by_cases hq : q = []
  · subst hq; rw [List.nil_append]; exact parentP_plain h
  · rw [joinP_snoc x hq, parentP_cut h]
theorem joinP_inj {p q : List Bytes} (hp : RightL p = true) (hq : RightL q = true) (h : joinP p = joinP q) : p = q := by
  rw [← split_join hp, h, split_join hq]

/-! Trees. -/
structure Th where
  kind : Nat
  mt : Meta
  target : Bytes
  data : Bytes
structure PT where
  L : List (List Bytes × Int)
  th : Int → Th
  next : Int
def look1 : List (List Bytes × Int) → List Bytes → Option Int
  | [], _ => none
  | (p, i) :: r, q => if p = q then some i else look1 r q
def PT.at_ (T : PT) (q : List Bytes) : Option Int := look1 T.L q
def upI (f : Int → Th) (i : Int) (x : Th) : Int → Th := fun k => if k = i then x else f k
def newT : PT := ⟨[([], 1)], fun _ => ⟨2, ⟨493, 0, 0, 0, 0⟩, [], []⟩, 2⟩

def lookT (T : PT) (p : Bytes) : Option Int × Int :=
  if rightB p = false then (none, 9) else if p = [] then (T.at_ [], 0)
  else match T.at_ (split (parentP p)) with
    | none => (none, 10)
    | some d => if (T.th d).kind ≠ 2 then (none, 12) else (T.at_ (split p), 0)
def thereT (T : PT) (p : Bytes) : Option Int × Int := if (lookT T p).2 = 0 ∧ (lookT T p).1 = none then (none, 10) else lookT T p
def freshT (T : PT) (p : Bytes) : Int := if (lookT T p).2 = 0 ∧ (lookT T p).1 ≠ none then 11 else (lookT T p).2
def fileT (x : Th) : Int := if x.kind = 2 then 13 else if x.kind = 3 then 17 else 0
def mayT (p : Bytes) (m : Meta) : Int := if rightB p = false then 9 else if ckM m ≠ 0 then 2 else 0
def makeT (T : PT) (p : Bytes) (x : Th) : PT := ⟨T.L ++ [(split p, T.next)], upI T.th T.next x, T.next + 1⟩

def mkdirE' (T : PT) (p : Bytes) (m : Meta) : Int := if mayT p m ≠ 0 then mayT p m else freshT T p
def mkdirT (T : PT) (p : Bytes) (m : Meta) : PT × Int := if mkdirE' T p m = 0 then (makeT T p ⟨2, m, [], []⟩, 0) else (T, mkdirE' T p m)
def symE' (T : PT) (p target : Bytes) (m : Meta) : Int := if mayT p m ≠ 0 then mayT p m else if target = [] then 2 else if 200 < target.length then 7 else freshT T p
def symT (T : PT) (p target : Bytes) (m : Meta) : PT × Int := if symE' T p target m = 0 then (makeT T p ⟨3, m, target, []⟩, 0) else (T, symE' T p target m)
def writeE' (T : PT) (p : Bytes) (n : Nat) (m : Meta) : Int :=
  if mayT p m ≠ 0 then mayT p m else if 65536 < n then 7 else if (lookT T p).2 ≠ 0 then (lookT T p).2
  else match (lookT T p).1 with | none => 0 | some i => fileT (T.th i)
def writeT (T : PT) (p : Bytes) (b : Bytes) (m : Meta) : PT × Int :=
  if writeE' T p b.length m = 0 then
    (match (lookT T p).1 with
    | none => (makeT T p ⟨1, m, [], b⟩, 0)
    | some i => (⟨T.L, upI T.th i { T.th i with data := b, mt := m }, T.next⟩, 0))
  else (T, writeE' T p b.length m)
def appE' (T : PT) (p : Bytes) (n : Nat) : Int :=
  if (thereT T p).2 ≠ 0 then (thereT T p).2
  else match (thereT T p).1 with | none => 0 | some i => if fileT (T.th i) ≠ 0 then fileT (T.th i) else if 65536 < (T.th i).data.length + n then 7 else 0
def appT (T : PT) (p : Bytes) (b : Bytes) : PT × Int :=
  if appE' T p b.length = 0 then
    (match (thereT T p).1 with
    | none => (T, 0)
    | some i => (⟨T.L, upI T.th i { T.th i with data := (T.th i).data ++ b }, T.next⟩, 0))
  else (T, appE' T p b.length)
def linkE' (T : PT) (old p : Bytes) : Int :=
  if rightB old = false ∨ rightB p = false then 9 else if (thereT T old).2 ≠ 0 then (thereT T old).2
  else match (thereT T old).1 with | none => 0 | some i => if fileT (T.th i) ≠ 0 then fileT (T.th i) else freshT T p
def linkT (T : PT) (old p : Bytes) : PT × Int :=
  if linkE' T old p = 0 then
    (match (thereT T old).1 with
    | none => (T, 0)
    | some i => (⟨T.L ++ [(split p, i)], T.th, T.next⟩, 0))
  else (T, linkE' T old p)
def setE' (T : PT) (p : Bytes) (m : Meta) : Int := if mayT p m ≠ 0 then mayT p m else (thereT T p).2
def setT (T : PT) (p : Bytes) (m : Meta) : PT × Int :=
  if setE' T p m = 0 then
    (match (thereT T p).1 with
    | none => (T, 0)
    | some i => (⟨T.L, upI T.th i { T.th i with mt := m }, T.next⟩, 0))
  else (T, setE' T p m)
/-- Is p right below q? -/
def childOf (q p : List Bytes) : Bool := !decide (p = []) && decide (p.dropLast = q)
def hasKid (T : PT) (q : List Bytes) : Bool := T.L.any fun x => childOf q x.1
def cutName (L : List (List Bytes × Int)) (q : List Bytes) : List (List Bytes × Int) := L.filter fun x => !decide (x.1 = q)
def remE' (T : PT) (p : Bytes) : Int :=
  if rightB p = false then 9 else if p = [] then 2 else if (thereT T p).2 ≠ 0 then (thereT T p).2 else if hasKid T (split p) then 14 else 0
def remT (T : PT) (p : Bytes) : PT × Int := if remE' T p = 0 then (⟨cutName T.L (split p), T.th, T.next⟩, 0) else (T, remE' T p)
/-- A path of what stands at, or below, one path, elsewhere. -/
def moveL (old q x : List Bytes) : List Bytes := if isPre old x then q ++ x.drop old.length else x
def fitsT (T : PT) (old q : List Bytes) : Bool := T.L.all fun x => RightL (moveL old q x.1)
def renE' (T : PT) (old p : Bytes) : Int :=
  if rightB old = false ∨ rightB p = false then 9 else if old = [] ∨ p = [] then 2 else if (thereT T old).2 ≠ 0 then (thereT T old).2
  else match (thereT T old).1 with
  | none => 0
  | some i =>
    if (T.th i).kind = 2 ∧ p ≠ old ∧ underB p old = true then 2 else if (lookT T p).2 ≠ 0 then (lookT T p).2
    else if (T.th i).kind = 2 then (if (lookT T p).1 ≠ none then 11 else if fitsT T (split old) (split p) then 0 else 7)
    else match (lookT T p).1 with | some j => if (T.th j).kind = 2 then 13 else 0 | none => 0
def renT (T : PT) (old p : Bytes) : PT × Int :=
  if renE' T old p = 0 then
    (match (thereT T old).1 with
    | none => (T, 0)
    | some i =>
      if (T.th i).kind = 2 then (⟨T.L.map fun x => (moveL (split old) (split p) x.1, x.2), T.th, T.next⟩, 0)
      else if (lookT T p).1 = some i then (T, 0)
      else (⟨(cutName T.L (split p)).map fun x => (if x.1 = split old then split p else x.1, x.2), T.th, T.next⟩, 0))
  else (T, renE' T old p)

/-- A call on a tree. -/
structure Deed where
  act : Int
  path : Bytes
  to : Bytes
  data : Bytes
  mt : Meta
def doT (T : PT) (a : Deed) : PT × Int :=
  if a.act = 0 then mkdirT T a.path a.mt else if a.act = 1 then writeT T a.path a.data a.mt else if a.act = 2 then symT T a.path a.to a.mt
  else if a.act = 3 then linkT T a.path a.to else if a.act = 4 then remT T a.path else if a.act = 5 then renT T a.path a.to
  else if a.act = 6 then setT T a.path a.mt else if a.act = 7 then appT T a.path a.data else (T, 0)
def buildT (l : List Deed) : PT := l.foldl (fun T a => (doT T a).1) newT
end Go.Proofs.YtkpefimnggojdaaGreat.VX
