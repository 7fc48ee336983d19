/-
  Plain: texts split at '/', and what a range over a string's bytes tells. No program here.
  Plain: patterns (chapter 14's), as the program reads them. No program here.
-/
import GoSem.Core.Utf8
import Derived.Laws.RangeAny
set_option linter.all false
namespace Go.Proofs.YtkpefimnggojdaaGreat.Pl
open Go

abbrev Bytes := List UInt8
/-- The parts of a text between '/'; one at least. -/
def spl : Bytes → List Bytes
  | [] => [[]]
  | c :: r => if c = 47 then [] :: spl r else match spl r with | h :: t => (c :: h) :: t | [] => [[c]]
def split (s : Bytes) : List Bytes := if s = [] then [] else spl s

theorem spl_ne (s : Bytes) : spl s ≠ [] := by
  cases s with
  | nil => simp [spl]
  | cons c r => unfold spl; split; simp; split <;> simp
theorem spl_plain : ∀ (a : Bytes), (∀ x ∈ a, x ≠ 47) → spl a = [a]
  | [], _ => rfl
  | c :: r, h => by
    have hc := h c (by simp)
    unfold spl
    rw [if_neg hc, spl_plain r fun x hx => h x (by simp [hx])]
theorem spl_cut : ∀ (a b : Bytes), (∀ x ∈ a, x ≠ 47) → spl (a ++ 47 :: b) = a :: spl b
  | [], b, _ => by simp [spl]
  | c :: r, b, h => by
    have hc := h c (by simp)
    rw [List.cons_append, spl, if_neg hc, spl_cut r b fun x hx => h x (by simp [hx])]
theorem spl_len (s : Bytes) : (spl s).length ≤ s.length + 1 := by
  induction s with
  | nil => simp [spl]
  | cons c r ih =>
    unfold spl
    split
    · simp; omega
    · split
      · rename_i h t he; rw [he] at ih; simp at ih ⊢; omega
      · simp
theorem split_len (s : Bytes) : (split s).length ≤ s.length + 1 := by
  unfold split
  split
  · simp
  · exact spl_len s

/-! What a range over a string tells of the place that it stands at. -/
theorem get_bang (l : Bytes) (k : Nat) (h : k < l.length) : (ByteArray.mk ⟨l⟩).get! k = l[k] := by
  simp [ByteArray.get!, h]

theorem decode_slash (l : Bytes) (p : Nat) (h : p < l.length) :
    1 ≤ (Utf8.decode ⟨⟨l⟩⟩ p).2 ∧ p + (Utf8.decode ⟨⟨l⟩⟩ p).2 ≤ l.length ∧ ((Utf8.decode ⟨⟨l⟩⟩ p).1 = 47 ↔ l[p] = 47) ∧ (l[p] = 47 → (Utf8.decode ⟨⟨l⟩⟩ p).2 = 1) ∧
    (∀ j x, p < j → j < p + (Utf8.decode ⟨⟨l⟩⟩ p).2 → l[j]? = some x → x ≠ 47) := by
  have e0 : ((ByteArray.mk ⟨l⟩).get! (p + 0)).toNat = l[p].toNat := by rw [Nat.add_zero, get_bang l p h]
  have ct : ∀ k, (decide (p + k < (ByteArray.mk ⟨l⟩).size) && ((ByteArray.mk ⟨l⟩).get! (p + k)).toNat / 64 == 2) = true → p + k < l.length ∧ ∀ x, l[p + k]? = some x → x ≠ 47 := by
    intro k hk
    simp only [Bool.and_eq_true, decide_eq_true_eq, beq_iff_eq] at hk
    obtain ⟨h1, h2⟩ := hk
    have h1' : p + k < l.length := h1
    refine ⟨h1', fun x hx => ?_⟩
    rw [get_bang l _ h1'] at h2
    rw [List.getElem?_eq_getElem h1'] at hx
    cases hx
    intro hh
    rw [hh] at h2
    simp at h2
  have e47 : (l[p] = 47) ↔ l[p].toNat = 47 := ⟨fun hh => by rw [hh]; rfl, fun hh => UInt8.toNat_inj.1 (by rw [hh]; rfl)⟩
  have one : ∀ (c : Nat), (c = 47 ↔ l[p] = 47) → 1 ≤ ((c, 1) : Nat × Nat).2 ∧ p + ((c, 1) : Nat × Nat).2 ≤ l.length ∧ (((c, 1) : Nat × Nat).1 = 47 ↔ l[p] = 47) ∧ (l[p] = 47 → ((c, 1) : Nat × Nat).2 = 1) ∧
      (∀ j x, p < j → j < p + ((c, 1) : Nat × Nat).2 → l[j]? = some x → x ≠ 47) := fun c hc => ⟨Nat.le_refl _, h, hc, fun _ => rfl, fun j x h1 h2 => by simp at h2; omega⟩
  unfold Utf8.decode
  simp only [e0]
  by_cases hb : l[p].toNat < 0x80
  · rw [if_pos hb]
    exact one _ ⟨fun hh => e47.2 hh, fun hh => e47.1 hh⟩
  · rw [if_neg hb]
    have hn : ¬ l[p] = 47 := fun hh => by rw [e47] at hh; omega
    have err : (Utf8.runeError = 47 ↔ l[p] = 47) := ⟨fun hh => by simp [Utf8.runeError] at hh, fun hh => absurd hh hn⟩
    have big : ∀ (c k : Nat), 128 ≤ c → 1 ≤ k → (∀ j, 1 ≤ j → j < k → p + j < l.length ∧ ∀ x, l[p + j]? = some x → x ≠ 47) →
        1 ≤ ((c, k) : Nat × Nat).2 ∧ p + ((c, k) : Nat × Nat).2 ≤ l.length ∧ (((c, k) : Nat × Nat).1 = 47 ↔ l[p] = 47) ∧ (l[p] = 47 → ((c, k) : Nat × Nat).2 = 1) ∧
        (∀ j x, p < j → j < p + ((c, k) : Nat × Nat).2 → l[j]? = some x → x ≠ 47) := by
      intro c k hc hk hj
      refine ⟨hk, ?_, ⟨fun hh => by simp only at hh; omega, fun hh => absurd hh hn⟩, fun hh => absurd hh hn, fun j x h1 h2 hx => ?_⟩
      · by_cases hk1 : k = 1
        · subst hk1; exact h
        · have := (hj (k - 1) (by omega) (by omega)).1; simp only; omega
      · simp only at h2
        have := (hj (j - p) (by omega) (by omega)).2
        rw [show p + (j - p) = j from by omega] at this
        exact this x hx
    split
    · rename_i hc
      simp only [Bool.and_eq_true] at hc
      have c1 := ct 1 (by simpa using hc.2)
      split
      · exact big _ 2 (by omega) (by omega) fun j h1 h2 => by obtain rfl : j = 1 := (by omega); exact c1
      · exact one _ err
    · split
      · rename_i hc
        simp only [Bool.and_eq_true] at hc
        have c1 := ct 1 (by simpa using hc.1.2)
        have c2 := ct 2 (by simpa using hc.2)
        split
        · rename_i hv
          simp only [Bool.and_eq_true, decide_eq_true_eq] at hv
          exact big _ 3 (by omega) (by omega) fun j h1 h2 => by
            rcases (show j = 1 ∨ j = 2 from by omega) with rfl | rfl
            · exact c1
            · exact c2
        · exact one _ err
      · split
        · rename_i hc
          simp only [Bool.and_eq_true] at hc
          have c1 := ct 1 (by simpa using hc.1.1.2)
          have c2 := ct 2 (by simpa using hc.1.2)
          have c3 := ct 3 (by simpa using hc.2)
          split
          · rename_i hv
            simp only [Bool.and_eq_true, decide_eq_true_eq] at hv
            exact big _ 4 (by omega) (by omega) fun j h1 h2 => by
              rcases (show j = 1 ∨ j = 2 ∨ j = 3 from by omega) with rfl | rfl | rfl
              · exact c1
              · exact c2
              · exact c3
          · exact one _ err
        · exact one _ err

/-- What stands ahead of the last '/', and behind it. -/
def baseP (s : Bytes) : Bytes := (s.reverse.takeWhile (· ≠ 47)).reverse
def parentP (s : Bytes) : Bytes := if 47 ∈ s then s.take (s.length - (baseP s).length - 1) else []
theorem takeWhile_all {α : Type} {p : α → Bool} : ∀ {l : List α}, (∀ x ∈ l, p x = true) → l.takeWhile p = l
  | [], _ => rfl
  | x :: l, h => by rw [List.takeWhile_cons, h x (by simp)]; simp; exact takeWhile_all fun y hy => h y (by simp [hy])
theorem baseP_plain {s : Bytes} (h : 47 ∉ s) : baseP s = s := by
  unfold baseP
  rw [takeWhile_all (fun x hx => by simp; intro e; subst e; exact h (by simpa using hx)), List.reverse_reverse]
theorem baseP_cut {a b : Bytes} (h : 47 ∉ b) : baseP (a ++ 47 :: b) = b := by
  unfold baseP
  rw [List.reverse_append, List.reverse_cons, List.append_assoc]
  rw [List.takeWhile_append_of_pos (fun x hx => by simp; intro e; subst e; exact h (by simpa using hx))]
  simp
theorem parentP_plain {s : Bytes} (h : 47 ∉ s) : parentP s = [] := by simp [parentP, h]
theorem parentP_cut {a b : Bytes} (h : 47 ∉ b) : parentP (a ++ 47 :: b) = a := by
  unfold parentP
  rw [if_pos (by simp), baseP_cut h]
  simp only [List.length_append, List.length_cons]
  rw [show a.length + (b.length + 1) - b.length - 1 = a.length from by omega, List.take_left]
/-- Every text is one part, or ends in one behind a '/'. -/
theorem last_cases (s : Bytes) : 47 ∉ s ∨ ∃ a b, s = a ++ 47 :: b ∧ 47 ∉ b := by
  by_cases h : 47 ∈ s
  · right
    have h' : 47 ∈ s.reverse := by simpa using h
    have : ∃ p q, s.reverse = p ++ 47 :: q ∧ 47 ∉ p := by
      generalize s.reverse = r at h'
      induction r with
      | nil => simp at h'
      | cons c r ih =>
        by_cases hc : c = 47
        · subst hc; exact ⟨[], r, rfl, by simp⟩
        · have : 47 ∈ r := by rcases List.mem_cons.1 h' with e | e; exact absurd e.symm hc; exact e
          obtain ⟨p, q, he, hp⟩ := ih this
          exact ⟨c :: p, q, by rw [he]; rfl, by simp; exact ⟨fun e => hc e.symm, hp⟩⟩
    obtain ⟨p, q, he, hp⟩ := this
    refine ⟨q.reverse, p.reverse, ?_, by simpa using hp⟩
    have := congrArg List.reverse he
    simpa using this
  · exact .inl h

/-- May a text be a part of a path, and may it be a path? -/
def partB (s : Bytes) : Bool := !(s == []) && decide (s.length ≤ 48) && !(s == [46]) && !(s == [46, 46]) && !decide (0 ∈ s)
def rightB (p : Bytes) : Bool := (split p).all partB && decide ((split p).length ≤ 12) && decide (p.length ≤ 200)
def isPre (m l : List Bytes) : Bool := decide (m.length ≤ l.length) && decide (l.take m.length = m)
def underB (p top : Bytes) : Bool := isPre (split top) (split p)

end Go.Proofs.YtkpefimnggojdaaGreat.Pl

namespace Go.Proofs.YtkpefimnggojdaaGreat.Pl
abbrev Bytes' := List UInt8

/-- A sign: 0 itself, 1 whatever, 2 some, 3 one, 4 a class. -/
structure Sign where
  kind : Nat
  c : UInt8
  neg : Bool
  set : UInt8 → Bool
def sign0 : Sign := ⟨0, 0, false, fun _ => false⟩

def memberS : Bytes' → Option (UInt8 × Bytes')
  | [] => none
  | c :: r => if c = 92 then (match r with | [] => none | d :: r' => some (d, r')) else some (c, r)
theorem memberS_lt {r r' : Bytes'} {c : UInt8} (h : memberS r = some (c, r')) : r'.length < r.length := by
  cases r with
  | nil => cases h
  | cons a r =>
    simp only [memberS] at h
    by_cases ha : a = 92
    · rw [if_pos ha] at h
      cases r with
      | nil => cases h
      | cons d r => cases h; simp; omega
    · rw [if_neg ha] at h; cases h; simp
def fillS (set : UInt8 → Bool) (lo : Nat) (n : Nat) : UInt8 → Bool := fun j => set j || (decide (lo ≤ j.toNat) && decide (j.toNat < n))
/-- Does a range follow? What stands behind the '-'. -/
def rangeS : Bytes' → Option Bytes'
  | a :: b :: r => if a = 45 ∧ b ≠ 93 then some (b :: r) else none
  | _ => none
theorem rangeS_lt {r r' : Bytes'} (h : rangeS r = some r') : r'.length < r.length := by
  unfold rangeS at h
  split at h
  · split at h
    · cases h; simp
    · cases h
  · cases h
/-- The members of a class, up to ']'. -/
def classS (r : Bytes') (set : UInt8 → Bool) : Option ((UInt8 → Bool) × Bytes') :=
  match r with
  | [] => none
  | a :: r0 =>
    if a = 93 then some (set, r0)
    else match h1 : memberS (a :: r0) with
      | none => none
      | some (lo, r1) => match h2 : rangeS r1 with
        | none => classS r1 (fillS set lo.toNat (lo.toNat + 1))
        | some r2 => match h3 : memberS r2 with
          | none => none
          | some (hi, r3) => if hi < lo then none else classS r3 (fillS set lo.toNat (hi.toNat + 1))
termination_by r.length
decreasing_by
  · exact memberS_lt h1
  · exact Nat.lt_trans (memberS_lt h3) (Nat.lt_trans (rangeS_lt h2) (memberS_lt h1))
theorem classS_nil (set : UInt8 → Bool) : classS [] set = none := by rw [classS]
theorem classS_end (r : Bytes') (set : UInt8 → Bool) : classS (93 :: r) set = some (set, r) := by rw [classS]; simp
theorem classS_step {a : UInt8} {r0 : Bytes'} (set : UInt8 → Bool) (h : a ≠ 93) : classS (a :: r0) set =
    match memberS (a :: r0) with
      | none => none
      | some (lo, r1) => match rangeS r1 with
        | none => classS r1 (fillS set lo.toNat (lo.toNat + 1))
        | some r2 => match memberS r2 with
          | none => none
          | some (hi, r3) => if hi < lo then none else classS r3 (fillS set lo.toNat (hi.toNat + 1)) := by
  rw [classS]
  simp only [if_neg h]
  split <;> simp only [*] <;> try rfl
  split <;> simp only [*] <;> try rfl
  split <;> simp only [*]
theorem classS_lt : ∀ (n : Nat) (r : Bytes') (set s' : UInt8 → Bool) (r' : Bytes'), r.length ≤ n → classS r set = some (s', r') → r'.length < r.length := by
  intro n
  induction n with
  | zero =>
    intro r set s' r' hl h
    have : r = [] := List.length_eq_zero_iff.1 (by omega)
    subst this; rw [classS_nil] at h; cases h
  | succ n ih =>
    intro r set s' r' hl h
    cases r with
    | nil => rw [classS_nil] at h; cases h
    | cons a r0 =>
      by_cases ha : a = 93
      · subst ha; rw [classS_end] at h; cases h; simp
      · rw [classS_step set ha] at h
        cases h1 : memberS (a :: r0) with
        | none => rw [h1] at h; cases h
        | some x =>
          obtain ⟨lo, r1⟩ := x
          have l1 := memberS_lt h1
          rw [h1] at h
          simp only at h
          cases h2 : rangeS r1 with
          | none => rw [h2] at h; have := ih r1 _ s' r' (by simp at l1 hl; omega) h; omega
          | some r2 =>
            have l2 := rangeS_lt h2
            rw [h2] at h
            simp only at h
            cases h3 : memberS r2 with
            | none => rw [h3] at h; cases h
            | some y =>
              obtain ⟨hi, r3⟩ := y
              have l3 := memberS_lt h3
              rw [h3] at h
              simp only at h
              split at h
              · cases h
              · have := ih r3 _ s' r' (by simp at l1 hl; omega) h; omega
/-- A class behind its '['. -/
def classAtS (r : Bytes') : Option (Sign × Bytes') :=
  let (neg, r1) := match r with | 33 :: r1 => (true, r1) | _ => (false, r)
  match r1 with
  | 93 :: _ => none
  | _ => (classS r1 fun _ => false).map fun (set, r2) => (⟨4, 0, neg, set⟩, r2)
theorem classAtS_lt {r r' : Bytes'} {s : Sign} (h : classAtS r = some (s, r')) : r'.length < r.length := by
  unfold classAtS at h
  obtain ⟨neg, r1, he, hl⟩ : ∃ neg r1, (match r with | 33 :: r1 => (true, r1) | _ => (false, r)) = (neg, r1) ∧ r1.length ≤ r.length := by
    split
    · exact ⟨_, _, rfl, by simp⟩
    · exact ⟨_, _, rfl, Nat.le_refl _⟩
  rw [he] at h
  simp only at h
  split at h
  · cases h
  · cases hc : classS r1 fun _ => false with
    | none => rw [hc] at h; cases h
    | some x =>
      rw [hc] at h
      obtain ⟨set, r2⟩ := x
      simp only [Option.map_some, Option.some.injEq, Prod.mk.injEq] at h
      obtain ⟨-, rfl⟩ := h
      have := classS_lt _ _ _ _ _ (Nat.le_refl _) hc
      omega
def stars : Bytes' → Bytes' | 42 :: r => stars r | r => r
theorem stars_le : ∀ r : Bytes', (stars r).length ≤ r.length
  | [] => by simp [stars]
  | c :: r => by
    unfold stars
    split
    · rename_i h; cases h; have := stars_le r; simp; omega
    · exact Nat.le_refl _
/-- The signs of a pattern. -/
def signsS (r : Bytes') : Option (List Sign) :=
  match r with
  | [] => some []
  | a :: r0 =>
    if a = 42 then (signsS (stars r0)).map fun l => { sign0 with kind := if (stars r0).length = r0.length then 2 else 1 } :: l
    else if a = 63 then (signsS r0).map fun l => { sign0 with kind := 3 } :: l
    else if a = 91 then (match h : classAtS r0 with | none => none | some (s, r1) => (signsS r1).map fun l => s :: l)
    else if a = 92 then (match r0 with | [] => none | c :: r1 => (signsS r1).map fun l => { sign0 with c := c } :: l)
    else (signsS r0).map fun l => { sign0 with c := a } :: l
termination_by r.length
decreasing_by
  · have := stars_le r0; simp; omega
  · simp
  · have := classAtS_lt h; simp; omega
  · simp; omega
  · simp
theorem signsS_nil : signsS [] = some [] := by rw [signsS]
theorem signsS_cons (a : UInt8) (r0 : Bytes') : signsS (a :: r0) =
    if a = 42 then (signsS (stars r0)).map fun l => { sign0 with kind := if (stars r0).length = r0.length then 2 else 1 } :: l
    else if a = 63 then (signsS r0).map fun l => { sign0 with kind := 3 } :: l
    else if a = 91 then (match classAtS r0 with | none => none | some (s, r1) => (signsS r1).map fun l => s :: l)
    else if a = 92 then (match r0 with | [] => none | c :: r1 => (signsS r1).map fun l => { sign0 with c := c } :: l)
    else (signsS r0).map fun l => { sign0 with c := a } :: l := by
  rw [signsS.eq_def]
  simp only
  by_cases h1 : a = 42
  · rw [if_pos h1, if_pos h1]
  · rw [if_neg h1, if_neg h1]
    by_cases h2 : a = 63
    · rw [if_pos h2, if_pos h2]
    · rw [if_neg h2, if_neg h2]
      by_cases h3 : a = 91
      · rw [if_pos h3, if_pos h3]
        split <;> simp only [*]
      · rw [if_neg h3, if_neg h3]
        by_cases h4 : a = 92
        · rw [if_pos h4, if_pos h4]
          cases r0 <;> rfl
        · rw [if_neg h4, if_neg h4]
theorem signsS_len : ∀ (n : Nat) (r : Bytes') (l : List Sign), r.length ≤ n → signsS r = some l → l.length ≤ r.length := by
  intro n
  induction n with
  | zero =>
    intro r l hl h
    have : r = [] := List.length_eq_zero_iff.1 (by omega)
    subst this; rw [signsS_nil] at h; cases h; simp
  | succ n ih =>
    intro r l hl h
    cases r with
    | nil => rw [signsS_nil] at h; cases h; simp
    | cons a r0 =>
      have key : ∀ (r' : Bytes') (s : Sign), r'.length ≤ r0.length → (signsS r').map (fun l => s :: l) = some l → l.length ≤ (a :: r0).length := by
        intro r' s hr hh
        cases hs : signsS r' with
        | none => rw [hs] at hh; cases hh
        | some l' =>
          rw [hs] at hh
          simp only [Option.map_some, Option.some.injEq] at hh
          subst hh
          have := ih r' l' (by simp at hl; omega) hs
          simp; omega
      rw [signsS_cons] at h
      split at h
      · exact key _ _ (stars_le r0) h
      · split at h
        · exact key _ _ (Nat.le_refl _) h
        · split at h
          · split at h
            · cases h
            · rename_i s r1 hc; exact key _ _ (by have := classAtS_lt hc; omega) h
          · split at h
            · split at h
              · cases h
              · exact key _ _ (by simp) h
            · exact key _ _ (Nat.le_refl _) h
/-- Is a text a pattern? -/
def patS (p : Bytes') : Option (List Sign) := if p.length ≤ 100 then signsS p else none

def takesS (s : Sign) (c : UInt8) : Bool :=
  if s.kind = 0 then c == s.c else if s.kind = 1 then true else if s.kind = 4 then !(c == 47) && (s.set c != s.neg) else !(c == 47)
def looseS (s : Sign) : Bool := s.kind == 1 || s.kind == 2
/-- Signs that may match no bytes are passed over. -/
def emptyS : List Sign → List Bool → List Bool
  | s :: l, a :: b :: r => a :: emptyS l ((b || (a && looseS s)) :: r)
  | _, r => r
def stepS (c : UInt8) : List Sign → List Bool → Bool → List Bool
  | s :: l, a :: r, cy => (cy || (a && takesS s c && looseS s)) :: stepS c l r (a && takesS s c && !looseS s)
  | _, _, cy => [cy]
def runS (l : List Sign) : Bytes' → List Bool → List Bool
  | [], r => r
  | c :: s, r => runS l s (emptyS l (stepS c l r false))
def matchS (p s : Bytes') : Bool :=
  match patS p with
  | none => false
  | some l => (runS l s (emptyS l (true :: List.replicate l.length false))).getD l.length false
theorem emptyS_len : ∀ (l : List Sign) (r : List Bool), (emptyS l r).length = r.length
  | [], r => rfl
  | s :: l, [] => rfl
  | s :: l, [a] => rfl
  | s :: l, a :: b :: r => by simp [emptyS, emptyS_len l]
theorem stepS_len (c : UInt8) : ∀ (l : List Sign) (r : List Bool) (cy : Bool), l.length < r.length → (stepS c l r cy).length = l.length + 1
  | [], r, cy, h => by cases r <;> rfl
  | s :: l, [], cy, h => by simp at h
  | s :: l, a :: r, cy, h => by simp [stepS, stepS_len c l r _ (by simpa using h)]

end Go.Proofs.YtkpefimnggojdaaGreat.Pl
