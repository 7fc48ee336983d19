/-
  VX, part j: words and laws for proofs over printed functions: worlds that grow, what a word of VX comes to, slices.
-/
import Derived.Test.YtkpefimnggojdaaGreatVh
import Derived.IntWalk
set_option linter.all false
namespace Go.Proofs.YtkpefimnggojdaaGreat.VX
open Go
variable {P : Program}

theorem jn_dup {rest : List Value → List Value → World → Prop} {body : (List Value → World → Prop) → Prop} (h : body fun g w => ∀ z, rest g z w) : jn rest body :=
  ⟨_, fun g z w hj => hj z, h⟩

/-! Worlds. -/
def setB (w : World) (b : Nat) (o : Obj) : World := { w with heap := w.heap.setIfInBounds b o }
/-- From w to w' nothing has turned but blocks of M, and new ones. -/
structure Upd (M : Nat → Prop) (w w' : World) : Prop where
  os : w'.os = w.os
  tape : w'.tape = w.tape
  output : w'.output = w.output
  size : w.heap.size ≤ w'.heap.size
  block : ∀ k, k < w.heap.size → ¬ M k → w'.heap[k]? = w.heap[k]?
abbrev Ext (w w' : World) : Prop := Upd (fun _ => False) w w'

theorem Upd.refl (M : Nat → Prop) (w : World) : Upd M w w := ⟨rfl, rfl, rfl, Nat.le_refl _, fun _ _ _ => rfl⟩
theorem Upd.mono {M M' : Nat → Prop} {w w' : World} (h : Upd M w w') (hm : ∀ k, k < w.heap.size → M k → M' k) : Upd M' w w' :=
  ⟨h.os, h.tape, h.output, h.size, fun k hk hn => h.block k hk fun hh => hn (hm k hk hh)⟩
theorem Upd.trans {M M' : Nat → Prop} {a b c : World} (h : Upd M a b) (h' : Upd M' b c) (hm : ∀ k, k < a.heap.size → M' k → M k) : Upd M a c :=
  ⟨h'.os.trans h.os, h'.tape.trans h.tape, h'.output.trans h.output, Nat.le_trans h.size h'.size,
    fun k hk hn => (h'.block k (Nat.lt_of_lt_of_le hk h.size) fun hh => hn (hm k hk hh)).trans (h.block k hk hn)⟩
theorem Ext.trans {M : Nat → Prop} {a b c : World} (h : Upd M a b) (h' : Ext b c) : Upd M a c := Upd.trans h h' fun _ _ hf => hf.elim
theorem Ext.to {M : Nat → Prop} {a b : World} (h : Ext a b) : Upd M a b := h.mono fun _ _ hf => hf.elim
theorem Upd.get {M : Nat → Prop} {w w' : World} {b : Nat} {o : Obj} (h : Upd M w w') (hb : w.heap[b]? = some o) (hn : ¬ M b) : w'.heap[b]? = some o := by
  have : b < w.heap.size := by
    by_cases hlt : b < w.heap.size
    · exact hlt
    · rw [Array.getElem?_eq_none (by omega)] at hb; cases hb
  rw [h.block b this hn, hb]
theorem Ext.get {w w' : World} {b : Nat} {o : Obj} (h : Ext w w') (hb : w.heap[b]? = some o) : w'.heap[b]? = some o := Upd.get h hb (fun hf => hf)
theorem lt_of_blk {w : World} {b : Nat} {o : Obj} (hb : w.heap[b]? = some o) : b < w.heap.size := by
  by_cases hlt : b < w.heap.size
  · exact hlt
  · rw [Array.getElem?_eq_none (by omega)] at hb; cases hb

theorem alloc_size (w : World) (o : Obj) : (w.alloc o).heap.size = w.heap.size + 1 := Array.size_push _
theorem alloc_new (w : World) (o : Obj) : (w.alloc o).heap[w.heap.size]? = some o := by show (w.heap.push o)[w.heap.size]? = some o; simp
theorem alloc_old (w : World) (o : Obj) {b : Nat} (h : b < w.heap.size) : (w.alloc o).heap[b]? = w.heap[b]? := by
  show (w.heap.push o)[b]? = _; rw [Array.getElem?_push, if_neg (by omega)]
theorem alloc_upd (M : Nat → Prop) (w : World) (o : Obj) : Upd M w (w.alloc o) := ⟨rfl, rfl, rfl, by rw [alloc_size]; omega, fun k hk _ => alloc_old w o hk⟩
theorem alloc_ext (w : World) (o : Obj) : Ext w (w.alloc o) := alloc_upd _ w o
theorem setB_size (w : World) (b : Nat) (o : Obj) : (setB w b o).heap.size = w.heap.size := by simp [setB]
theorem setB_new {w : World} {b : Nat} {o o' : Obj} (h : w.heap[b]? = some o') : (setB w b o).heap[b]? = some o := by
  have := lt_of_blk h
  simp [setB, this]
theorem setB_old {w : World} {b b' : Nat} {o : Obj} (h : b' ≠ b) : (setB w b o).heap[b']? = w.heap[b']? := by
  simp only [setB]
  rw [Array.getElem?_setIfInBounds_ne (fun e => h e.symm)]
theorem setB_upd (w : World) (b : Nat) (o : Obj) : Upd (fun k => k = b) w (setB w b o) :=
  ⟨rfl, rfl, rfl, by rw [setB_size]; exact Nat.le_refl _, fun k _ hn => setB_old hn⟩
theorem drew_upd (M : Nat → Prop) (w : World) (n : Nat) : Upd M w { w with drawn := n } := ⟨rfl, rfl, rfl, Nat.le_refl _, fun _ _ _ => rfl⟩

/-! What the words come to. -/
def cellIn : Option Obj → Nat → Option Value
  | some (.cells c _ _), o => c[o]?
  | _, _ => none
theorem cell_in (w : World) (b o : Nat) : w.cell? ⟨b, o, none⟩ = cellIn w.heap[b]? o := by
  unfold World.cell? cellIn
  cases h : w.heap[b]? with
  | none => simp
  | some x => cases x <;> simp
def ldm : Option Value → (Value → Prop) → Prop | some v, K => K v | none, _ => False
def ldL : Option (List Value) → (Value → Prop) → Prop | some v, K => K (.agg v.toArray) | none, _ => False
def cellsIn : Option Obj → Nat → Nat → Option (List Value)
  | some (.cells c _ _), off, n => if off + n ≤ c.toList.length then some ((c.toList.drop off).take n) else none
  | _, _, _ => none
theorem addr_add (b o n : Nat) : (Addr.mk b o none).add n = ⟨b, o + n, none⟩ := by
  unfold Addr.add
  by_cases h : n = 0
  · subst h; simp
  · rw [if_neg h]

theorem cellsAt_in (w : World) (b o : Nat) {c : Array Value} {t : TypeId} {f : Nat × Nat} (h : w.heap[b]? = some (.cells c t f)) : ∀ (n i : Nat), o + i + n ≤ c.toList.length →
    cellsAt w ⟨b, o, none⟩ i n = some ((c.toList.drop (o + i)).take n)
  | 0, i, _ => by simp [cellsAt]
  | n + 1, i, hl => by
    have hlt : o + i < c.toList.length := by omega
    have hc : w.cell? ((Addr.mk b o none).add i) = some (c.toList[o + i]) := by
      rw [addr_add, cell_in, h]
      simp only [cellIn]
      rw [← Array.getElem?_toList, List.getElem?_eq_getElem hlt]
    simp only [cellsAt, hc]
    rw [cellsAt_in w b o h n (i + 1) (by omega)]
    simp only [Option.map_some, Option.some.injEq]
    rw [List.drop_eq_getElem_cons hlt, List.take_succ_cons]
    rfl

theorem ldS_in (w : World) (b o n : Nat) (K : Value → Prop) (h : ldL (cellsIn w.heap[b]? o n) K) : ldS n (.pointer (some ⟨b, o, none⟩)) w K := by
  cases hb : w.heap[b]? with
  | none => rw [hb] at h; exact h.elim
  | some x =>
    rw [hb] at h
    cases x <;> first | exact h.elim | skip
    rename_i c t f
    simp only [cellsIn] at h
    by_cases hl : o + n ≤ c.toList.length
    · rw [if_pos hl] at h
      simp only [ldS]
      rw [cellsAt_in w b o hb n 0 (by omega)]
      exact h
    · rw [if_neg hl] at h; exact h.elim

theorem setCell_setB {w : World} {b o : Nat} {c : Array Value} {t : TypeId} {f : Nat × Nat} (h : w.heap[b]? = some (.cells c t f)) (v : Value) : w.setCell ⟨b, o, none⟩ v = setB w b (.cells (c.setIfInBounds o v) t f) := by
  unfold World.setCell setB
  congr 1
  apply Array.ext_getElem?
  intro i
  simp only [Array.getElem?_modify]
  by_cases hi : b = i
  · subst hi
    rw [if_pos rfl, h, Array.getElem?_setIfInBounds_self, if_pos (lt_of_blk h)]
    simp
  · rw [if_neg hi, Array.getElem?_setIfInBounds_ne hi]

theorem stL_in (b o : Nat) {t : TypeId} : ∀ (vs : List Value) (i : Nat) (w : World) (c : Array Value), w.heap[b]? = some (.cells c t (0, 0)) → (∀ v ∈ vs, oneCell v = true) → o + i + vs.length ≤ c.toList.length →
    stL ⟨b, o, none⟩ w i vs = some (if vs = [] then w else setB w b (.cells (fillL c.toList (o + i) vs).toArray t (0, 0)))
  | [], i, w, c, h, h1, hl => by simp [stL]
  | v :: vs, i, w, c, h, h1, hl => by
    simp only [List.length_cons] at hl
    have hlt : o + i < c.toList.length := by omega
    have hc : (w.cell? ((Addr.mk b o none).add i)).isSome = true := by
      rw [addr_add, cell_in, h]; simp only [cellIn]; rw [← Array.getElem?_toList, List.getElem?_eq_getElem hlt]; rfl
    have hf : w.frozen? ((Addr.mk b o none).add i) = false := by rw [addr_add]; simp [World.frozen?, h]
    simp only [stL, h1 v (by simp), hc, hf, and_self, if_true]
    rw [addr_add, setCell_setB h]
    rw [stL_in b o vs (i + 1) _ (c.setIfInBounds (o + i) v) (setB_new h) (fun x hx => h1 x (by simp [hx])) (by rw [Array.toList_setIfInBounds, List.length_set]; omega)]
    have e0 : (c.setIfInBounds (o + i) v).toList = c.toList.set (o + i) v := by simp
    have ss : ∀ x, setB (setB w b (.cells (c.setIfInBounds (o + i) v) t (0, 0))) b x = setB w b x := by intro x; simp [setB]
    have f1 : fillL c.toList (o + i) (v :: vs) = fillL (c.toList.set (o + i) v) (o + (i + 1)) vs := by
      unfold fillL
      simp only [List.length_cons]
      have e1 : (c.toList.set (o + i) v).take (o + (i + 1)) = c.toList.take (o + i) ++ [v] := by
        rw [← Nat.add_assoc, List.take_succ_eq_append_getElem (by simp; omega)]
        rw [List.take_set_of_le (Nat.le_refl _)]
        simp
      have e2 : (c.toList.set (o + i) v).drop (o + (i + 1) + vs.length) = c.toList.drop (o + i + (vs.length + 1)) := by
        rw [List.drop_set_of_lt (by omega)]; congr 1; omega
      rw [e1, e2]; simp
    by_cases hv : vs = []
    · subst hv
      simp only [if_true, reduceCtorEq, if_false, f1, Option.some.injEq]
      congr 2
      apply Array.toList_inj.1
      rw [e0]
      unfold fillL; simp
    · simp only [hv, if_false, reduceCtorEq, ss, e0, f1]

def stm (b o n : Nat) (v : Value) (w : World) (K : World → Prop) : Option Obj → Prop
  | some (.cells c t f) => f = (0, 0) ∧ v.cells.toList.length = n ∧ 0 < n ∧ (v.cells.toList.all oneCell) = true ∧ o + n ≤ c.toList.length ∧ K (setB w b (.cells (fillL c.toList o v.cells.toList).toArray t (0, 0)))
  | _ => False
theorem st_in {b o n : Nat} {v : Value} {w : World} {K : World → Prop} (h : stm b o n v w K w.heap[b]?) : st n (.pointer (some ⟨b, o, none⟩)) v w K := by
  unfold stm at h
  split at h
  · rename_i c t f hb
    obtain ⟨rfl, h1, h2, h3, h4, h5⟩ := h
    refine ⟨h1, ?_⟩
    rw [stL_in b o _ 0 w c hb (fun x hx => List.all_eq_true.1 h3 x hx) (by omega)]
    rw [if_neg (by intro e; rw [e] at h1; simp at h1; omega)]
    exact h5
  · exact h.elim
theorem st1_in {b o : Nat} {v : Value} {w : World} {K : World → Prop} {c : Array Value} {t : TypeId} (hb : w.heap[b]? = some (.cells c t (0, 0))) (h1 : oneCell v = true) (hl : o < c.size)
    (h : K (setB w b (.cells (c.setIfInBounds o v) t (0, 0)))) : st 1 (.pointer (some ⟨b, o, none⟩)) v w K := by
  have hv : v.cells.toList = [v] := by cases v <;> first | rfl | cases h1
  refine ⟨by rw [hv]; rfl, ?_⟩
  have hl' : o + 0 + [v].length ≤ c.toList.length := by simp; omega
  rw [hv, stL_in b o [v] 0 w c hb (by simpa using h1) hl']
  simp only [List.cons_ne_nil, if_false]
  have : (fillL c.toList (o + 0) [v]).toArray = c.setIfInBounds o v := by
    apply Array.toList_inj.1
    simp only [fillL, Array.toList_setIfInBounds]
    simp only [Nat.add_zero, List.length_cons, List.length_nil, Nat.zero_add]
    rw [List.set_eq_take_append_cons_drop, if_pos (by simpa using hl)]
    simp
  rw [this]; exact h

theorem cnd_split {b : Bool} {A B : Prop} (h1 : b = true → A) (h2 : b = false → B) : cnd (.bool b) A B := by cases b; exact h2 rfl; exact h1 rfl
theorem cnd_of {b : Bool} {A B : Prop} (h : (b = true ∧ A) ∨ (b = false ∧ B)) : cnd (.bool b) A B := by
  rcases h with ⟨rfl, h⟩ | ⟨rfl, h⟩ <;> exact h

/-- a && b, a || b. -/
theorem gd_and {b : Bool} {rest : Value → World → Prop} {A : (List Value → World → Prop) → Prop} {w : World} (h : b = true → A fun g w' => rest (nth g 0) w') (h' : b = false → rest (.bool false) w) :
    jn (fun g _ w' => pickx (.bool b) (nth g 0) (.bool false) fun v => rest v w') fun J => gd (.bool b) true (A J) (J [undef] w) := by
  cases b
  · exact ⟨fun _ w' => rest (.bool false) w', fun _ _ _ hj => hj, h' rfl⟩
  · exact ⟨_, fun _ _ _ hj => hj, h rfl⟩
theorem gd_or {b : Bool} {rest : Value → World → Prop} {A : (List Value → World → Prop) → Prop} {w : World} (h : b = false → A fun g w' => rest (nth g 0) w') (h' : b = true → rest (.bool true) w) :
    jn (fun g _ w' => pickx (.bool b) (.bool true) (nth g 0) fun v => rest v w') fun J => gd (.bool b) false (A J) (J [undef] w) := by
  cases b
  · exact ⟨_, fun _ _ _ hj => hj, h rfl⟩
  · exact ⟨fun _ w' => rest (.bool true) w', fun _ _ _ hj => hj, h' rfl⟩

/-- The rules that ask nothing. -/
theorem vxs :
    (∀ a b K, pickx (.bool true) a b K = K a) ∧ (∀ a b K, pickx (.bool false) a b K = K b) ∧
    (∀ A B, cnd (.bool true) A B = A) ∧ (∀ A B, cnd (.bool false) A B = B) ∧
    (∀ A B, gd (.bool true) true A B = A) ∧ (∀ A B, gd (.bool false) true A B = B) ∧ (∀ A B, gd (.bool true) false A B = B) ∧ (∀ A B, gd (.bool false) false A B = A) ∧ (∀ a A B, gd undef a A B = B) ∧
    (∀ a K, nck (.pointer (some a)) K = K (.pointer (some a))) ∧ (∀ f a b K, nck (.func (.func f) a b) K = K (.func (.func f) a b)) ∧
    (∀ off b o K, fa off (.pointer (some ⟨b, o, none⟩)) K = K (.pointer (some ⟨b, o + off, none⟩))) ∧
    (∀ b o w K, ld (.pointer (some ⟨b, o, none⟩)) w K = ldm (cellIn w.heap[b]? o) K) ∧ (∀ v K, ldm (some v) K = K v) ∧ (∀ c t f o, cellIn (some (.cells c t f)) o = c[o]?) ∧
    (∀ vs i K, ex (.tuple vs) i K = ldm vs[i]? K) ∧
    (∀ K b, un .not (.bool b) K = K (.bool (!b))) ∧ (∀ k K n, un .neg (.int k n) K = K (.int k (k.wrap (-n)))) ∧ (!true) = false ∧ (!false) = true ∧
    (∀ s K, lenS (.string ⟨⟨s⟩⟩) K = K (.int .i64 s.length)) ∧ (∀ a n c K, lenV (.slice a n c) K = K (.int .i64 n)) ∧ (∀ w K, lenM (.map none) w K = K (.int .i64 0)) ∧
    (∀ a b K, maxx (.int .i64 a) (.int .i64 b) K = K (.int .i64 (max a b))) ∧ (∀ a b K, minx (.int .i64 a) (.int .i64 b) K = K (.int .i64 (min a b))) ∧
    (∀ k a b K, bin .eql (.int k a) (.int k b) K = K (.bool (a == b))) ∧ (∀ k a b K, bin .neq (.int k a) (.int k b) K = K (.bool (a != b))) ∧
    (∀ k a b K, bin .lss (.int k a) (.int k b) K = K (.bool (decide (a < b)))) ∧ (∀ k a b K, bin .leq (.int k a) (.int k b) K = K (.bool (decide (a ≤ b)))) ∧
    (∀ k a b K, bin .gtr (.int k a) (.int k b) K = K (.bool (decide (b < a)))) ∧ (∀ k a b K, bin .geq (.int k a) (.int k b) K = K (.bool (decide (b ≤ a)))) ∧
    (∀ a b K, bin .eql (.string ⟨⟨a⟩⟩) (.string ⟨⟨b⟩⟩) K = K (.bool (a == b))) ∧ (∀ a b K, bin .neq (.string ⟨⟨a⟩⟩) (.string ⟨⟨b⟩⟩) K = K (.bool (!(a == b)))) ∧
    (∀ a b K, bin .lss (.string ⟨⟨a⟩⟩) (.string ⟨⟨b⟩⟩) K = K (.bool (Op.bytesLess a b)) ∧ bin .gtr (.string ⟨⟨a⟩⟩) (.string ⟨⟨b⟩⟩) K = K (.bool (!(Op.bytesLess a b || a == b)))) ∧
    (∀ a b K, binB .eql (.bool a) (.bool b) K = K (.bool (a == b))) ∧ (∀ a b K, binB .neq (.bool a) (.bool b) K = K (.bool (!(a == b)))) ∧
    (∀ b w K, binP .eql (.pointer none) (.pointer b) w K = K (.bool b.isNone)) ∧ (∀ b w K, binP .neq (.pointer none) (.pointer b) w K = K (.bool (!b.isNone))) ∧
    (∀ a w K, binP .eql (.pointer (some a)) (.pointer none) w K = K (.bool false)) ∧ (∀ a w K, binP .neq (.pointer (some a)) (.pointer none) w K = K (.bool true)) ∧
    (∀ a l c l' c' K, binL .eql (.slice (some a) l c) (.slice none l' c') K = K (.bool false)) ∧ (∀ a l c l' c' K, binL .neq (.slice (some a) l c) (.slice none l' c') K = K (.bool true)) ∧
    (∀ l c l' c' K, binL .eql (.slice none l c) (.slice none l' c') K = K (.bool true)) ∧ (∀ l c l' c' K, binL .neq (.slice none l c) (.slice none l' c') K = K (.bool false)) ∧
    (∀ a K, binM .eql (.map (some a)) (.map none) K = K (.bool false)) ∧ (∀ a K, binM .neq (.map (some a)) (.map none) K = K (.bool true)) ∧
    (∀ K, binM .eql (.map none) (.map none) K = K (.bool true)) ∧ (∀ K, binM .neq (.map none) (.map none) K = K (.bool false)) ∧
    (∀ zs t w K, newx zs t w K = K (.pointer (some ⟨w.heap.size, 0, none⟩)) (w.alloc (.cells zs.toArray t))) ∧
    (∀ t v w K, boxx t v w K = K (.pointer (some ⟨w.heap.size, 0, none⟩)) (w.alloc (.cells v.cells t))) ∧
    (∀ w K, mkmap w K = K (.map (some w.heap.size)) (w.alloc (.map #[] 0))) ∧
    (∀ cs, Value.cells (.agg cs) = cs) ∧ (∀ b, (!(!b)) = b) ∧
    (∀ (l : List Value) (i : Nat), l.toArray[i]? = l[i]?) ∧ (∀ (a : Value) l, (a :: l)[0]? = some a) ∧ (∀ (a : Value) l (i : Nat), (a :: l)[i + 1]? = l[i]?) ∧
    (∀ (w : World) b o, ({ heap := w.heap.setIfInBounds b o, tape := w.tape, drawn := w.drawn, os := w.os, output := w.output } : World) = setB w b o) ∧
    (∀ s q n K, ixS (.string ⟨⟨s⟩⟩) (.int q n) K = ((0 ≤ n ∧ n < (s.length : Int)) ∧ K (.int .u8 ((s.getD n.toNat 0).toNat : Int)))) ∧
    (∀ a l, nth (a :: l) 0 = a) ∧ (∀ a l k, nth (a :: l) (k + 1) = nth l k) := by
  refine ⟨?_, ?_, ?_, ?_, ?_, ?_, ?_, ?_, ?_, ?_, ?_, ?_, ?_, ?_, ?_, ?_, ?_, ?_, ?_, ?_, ?_, ?_, ?_, ?_, ?_, ?_, ?_, ?_, ?_, ?_, ?_, ?_, ?_, ?_, ?_, ?_, ?_, ?_, ?_, ?_, ?_, ?_, ?_, ?_, ?_, ?_, ?_, ?_, ?_, ?_, ?_, ?_, ?_, ?_, ?_, ?_, ?_, ?_, ?_, ?_⟩
  all_goals intros
  all_goals first
    | rfl
    | (simp only [fa, addr_add]; done)
    | (simp only [ld, cell_in]; unfold ldm; cases cellIn _ _ <;> rfl)
    | (rename_i vs i K; simp only [ex]; unfold ldm; cases vs[i]? <;> rfl)
    | (simp only [bin, true_or, or_true, true_and, binI, binS]; done)
    | (simp [bin, binI]; done)
    | (simp [maxx, minx]; done)
    | (simp [nth]; done)
    | (simp; done)
    | exact ⟨rfl, fun _ => rfl⟩
    | exact ⟨rfl, rfl⟩
    | skip

end Go.Proofs.YtkpefimnggojdaaGreat.VX
