/-
  VX, part k: slices: what a slice holds ('Sl'), a slice of the call's own ('Own'), append, integers.
-/
import Derived.Test.YtkpefimnggojdaaGreatVj
set_option linter.all false
namespace Go.Proofs.YtkpefimnggojdaaGreat.VX
open Go
variable {P : Program} {α : Type}
attribute [local semireducible] rn

/-- In block b, from cell off on, lie the values vs. -/
def Row (w : World) (b off : Nat) (vs : List Value) : Prop := ∃ c t f, w.heap[b]? = some (.cells c t f) ∧ off + vs.length ≤ c.toList.length ∧ (c.toList.drop off).take vs.length = vs
/-- The slice v holds the elements xs, each of k cells. -/
def Sl (k : Nat) (enc : α → List Value) (w : World) (v : Value) (xs : List α) : Prop :=
  ∃ a cap, v = .slice a xs.length cap ∧ xs.length ≤ cap ∧ (xs ≠ [] → ∃ b off, a = some ⟨b, off, none⟩ ∧ Row w b off (xs.flatMap enc))
/-- The slice v is nil and empty, or lies at the head of a block from base on, of elements of type t. -/
def Own (t : TypeId) (k : Nat) (enc : α → List Value) (base : Nat) (w : World) (v : Value) (xs : List α) : Prop :=
  (v = .slice none 0 0 ∧ xs = []) ∨ ∃ b cap c, base ≤ b ∧ v = .slice (some ⟨b, 0, none⟩) xs.length cap ∧ w.heap[b]? = some (.cells c t (0, 0)) ∧ cap * k ≤ c.toList.length ∧ xs.length ≤ cap ∧ c.toList.take (xs.length * k) = xs.flatMap enc

theorem flat_len {k : Nat} {enc : α → List Value} (he : ∀ x, (enc x).length = k) : ∀ xs : List α, (xs.flatMap enc).length = xs.length * k
  | [] => by simp
  | x :: xs => by rw [List.flatMap_cons, List.length_append, he, flat_len he xs, List.length_cons, Nat.succ_mul]; omega

theorem Row.mono {M : Nat → Prop} {w w' : World} {b off : Nat} {vs : List Value} (h : Row w b off vs) (hu : Upd M w w') (hm : ¬ M b) : Row w' b off vs := by
  obtain ⟨c, t, f, hb, h⟩ := h
  exact ⟨c, t, f, hu.get hb hm, h⟩
theorem Row.lt {w : World} {b off : Nat} {vs : List Value} (h : Row w b off vs) : b < w.heap.size := by obtain ⟨c, t, f, hb, _⟩ := h; exact lt_of_blk hb
theorem Sl.ext {k : Nat} {enc : α → List Value} {w w' : World} {v : Value} {xs : List α} (h : Sl k enc w v xs) (hu : Ext w w') : Sl k enc w' v xs := by
  obtain ⟨a, cap, rfl, hc, h⟩ := h
  refine ⟨a, cap, rfl, hc, fun hx => ?_⟩
  obtain ⟨b, off, ha, hr⟩ := h hx
  exact ⟨b, off, ha, hr.mono hu fun hf => hf⟩
theorem Sl.nil (k : Nat) (enc : α → List Value) (w : World) (a : Option Addr) (cap : Nat) : Sl k enc w (.slice a 0 cap) ([] : List α) := ⟨a, cap, rfl, by simp, fun h => absurd rfl h⟩
theorem Sl.of_own {t : TypeId} {k base : Nat} {enc : α → List Value} (he : ∀ x, (enc x).length = k) {w : World} {v : Value} {xs : List α} (h : Own t k enc base w v xs) : Sl k enc w v xs := by
  rcases h with ⟨rfl, rfl⟩ | ⟨b, cap, c, _, rfl, hb, hc, hl, ht⟩
  · exact Sl.nil ..
  · refine ⟨_, cap, rfl, hl, fun _ => ⟨b, 0, rfl, c, t, (0, 0), hb, ?_, ?_⟩⟩
    · rw [flat_len he, Nat.zero_add]; exact Nat.le_trans (Nat.mul_le_mul_right _ hl) hc
    · rw [flat_len he, List.drop_zero, ht]

theorem Own.mono {t : TypeId} {k base base' : Nat} {enc : α → List Value} {M : Nat → Prop} {w w' : World} {v : Value} {xs : List α} (h : Own t k enc base w v xs) (hu : Upd M w w') (hm : ∀ b, base ≤ b → ¬ M b) (hb : base' ≤ base) :
    Own t k enc base' w' v xs := by
  rcases h with h | ⟨b, cap, c, h1, hv, h2, h3⟩
  · exact .inl h
  · exact .inr ⟨b, cap, c, by omega, hv, hu.get h2 (hm b h1), h3⟩
theorem Own.ext {t : TypeId} {k base : Nat} {enc : α → List Value} {w w' : World} {v : Value} {xs : List α} (h : Own t k enc base w v xs) (hu : Ext w w') : Own t k enc base w' v xs :=
  h.mono hu (fun _ _ hf => hf) (Nat.le_refl _)

/-- The i-th element's cells. -/
theorem Row.at {k : Nat} {enc : α → List Value} (he : ∀ x, (enc x).length = k) {w : World} {b off : Nat} {xs : List α} (h : Row w b off (xs.flatMap enc)) (i : Nat) (hi : i < xs.length) :
    Row w b (off + i * k) (enc xs[i]) := by
  obtain ⟨c, t, f, hb, hl, hr⟩ := h
  rw [flat_len he] at hl hr
  have hik : i * k + k ≤ xs.length * k := by
    have : (i + 1) * k ≤ xs.length * k := Nat.mul_le_mul_right _ hi
    rw [Nat.succ_mul] at this; exact this
  refine ⟨c, t, f, hb, by rw [he]; omega, ?_⟩
  rw [he]
  have e1 : (c.toList.drop (off + i * k)).take k = (((c.toList.drop off).take (xs.length * k)).drop (i * k)).take k := by
    rw [List.drop_take, List.drop_drop, List.take_take]
    congr 1; omega
  rw [e1, hr]
  clear e1 hr hl hb
  induction xs generalizing i with
  | nil => simp at hi
  | cons x xs ih =>
    cases i with
    | zero => simp [List.flatMap_cons, List.take_append, he]
    | succ i =>
      rw [List.flatMap_cons, Nat.succ_mul, List.drop_append, he]
      have : (enc x).drop (i * k + k) = [] := List.drop_eq_nil_of_le (by rw [he]; omega)
      rw [this, List.nil_append, show i * k + k - k = i * k from by omega]
      have := ih i (by simpa using hi) (by have := Nat.mul_le_mul_right k (show i + 1 ≤ xs.length from by simp at hi; omega); rw [Nat.succ_mul] at this; exact this)
      simpa using this

theorem Row.ld1 {w : World} {b off : Nat} {v : Value} {vs : List Value} {i : Nat} (h : Row w b off vs) (hi : vs[i]? = some v) (K : Value → Prop) (hk : K v) : ld (.pointer (some ⟨b, off + i, none⟩)) w K := by
  obtain ⟨c, t, f, hb, hl, hr⟩ := h
  have hlt : i < vs.length := by
    by_cases hlt : i < vs.length
    · exact hlt
    · rw [List.getElem?_eq_none (by omega)] at hi; cases hi
  have : cellIn w.heap[b]? (off + i) = some v := by
    rw [hb]; simp only [cellIn]
    rw [← Array.getElem?_toList, ← hi, ← hr, List.getElem?_take, if_pos hlt, List.getElem?_drop]
  simp only [ld, cell_in, this]
  exact hk

theorem Row.ldn {w : World} {b off : Nat} {vs : List Value} (h : Row w b off vs) (K : Value → Prop) (hk : K (.agg vs.toArray)) : ldS vs.length (.pointer (some ⟨b, off, none⟩)) w K := by
  obtain ⟨c, t, f, hb, hl, hr⟩ := h
  refine ldS_in w b off _ K ?_
  rw [hb]
  simp only [cellsIn]
  rw [if_pos hl, hr]
  exact hk

/-- xs[i]: the address of the element. -/
theorem Sl.ia {k : Nat} {enc : α → List Value} (he : ∀ x, (enc x).length = k) {w : World} {v : Value} {xs : List α} (h : Sl k enc w v xs) (i : Nat) (hi : i < xs.length) {q : IntKind} {K : Value → Prop}
    (hk : ∀ b off, Row w b off (enc xs[i]) → K (.pointer (some ⟨b, off, none⟩))) : VX.ia k v (.int q i) K := by
  obtain ⟨a, cap, rfl, hc, h⟩ := h
  obtain ⟨b, off, rfl, hr⟩ := h (by intro e; subst e; simp at hi)
  refine ⟨⟨by omega, by omega⟩, ?_⟩
  rw [addr_add, Int.toNat_natCast]
  exact hk b _ (hr.at he i hi)

theorem Sl.len {k : Nat} {enc : α → List Value} {w : World} {v : Value} {xs : List α} (h : Sl k enc w v xs) {K : Value → Prop} (hk : K (.int .i64 xs.length)) : lenV v K := by
  obtain ⟨a, cap, rfl, hc, h⟩ := h; exact hk

theorem int_add {a b : Int} {K : Value → Prop} (h : -9223372036854775808 ≤ a + b ∧ a + b ≤ 9223372036854775807) (hk : K (.int .i64 (a + b))) : bin .add (.int .i64 a) (.int .i64 b) K := by
  refine ⟨.inr rfl, ?_⟩
  simp only [binI]
  rw [IntWalk.i64_in _ (by omega)]; exact hk
theorem int_sub {a b : Int} {K : Value → Prop} (h : -9223372036854775808 ≤ a - b ∧ a - b ≤ 9223372036854775807) (hk : K (.int .i64 (a - b))) : bin .sub (.int .i64 a) (.int .i64 b) K := by
  refine ⟨.inr rfl, ?_⟩
  simp only [binI]
  rw [IntWalk.i64_in _ (by omega)]; exact hk
theorem str_add {a b : List UInt8} {K : Value → Prop} (h : a.length + b.length ≤ 9223372036854775807) (hk : K (str (a ++ b))) : bin .add (str a) (str b) K := ⟨h, hk⟩
/-- s[l:h] of a string. -/
theorem str_cut {s : List UInt8} {lo hi : Option Value} {l h : Int} {K : Value → Prop} (hl : bndI lo 0 = some l) (hh : bndI hi s.length = some h) (b : 0 ≤ l ∧ l ≤ h ∧ h ≤ s.length) (hk : K (str ((s.drop l.toNat).take (h.toNat - l.toNat)))) : slS (str s) lo hi K := by
  simp only [slS]
  rw [hl, hh]
  exact ⟨⟨by omega, b.2.2⟩, ⟨b.1, b.2.1⟩, hk⟩

/-- The row of a type in a program's table, as an append asks for it. -/
structure ElemOf (P : Program) (T t : TypeId) (k bytes : Nat) (zs : List Value) : Prop where
  slice : P.underlying T = some (.slice t)
  info : ∃ i z, P.info? t = some i ∧ i.size = k ∧ i.bytes = bytes ∧ i.zero = some z ∧ z.cells.toList = zs
  len : zs.length = k

theorem cap_bound (need cap : Nat) (h : cap < need) (hn : need ≤ 4294967296) : Builtin.nextslicecap need cap ≤ 17179869184 := by
  unfold Builtin.nextslicecap
  split
  · omega
  · split
    · omega
    · have : ∀ r c, c ≤ need + 4294967296 → Builtin.growBy need r c ≤ 17179869184 ∨ Builtin.growBy need r c ≤ need * 2 + 4294967296 := by
        intro r
        induction r with
        | zero => intro c hc; unfold Builtin.growBy; omega
        | succ r ih =>
          intro c hc
          unfold Builtin.growBy
          split
          · omega
          · exact ih _ (by omega)
      rcases this 4 cap (by omega) with h | h <;> omega

theorem Upd.row {w w' : World} {M : Nat → Prop} {b : Nat} {o : Obj} (h : Upd M w w') (hb : w.heap[b]? = some o) (hn : ¬ M b) : w'.heap[b]? = some o := h.get hb hn

theorem row_load {w : World} {b off : Nat} {vs : List Value} (h : Row w b off vs) : (loadCells ⟨b, off, none⟩ vs.length).run P w = .ok vs.toArray w := by
  obtain ⟨c, t, f, hb, hl, hr⟩ := h
  have hc := cellsAt_in w b off hb vs.length 0 (by omega)
  rw [Nat.add_zero, hr] at hc
  have := rn_loadCellsFrom (P := P) (a := ⟨b, off, none⟩) (w := w) (K := fun r w' => r = vs.toArray ∧ w' = w) vs.length 0 #[] vs hc (by simp)
  unfold rn at this
  unfold loadCells
  split at this
  · rename_i v w' hrun; obtain ⟨rfl, rfl⟩ := this; exact hrun
  · exact this.elim

theorem store_run {w : World} {b o : Nat} {vs : List Value} {c : Array Value} {t : TypeId} (hb : w.heap[b]? = some (.cells c t (0, 0))) (h1 : ∀ v ∈ vs, oneCell v = true) (hl : o + vs.length ≤ c.toList.length) (hne : vs ≠ []) :
    (storeCells ⟨b, o, none⟩ vs).run P w = .ok () (setB w b (.cells (fillL c.toList o vs).toArray t (0, 0))) := by
  have hc := stL_in b o vs 0 w c hb h1 (by omega)
  rw [if_neg hne, Nat.add_zero] at hc
  have := rn_storeCells (P := P) (a := ⟨b, o, none⟩) (K := fun _ w' => w' = (setB w b (.cells (fillL c.toList o vs).toArray t (0, 0)))) vs 0 w _ hc rfl
  unfold rn at this
  split at this
  · rename_i v w' hrun; subst this; exact hrun
  · exact this.elim

/-- append(v, y...) onto a slice of the call's own. -/
theorem Own.append' {T ty t : TypeId} {k bytes base : Nat} {zs : List Value} {enc : α → List Value} (E : ElemOf P T t k bytes zs) (hk : 0 < k) (hby : bytes ≤ 4096)
    (he : ∀ x, (enc x).length = k) (h1 : ∀ x, ∀ v ∈ enc x, oneCell v = true) {w : World} {v y : Value} {xs ys : List α} (hv : Own t k enc base w v xs) (hy : Sl k enc w y ys) (hb : base ≤ w.heap.size)
    (hn : xs.length + ys.length ≤ 4294967296) {K : Value → World → Prop}
    (hK : ∀ v' w', Own t k enc base w' v' (xs ++ ys) → Upd (fun b => base ≤ b ∧ ∃ c l, v = .slice (some ⟨b, 0, none⟩) l c ∧ l + ys.length ≤ c ∧ ys ≠ []) w w' → (∀ a n c, v' = .slice (some a) n c → (∃ n c, v = .slice (some a) n c) ∨ w.heap.size ≤ a.block) → K v' w') :
    rn P (Builtin.append_ #[T, T] ty ([v, y] : List Value).toArray) w K := by
  obtain ⟨hT, ⟨i, z, hi, rfl, rfl, hz, rfl⟩, hzl⟩ := E
  obtain ⟨ay, capy, rfl, hcy, hry⟩ := hy
  have hti : ∀ w, (typeInfo t).run P w = .ok i w := by intro w; simp [typeInfo, hi, program, Sem.run]
  have hsz : ∀ w, (sizeOf t).run P w = .ok i.size w := fun w => size_run (by simp [szOf, hi]) w
  have hzr : ∀ w, (zeroValue t).run P w = .ok z w := fun w => zero_run (by simp [hi, hz]) w
  have ask : ∀ n w, (askRoom n).run P w = .ok () w := by intro n w; unfold askRoom; split <;> simp [mark, Sem.run]
  have hfl : ∀ l : List α, ∀ v ∈ l.flatMap enc, oneCell v = true := by
    intro l v hv; obtain ⟨x, _, hx⟩ := List.mem_flatMap.1 hv; exact h1 x v hx
  -- what is appended
  have hnew : ∀ w', Ext w w' → (Builtin.firstCells i.size ys.length (.slice ay ys.length capy)).run P w' = .ok (ys.flatMap enc).toArray w' := by
    intro w' hu
    by_cases hys : ys = []
    · subst hys
      cases ay with
      | none => simp [Builtin.firstCells]
      | some a => simp [Builtin.firstCells, loadCells, loadCellsFrom]
    · obtain ⟨b, off, rfl, hr⟩ := hry hys
      have hr' := hr.mono hu (fun hf => hf)
      have := row_load (P := P) hr'
      rw [flat_len he] at this
      simpa [Builtin.firstCells] using this
  obtain ⟨av, cap, hva⟩ : ∃ av cap, v = .slice av xs.length cap := by
    rcases hv with ⟨rfl, rfl⟩ | ⟨b, cap, c, _, rfl, _⟩ <;> exact ⟨_, _, rfl⟩
  subst hva
  by_cases hroom : xs.length + ys.length ≤ cap
  · -- in place
    by_cases hys : ys = []
    · subst hys
      refine rn_ok (v := .slice av xs.length cap) (w' := w) ?_ (hK _ _ (by simpa using hv) (.refl _ _) fun a n c e => .inl ⟨n, c, e⟩)
      have hroom' : xs.length ≤ cap := by simpa using hroom
      have hn0 := hnew w (.refl _ _)
      simp only [List.length_nil, List.flatMap_nil] at hn0
      cases av with
      | none => simp [Builtin.append_, under_run hT, hsz, Builtin.lenOf, hroom', hn0]
      | some a => simp [Builtin.append_, under_run hT, hsz, Builtin.lenOf, hroom', hn0, storeCells]
    · rcases hv with ⟨h, rfl⟩ | ⟨b, cap', c, hbb, h, hblk, hcl, hl, htk⟩
      · simp only [Value.slice.injEq] at h
        obtain ⟨rfl, _, rfl⟩ := h
        simp at hroom; exact absurd hroom hys
      · simp only [Value.slice.injEq] at h
        obtain ⟨rfl, _, rfl⟩ := h
        have hlen : (ys.flatMap enc).length = ys.length * i.size := flat_len he ys
        have hne : ys.flatMap enc ≠ [] := by
          intro e0; rw [e0] at hlen
          have h' : ys.length * i.size = 0 := hlen.symm
          rcases Nat.mul_eq_zero.1 h' with h' | h'
          · exact hys (List.length_eq_zero_iff.1 h')
          · omega
        have hfit : xs.length * i.size + (ys.flatMap enc).length ≤ c.toList.length := by
          rw [hlen, ← Nat.add_mul]; exact Nat.le_trans (Nat.mul_le_mul_right _ hroom) hcl
        have hst := store_run (P := P) hblk (hfl ys) hfit hne
        have hkc : xs.length * i.size ≤ c.toList.length := by omega
        have hrun : (Builtin.append_ #[T, T] ty ([Value.slice (some ⟨b, 0, none⟩) xs.length cap, Value.slice ay ys.length capy] : List Value).toArray).run P w
            = .ok (.slice (some ⟨b, 0, none⟩) (xs.length + ys.length) cap) (setB w b (.cells (fillL c.toList (xs.length * i.size) (ys.flatMap enc)).toArray t (0, 0))) := by
          simp [Builtin.append_, under_run hT, hsz, Builtin.lenOf, hroom, hnew w (.refl _ _), addr_add, hst]
        refine rn_ok hrun (hK _ _ (.inr ⟨b, cap, _, hbb, ?_, setB_new hblk, ?_, ?_, ?_⟩) ((setB_upd _ _ _).mono fun k _ hk => ?_) fun a n c e => .inl ⟨_, _, by injection e with e; rw [e]⟩)
        · rw [List.length_append]
        · simp only [fillL, List.length_append, List.length_take, List.length_drop]; omega
        · rw [List.length_append]; exact hroom
        · simp only [fillL]
          rw [List.length_append, Nat.add_mul, List.flatMap_append, ← htk, ← hlen]
          have hl0 : (c.toList.take (xs.length * i.size) ++ ys.flatMap enc).length = xs.length * i.size + (ys.flatMap enc).length := by
            rw [List.length_append, List.length_take, Nat.min_eq_left hkc]
          show ((c.toList.take (xs.length * i.size) ++ ys.flatMap enc ++ _).take _ : List Value) = _
          rw [← hl0, List.take_left]
        · subst hk; exact ⟨hbb, cap, xs.length, rfl, hroom, hys⟩
  · -- anew
    have hcn : cap < xs.length + ys.length := by omega
    have hbd : ¬ (Builtin.nextslicecap (xs.length + ys.length) cap * i.bytes > 2 ^ 48) := by
      have h3 := cap_bound _ _ hcn hn
      have : Builtin.nextslicecap (xs.length + ys.length) cap * i.bytes ≤ 17179869184 * 4096 := Nat.mul_le_mul h3 hby
      omega
    obtain ⟨w1, ew1⟩ : ∃ w1, w1 = w.drew := ⟨_, rfl⟩
    have hw1 : Ext w w1 := by subst ew1; exact drew_upd _ w _
    obtain ⟨nc, enc0⟩ : ∃ nc, nc = (Question.appendCap (xs.length + ys.length) cap t).cut (w.tape w.drawn (Question.appendCap (xs.length + ys.length) cap t)) := ⟨_, rfl⟩
    have hnc : xs.length + ys.length ≤ nc := by subst enc0; simp only [Question.cut]; omega
    have hforced : (Question.appendCap (xs.length + ys.length) cap t).forced = false := rfl
    have hold : (Builtin.firstCells i.size xs.length (.slice av xs.length cap)).run P w1 = .ok (xs.flatMap enc).toArray w1 := by
      rcases hv with ⟨h, rfl⟩ | ⟨b, cap', c, hbb, h, hblk, hcl, hl, htk⟩
      · simp only [Value.slice.injEq] at h
        obtain ⟨rfl, _, rfl⟩ := h
        simp [Builtin.firstCells]
      · simp only [Value.slice.injEq] at h
        obtain ⟨rfl, _, rfl⟩ := h
        have hr : Row w1 b 0 (xs.flatMap enc) := ⟨c, t, (0, 0), hw1.get hblk, by rw [flat_len he, Nat.zero_add]; exact Nat.le_trans (Nat.mul_le_mul_right _ hl) hcl, by rw [flat_len he, List.drop_zero, htk]⟩
        have := row_load (P := P) hr
        rw [flat_len he] at this
        simpa [Builtin.firstCells] using this
    have hn1 := hnew w1 hw1
    have hrun : (Builtin.append_ #[T, T] ty ([Value.slice av xs.length cap, Value.slice ay ys.length capy] : List Value).toArray).run P w
        = .ok (.slice (some ⟨w1.heap.size, 0, none⟩) (xs.length + ys.length) nc) (w1.alloc (.cells ((xs.flatMap enc).toArray ++ (ys.flatMap enc).toArray ++ Builtin.zeroCells z.cells (nc - (xs.length + ys.length))) t)) := by
      have n1 : ¬ (9223372036854775807 < ((xs.length : Int) + ys.length) ∧ i.bytes = 0) := by omega
      have n2 : ¬ (281474976710656 < Builtin.nextslicecap (xs.length + ys.length) cap * i.bytes) := by omega
      simp [Builtin.append_, under_run hT, hsz, Builtin.lenOf, hroom, hti, n1, n2, ← ew1, ← enc0, ask, hold, hn1, hzr, newRow, newObj, Sem.run, hforced, ← List.append_toArray]
    have hlz : (Builtin.zeroCells z.cells (nc - (xs.length + ys.length))).toList.length = (nc - (xs.length + ys.length)) * i.size := by
      simp only [Builtin.zeroCells, Array.toList_map, List.length_map, Array.length_toList, Array.size_range]
      have : z.cells.size = i.size := by simpa using hzl
      rw [this]
    refine rn_ok hrun (hK _ _ (.inr ⟨w1.heap.size, nc, _, Nat.le_trans hb hw1.size, ?_, alloc_new _ _, ?_, ?_, ?_⟩) ((hw1.to).trans (alloc_upd (fun _ => False) w1 _) fun _ _ hf => hf.elim) fun a n c e => .inr (by injection e with e; injection e with e; rw [← e]; exact hw1.size))
    · rw [List.length_append]
    · simp only [Array.toList_append, List.length_append, hlz, flat_len he]
      rw [← Nat.add_mul, ← Nat.add_mul]; exact Nat.mul_le_mul_right _ (by omega)
    · rw [List.length_append]; exact hnc
    · have hl0 : (xs.flatMap enc ++ ys.flatMap enc).length = (xs ++ ys).length * i.size := by rw [← List.flatMap_append, flat_len he]
      rw [← hl0, List.flatMap_append]
      have e : ((xs.flatMap enc).toArray ++ (ys.flatMap enc).toArray ++ Builtin.zeroCells z.cells (nc - (xs.length + ys.length))).toList = (xs.flatMap enc ++ ys.flatMap enc) ++ (Builtin.zeroCells z.cells (nc - (xs.length + ys.length))).toList := by simp
      rw [e, List.take_left]

theorem Own.append {T ty t : TypeId} {k bytes base : Nat} {zs : List Value} {enc : α → List Value} (E : ElemOf P T t k bytes zs) (hk : 0 < k) (hby : bytes ≤ 4096)
    (he : ∀ x, (enc x).length = k) (h1 : ∀ x, ∀ v ∈ enc x, oneCell v = true) {w : World} {v y : Value} {xs ys : List α} (hv : Own t k enc base w v xs) (hy : Sl k enc w y ys) (hb : base ≤ w.heap.size)
    (hn : xs.length + ys.length ≤ 4294967296) {K : Value → World → Prop}
    (hK : ∀ v' w', Own t k enc base w' v' (xs ++ ys) → Upd (fun b => base ≤ b ∧ ∃ c l, v = .slice (some ⟨b, 0, none⟩) l c) w w' → K v' w') :
    rn P (Builtin.append_ #[T, T] ty ([v, y] : List Value).toArray) w K :=
  Own.append' E hk hby he h1 hv hy hb hn fun v' w' a b _ => hK v' w' a (b.mono fun _ _ ⟨h1, c, l, h2, _⟩ => ⟨h1, c, l, h2⟩)
end Go.Proofs.YtkpefimnggojdaaGreat.VX
