/-
  What the readings of the arguments hold (slices, texts, acts, rules), and what is left where nothing old was turned.
-/
import Derived.Test.YtkpefimnggojdaaGreatQd
import Derived.Test.YtkpefimnggojdaaGreatRows
import Derived.Deep.Slices
import Derived.WideKeyArgs
import Derived.OpenShut
import Derived.JoinedCond
set_option linter.all false
namespace Go.Proofs.YtkpefimnggojdaaGreat.VX
open Go Pl
set_option maxRecDepth 4000

theorem bulk_one {H : Type} (d : DataW H) : 1 ≤ Rows.uptoBulk d := by
  cases d with
  | lit l => cases l <;> simp [Rows.uptoBulk]
  | nil => simp [Rows.uptoBulk]
  | ptr d => simp [Rows.uptoBulk]
  | slice elems spare => simp [Rows.uptoBulk]
  | agg parts => simp [Rows.uptoBulk]
  | iface t d => simp [Rows.uptoBulk]
  | map entries => simp [Rows.uptoBulk]
  | held h => simp [Rows.uptoBulk]
theorem bulk_part {H : Type} {d : DataW H} {l : List (DataW H)} (h : d ∈ l) : Rows.uptoBulk d ≤ Rows.uptoBulkAll l := by
  induction l with
  | nil => cases h
  | cons x r ih =>
    simp only [Rows.uptoBulkAll]
    cases List.mem_cons.1 h with
    | inl e => subst e; omega
    | inr e => have := ih e; omega
theorem bulk_len {H : Type} (l : List (DataW H)) : l.length ≤ Rows.uptoBulkAll l := by
  induction l with
  | nil => simp [Rows.uptoBulkAll]
  | cons x r ih => have := bulk_one x; simp only [Rows.uptoBulkAll, List.length_cons]; omega

theorem list_of {α : Type} {p : Nat → α → Prop} : ∀ (n : Nat), (∀ i, i < n → ∃ x, p i x) → ∃ l : List α, l.length = n ∧ ∀ (i : Nat) (h : i < l.length), p i l[i]
  | 0, _ => ⟨[], rfl, fun i h => absurd h (Nat.not_lt_zero i)⟩
  | n + 1, h => by
    obtain ⟨l, hl, hp⟩ := list_of n fun i hi => h i (by omega)
    obtain ⟨x, hx⟩ := h n (by omega)
    refine ⟨l ++ [x], by simp [hl], fun i hi => ?_⟩
    by_cases h' : i < l.length
    · rw [List.getElem_append_left h']; exact hp i h'
    · have e : i = n := by rw [List.length_append, List.length_singleton] at hi; omega
      rw [List.getElem_append_right (by omega)]
      simp only [List.getElem_singleton]
      rw [e]; exact hx

theorem Row.join {w : World} {b off : Nat} {vs us : List Value} (h : Row w b off vs) (h' : Row w b (off + vs.length) us) : Row w b off (vs ++ us) := by
  obtain ⟨c, t, f, hb, hl, hr⟩ := h
  obtain ⟨c', t', f', hb', hl', hr'⟩ := h'
  rw [hb] at hb'
  injection hb' with hb'
  injection hb' with hb' _ _
  subst hb'
  refine ⟨c, t, f, hb, by rw [List.length_append]; omega, ?_⟩
  rw [List.length_append, List.take_add, hr, List.drop_drop, hr']
theorem Row.of_each {α : Type} {k : Nat} {enc : α → List Value} (he : ∀ x, (enc x).length = k) {w : World} {b : Nat} : ∀ (xs : List α) (off : Nat), xs ≠ [] → (∀ (i : Nat) (h : i < xs.length), Row w b (off + i * k) (enc xs[i])) → Row w b off (xs.flatMap enc)
  | [], _, h, _ => absurd rfl h
  | x :: xs, off, _, h => by
    have h0 : Row w b off (enc x) := by
      have := h 0 (by simp)
      rw [Nat.zero_mul] at this; exact this
    rw [List.flatMap_cons]
    by_cases hx : xs = []
    · subst hx; simpa using h0
    · refine h0.join (Row.of_each he xs _ hx fun i hi => ?_)
      have := h (i + 1) (by simpa using hi)
      rw [he, show off + k + i * k = off + (i + 1) * k by rw [Nat.succ_mul]; omega]
      simpa using this

theorem add_eq (a : Addr) (i : Nat) (h : a.spot = none) : a.add i = ⟨a.block, a.off + i, none⟩ := by
  unfold Addr.add
  split
  · rename_i h0; subst h0; cases a; simp_all
  · rfl
theorem cells_row {w : World} {base k : Nat} {a : Addr} {cs : List Value} (hk : 0 < k) (h : w.cells? base a k = some cs) : a.spot = none ∧ cs.length = k ∧ Row w a.block a.off cs := by
  unfold World.cells? at h
  split at h
  · have hl : cs.length = k := by simpa using mapM_some_length h
    have hg : ∀ i, i < k → w.cell? (a.add i) = cs[i]? := fun i hi => mapM_some_get h i i (by simp [hi])
    have hspot : a.spot = none ∧ ∃ c t f, w.heap[a.block]? = some (.cells c t f) := by
      have h0 := hg 0 hk
      rw [List.getElem?_eq_getElem (by omega), show a.add 0 = a from rfl] at h0
      unfold World.cell? at h0
      split at h0
      · rename_i c t f hb
        split at h0
        · cases h0
        · rename_i hs; exact ⟨by simpa using hs, c, t, f, hb⟩
      · cases h0
    obtain ⟨hs, c, t, f, hb⟩ := hspot
    have hc : ∀ i, i < k → c[a.off + i]? = cs[i]? := fun i hi => by
      rw [← hg i hi, add_eq a i hs]; simp [World.cell?, hb]
    refine ⟨hs, hl, c, t, f, hb, ?_, ?_⟩
    · have h1 := hc (k - 1) (by omega)
      rw [List.getElem?_eq_getElem (by omega)] at h1
      have := (Array.getElem?_eq_some_iff.1 h1).1
      rw [hl, Array.length_toList]; omega
    · refine List.ext_getElem? fun i => ?_
      by_cases hi : i < k
      · rw [List.getElem?_take, if_pos (by omega), List.getElem?_drop, Array.getElem?_toList]; exact hc i hi
      · rw [List.getElem?_eq_none (by rw [List.length_take]; omega), List.getElem?_eq_none (by omega)]
  · cases h

section
variable {H : Type} {enc : TypeId × Value → H} {w : World} {base : Nat} {sp : Nat → Bool} {held : Bool}

theorem open_sl {α : Type} {t e k fuel : Nat} {enc' : α → List Value} {Q : α → DataW H → Prop} (hk : 0 < k) (he : ∀ x, (enc' x).length = k) (ht : Tryz.prog.underlying t = some (.slice e)) (hc : Tryz.prog.cellsOf e = k)
    (hel : ∀ (n : Nat) (cs : List Value) (x : DataW H × List MemPlace), DataW.trod enc Tryz.prog w base sp held n e cs = some x → ∃ a, cs = enc' a ∧ Q a x.1)
    {cs : List Value} {x : DataW H × List MemPlace} (h : DataW.trod enc Tryz.prog w base sp held fuel t cs = some x) :
    ∃ v xs, cs = [v] ∧ oneCell v = true ∧ Sl k enc' w v xs ∧ xs.length + 1 ≤ Rows.uptoBulk x.1 ∧ ∀ a ∈ xs, ∃ d, Q a d ∧ Rows.uptoBulk d + 1 ≤ Rows.uptoBulk x.1 := by
  rcases Deep.open_slice ht h with ⟨rfl, rfl⟩ | ⟨a, len, cap, m, n, D, Pl, rfl, hb, hl, hm, hmm, rfl, hx⟩
  · exact ⟨_, [], rfl, rfl, Sl.nil .., bulk_one _, fun _ h => by cases h⟩
  have hmlen : len ≤ m := by rw [hmm]; split <;> omega
  rw [hc] at hx
  have hspot : 0 < len → a.spot = none := fun h0 => by
    obtain ⟨cs', h1, _⟩ := hx 0 (by omega)
    have := (cells_row hk h1).1
    rw [Nat.zero_mul, show a.add 0 = a from rfl] at this; exact this
  obtain ⟨xs, hxl, hxs⟩ := list_of (p := fun i (y : α) => Row w a.block (a.off + i * k) (enc' y) ∧ Q y (D i)) len fun i hi => by
    obtain ⟨cs', h1, h2⟩ := hx i (by omega)
    obtain ⟨y, rfl, hq⟩ := hel _ _ _ h2
    have hr := (cells_row hk h1).2.2
    rw [add_eq a _ (hspot (by omega))] at hr
    exact ⟨y, hr, hq⟩
  refine ⟨_, xs, rfl, rfl, ⟨some a, cap, by rw [hxl], by omega, fun hne => ?_⟩, ?_, fun y hy => ?_⟩
  · have h0 : 0 < len := by rw [← hxl]; exact List.length_pos_iff.2 hne
    refine ⟨a.block, a.off, ?_, Row.of_each he xs _ hne fun i hi => (hxs i hi).1⟩
    have := hspot h0
    cases a; simp_all
  · simp only [Rows.uptoBulk]
    have := bulk_len ((List.range len).map D)
    rw [List.length_map, List.length_range] at this
    omega
  · obtain ⟨i, hi, rfl⟩ := List.mem_iff_getElem.1 hy
    refine ⟨D i, (hxs i hi).2, ?_⟩
    simp only [Rows.uptoBulk]
    have : D i ∈ (List.range len).map D := List.mem_map.2 ⟨i, List.mem_range.2 (by omega), rfl⟩
    have := bulk_part this
    omega

theorem open_str {t fuel : Nat} (ht : Tryz.prog.underlying t = some .string) {cs : List Value} {x : DataW H × List MemPlace} (h : DataW.trod enc Tryz.prog w base sp held fuel t cs = some x) :
    ∃ l : Bytes, cs = [str l] ∧ Rows.uptoBulk x.1 = l.length + 1 := by
  obtain ⟨s, rfl, rfl, _⟩ := DataW.trod_string ht h
  exact ⟨s.data.toList, rfl, by simp [Rows.uptoBulk]⟩

theorem u_int : Tryz.prog.underlying t_int = some (.int .i64) := by kernel_rfl
theorem u_str : Tryz.prog.underlying t_string = some .string := by kernel_rfl
theorem u_bool : Tryz.prog.underlying t_bool = some .bool := by kernel_rfl
theorem u_u8 : Tryz.prog.underlying t_uint8 = some (.int .u8) := by kernel_rfl
theorem c_int : Tryz.prog.cellsOf t_int = 1 := by kernel_rfl
theorem c_str : Tryz.prog.cellsOf t_string = 1 := by kernel_rfl
theorem c_bool : Tryz.prog.cellsOf t_bool = 1 := by kernel_rfl
theorem c_u8 : Tryz.prog.cellsOf t_uint8 = 1 := by kernel_rfl
theorem c_bytes : Tryz.prog.cellsOf t_S_uint8 = 1 := by kernel_rfl
theorem c_meta : Tryz.prog.cellsOf t_api_Meta = 5 := by kernel_rfl
theorem c_rule : Tryz.prog.cellsOf t_api_Rule = 4 := by kernel_rfl
theorem c_act : Tryz.prog.cellsOf t_remoraref17_Act = 9 := by kernel_rfl

theorem open_bytes {fuel : Nat} {cs : List Value} {x : DataW H × List MemPlace} (h : DataW.trod enc Tryz.prog w base sp held fuel t_S_uint8 cs = some x) :
    ∃ v l, cs = [v] ∧ oneCell v = true ∧ Sl 1 u8E w v l ∧ l.length + 1 ≤ Rows.uptoBulk x.1 := by
  obtain ⟨v, l, h1, h2, h3, h4, _⟩ := open_sl (Q := fun _ _ => True) (by omega) u8E_len (by kernel_rfl) c_u8 (fun n cs x hx => by
    obtain ⟨i, rfl, _, hw⟩ := DataW.trod_int u_u8 hx
    have hi : 0 ≤ i ∧ i ≤ 255 := by simpa [Lit.wf, IntKind.min, IntKind.max, IntKind.signed, IntKind.bits] using hw
    refine ⟨UInt8.ofNat i.toNat, ?_, trivial⟩
    simp only [u8E]
    congr 2
    rw [UInt8.toNat_ofNat_of_lt' (by show i.toNat < 256; omega)]; omega) h
  exact ⟨v, l, h1, h2, h3, h4⟩

theorem open_rule {fuel : Nat} {cs : List Value} {x : DataW H × List MemPlace} (h : DataW.trod enc Tryz.prog w base sp held fuel t_api_Rule cs = some x) :
    ∃ r : Rule, cs = ruleE r ∧ r.pat.length ≤ Rows.uptoBulk x.1 := by
  obtain ⟨xs, n, _, rfl, hl, hlen, hf⟩ := DataW.trod_struct Tryz.underlying32 h
  rw [c_rule] at hl
  match xs, hlen with
  | [y0, y1, y2, y3], _ =>
    have h0 : DataW.trod enc Tryz.prog w base sp held n t_int ((cs.drop 0).take (Tryz.prog.cellsOf t_int)) = some y0 := hf 0 _ rfl
    have h1 : DataW.trod enc Tryz.prog w base sp held n t_string ((cs.drop 1).take (Tryz.prog.cellsOf t_string)) = some y1 := hf 1 _ rfl
    have h2 : DataW.trod enc Tryz.prog w base sp held n t_bool ((cs.drop 2).take (Tryz.prog.cellsOf t_bool)) = some y2 := hf 2 _ rfl
    have h3 : DataW.trod enc Tryz.prog w base sp held n t_bool ((cs.drop 3).take (Tryz.prog.cellsOf t_bool)) = some y3 := hf 3 _ rfl
    rw [c_int] at h0
    rw [c_str] at h1
    rw [c_bool] at h2 h3
    obtain ⟨a, e0, rfl, _⟩ := DataW.trod_int u_int h0
    obtain ⟨p, e1, hb⟩ := open_str u_str h1
    obtain ⟨d, e2, rfl⟩ := DataW.trod_bool u_bool h2
    obtain ⟨an, e3, rfl⟩ := DataW.trod_bool u_bool h3
    match cs, hl with
    | [c0, c1, c2, c3], _ =>
      simp only [List.drop_zero, List.take_succ_cons, List.take_zero, List.drop_succ_cons, List.cons.injEq, and_true] at e0 e1 e2 e3
      subst e0 e1 e2 e3
      refine ⟨⟨a, p, d, an⟩, rfl, ?_⟩
      simp only [List.map_cons, List.map_nil, Rows.uptoBulk, Rows.uptoBulkAll, hb]
      omega

theorem open_rules {fuel : Nat} {cs : List Value} {x : DataW H × List MemPlace} (h : DataW.trod enc Tryz.prog w base sp held fuel t_S_api_Rule cs = some x) :
    ∃ v L, cs = [v] ∧ oneCell v = true ∧ Sl 4 ruleE w v L ∧ L.length + 1 ≤ Rows.uptoBulk x.1 ∧ ∀ r ∈ L, r.pat.length ≤ Rows.uptoBulk x.1 := by
  obtain ⟨v, l, h1, h2, h3, h4, h5⟩ := open_sl (Q := fun (r : Rule) d => r.pat.length ≤ Rows.uptoBulk d) (by omega) ruleE_len (by kernel_rfl) c_rule (fun _ _ _ hx => open_rule hx) h
  exact ⟨v, l, h1, h2, h3, h4, fun r hr => by obtain ⟨d, hd, hd'⟩ := h5 r hr; omega⟩

theorem open_act {fuel : Nat} {cs : List Value} {x : DataW H × List MemPlace} (h : DataW.trod enc Tryz.prog w base sp held fuel t_remoraref17_Act cs = some x) :
    ∃ a : Deed × Value, cs = deedE a ∧ Sl 1 u8E w a.2 a.1.data ∧ a.1.path.length + a.1.to.length + a.1.data.length ≤ Rows.uptoBulk x.1 := by
  obtain ⟨xs, n, _, rfl, hl, hlen, hf⟩ := DataW.trod_struct Tryz.underlying67 h
  rw [c_act] at hl
  match xs, hlen with
  | [y0, y1, y2, y3, y4], _ =>
    have h0 : DataW.trod enc Tryz.prog w base sp held n t_int ((cs.drop 0).take (Tryz.prog.cellsOf t_int)) = some y0 := hf 0 _ rfl
    have h1 : DataW.trod enc Tryz.prog w base sp held n t_string ((cs.drop 1).take (Tryz.prog.cellsOf t_string)) = some y1 := hf 1 _ rfl
    have h2 : DataW.trod enc Tryz.prog w base sp held n t_string ((cs.drop 2).take (Tryz.prog.cellsOf t_string)) = some y2 := hf 2 _ rfl
    have h3 : DataW.trod enc Tryz.prog w base sp held n t_S_uint8 ((cs.drop 3).take (Tryz.prog.cellsOf t_S_uint8)) = some y3 := hf 3 _ rfl
    have h4 : DataW.trod enc Tryz.prog w base sp held n t_api_Meta ((cs.drop 4).take (Tryz.prog.cellsOf t_api_Meta)) = some y4 := hf 4 _ rfl
    rw [c_int] at h0
    rw [c_str] at h1 h2
    rw [c_bytes] at h3
    rw [c_meta] at h4
    obtain ⟨a, e0, rfl, _⟩ := DataW.trod_int u_int h0
    obtain ⟨p, e1, hb1⟩ := open_str u_str h1
    obtain ⟨q, e2, hb2⟩ := open_str u_str h2
    obtain ⟨v, l, e3, _, hs, hb3⟩ := open_bytes h3
    obtain ⟨zs, n', _, rfl, _, hzl, hg⟩ := DataW.trod_struct Tryz.underlying39 h4
    match zs, hzl with
    | [z0, z1, z2, z3, z4], _ =>
      match cs, hl with
      | [c0, c1, c2, c3, c4, c5, c6, c7, c8], _ =>
        have g0 : DataW.trod enc Tryz.prog w base sp held n' t_int (([c4, c5, c6, c7, c8].drop 0).take (Tryz.prog.cellsOf t_int)) = some z0 := hg 0 _ rfl
        have g1 : DataW.trod enc Tryz.prog w base sp held n' t_int (([c4, c5, c6, c7, c8].drop 1).take (Tryz.prog.cellsOf t_int)) = some z1 := hg 1 _ rfl
        have g2 : DataW.trod enc Tryz.prog w base sp held n' t_int (([c4, c5, c6, c7, c8].drop 2).take (Tryz.prog.cellsOf t_int)) = some z2 := hg 2 _ rfl
        have g3 : DataW.trod enc Tryz.prog w base sp held n' t_int (([c4, c5, c6, c7, c8].drop 3).take (Tryz.prog.cellsOf t_int)) = some z3 := hg 3 _ rfl
        have g4 : DataW.trod enc Tryz.prog w base sp held n' t_int (([c4, c5, c6, c7, c8].drop 4).take (Tryz.prog.cellsOf t_int)) = some z4 := hg 4 _ rfl
        rw [c_int] at g0 g1 g2 g3 g4
        obtain ⟨m0, f0, _, _⟩ := DataW.trod_int u_int g0
        obtain ⟨m1, f1, _, _⟩ := DataW.trod_int u_int g1
        obtain ⟨m2, f2, _, _⟩ := DataW.trod_int u_int g2
        obtain ⟨m3, f3, _, _⟩ := DataW.trod_int u_int g3
        obtain ⟨m4, f4, _, _⟩ := DataW.trod_int u_int g4
        simp only [List.drop_zero, List.take_succ_cons, List.take_zero, List.drop_succ_cons, List.cons.injEq, and_true] at e0 e1 e2 e3 f0 f1 f2 f3 f4
        subst e0 e1 e2 e3 f0 f1 f2 f3 f4
        refine ⟨(⟨a, p, q, l, ⟨m0, m1, m2, m3, m4⟩⟩, _), rfl, hs, ?_⟩
        simp only [List.map_cons, List.map_nil, Rows.uptoBulk, Rows.uptoBulkAll, hb1, hb2]
        omega

theorem open_acts {fuel : Nat} {cs : List Value} {x : DataW H × List MemPlace} (h : DataW.trod enc Tryz.prog w base sp held fuel t_S_remoraref17_Act cs = some x) :
    ∃ v l, cs = [v] ∧ oneCell v = true ∧ ActsAt w v l ∧ l.length + 1 ≤ Rows.uptoBulk x.1 ∧ ∀ a ∈ l, a.1.path.length + a.1.to.length + a.1.data.length ≤ Rows.uptoBulk x.1 := by
  obtain ⟨v, l, h1, h2, h3, h4, h5⟩ := open_sl (Q := fun (a : Deed × Value) d => Sl 1 u8E w a.2 a.1.data ∧ a.1.path.length + a.1.to.length + a.1.data.length ≤ Rows.uptoBulk d) (by omega) deedE_len (by kernel_rfl) c_act (fun _ _ _ hx => open_act hx) h
  exact ⟨v, l, h1, h2, ⟨h3, fun a ha => by obtain ⟨d, hd, _⟩ := h5 a ha; exact hd.1⟩, h4, fun r hr => by obtain ⟨d, hd, hd'⟩ := h5 r hr; omega⟩

theorem same_ext {w w' : World} (hx : Ext w w') {p : MemPlace} (hp : p.block < w.heap.size) : w.sameAt w' p := by
  cases p with
  | cell b off => simp only [World.sameAt, World.cell?, hx.block b hp (fun h => h)]
  | map b => simp only [World.sameAt, hx.block b hp (fun h => h)]

theorem laid_out : Go.laidOutB Tryz.prog = true := by kernel_rfl

theorem all_stay {W W' : World} {sp' : Nat → Bool} : ∀ {ts : List TypeId} {vs : List Value} {ds : List (DataW H)} {ps : List MemPlace}, (∀ t ∈ ts, t < Tryz.prog.types.size ∧ Tryz.prog.readableRec t = true) →
    DataW.TrodAll enc Tryz.prog W base (fun _ => true) true ts vs ds ps → (∀ p ∈ ps, W.sameAt W' p) → (∀ p ∈ ps, sp' p.block = true) → DataW.TrodAll enc Tryz.prog W' base sp' true ts vs ds ps
  | [], [], [], _, _, h, _, _ => h
  | _ :: _, _ :: _, _ :: _, _, hT, ⟨p, q, h1, h2, e⟩, hs, hq =>
    ⟨p, q, WideElems.Trod_stays laid_out (hT _ (List.mem_cons.2 (Or.inl rfl))).2 (hT _ (List.mem_cons.2 (Or.inl rfl))).1 h1 (fun x hx => hs x (by rw [e]; exact List.mem_append_left _ hx)) (fun x hx => hq x (by rw [e]; exact List.mem_append_left _ hx)),
      all_stay (fun t ht => hT t (List.mem_cons.2 (Or.inr ht))) h2 (fun x hx => hs x (by rw [e]; exact List.mem_append_right _ hx)) (fun x hx => hq x (by rw [e]; exact List.mem_append_right _ hx)), e⟩

theorem kept_ext {w w' : World} (hx : Ext w w') (may : MemPlace → Prop) : w.keptBut w' may := by
  refine ⟨hx.os, hx.output, fun i hi => ?_⟩
  rw [hx.block i hi (fun h => h)]
  cases h : w.heap[i]? with
  | none => trivial
  | some o => cases o <;> simp

/-- Where nothing old was turned, what was handed in reads as it did. -/
theorem post_ext {f : Func} {s : ChangeSpec} {apart fresh handsOn again : Bool} {W W' : World} {args : Array Value} {v : Value} {ds : List (DataW H)} {before : List MemPlace}
    (hW : DataW.Whole enc Tryz.prog f.params.toList s.vars apart W args.toList ds [] before) (hv : s.vars = []) (hx : Ext W W')
    (hT : ∀ t ∈ f.params.toList, t < Tryz.prog.types.size ∧ Tryz.prog.readableRec t = true)
    (hres : ∀ (b : Nat) (sp : Nat → Bool) (hd : Bool), DataW.TrodAll enc Tryz.prog W' b sp hd f.resultTypes.toList (v.resultList f.resultTypes.size) (s.fn H ds).results [])
    (hargs : (s.fn H ds).args = ds) (hvars : (s.fn H ds).vars = [])
    (hok : ∀ (j : Nat) (t : TypeId) (r : Value), f.resultTypes[j]? = some t → (v.resultList f.resultTypes.size)[j]? = some r → Value.okWide Tryz.prog W' .any 0 t r) :
    s.post enc Tryz.prog f apart fresh handsOn again W args v W' := by
  have hlt := hW.lt
  have hW' := hW
  obtain ⟨p, q, hA, hV, rfl, hz, hn⟩ := hW
  rw [hv] at hV
  obtain ⟨_, rfl⟩ := ChangeShapes.trodVars_none hV
  rw [List.append_nil] at hz hn hlt
  have stay : ∀ sp : Nat → Bool, (∀ x ∈ p, sp x.block = true) → DataW.TrodAll enc Tryz.prog W' 0 sp true f.params.toList args.toList (s.fn H (ds ++ [])).args p := fun sp hsp => by
    rw [List.append_nil, hargs]
    exact all_stay hT hA (fun x h => same_ext hx (hlt x h)) hsp
  have hres' : ∀ (b : Nat) (sp : Nat → Bool) (hd : Bool), DataW.TrodAll enc Tryz.prog W' b sp hd f.resultTypes.toList (v.resultList f.resultTypes.size) (s.fn H (ds ++ [])).results [] := by
    rw [List.append_nil]; exact hres
  have nov : ∀ sp : Nat → Bool, DataW.TrodVars enc Tryz.prog W' sp s.vars (s.fn H (ds ++ [])).vars [] := fun sp => by
    rw [List.append_nil, hv, hvars]; rfl
  have hold : ∀ x ∈ p, (fun b => decide (b < W.heap.size)) x.block = true := fun x h => by simpa using hlt x h
  refine ⟨ds, [], p ++ [], [], p, [], hW', hres' _ _ _, stay _ hold, nov _, kept_ext hx _, fun _ => ?_⟩
  refine ⟨hok, _, _, ([] ++ p) ++ [], ⟨[] ++ p, [], ChangeShapes.trodAll_append (stay _ (fun _ _ => rfl)) (hres' _ _ _), nov _, rfl, ?_, ?_⟩, ?_⟩
  · intro b off hp
    have hp' : MemPlace.cell b off ∈ p := by simpa using hp
    have h1 := hz b off hp'
    have h2 := hx.block b (hlt _ hp') (fun h => h)
    unfold World.frozen? at h1 ⊢
    rw [show (⟨b, off, none⟩ : Addr).block = b from rfl] at h1 ⊢
    rw [h2]; exact h1
  · intro ha
    have := hn ha
    simpa using this
  · intro x hx _
    simpa using hx
end
end Go.Proofs.YtkpefimnggojdaaGreat.VX
