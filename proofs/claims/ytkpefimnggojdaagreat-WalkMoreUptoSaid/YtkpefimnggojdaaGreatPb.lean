/-
  Contracts: the order of paths; a stable sort of what is in order.
-/
import Derived.Test.YtkpefimnggojdaaGreatPa
import Derived.Test.YtkpefimnggojdaaGreatVl
import Derived.Test.YtkpefimnggojdaaGreatVp1
set_option linter.all false
namespace Go.Proofs.YtkpefimnggojdaaGreat.VX
open Go Pl

def cmpL : List Bytes → List Bytes → Int
  | [], [] => 0
  | [], _ :: _ => -1
  | _ :: _, [] => 1
  | a :: l, b :: m => if cmpB a b = 0 then cmpL l m else cmpB a b

theorem cmpL_cons (a b : Bytes) (l m : List Bytes) : cmpL (a :: l) (b :: m) = if cmpB a b = 0 then cmpL l m else cmpB a b := rfl
theorem Compare_spec {w : World} {u v : Value} {xs ys : List Bytes} (hu : Sl 1 strE w u xs) (hv : Sl 1 strE w v ys) (hx : xs.length ≤ 4294967296) (hy : ys.length ≤ 4294967296) :
    CallsV Tryz.prog f_slices_Compare_S_string_string #[u, v] w fun r w' => r = .int .i64 (cmpL xs ys) ∧ w' = w := by
  refine ok_slices_Compare_S_string_string _ _ _ _ ?_
  unfold go_slices_Compare_S_string_string
  refine hu.len ?_
  refine ⟨fun g w' => ∃ k : Nat, k ≤ xs.length ∧ k ≤ ys.length ∧ nth g 5 = .int .i64 k ∧ cmpL (xs.drop k) (ys.drop k) = cmpL xs ys ∧ w' = w, fun g _ => xs.length - ixOf g 5, ⟨0, Nat.zero_le _, Nat.zero_le _, rfl, rfl, rfl⟩, ?_⟩
  rintro g z _ ⟨k, hk, hk', hg, he, rfl⟩
  simp only [hg, vxs]
  refine cnd_split (fun h => ?_) (fun h => ?_)
  · have hlt : k < xs.length := by simp at h; omega
    refine hu.ia strE_len k hlt fun b off hr => ?_
    refine hr.ld1 (i := 0) rfl _ ?_
    refine hv.len ?_
    simp only [vxs]
    have ex : xs.drop k = xs[k] :: xs.drop (k + 1) := List.drop_eq_getElem_cons hlt
    refine cnd_split (fun h => ?_) (fun h => ?_)
    · have : ys.length ≤ k := by simp at h; omega
      rw [← he, ex, List.drop_eq_nil_of_le this]
      exact ⟨rfl, trivial⟩
    · have hlt' : k < ys.length := by simp at h; omega
      have ey : ys.drop k = ys[k] :: ys.drop (k + 1) := List.drop_eq_getElem_cons hlt'
      refine hv.ia strE_len k hlt' fun b' off' hr' => ?_
      refine hr'.ld1 (i := 0) rfl _ ?_
      refine call_ok has_cmp_Compare_string (cmp_spec _ _ _) ?_
      rintro _ _ ⟨rfl, rfl⟩
      simp only [vxs]
      rw [ex, ey, cmpL_cons] at he
      refine cnd_split (fun h => ?_) (fun h => ?_)
      · have h' : ¬ cmpB xs[k] ys[k] = 0 := by simpa using h
        rw [if_neg h'] at he
        rw [← he]; exact ⟨rfl, trivial⟩
      · have h' : cmpB xs[k] ys[k] = 0 := by simpa using h
        rw [if_pos h'] at he
        refine int_add (by omega) ⟨⟨k + 1, hlt, hlt', rfl, he, trivial⟩, ?_⟩
        rw [ixOf_of hg, ixOf_of (n := k + 1) rfl]; omega
  · have hke : k = xs.length := by simp at h; omega
    subst hke
    refine hu.len (hv.len ?_)
    simp only [vxs]
    rw [List.drop_length] at he
    refine cnd_split (fun h => ?_) (fun h => ?_)
    · have : xs.length < ys.length := by simp at h; omega
      rw [List.drop_eq_getElem_cons this] at he
      rw [← he]; exact ⟨rfl, trivial⟩
    · have : ys.length ≤ xs.length := by simp at h; omega
      rw [List.drop_eq_nil_of_le this] at he
      rw [← he]; exact ⟨rfl, trivial⟩

def cmpP (a b : Bytes) : Int := cmpL (split a) (split b)
theorem Sort_d1_spec (a b : Bytes) (ha : a.length ≤ 4294967290) (hb : b.length ≤ 4294967290) (w : World) : CallsV Tryz.prog f_path_Sort_d1 #[str a, str b] w fun v w' => v = .int .i64 (cmpP a b) ∧ Ext w w' := by
  refine ok_path_Sort_d1 _ _ _ _ ?_
  unfold go_path_Sort_d1
  refine call_ok has_path_Split (Split_spec a ha w) ?_
  rintro u w1 ⟨h1, x1⟩
  refine call_ok has_path_Split (Split_spec b hb w1) ?_
  rintro v w2 ⟨h2, x2⟩
  have la := split_len a; have lb := split_len b
  refine call_ok has_slices_Compare_S_string_string (Compare_spec ((Sl.of_own strE_len h1).ext x2) (Sl.of_own strE_len h2) (by omega) (by omega)) ?_
  rintro _ _ ⟨rfl, rfl⟩
  exact ⟨rfl, Ext.trans x1 x2⟩

theorem Under_spec (p top : Bytes) (ha : p.length ≤ 4294967290) (hb : top.length ≤ 4294967290) (w : World) : CallsV Tryz.prog f_path_Under #[str p, str top] w fun v w' => v = .bool (underB p top) ∧ Ext w w' := by
  refine ok_path_Under _ _ _ _ ?_
  unfold go_path_Under
  refine call_ok has_path_Split (Split_spec p ha w) ?_
  rintro u w1 ⟨h1, x1⟩
  refine call_ok has_path_Split (Split_spec top hb w1) ?_
  rintro v w2 ⟨h2, x2⟩
  have la := split_len p; have lb := split_len top
  have s1 := (Sl.of_own strE_len h1).ext x2
  have s2 := Sl.of_own strE_len h2
  refine s1.len (s2.len ?_)
  simp only [vxs]
  refine gd_and (fun h => ?_) (fun h => ?_)
  · have hle : (split top).length ≤ (split p).length := by simp at h; omega
    refine s2.len ?_
    obtain ⟨a, cap, rfl, hc, hr⟩ := s1
    have cut : Sl 1 strE w2 (.slice (if cap = 0 then a else a.map (·.add 0)) (split top).length cap) ((split p).take (split top).length) := by
      refine ⟨_, cap, by rw [List.length_take, Nat.min_eq_left hle], by rw [List.length_take]; omega, fun hne => ?_⟩
      obtain ⟨b, off, rfl, c, t, f, hb, hl, ht⟩ := hr (fun e => hne (by rw [e]; simp))
      refine ⟨b, off, by split <;> simp [addr_add], c, t, f, hb, ?_, ?_⟩
      · rw [flat_len strE_len] at hl ⊢; rw [List.length_take]; omega
      · rw [flat_len strE_len] at ht ⊢
        rw [em_str] at ht ⊢
        rw [List.map_take, ← ht, List.take_take]
        congr 1; rw [List.length_take]; omega
    simp only [slV, bndI]
    refine ⟨by omega, by simp; omega, by omega, by simp, ?_⟩
    refine call_ok has_slices_Equal_S_string_string (Equal_spec (xs := (split p).take (split top).length) (ys := split top) (by simpa using cut) s2 (by rw [List.length_take]; omega) (by omega)) ?_
    rintro _ w3 ⟨rfl, x3⟩
    simp only [vxs]
    refine ⟨?_, Ext.trans (Ext.trans x1 x2) x3⟩
    simp [underB, isPre, hle]
  · have hle : ¬ (split top).length ≤ (split p).length := by simp at h; omega
    refine ⟨?_, Ext.trans x1 x2⟩
    simp [underB, isPre, hle]

/-! A stable sort of what is in order turns nothing. -/
def Ris (xs : List Bytes) : Prop := ∀ i j (h : i < j) (hj : j < xs.length), 0 ≤ cmpP xs[j] (xs[i]'(by omega))
structure Dat (w : World) (v : Value) (xs : List Bytes) : Prop where
  sl : Sl 1 strE w v xs
  ris : Ris xs
  len : xs.length ≤ 4294967296
  each : ∀ x ∈ xs, x.length ≤ 4294967290
theorem Dat.ext {w w' : World} {v : Value} {xs : List Bytes} (h : Dat w v xs) (hx : Ext w w') : Dat w' v xs := ⟨h.sl.ext hx, h.ris, h.len, h.each⟩
def adr (v : Value) (i : Nat) : Value := .pointer (some ⟨(match v with | .slice (some a) _ _ => a.block | _ => 0), (match v with | .slice (some a) _ _ => a.off | _ => 0) + i, none⟩)
theorem Dat.call {w : World} {v : Value} {xs : List Bytes} (h : Dat w v xs) {i j : Nat} (hi : i < xs.length) (hj : j < xs.length) {w' : World} {K : Value → World → Prop}
    (hk : ∀ w'', Ext w' w'' → K (.int .i64 (cmpP xs[i] xs[j])) w'') : callv Tryz.prog (fnv f_path_Sort_d1) [str xs[i], str xs[j]] w' K := by
  refine call_ok has_path_Sort_d1 (Sort_d1_spec xs[i] xs[j] (h.each _ (List.getElem_mem hi)) (h.each _ (List.getElem_mem hj)) w') ?_
  rintro _ w'' ⟨rfl, hx⟩
  exact hk w'' hx
/-- The address of xs[i], and what is loaded there. -/
theorem Dat.ia {w : World} {v : Value} {xs : List Bytes} (h : Dat w v xs) (i : Nat) (hi : i < xs.length) {q : IntKind} {K : Value → Prop} (hk : K (adr v i)) : VX.ia 1 v (.int q i) K := by
  obtain ⟨a, cap, rfl, hc, hr⟩ := h.sl
  obtain ⟨b, off, rfl, hrow⟩ := hr (by intro e; rw [e] at hi; simp at hi)
  refine ⟨⟨by omega, by omega⟩, ?_⟩
  rw [addr_add, Int.toNat_natCast, Nat.mul_one]
  exact hk
theorem Dat.ld {w : World} {v : Value} {xs : List Bytes} (h : Dat w v xs) (i : Nat) (hi : i < xs.length) {K : Value → Prop} (hk : K (str xs[i])) :
    VX.ld (adr v i) w K := by
  obtain ⟨a, cap, rfl, hc, hr⟩ := h.sl
  obtain ⟨b, off, rfl, hrow⟩ := hr (by intro e; rw [e] at hi; simp at hi)
  exact hrow.ld1 (i := i) (by rw [em_str, List.getElem?_map, List.getElem?_eq_getElem hi]; rfl) K hk

theorem insertion_spec {w : World} {v : Value} {xs : List Bytes} (h : Dat w v xs) (a b : Nat) (hb : b ≤ xs.length) (hab : a ≤ 4294967296) :
    CallsV Tryz.prog f_slices_insertionSortCmpFunc_string #[v, .int .i64 a, .int .i64 b, fnv f_path_Sort_d1] w fun r w' => Ext w w' := by
  refine ok_slices_insertionSortCmpFunc_string _ _ _ _ _ _ ?_
  unfold go_slices_insertionSortCmpFunc_string
  refine int_add (by omega) ?_
  have hl := h.len
  refine ⟨fun g w' => ∃ i : Nat, a < i ∧ nth g 1 = .int .i64 i ∧ i ≤ 4294967299 ∧ Ext w w', fun g _ => b - ixOf g 1, ⟨a + 1, by omega, by simp [nth], by omega, .refl _ _⟩, ?_⟩
  rintro g z w1 ⟨i, hi, hg, hi2, hx⟩
  simp only [hg, vxs]
  refine cnd_split (fun hc => ?_) (fun hc => hx)
  have hib : i < b := by simp at hc; omega
  refine ⟨fun g' w' => nth g' 0 = .int .i64 i ∧ Ext w w', fun _ _ => 0, ⟨rfl, hx⟩, ?_⟩
  rintro g' z' w2 ⟨hg', hx2⟩
  simp only [hg', vxs]
  have hgt : decide ((a : Int) < (i : Int)) = true := by simpa using by omega
  have hge : ¬ cmpP xs[i] xs[i - 1] < 0 := by have := h.ris (i - 1) i (by omega) (by omega); omega
  have e1 : ((i : Int) - 1) = ((i - 1 : Nat) : Int) := by omega
  refine drw_det [undef, undef, .bool true, undef, fnv f_path_Sort_d1, v, .int .i64 i, adr v i, str xs[i], v, .int .i64 i, .int .i64 ((i - 1 : Nat) : Int), adr v (i - 1), str xs[i - 1], .int .i64 (cmpP xs[i] xs[i - 1]), .bool false, .bool false] ?_ ?_
  · refine ⟨?_, ?_, ?_, ?_, ?_, ?_, ?_, ?_, ?_, ?_, ?_, ?_, ?_, ?_, trivial⟩ <;> intro d w3 k hd hx3 hk <;>
      simp only [List.mem_cons, List.not_mem_nil, or_false, forall_eq_or_imp, forall_eq, vxs, hgt] at hd hk ⊢
    · exact hk _ (.refl _ _)
    · rw [hd]; exact hk _ (.refl _ _)
    · rw [hd]; exact hk _ (.refl _ _)
    · rw [hd]; exact hk _ (.refl _ _)
    · obtain ⟨h5, h6, h2⟩ := hd
      rw [h2, h5, h6]
      exact h.ia (K := fun x => k x w3) i (by omega) (hk _ (.refl _ _))
    · obtain ⟨h7, h5, h6, h2⟩ := hd
      rw [h2, h7]
      exact (h.ext (Ext.trans hx2 hx3)).ld i (by omega) (hk _ (.refl _ _))
    · rw [hd]; exact hk _ (.refl _ _)
    · rw [hd]; exact hk _ (.refl _ _)
    · obtain ⟨h10, h2⟩ := hd
      rw [h2, h10]
      refine int_sub (by omega) ?_
      rw [e1]; exact hk _ (.refl _ _)
    · obtain ⟨h9, h11, h2, _⟩ := hd
      rw [h2, h9, h11]
      exact h.ia (K := fun x => k x w3) (i - 1) (by omega) (hk _ (.refl _ _))
    · obtain ⟨h12, _, _, h2, _⟩ := hd
      rw [h2, h12]
      exact (h.ext (Ext.trans hx2 hx3)).ld (i - 1) (by omega) (hk _ (.refl _ _))
    · obtain ⟨h4, h8, h13, h2, _⟩ := hd
      rw [h4, h8, h13, h2]
      exact h.call (by omega) (by omega) hk
    · obtain ⟨h14, _, _, _, h2, _⟩ := hd
      rw [h14, h2]
      simp only [vxs, hge, decide_false]
      exact hk _ (.refl _ _)
    · obtain ⟨h15, h2, _⟩ := hd
      rw [h15, h2]
      exact hk _ (.refl _ _)
  · intro d w3 hd hx3
    have h16 := hd 16 (by simp)
    simp only [h16, vxs]
    refine int_add (by omega) ⟨⟨i + 1, by omega, rfl, by omega, Ext.trans hx2 hx3⟩, ?_⟩
    rw [ixOf_of hg, ixOf_of (n := i + 1) rfl]; omega

/-- The six values of 'cmp(data[i], data[j]) < 0', by places. -/
theorem Dat.less {w : World} {v : Value} {xs : List Bytes} (h : Dat w v xs) {i j : Nat} (hi : i < xs.length) (hj : j < xs.length) : Dat w v xs ∧ i < xs.length ∧ j < xs.length := ⟨h, hi, hj⟩

theorem symMerge_spec {v : Value} {xs : List Bytes} : ∀ (n : Nat) (w : World) (a m b : Nat), Dat w v xs → b - a ≤ n → a < m → m < b → b ≤ xs.length →
    CallsV Tryz.prog f_slices_symMergeCmpFunc_string #[v, .int .i64 a, .int .i64 m, .int .i64 b, fnv f_path_Sort_d1] w fun r w' => Ext w w' := by
  intro n
  induction n with
  | zero => intro w a m b h hn ham hmb hb; omega
  | succ n ih =>
    intro w a m b h hn ham hmb hb
    have hl := h.len
    refine ok_slices_symMergeCmpFunc_string _ _ _ _ _ _ _ ?_
    unfold go_slices_symMergeCmpFunc_string
    refine int_sub (by omega) ?_
    simp only [vxs]
    refine cnd_split (fun hc => ?_) (fun hc => ?_)
    · have hma : m = a + 1 := by simp at hc; omega
      refine ⟨fun g w' => ∃ j : Nat, m ≤ j ∧ j ≤ b ∧ nth g 1 = .int .i64 m ∧ nth g 2 = .int .i64 j ∧ Ext w w', fun g _ => ixOf g 2, ⟨b, by omega, by omega, rfl, rfl, .refl _ _⟩, ?_⟩
      rintro g z w1 ⟨j, hj1, hj2, hg1, hg2, hx⟩
      simp only [hg1, hg2, vxs]
      refine cnd_split (fun hc => ?_) (fun hc => ?_)
      · have hmj : m < j := by simp at hc; omega
        refine int_add (by omega) (half (by omega) ?_)
        obtain ⟨hh, eh⟩ : ∃ hh : Nat, hh = (m + j) / 2 := ⟨_, rfl⟩
        have e : ((m : Int) + j) / 2 = (hh : Nat) := by omega
        rw [e]
        have hge : ¬ cmpP (xs[hh]'(by omega)) (xs[a]'(by omega)) < 0 := by have := h.ris a hh (by omega) (by omega); omega
        refine drw_det [undef, undef, undef, adr v hh, str (xs[hh]'(by omega)), undef, undef, adr v a, str (xs[a]'(by omega)), .int .i64 (cmpP (xs[hh]'(by omega)) (xs[a]'(by omega))), .bool false] ?_ ?_
        · refine ⟨?_, ?_, ?_, ?_, ?_, ?_, trivial⟩ <;> intro d w3 k hd hx3 hk <;>
            simp only [List.mem_cons, List.not_mem_nil, or_false, forall_eq_or_imp, forall_eq, vxs] at hd hk ⊢
          · exact h.ia (K := fun x => k x w3) hh (by omega) (hk _ (.refl _ _))
          · rw [hd]; exact (h.ext (Ext.trans hx hx3)).ld hh (by omega) (hk _ (.refl _ _))
          · exact h.ia (K := fun x => k x w3) a (by omega) (hk _ (.refl _ _))
          · rw [hd]; exact (h.ext (Ext.trans hx hx3)).ld a (by omega) (hk _ (.refl _ _))
          · obtain ⟨h4, h8, _⟩ := hd
            rw [h4, h8]; exact h.call (by omega) (by omega) hk
          · obtain ⟨h9, _⟩ := hd
            rw [h9]; simp only [vxs, hge, decide_false]; exact hk _ (.refl _ _)
        · intro d w3 hd hx3
          have h10 := hd 10 (by simp)
          simp only [h10, vxs]
          refine ⟨⟨hh, by omega, by omega, trivial, rfl, Ext.trans hx hx3⟩, ?_⟩
          rw [ixOf_of hg2, ixOf_of (n := hh) rfl]; omega
      · refine ⟨fun g' w' => nth g' 0 = .int .i64 a ∧ Ext w w', fun _ _ => 0, ⟨rfl, hx⟩, ?_⟩
        rintro g' z' w2 ⟨hg', hx2⟩
        simp only [hg', vxs]
        refine int_sub (by omega) ?_
        have : decide ((a : Int) < (m : Int) - 1) = false := by simpa using by omega
        simp only [this, vxs]
        exact hx2
    · have hma : a + 2 ≤ m := by simp at hc; omega
      refine int_sub (by omega) ?_
      simp only [vxs]
      refine cnd_split (fun hc => ?_) (fun hc => ?_)
      · have hbm : b = m + 1 := by simp at hc; omega
        refine ⟨fun g w' => ∃ i : Nat, a ≤ i ∧ i ≤ m ∧ nth g 1 = .int .i64 i ∧ nth g 2 = .int .i64 m ∧ Ext w w', fun g _ => m - ixOf g 1, ⟨a, by omega, by omega, rfl, rfl, .refl _ _⟩, ?_⟩
        rintro g z w1 ⟨i, hi1, hi2, hg1, hg2, hx⟩
        simp only [hg1, hg2, vxs]
        refine cnd_split (fun hc => ?_) (fun hc => ?_)
        · have him : i < m := by simp at hc; omega
          refine int_add (by omega) (half (by omega) ?_)
          obtain ⟨hh, eh⟩ : ∃ hh : Nat, hh = (i + m) / 2 := ⟨_, rfl⟩
          have e : ((i : Int) + m) / 2 = (hh : Nat) := by omega
          rw [e]
          have hge : ¬ cmpP (xs[m]'(by omega)) (xs[hh]'(by omega)) < 0 := by have := h.ris hh m (by omega) (by omega); omega
          refine drw_det [undef, undef, undef, adr v m, str (xs[m]'(by omega)), undef, undef, adr v hh, str (xs[hh]'(by omega)), .int .i64 (cmpP (xs[m]'(by omega)) (xs[hh]'(by omega))), .bool false, .bool true] ?_ ?_
          · refine ⟨?_, ?_, ?_, ?_, ?_, ?_, ?_, trivial⟩ <;> intro d w3 k hd hx3 hk <;>
              simp only [List.mem_cons, List.not_mem_nil, or_false, forall_eq_or_imp, forall_eq, vxs] at hd hk ⊢
            · exact h.ia (K := fun x => k x w3) m (by omega) (hk _ (.refl _ _))
            · rw [hd]; exact (h.ext (Ext.trans hx hx3)).ld m (by omega) (hk _ (.refl _ _))
            · exact h.ia (K := fun x => k x w3) hh (by omega) (hk _ (.refl _ _))
            · rw [hd]; exact (h.ext (Ext.trans hx hx3)).ld hh (by omega) (hk _ (.refl _ _))
            · obtain ⟨h4, h8, _⟩ := hd
              rw [h4, h8]; exact h.call (by omega) (by omega) hk
            · obtain ⟨h9, _⟩ := hd
              rw [h9]; simp only [vxs, hge, decide_false]; exact hk _ (.refl _ _)
            · obtain ⟨h10, _⟩ := hd
              rw [h10]; exact hk _ (.refl _ _)
          · intro d w3 hd hx3
            have h11 := hd 11 (by simp)
            simp only [h11, vxs]
            refine int_add (by omega) ⟨⟨hh + 1, by omega, by omega, rfl, trivial, Ext.trans hx hx3⟩, ?_⟩
            rw [ixOf_of hg1, ixOf_of (n := hh + 1) rfl]; omega
        · have him : i = m := by simp at hc; omega
          subst him
          refine ⟨fun g' w' => nth g' 0 = .int .i64 i ∧ Ext w w', fun _ _ => 0, ⟨rfl, hx⟩, ?_⟩
          rintro g' z' w2 ⟨hg', hx2⟩
          simp only [hg', hg1, vxs]
          have : decide ((i : Int) < (i : Int)) = false := by simp
          simp only [this, vxs]
          exact hx2
      · have hmb2 : m + 2 ≤ b := by simp at hc; omega
        refine int_add (by omega) (half (by omega) ?_)
        obtain ⟨md, emd⟩ : ∃ md : Nat, md = (a + b) / 2 := ⟨_, rfl⟩
        have e : ((a : Int) + b) / 2 = (md : Nat) := by omega
        rw [e]
        refine int_add (by omega) ?_
        simp only [vxs]
        refine ⟨fun g w' => ∃ s r : Nat, nth g 0 = .int .i64 s ∧ nth g 1 = .int .i64 r ∧ Ext w w' ∧ ((md < m ∧ s + b = md + m ∧ r = md) ∨ (m ≤ md ∧ s = a ∧ r = m)), ?_, ?_⟩
        · rintro g z w0 ⟨s, r, hg0, hg1, hx0, hsr⟩
          refine int_sub (by omega) ?_
          have hs0 : s ≤ r ∧ r < m + 1 := by omega
          refine ⟨fun g' w' => ∃ s' : Nat, s ≤ s' ∧ s' ≤ r ∧ nth g' 1 = .int .i64 s' ∧ nth g' 2 = .int .i64 r ∧ Ext w w', fun g' _ => r - ixOf g' 1, ?_, ?_⟩
          · exact ⟨s, Nat.le_refl _, hs0.1, by simpa [nth] using hg0, by simpa [nth] using hg1, hx0⟩
          · rintro g' z' w1 ⟨s', h1, h2, hg1', hg2', hx⟩
            simp only [hg1', hg2', vxs]
            refine cnd_split (fun hc => ?_) (fun hc => ?_)
            · have hlt : s' < r := by simp at hc; omega
              refine int_add (by omega) (half (by omega) ?_)
              obtain ⟨c, ec⟩ : ∃ c : Nat, c = (s' + r) / 2 := ⟨_, rfl⟩
              have e : ((s' : Int) + r) / 2 = (c : Nat) := by omega
              rw [e]
              obtain ⟨q, eq⟩ : ∃ q : Nat, q + c + 1 = md + m := ⟨md + m - 1 - c, by omega⟩
              have eqi : (md : Int) + m - 1 - c = q := by omega
              have hqb : q < b := by omega
              have hcq : c < q := by omega
              have hge : ¬ cmpP (xs[q]'(by omega)) (xs[c]'(by omega)) < 0 := by have := h.ris c q (by omega) (by omega); omega
              refine drw_det [undef, undef, undef, undef, .int .i64 q, adr v q, str (xs[q]'(by omega)), undef, undef, adr v c, str (xs[c]'(by omega)), .int .i64 (cmpP (xs[q]'(by omega)) (xs[c]'(by omega))), .bool false, .bool true] ?_ ?_
              · refine ⟨?_, ?_, ?_, ?_, ?_, ?_, ?_, ?_, trivial⟩ <;> intro d w3 k hd hx3 hk <;>
                  simp only [List.mem_cons, List.not_mem_nil, or_false, forall_eq_or_imp, forall_eq, vxs] at hd hk ⊢
                · refine int_sub (by omega) ?_
                  rw [eqi]; exact hk _ (.refl _ _)
                · rw [hd]; exact h.ia (K := fun x => k x w3) q (by omega) (hk _ (.refl _ _))
                · rw [hd.1]; exact (h.ext (Ext.trans hx hx3)).ld q (by omega) (hk _ (.refl _ _))
                · exact h.ia (K := fun x => k x w3) c (by omega) (hk _ (.refl _ _))
                · rw [hd]; exact (h.ext (Ext.trans hx hx3)).ld c (by omega) (hk _ (.refl _ _))
                · obtain ⟨h4, h8, _⟩ := hd
                  rw [h4, h8]; exact h.call (by omega) (by omega) hk
                · obtain ⟨h9, _⟩ := hd
                  rw [h9]; simp only [vxs, hge, decide_false]; exact hk _ (.refl _ _)
                · obtain ⟨h10, _⟩ := hd
                  rw [h10]; exact hk _ (.refl _ _)
              · intro d w3 hd hx3
                have h13 := hd 13 (by simp)
                simp only [h13, vxs]
                refine int_add (by omega) ⟨⟨c + 1, by omega, by omega, rfl, trivial, Ext.trans hx hx3⟩, ?_⟩
                rw [ixOf_of hg1', ixOf_of (n := c + 1) rfl]; omega
            · have he : s' = r := by simp at hc; omega
              subst he
              refine int_sub (by omega) ?_
              have hr1 : nth g' 1 = .int .i64 s' := hg1'
              refine ⟨fun _ w' => Ext w w', ?_, ?_⟩
              · rintro g3 z3 w3 hx3
                refine ⟨fun _ w' => Ext w w', ?_, ?_⟩
                · rintro g4 z4 w4 hx4
                  simp only [vxs]
                  refine gd_and (fun hc => ?_) (fun hc => ?_)
                  · have hcase : md < m ∧ s' = md := by
                      have : (md : Int) < md + m - s' := by simpa using hc
                      omega
                    simp only [vxs]
                    refine cnd_split (fun _ => ?_) (fun _ => hx4)
                    have e : (md : Int) + m - s' = (m : Nat) := by omega
                    rw [e]
                    refine call_ok has_slices_symMergeCmpFunc_string (ih w4 md m b (h.ext hx4) (by omega) (by omega) (by omega) hb) ?_
                    intro _ w5 hx5
                    exact Ext.trans hx4 hx5
                  · simp only [vxs]
                    exact hx4
                · simp only [vxs]
                  refine gd_and (fun hc => ?_) (fun hc => ?_)
                  · simp only [vxs]
                    refine cnd_split (fun hc2 => ?_) (fun _ => hx3)
                    have hc1 : a < s' := by simpa using hc
                    have hc2' : s' < md := by simpa using hc2
                    refine call_ok has_slices_symMergeCmpFunc_string (ih w3 a s' md (h.ext hx3) (by omega) (by omega) (by omega) (by omega)) ?_
                    intro _ w5 hx5
                    exact Ext.trans hx3 hx5
                  · simp only [vxs]
                    exact hx3
              · simp only [vxs]
                refine gd_and (fun hc => ?_) (fun hc => ?_)
                · simp only [vxs]
                  have hc1 : s' < m := by simpa using hc
                  have : decide ((m : Int) < md + m - s') = false := by simpa using by omega
                  simp only [this, vxs]
                  exact hx
                · simp only [vxs]
                  exact hx
        · refine cnd_split (fun hc => ?_) (fun hc => ?_)
          · have : md < m := by simp at hc; omega
            refine int_sub (by omega) ⟨md + m - b, md, ?_, rfl, .refl _ _, .inl ⟨this, by omega, rfl⟩⟩
            simp only [vxs]
            congr 1; omega
          · have : m ≤ md := by simp at hc; omega
            exact ⟨a, m, rfl, rfl, .refl _ _, .inr ⟨this, rfl, rfl⟩⟩

theorem stable_spec {w : World} {v : Value} {xs : List Bytes} (h : Dat w v xs) :
    CallsV Tryz.prog f_slices_stableCmpFunc_string #[v, .int .i64 xs.length, fnv f_path_Sort_d1] w fun r w' => Ext w w' := by
  have hl := h.len
  refine ok_slices_stableCmpFunc_string _ _ _ _ _ ?_
  unfold go_slices_stableCmpFunc_string
  refine ⟨fun g w' => ∃ a : Nat, a ≤ xs.length ∧ nth g 0 = .int .i64 a ∧ nth g 1 = .int .i64 (a + 20 : Nat) ∧ Ext w w', fun g _ => xs.length + 20 - ixOf g 1, ⟨0, Nat.zero_le _, rfl, rfl, .refl _ _⟩, ?_⟩
  rintro g z w1 ⟨a, ha, hg0, hg1, hx⟩
  simp only [hg0, hg1, vxs]
  refine cnd_split (fun hc => ?_) (fun hc => ?_)
  · have hc' : a + 20 ≤ xs.length := by simp at hc; omega
    refine call_ok has_slices_insertionSortCmpFunc_string (insertion_spec (h.ext hx) a (a + 20) hc' (by omega)) ?_
    intro _ w2 hx2
    refine int_add (by omega) ⟨⟨a + 20, hc', rfl, rfl, Ext.trans hx hx2⟩, ?_⟩
    rw [ixOf_of hg1, ixOf_of (n := a + 20 + 20) rfl]; omega
  · refine call_ok has_slices_insertionSortCmpFunc_string (insertion_spec (h.ext hx) a xs.length (Nat.le_refl _) (by omega)) ?_
    intro _ w2 hx2
    have hx2 := Ext.trans hx hx2
    refine ⟨fun g w' => ∃ k : Nat, 20 ≤ k ∧ k ≤ 8589934592 ∧ nth g 3 = .int .i64 k ∧ Ext w w', fun g _ => xs.length - ixOf g 3, ⟨20, by omega, by omega, rfl, hx2⟩, ?_⟩
    rintro g z w3 ⟨k, hk, hk2, hg3, hx3⟩
    simp only [hg3, vxs]
    refine cnd_split (fun hc => ?_) (fun hc => hx3)
    have hkx : k < xs.length := by simp at hc; omega
    refine int_mul (by omega) ?_
    refine ⟨fun g w' => ∃ a : Nat, a ≤ xs.length ∧ nth g 0 = .int .i64 a ∧ nth g 1 = .int .i64 (a + 2 * k : Nat) ∧ Ext w w', fun g _ => xs.length + 2 * k - ixOf g 1, ⟨0, by omega, rfl, by simp [nth], hx3⟩, ?_⟩
    rintro g2 z w4 ⟨a2, ha2, hg0, hg1, hx4⟩
    simp only [hg0, hg1, vxs]
    refine cnd_split (fun hc => ?_) (fun hc => ?_)
    · have hc' : a2 + 2 * k ≤ xs.length := by simp at hc; omega
      refine int_add (by omega) ?_
      refine call_ok has_slices_symMergeCmpFunc_string (symMerge_spec _ w4 a2 (a2 + k) (a2 + 2 * k) (h.ext hx4) (Nat.le_refl _) (by omega) (by omega) hc') ?_
      intro _ w5 hx5
      refine int_mul (by omega) (int_add (by omega) ⟨⟨a2 + 2 * k, hc', rfl, ?_, Ext.trans hx4 hx5⟩, ?_⟩)
      · show Value.int .i64 _ = Value.int .i64 _; congr 1
      · rw [ixOf_of hg1, ixOf_of (n := a2 + 2 * k + 2 * k) (q := .i64) (by show Value.int .i64 _ = Value.int .i64 _; congr 1)]; omega
    · refine int_add (by omega) ?_
      simp only [vxs]
      refine cnd_split (fun hc => ?_) (fun hc => ?_)
      · have hc' : a2 + k < xs.length := by simp at hc; omega
        refine call_ok has_slices_symMergeCmpFunc_string (symMerge_spec _ w4 a2 (a2 + k) xs.length (h.ext hx4) (Nat.le_refl _) (by omega) (by omega) (Nat.le_refl _)) ?_
        intro _ w5 hx5
        refine int_mul (by omega) ⟨⟨k * 2, by omega, by omega, rfl, Ext.trans hx4 hx5⟩, ?_⟩
        rw [ixOf_of hg3, ixOf_of (n := k * 2) rfl]; omega
      · refine int_mul (by omega) ⟨⟨k * 2, by omega, by omega, rfl, hx4⟩, ?_⟩
        rw [ixOf_of hg3, ixOf_of (n := k * 2) rfl]; omega

/-- path.Sort of texts in order: a slice of its own of them. -/
theorem Sort_spec {w : World} {v : Value} {xs : List Bytes} (h : Sl 1 strE w v xs) (hr : Ris xs) (hl : xs.length ≤ 4294967296) (he : ∀ x ∈ xs, x.length ≤ 4294967290) :
    CallsV Tryz.prog f_path_Sort #[v] w fun r w' => Own t_string 1 strE w.heap.size w' r xs ∧ Ext w w' := by
  refine ok_path_Sort _ _ _ ?_
  unfold go_path_Sort
  refine call_ok has_slices_Clone_S_string_string (Clone_spec h hl) ?_
  rintro u w1 ⟨h1, x1⟩
  have s1 := Sl.of_own strE_len h1
  have hS : CallsV Tryz.prog f_slices_SortStableFunc_S_string_string #[u, fnv f_path_Sort_d1] w1 fun r w' => Ext w1 w' := by
    refine ok_slices_SortStableFunc_S_string_string _ _ _ _ ?_
    unfold go_slices_SortStableFunc_S_string_string
    refine s1.len ?_
    refine call_ok has_slices_stableCmpFunc_string (stable_spec ⟨s1, hr, hl, he⟩) ?_
    intro _ w2 x2
    exact x2
  refine call_ok has_slices_SortStableFunc_S_string_string hS ?_
  intro _ w2 x2
  exact ⟨h1.ext x2, Ext.trans x1 x2⟩
end Go.Proofs.YtkpefimnggojdaaGreat.VX
