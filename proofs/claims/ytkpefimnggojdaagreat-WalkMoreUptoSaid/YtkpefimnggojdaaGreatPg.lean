/-
  Contracts: patterns.
-/
import Derived.Test.YtkpefimnggojdaaGreatPb
import Derived.Test.YtkpefimnggojdaaGreatLa
set_option linter.all false
namespace Go.Proofs.YtkpefimnggojdaaGreat.VX
open Go Pl

def signE (s : Sign) : List Value := .int .i64 s.kind :: .int .u8 s.c.toNat :: .bool s.neg :: (List.range 256).map fun i => .bool (s.set (UInt8.ofNat i))
theorem signE_len (s : Sign) : (signE s).length = 259 := by simp [signE]
theorem signE_one (s : Sign) : ∀ v ∈ signE s, oneCell v = true := by
  intro v hv
  simp only [signE, List.mem_cons, List.mem_map] at hv
  rcases hv with rfl | rfl | rfl | ⟨i, -, rfl⟩ <;> rfl
theorem zeroSign : ([(.int .i64 0)] ++ [(.int .u8 0)] ++ List.replicate 257 (.bool false) : List Value) = signE sign0 := by
  have : (List.range 256).map (fun i => Value.bool (sign0.set (UInt8.ofNat i))) = List.replicate 256 (.bool false) := by
    simp [sign0, List.map_const']
  simp only [signE, this]
  rfl
theorem E_sign : ElemOf Tryz.prog t_S_glob_sign t_glob_sign 259 272 ([(.int .i64 0)] ++ [(.int .u8 0)] ++ List.replicate 257 (.bool false)) := .mk' (by kernel_rfl) (by kernel_rfl) (by rw [List.length_append, List.length_replicate]; rfl)
theorem bldL_one {zs : List Value} {off size : Nat} {v : Value} (h1 : v.cells.toList.length = size) (h2 : off + size ≤ zs.length) : bldL zs [(off, size, v)] = some (fillL zs off v.cells.toList) := by
  unfold bldL; rw [if_pos ⟨h1, h2⟩]; rfl
theorem bld_kind {s : Sign} {k : Nat} {K : Value → Prop} (h : K (.agg (signE { s with kind := k }).toArray)) : bld (signE s) [(0, 1, .int .i64 k)] K := by
  have e := bldL_one (zs := signE s) (off := 0) (size := 1) (v := .int .i64 k) rfl (by rw [signE_len]; omega)
  have e2 : fillL (signE s) 0 (Value.int .i64 (k : Int)).cells.toList = signE { s with kind := k } := rfl
  rw [e2] at e
  simp only [bld, e]; exact h
theorem bld_c {s : Sign} {c : UInt8} {K : Value → Prop} (h : K (.agg (signE { s with c := c }).toArray)) : bld (signE s) [(1, 1, .int .u8 c.toNat)] K := by
  have e := bldL_one (zs := signE s) (off := 1) (size := 1) (v := .int .u8 c.toNat) rfl (by rw [signE_len]; omega)
  have e2 : fillL (signE s) 1 (Value.int .u8 (c.toNat : Int)).cells.toList = signE { s with c := c } := rfl
  rw [e2] at e
  simp only [bld, e]; exact h
theorem bsl_sign {w : World} {zs : List Value} {s : Sign} {K : Value → World → Prop} (hz : zs.length = 259) (h : K (.slice (some ⟨w.heap.size, 0, none⟩) 1 1) (w.alloc (.cells (signE s).toArray t_glob_sign))) :
    bsl t_glob_sign 1 zs [(0, 259, .agg (signE s).toArray)] w K := by
  have e := bldL_one (zs := zs) (off := 0) (size := 259) (v := .agg (signE s).toArray) (signE_len s) (by omega)
  have e2 : fillL zs 0 (Value.agg (signE s).toArray).cells.toList = signE s := by
    have hd : zs.drop (0 + (signE s).length) = [] := List.drop_eq_nil_of_le (by rw [signE_len]; omega)
    show fillL zs 0 (signE s) = _
    simp only [fillL, hd, List.take_zero, List.nil_append, List.append_nil]
  rw [e2] at e
  simp only [bsl, e]; exact h
/-- out = append(out, s). -/
theorem app_sign {w : World} {s : Sign} {base : Nat} {v : Value} {zs : List Value} {xs : List Sign} (hz : zs.length = 259) (hv : Own t_glob_sign 259 signE base w v xs) (hb : base ≤ w.heap.size) (hn : xs.length + 1 ≤ 4294967296) {K : Value → World → Prop}
    (hK : ∀ v' w', Own t_glob_sign 259 signE base w' v' (xs ++ [s]) → Upd (fun b => base ≤ b) w w' → K v' w') :
    bsl t_glob_sign 1 zs [(0, 259, .agg (signE s).toArray)] w fun t w1 => rn Tryz.prog (Builtin.append_ #[t_S_glob_sign, t_S_glob_sign] t_S_glob_sign ([v, t] : List Value).toArray) w1 K := by
  refine bsl_sign hz ?_
  have one : Sl 259 signE (w.alloc (.cells (signE s).toArray t_glob_sign)) (.slice (some ⟨w.heap.size, 0, none⟩) 1 1) [s] :=
    ⟨_, _, rfl, Nat.le_refl _, fun _ => ⟨_, _, rfl, _, _, _, alloc_new _ _, by simp, by simp⟩⟩
  refine Own.append E_sign (by omega) (by omega) signE_len signE_one (hv.ext (alloc_ext _ _)) one (by rw [alloc_size]; omega) hn fun v' w' h1 h2 => hK v' w' h1 ?_
  exact Upd.trans (alloc_upd _ _ _) h2 fun _ _ h => h.1

theorem get8 (p : Bytes) (i : Nat) (h : i < p.length) : (p.getD (i : Int).toNat 0) = p[i] := by simp [h]
theorem u8_eq (a : UInt8) (n : Nat) (hn : n < 256) : ((a.toNat : Int) == (n : Nat)) = (a == UInt8.ofNat n) := by
  have : a = UInt8.ofNat n ↔ a.toNat = n := ⟨fun h => by rw [h]; simp; omega, fun h => UInt8.toNat_inj.1 (by rw [h]; simp; omega)⟩
  by_cases h : a = UInt8.ofNat n
  · have h' := this.1 h
    rw [h', ]; simp [h]
  · have h' : ¬ a.toNat = n := fun e => h (this.2 e)
    have h1 : (a == UInt8.ofNat n) = false := by simpa using h
    rw [h1]
    simp; omega

/-- s[i] of a text. -/
theorem ixS_at {p : Bytes} {i : Nat} (h : i < p.length) {q : IntKind} {K : Value → Prop} (hk : K (.int .u8 (p[i].toNat : Nat))) : ixS (str p) (.int q i) K := by
  refine ⟨⟨by omega, by simpa using h⟩, ?_⟩
  have : (p.getD (i : Int).toNat 0) = p[i] := get8 p i h
  show K (.int .u8 (((p.getD (i : Int).toNat 0).toNat : Nat) : Int))
  rw [this]; exact hk

theorem member_spec (p : Bytes) (at_ : Nat) (hp : p.length ≤ 4294967296) (ha : at_ ≤ p.length + 1) (w : World) : CallsV Tryz.prog f_glob_member #[str p, .int .i64 at_] w fun v w' =>
    (match memberS (p.drop at_) with
    | none => v = .tuple #[.int .u8 0, .int .i64 0, .bool false]
    | some (c, r) => ∃ nx : Nat, v = .tuple #[.int .u8 c.toNat, .int .i64 nx, .bool true] ∧ r = p.drop nx ∧ at_ < nx ∧ nx ≤ p.length) ∧ w' = w := by
  refine ok_glob_member _ _ _ _ ?_
  unfold go_glob_member
  -- what is behind an escape
  refine ⟨fun g w' => w' = w ∧ ∃ k : Nat, nth g 0 = .int .i64 k ∧ at_ ≤ k ∧ k ≤ p.length + 1 ∧ memberS (p.drop at_) = (if h : k < p.length then some (p[k], p.drop (k + 1)) else none), ?_, ?_⟩
  · rintro g z _ ⟨rfl, k, hg, hk1, hk2, hm⟩
    simp only [hg, vxs]
    rw [hm]
    refine cnd_split (fun h => ?_) (fun h => ?_)
    · have : ¬ k < p.length := by simp at h; omega
      rw [dif_neg this]
      exact ⟨trivial, trivial⟩
    · have hlt : k < p.length := by simp at h; omega
      rw [dif_pos hlt]
      refine ⟨⟨by omega, by simpa using hlt⟩, ?_⟩
      rw [get8 p k hlt]
      refine int_add (by omega) ⟨⟨k + 1, rfl, rfl, by omega, by omega⟩, trivial⟩
  · simp only [vxs]
    by_cases hlt : at_ < p.length
    · have e : p.drop at_ = p[at_] :: p.drop (at_ + 1) := List.drop_eq_getElem_cons hlt
      have hd : decide ((at_ : Int) < p.length) = true := by simpa using hlt
      simp only [hd]
      refine gd_and (fun _ => ?_) (fun h => nomatch h)
      refine ⟨⟨by omega, by simpa using hlt⟩, ?_⟩
      rw [get8 p at_ hlt]
      simp only [vxs]
      rw [show ((p[at_].toNat : Int) == 92) = (p[at_] == 92) from u8_eq p[at_] 92 (by omega)]
      refine cnd_split (fun h => ?_) (fun h => ?_)
      · have h92 : p[at_] = 92 := by simpa using h
        refine int_add (by omega) ⟨trivial, at_ + 1, rfl, by omega, by omega, ?_⟩
        rw [e]
        simp only [memberS, h92, if_true]
        by_cases h2 : at_ + 1 < p.length
        · rw [dif_pos h2, List.drop_eq_getElem_cons h2]
        · rw [dif_neg h2, List.drop_eq_nil_of_le (by omega)]
      · have h92 : ¬ p[at_] = 92 := by simpa using h
        refine ⟨trivial, at_, rfl, Nat.le_refl _, by omega, ?_⟩
        rw [e, dif_pos hlt]
        simp only [memberS, if_neg h92]
    · have hd : decide ((at_ : Int) < p.length) = false := by simpa using by omega
      simp only [hd]
      refine gd_and (fun h => nomatch h) (fun _ => ?_)
      simp only [vxs]
      refine ⟨trivial, at_, rfl, Nat.le_refl _, by omega, ?_⟩
      rw [dif_neg hlt, List.drop_eq_nil_of_le (by omega)]
      rfl

/-! A class. -/
/-- A block that holds a sign. -/
def SignAt (w : World) (b : Nat) (s : Sign) : Prop := w.heap[b]? = some (.cells (signE s).toArray t_glob_sign (0, 0))
theorem map_set {f : Nat → Value} {n k : Nat} {v : Value} (hk : k < n) : ((List.range n).map f).set k v = (List.range n).map fun j => if j = k then v else f j := by
  apply List.ext_getElem?
  intro i
  by_cases hi : i < n
  · by_cases hik : i = k
    · subst hik
      rw [List.getElem?_set_self (by simpa using hk), List.getElem?_map, List.getElem?_range hi]; simp
    · rw [List.getElem?_set_ne (Ne.symm hik), List.getElem?_map, List.getElem?_map, List.getElem?_range hi]; simp [hik]
  · rw [List.getElem?_eq_none (by simp; omega), List.getElem?_eq_none (by simp; omega)]
def putS (s : Sign) (c : Nat) : Sign := { s with set := fun j => s.set j || decide (j.toNat = c) }
theorem signE_put {s : Sign} {c : Nat} (hc : c < 256) : (signE s).toArray.setIfInBounds (3 + c) (.bool true) = (signE (putS s c)).toArray := by
  apply Array.toList_inj.1
  rw [Array.toList_setIfInBounds]
  show (signE s).set (3 + c) (.bool true) = signE (putS s c)
  have e : 3 + c = c + 1 + 1 + 1 := by omega
  rw [e]
  simp only [signE, List.set_cons_succ]
  rw [map_set hc]
  congr 3
  apply List.map_congr_left
  intro j hj
  have hj : j < 256 := by simpa using hj
  by_cases h : j = c
  · subst h
    have : (UInt8.ofNat j).toNat = j := by simp; omega
    simp [putS, this]
  · have : ¬ (UInt8.ofNat j).toNat = c := by simp; omega
    rw [if_neg h]
    simp only [putS, this, decide_false, Bool.or_false]
theorem signE_neg (s : Sign) : (signE s).toArray.setIfInBounds 2 (.bool true) = (signE { s with neg := true }).toArray := by
  apply Array.toList_inj.1
  rw [Array.toList_setIfInBounds]
  rfl
theorem fillS_self (set : UInt8 → Bool) (lo : Nat) : fillS set lo lo = set := by
  funext j
  have : (decide (lo ≤ j.toNat) && decide (j.toNat < lo)) = false := by simp
  simp [fillS, this]
theorem fillS_put (s : Sign) (set : UInt8 → Bool) (lo c : Nat) (h : lo ≤ c) : putS { s with set := fillS set lo c } c = { s with set := fillS set lo (c + 1) } := by
  simp only [putS, fillS]
  congr 1
  funext j
  by_cases hj : j.toNat = c
  · simp [hj, h, fillS]
  · have : (decide (j.toNat < c + 1)) = decide (j.toNat < c) := by
      apply decide_eq_decide.2; omega
    simp [hj, this, fillS]

theorem SignAt.ext {w w' : World} {b : Nat} {s : Sign} (h : SignAt w b s) (hx : Ext w w') : SignAt w' b s := hx.get h
theorem SignAt.lds {w : World} {b : Nat} {s : Sign} (h : SignAt w b s) {K : Value → Prop} (hk : K (.agg (signE s).toArray)) : ldS 259 (.pointer (some ⟨b, 0, none⟩)) w K := by
  refine ldS_in w b 0 259 K ?_
  unfold SignAt at h
  rw [h]
  simp only [cellsIn]
  rw [if_pos (by show 0 + 259 ≤ (signE s).length; rw [signE_len]; omega)]
  have : ((signE s).toArray.toList.drop 0).take 259 = signE s := by
    show ((signE s).drop 0).take 259 = _
    rw [List.drop_zero, ← signE_len s, List.take_length]
  rw [this]; exact hk
theorem sign_st {w : World} {b : Nat} {s0 s : Sign} (h : SignAt w b s0) {K : World → Prop} (hk : ∀ w', SignAt w' b s → Upd (fun k => k = b) w w' → K w') : st 259 (.pointer (some ⟨b, 0, none⟩)) (.agg (signE s).toArray) w K := by
  refine st_in ?_
  unfold SignAt at h
  rw [h]
  refine ⟨rfl, signE_len s, by omega, List.all_eq_true.2 (signE_one s), by show 0 + 259 ≤ (signE s0).length; rw [signE_len]; omega, ?_⟩
  have : fillL (signE s0).toArray.toList 0 (Value.agg (signE s).toArray).cells.toList = signE s := by
    show fillL (signE s0) 0 (signE s) = _
    have hd : (signE s0).drop (0 + (signE s).length) = [] := List.drop_eq_nil_of_le (by rw [signE_len, signE_len]; omega)
    simp only [fillL, hd, List.take_zero, List.nil_append, List.append_nil]
  rw [this]
  refine hk _ ?_ (setB_upd _ _ _)
  exact setB_new h

theorem dec_eq (p : Bytes) (a n : Nat) : (decide ((a : Int) < (n : Int))) = decide (a < n) := by
  apply decide_eq_decide.2; omega

theorem newx_ok {zs : List Value} {t : TypeId} {w : World} {K : Value → World → Prop} (h : K (.pointer (some ⟨w.heap.size, 0, none⟩)) (w.alloc (.cells zs.toArray t))) : newx zs t w K := h
theorem sign_ret {w w' : World} {B4 : Nat} {s s4 : Sign} (h4 : SignAt w' B4 s4) (hb : w.heap.size ≤ B4) (hx : Ext w w') {K : Value → World → Prop} (hk : ∀ w'', Ext w w'' → K (.agg (signE s).toArray) w'') :
    st 259 (.pointer (some ⟨B4, 0, none⟩)) (.agg (signE s).toArray) w' fun w8 => ldS 259 (.pointer (some ⟨B4, 0, none⟩)) w8 fun r => K r w8 :=
  sign_st h4 fun w8 h8 hx8 => h8.lds (hk w8 (Upd.trans hx hx8 fun k hk e => by omega))

/-- What a class is, behind its '!'. -/
def clsR (r1 : Bytes) (neg : Bool) : Option (Sign × Bytes) := match r1 with | 93 :: _ => none | _ => (classS r1 fun _ => false).map fun (set, r2) => (⟨4, 0, neg, set⟩, r2)
theorem clsR_none {r1 : Bytes} {neg : Bool} (h : classS r1 (fun _ => false) = none) : clsR r1 neg = none := by
  unfold clsR; split
  · rfl
  · rw [h]; rfl
theorem clsR_some {r1 r2 : Bytes} {neg : Bool} {set : UInt8 → Bool} (hn : ∀ r, r1 ≠ 93 :: r) (h : classS r1 (fun _ => false) = some (set, r2)) : clsR r1 neg = some (⟨4, 0, neg, set⟩, r2) := by
  unfold clsR; split
  · rename_i r; exact absurd rfl (hn r)
  · rw [h]; rfl
theorem classAtS_not {r : Bytes} (h : ∀ r', r ≠ 33 :: r') : classAtS r = clsR r false := by
  unfold classAtS
  split
  rename_i neg r1 he
  split at he
  · rename_i r'; exact absurd rfl (h r')
  · cases he; rfl
theorem classAtS_neg (r : Bytes) : classAtS (33 :: r) = clsR r true := rfl

def clsPost (p : Bytes) (at_ : Nat) (w : World) (v : Value) (w' : World) : Prop :=
    (match classAtS (p.drop at_) with
    | none => ∃ s n, v = .tuple #[.agg (signE s).toArray, .int .i64 n, .bool false]
    | some (s, r) => ∃ nx : Nat, v = .tuple #[.agg (signE s).toArray, .int .i64 nx, .bool true] ∧ r = p.drop nx ∧ at_ < nx ∧ nx ≤ p.length) ∧ Ext w w'
theorem clsPost_none {p : Bytes} {at_ : Nat} {w w' : World} (s : Sign) (n : Int) (h : classAtS (p.drop at_) = none) (hx : Ext w w') : clsPost p at_ w (.tuple #[.agg (signE s).toArray, .int .i64 n, .bool false]) w' := by
  unfold clsPost; rw [h]; exact ⟨⟨s, n, rfl⟩, hx⟩
theorem clsPost_some {p : Bytes} {at_ : Nat} {w w' : World} {s : Sign} {nx : Nat} (h : classAtS (p.drop at_) = some (s, p.drop nx)) (h1 : at_ < nx) (h2 : nx ≤ p.length) (hx : Ext w w') : clsPost p at_ w (.tuple #[.agg (signE s).toArray, .int .i64 nx, .bool true]) w' := by
  unfold clsPost; rw [h]; exact ⟨⟨nx, rfl, rfl, h1, h2⟩, hx⟩
set_option maxRecDepth 10000 in
theorem classAt_spec (p : Bytes) (at_ : Nat) (hp : p.length ≤ 4294967296) (ha : at_ ≤ p.length) (w : World) : CallsV Tryz.prog f_glob_classAt #[str p, .int .i64 at_] w (clsPost p at_ w) := by
  refine ok_glob_classAt _ _ _ _ ?_
  unfold go_glob_classAt
  rw [zeroSign]
  refine newx_ok ?_
  refine bld_kind (s := sign0) (k := 4) ?_
  refine newx_ok ?_
  obtain ⟨B4, e4⟩ : ∃ b, b = w.heap.size := ⟨_, rfl⟩
  obtain ⟨w1, ew1⟩ : ∃ w1, w1 = w.alloc (.cells (signE sign0).toArray t_glob_sign) := ⟨_, rfl⟩
  have hx1 : Ext w w1 := by rw [ew1]; exact alloc_ext _ _
  have s4 : SignAt w1 B4 sign0 := by rw [ew1, e4]; exact alloc_new _ _
  rw [← ew1]
  obtain ⟨B7, e7⟩ : ∃ b, b = w1.heap.size := ⟨_, rfl⟩
  have hne : B7 ≠ B4 := by rw [e7, e4, ew1, alloc_size]; omega
  have hB4 : w.heap.size ≤ B4 := by omega
  have hB7 : w.heap.size ≤ B7 := by rw [e7]; exact hx1.size
  rw [← e7, ← e4]
  refine sign_st (s0 := sign0) (by rw [e7]; exact alloc_new _ _) fun w3 s7 hx3 => ?_
  have s4 := (s4.ext (alloc_ext _ (.cells (signE sign0).toArray t_glob_sign)))
  have s4 : SignAt w3 B4 sign0 := hx3.get s4 (fun e => hne e.symm)
  have hx3 : Ext w w3 := Upd.trans hx1 (Upd.trans (alloc_upd (fun k => k = B7) _ _) hx3 fun _ _ h => h) fun k hk e => by omega
  refine ⟨fun g w' => ∃ (k : Nat) (neg : Bool), nth g 0 = .int .i64 k ∧ at_ ≤ k ∧ k ≤ p.length ∧ SignAt w' B7 { sign0 with kind := 4, neg := neg } ∧ SignAt w' B4 sign0 ∧ Ext w w' ∧ classAtS (p.drop at_) = clsR (p.drop k) neg, ?_, ?_⟩
  · rintro g z w4 ⟨k, neg, hg, hk1, hk2, h7, h4, hx, hcls⟩
    refine ⟨fun g w' => ∃ (j : Nat) (set : UInt8 → Bool), nth g 7 = .int .i64 j ∧ k ≤ j ∧ j ≤ p.length ∧ SignAt w' B7 ⟨4, 0, neg, set⟩ ∧ SignAt w' B4 sign0 ∧ Ext w w' ∧
        classS (p.drop k) (fun _ => false) = classS (p.drop j) set ∧ (k < j → ∀ r, p.drop k ≠ 93 :: r), fun g _ => p.length - ixOf g 7, ⟨k, _, by simpa [nth] using hg, Nat.le_refl _, hk2, h7, h4, hx, rfl, fun h => by omega⟩, ?_⟩
    rintro g1 z1 w5 ⟨j, set, hg1, hj1, hj2, h7, h4, hx, hcs, hnb⟩
    simp only [hg1, vxs]
    have hget : ∀ (hlt : j < p.length), p.drop j = p[j] :: p.drop (j + 1) := fun hlt => List.drop_eq_getElem_cons hlt
    have hout : (∀ (hlt : j < p.length), p[j] = 93) → ldS 259 (.pointer (some ⟨B7, 0, none⟩)) w5 fun t96 => bin .add (.int .i64 j) (.int .i64 1) fun t98 => jn (fun g_8 z_8 w_17 =>
            pickx (.bool (decide ((j : Int) < p.length))) (nth g_8 0) (.bool false) fun t107 =>
            st 259 (.pointer (some ⟨B4, 0, none⟩)) t96 w_17 fun w_18 =>
            ldS 259 (.pointer (some ⟨B4, 0, none⟩)) w_18 fun r_2 =>
            clsPost p at_ w (.tuple #[r_2, t98, t107]) w_18) fun J_6 =>
          gd (.bool (decide ((j : Int) < p.length))) true (bin .gtr (.int .i64 j) (nth g 0) fun t106 =>
            J_6 [t106] w5) (J_6 [undef] w5) := by
      intro h93
      refine h7.lds (int_add (by omega) ?_)
      by_cases hlt : j < p.length
      · have hd : decide ((j : Int) < p.length) = true := by simpa using hlt
        rw [hd]
        refine gd_and (fun _ => ?_) (fun h => nomatch h)
        simp only [hg, vxs]
        have ej := hget hlt
        rw [h93 hlt] at ej
        by_cases hkj : k < j
        · have hd2 : decide ((k : Int) < j) = true := by simpa using hkj
          rw [hd2]
          refine sign_ret h4 hB4 hx fun w' hx' => ?_
          exact clsPost_some (nx := j + 1) (by rw [hcls, clsR_some (hnb hkj) (set := set) (r2 := p.drop (j + 1)) (by rw [hcs, ej, classS_end])]) (by omega) (by omega) hx'
        · have hd2 : decide ((k : Int) < j) = false := by simpa using hkj
          rw [hd2]
          have hjk : j = k := by omega
          subst hjk
          refine sign_ret h4 hB4 hx fun w' hx' => clsPost_none _ _ ?_ hx'
          rw [hcls, ej]; rfl
      · have hd : decide ((j : Int) < p.length) = false := by simpa using hlt
        rw [hd]
        refine gd_and (fun h => nomatch h) (fun _ => ?_)
        refine sign_ret h4 hB4 hx fun w' hx' => clsPost_none _ _ ?_ hx'
        rw [hcls, clsR_none]
        rw [hcs, List.drop_eq_nil_of_le (by omega), classS_nil]
    by_cases hlt : j < p.length
    · have hd : decide ((j : Int) < p.length) = true := by simpa using hlt
      simp only [hd]
      refine gd_and (fun _ => ?_) (fun h => nomatch h)
      refine ⟨⟨by omega, by simpa using hlt⟩, ?_⟩
      rw [get8 p j hlt]
      simp only [vxs]
      rw [show ((p[j].toNat : Int) != 93) = (p[j] != 93) from congrArg (fun b => !b) (u8_eq p[j] 93 (by omega))]
      refine cnd_split (fun h => ?_) (fun h => ?_)
      · have h93 : p[j] ≠ 93 := by simpa using h
        have hstep := classS_step set (r0 := p.drop (j + 1)) h93
        rw [← hget hlt] at hstep
        have hkn : ∀ r, p.drop k ≠ 93 :: r := by
          by_cases hkj : k < j
          · exact hnb hkj
          · have hjk : j = k := by omega
            subst hjk
            intro r e
            rw [hget hlt] at e
            injection e with e1 _
            exact h93 e1
        refine call_ok has_glob_member (member_spec p j hp (by omega) w5) ?_
        rintro v5 w5 ⟨hm, rfl⟩
        cases hmj : memberS (p.drop j) with
        | none =>
          rw [hmj] at hm hstep
          simp only at hm hstep
          subst hm
          simp only [vxs]
          refine h7.lds ?_
          refine sign_ret (K := fun r w8 => clsPost p at_ w (.tuple #[r, .int .i64 0, .bool false]) w8) h4 hB4 hx fun w' hx' => clsPost_none _ _ ?_ hx'
          rw [hcls, clsR_none (by rw [hcs, hstep])]
        | some cr =>
          obtain ⟨lo, r1⟩ := cr
          rw [hmj] at hm hstep
          obtain ⟨n1, rfl, er1, hn1, hn1l⟩ := hm
          simp only at hstep
          subst er1
          simp only [vxs]
          refine ⟨fun g w' => ∃ (hi : UInt8) (n2 : Nat), nth g 0 = .int .u8 hi.toNat ∧ nth g 1 = .int .i64 n2 ∧ j < n2 ∧ n2 ≤ p.length ∧ lo ≤ hi ∧ w' = w5 ∧ classS (p.drop j) set = classS (p.drop n2) (fillS set lo.toNat (hi.toNat + 1)), ?_, ?_⟩
          · rintro g3 z3 w9 ⟨hi, n2, hg0, hg1', hn2, hn2l, hlh, rfl, hcs2⟩
            have hlo := lo.toNat_lt
            have hhi := hi.toNat_lt
            have cv : ∀ (x : UInt8) (K : Value → Prop), cvI .i64 (.int .u8 x.toNat) K = K (.int .i64 x.toNat) := fun x K => by
              have := x.toNat_lt
              simp only [cvI, IntWalk.i64_in _ (show -9223372036854775808 ≤ (x.toNat : Int) ∧ (x.toNat : Int) ≤ 9223372036854775807 from by omega)]
            rw [cv lo]
            refine ⟨fun g' w' => ∃ c : Nat, nth g' 0 = .int .i64 c ∧ lo.toNat ≤ c ∧ c ≤ hi.toNat + 1 ∧ SignAt w' B7 ⟨4, 0, neg, fillS set lo.toNat c⟩ ∧ SignAt w' B4 sign0 ∧ Ext w w', fun g' _ => 256 - ixOf g' 0,
              ⟨lo.toNat, rfl, Nat.le_refl _, by have : lo.toNat ≤ hi.toNat := hlh; omega, by rw [fillS_self]; exact h7, h4, hx⟩, ?_⟩
            rintro g4 z4 w10 ⟨c, hgc, hc1, hc2, h7', h4', hx'⟩
            rw [hg0, cv hi]
            simp only [hgc, vxs]
            refine cnd_split (fun h => ?_) (fun h => ?_)
            · have hch : c ≤ hi.toNat := by simp at h; omega
              refine ⟨⟨by omega, by simp; omega⟩, ?_⟩
              rw [addr_add, show (c : Int).toNat * 1 = c from by simp]
              refine st1_in h7' rfl (by show _ < (signE _).length; rw [signE_len]; omega) ?_
              refine int_add (by omega) ⟨⟨c + 1, rfl, by omega, by omega, ?_, ?_, ?_⟩, ?_⟩
              · unfold SignAt
                rw [setB_new h7', Nat.zero_add, signE_put (by omega)]
                have := fillS_put ⟨4, 0, neg, set⟩ set lo.toNat c hc1
                simp only at this
                rw [this]
              · exact (setB_upd _ _ _).get h4' (fun e => hne e.symm)
              · exact Upd.trans hx' (setB_upd _ _ _) fun k hk e => by omega
              · rw [ixOf_of hgc, ixOf_of (n := c + 1) rfl]; omega
            · have hch : c = hi.toNat + 1 := by simp at h; omega
              subst hch
              refine ⟨⟨n2, _, hg1', by omega, hn2l, h7', h4', hx', by rw [hcs, hcs2], fun _ => hkn⟩, ?_⟩
              rw [ixOf_of hg1, ixOf_of (n := n2) (by simpa [nth] using hg1')]; omega
          · have hone : rangeS (p.drop n1) = none → classS (p.drop j) set = classS (p.drop n1) (fillS set lo.toNat (lo.toNat + 1)) := fun h => by rw [hstep, h]
            have hlast : rangeS (p.drop n1) = none → (∃ (hi : UInt8) (n2 : Nat), Value.int .u8 lo.toNat = .int .u8 hi.toNat ∧ Value.int .i64 n1 = .int .i64 n2 ∧ j < n2 ∧ n2 ≤ p.length ∧ lo ≤ hi ∧ True ∧ classS (p.drop j) set = classS (p.drop n2) (fillS set lo.toNat (hi.toNat + 1))) :=
              fun h => ⟨lo, n1, rfl, rfl, hn1, hn1l, UInt8.le_refl _, trivial, hone h⟩
            refine int_add (by omega) ?_
            simp only [vxs]
            by_cases hr1 : n1 + 1 < p.length
            · have hd : decide ((n1 : Int) + 1 < p.length) = true := by simpa using by omega
              have e1 : p.drop n1 = p[n1] :: p.drop (n1 + 1) := List.drop_eq_getElem_cons (by omega)
              have e2 : p.drop (n1 + 1) = p[n1 + 1] :: p.drop (n1 + 1 + 1) := List.drop_eq_getElem_cons hr1
              simp only [hd]
              refine gd_and (fun _ => ?_) (fun h => nomatch h)
              refine ⟨⟨by omega, by simp; omega⟩, ?_⟩
              rw [get8 p n1 (by omega)]
              simp only [vxs]
              rw [show ((p[n1].toNat : Int) == 45) = (p[n1] == 45) from u8_eq p[n1] 45 (by omega)]
              refine gd_and (fun h45 => ?_) (fun h45 => ?_)
              · have h45 : p[n1] = 45 := by simpa using h45
                refine int_add (by omega) ?_
                refine ⟨⟨by omega, by simp; omega⟩, ?_⟩
                rw [show (n1 : Int) + 1 = ((n1 + 1 : Nat) : Int) from by omega, get8 p (n1 + 1) hr1]
                simp only [vxs]
                rw [show ((p[n1 + 1].toNat : Int) != 93) = (p[n1 + 1] != 93) from congrArg (fun b => !b) (u8_eq p[n1 + 1] 93 (by omega))]
                refine cnd_split (fun hn93 => ?_) (fun hn93 => ?_)
                · have hn93 : p[n1 + 1] ≠ 93 := by simpa using hn93
                  have hrs : rangeS (p.drop n1) = some (p.drop (n1 + 1)) := by
                    rw [e1, e2]; simp only [rangeS]; rw [if_pos ⟨h45, hn93⟩]
                  rw [hrs] at hstep
                  simp only at hstep
                  refine int_add (by omega) ?_
                  rw [show (n1 : Int) + 1 = ((n1 + 1 : Nat) : Int) from by omega]
                  refine call_ok has_glob_member (member_spec p (n1 + 1) hp (by omega) w5) ?_
                  rintro v6 w5 ⟨hm2, rfl⟩
                  cases hm3 : memberS (p.drop (n1 + 1)) with
                  | none =>
                    rw [hm3] at hm2 hstep
                    simp only at hm2 hstep
                    subst hm2
                    simp only [vxs]
                    refine jn_dup fun _ => ?_
                    refine h7.lds ?_
                    refine sign_ret (K := fun r w8 => clsPost p at_ w (.tuple #[r, .int .i64 0, .bool false]) w8) h4 hB4 hx fun w' hx' => clsPost_none _ _ ?_ hx'
                    rw [hcls, clsR_none (by rw [hcs, hstep])]
                  | some cr =>
                    obtain ⟨hi, r3⟩ := cr
                    rw [hm3] at hm2 hstep
                    obtain ⟨n3, rfl, er3, hn3, hn3l⟩ := hm2
                    simp only at hstep
                    subst er3
                    simp only [vxs]
                    refine jn_dup fun _ => ?_
                    simp only [vxs]
                    rw [show decide ((hi.toNat : Int) < lo.toNat) = decide (hi < lo) from decide_eq_decide.2 (by rw [UInt8.lt_iff_toNat_lt]; omega)]
                    refine cnd_split (fun h => ?_) (fun h => ?_)
                    · have h : hi < lo := by simpa using h
                      rw [if_pos h] at hstep
                      refine h7.lds ?_
                      refine sign_ret (K := fun r w8 => clsPost p at_ w (.tuple #[r, .int .i64 0, .bool false]) w8) h4 hB4 hx fun w' hx' => clsPost_none _ _ ?_ hx'
                      rw [hcls, clsR_none (by rw [hcs, hstep])]
                    · have h : ¬ hi < lo := by simpa using h
                      rw [if_neg h] at hstep
                      refine ⟨hi, n3, rfl, rfl, by omega, hn3l, ?_, trivial, hstep⟩
                      rw [UInt8.le_iff_toNat_le]; rw [UInt8.lt_iff_toNat_lt] at h; omega
                · have hn93 : p[n1 + 1] = 93 := by simpa using hn93
                  exact hlast (by rw [e1, e2]; simp only [rangeS]; rw [if_neg fun h => h.2 hn93])
              · have h45 : p[n1] ≠ 45 := by simpa using h45
                simp only [vxs]
                exact hlast (by rw [e1, e2]; simp only [rangeS]; rw [if_neg fun h => h45 h.1])
            · have hd : decide ((n1 : Int) + 1 < p.length) = false := by simpa using by omega
              simp only [hd]
              refine gd_and (fun h => nomatch h) (fun _ => ?_)
              refine gd_and (fun h => nomatch h) (fun _ => ?_)
              simp only [vxs]
              refine hlast ?_
              by_cases hn : n1 < p.length
              · have e1 : p.drop n1 = p[n1] :: p.drop (n1 + 1) := List.drop_eq_getElem_cons hn
                rw [e1, List.drop_eq_nil_of_le (by omega)]; rfl
              · rw [List.drop_eq_nil_of_le (by omega)]; rfl
      · have h93 : p[j] = 93 := by simpa using h
        rw [hd] at hout
        exact hout fun _ => h93
    · have hd : decide ((j : Int) < p.length) = false := by simpa using hlt
      simp only [hd]
      refine gd_and (fun h => nomatch h) (fun _ => ?_)
      rw [hd] at hout
      exact hout fun h => absurd h hlt
  · simp only [vxs]
    by_cases hlt : at_ < p.length
    · have hd : decide ((at_ : Int) < p.length) = true := by simpa using hlt
      have ea : p.drop at_ = p[at_] :: p.drop (at_ + 1) := List.drop_eq_getElem_cons hlt
      simp only [hd]
      refine gd_and (fun _ => ?_) (fun h => nomatch h)
      refine ⟨⟨by omega, by simpa using hlt⟩, ?_⟩
      rw [get8 p at_ hlt]
      simp only [vxs]
      rw [show ((p[at_].toNat : Int) == 33) = (p[at_] == 33) from u8_eq p[at_] 33 (by omega)]
      refine cnd_split (fun h => ?_) (fun h => ?_)
      · have h33 : p[at_] = 33 := by simpa using h
        refine st1_in s7 rfl (by show 2 < (signE _).length; rw [signE_len]; omega) ?_
        refine int_add (by omega) ⟨at_ + 1, true, rfl, by omega, by omega, ?_, ?_, ?_, ?_⟩
        · have := signE_neg { sign0 with kind := 4 }
          unfold SignAt
          rw [setB_new s7]
          exact congrArg (fun c => some (Obj.cells c t_glob_sign (0, 0))) this
        · exact (setB_upd _ _ _).get s4 (fun e => hne e.symm)
        · exact Upd.trans hx3 (setB_upd _ _ _) fun k hk e => by omega
        · rw [ea, h33, classAtS_neg]
      · have h33 : p[at_] ≠ 33 := by simpa using h
        refine ⟨at_, false, rfl, Nat.le_refl _, by omega, s7, s4, hx3, ?_⟩
        exact classAtS_not fun r' e => h33 (by rw [ea] at e; injection e)
    · have hd : decide ((at_ : Int) < p.length) = false := by simpa using hlt
      simp only [hd]
      refine gd_and (fun h => nomatch h) (fun _ => ?_)
      simp only [vxs]
      refine ⟨at_, false, rfl, Nat.le_refl _, ha, s7, s4, hx3, ?_⟩
      exact classAtS_not fun r' e => by rw [List.drop_eq_nil_of_le (by omega)] at e; cases e

def sgPost (p : Bytes) (w : World) (v : Value) (w' : World) : Prop :=
  Ext w w' ∧ (match patS p with
    | none => ∃ x, v = .tuple #[x, .bool false]
    | some l => ∃ x, v = .tuple #[x, .bool true] ∧ Own t_glob_sign 259 signE w.heap.size w' x l)
theorem sgPost_none {p : Bytes} {w w' : World} {x : Value} (h : patS p = none) (hx : Ext w w') : sgPost p w (.tuple #[x, .bool false]) w' := by
  unfold sgPost; rw [h]; exact ⟨hx, x, rfl⟩
theorem sgPost_some {p : Bytes} {w w' : World} {x : Value} {l : List Sign} (h : patS p = some l) (hx : Ext w w') (ho : Own t_glob_sign 259 signE w.heap.size w' x l) : sgPost p w (.tuple #[x, .bool true]) w' := by
  unfold sgPost; rw [h]; exact ⟨hx, x, rfl, ho⟩

theorem stars_cons (r : Bytes) : stars (42 :: r) = stars r := rfl
theorem stars_other {a : UInt8} (r : Bytes) (h : a ≠ 42) : stars (a :: r) = a :: r := by
  unfold stars
  split
  · rename_i r' e; injection e with e1; exact absurd e1 h
  · rfl

set_option maxRecDepth 10000 in
theorem signs_spec (p : Bytes) (w : World) (hp : p.length ≤ 4294967296) : CallsV Tryz.prog f_glob_signs #[str p] w (sgPost p w) := by
  refine ok_glob_signs _ _ _ ?_
  unfold go_glob_signs
  rw [zeroSign]
  simp only [vxs]
  refine cnd_split (fun h => ?_) (fun h => ?_)
  · have : ¬ p.length ≤ 100 := by simp at h; omega
    exact sgPost_none (by simp [patS, this]) (.refl _ _)
  have h100 : p.length ≤ 100 := by simp at h; omega
  have hpat : patS p = signsS p := by simp [patS, h100]
  refine ⟨fun g w' => ∃ (i : Nat) (out : List Sign), nth g 2 = .int .i64 i ∧ i ≤ p.length ∧ Own t_glob_sign 259 signE w.heap.size w' (nth g 3) out ∧ Ext w w' ∧ signsS p = (signsS (p.drop i)).map (out ++ ·) ∧ out.length ≤ i, fun g _ => p.length - ixOf g 2,
    ⟨0, [], rfl, Nat.zero_le _, .inl ⟨rfl, rfl⟩, .refl _ _, by simp, Nat.le_refl _⟩, ?_⟩
  rintro g z w1 ⟨i, out, hg, hi, ho, hx, he, hl⟩
  simp only [hg, vxs]
  refine cnd_split (fun h => ?_) (fun h => ?_)
  · have hlt : i < p.length := by simp at h; omega
    have ed : p.drop i = p[i] :: p.drop (i + 1) := List.drop_eq_getElem_cons hlt
    refine ⟨⟨by omega, by simpa using hlt⟩, ?_⟩
    rw [get8 p i hlt]
    rw [ed, signsS_cons] at he
    rw [show ((p[i].toNat : Int) == 42) = (p[i] == 42) from u8_eq p[i] 42 (by omega)]
    refine cnd_split (fun h42 => ?_) (fun h42 => ?_)
    · have h42 : p[i] = 42 := by simpa using h42
      rw [if_pos h42] at he
      refine ⟨fun g' w' => ∃ j : Nat, nth g' 0 = .int .i64 j ∧ i ≤ j ∧ j < p.length ∧ stars (p.drop (i + 1)) = stars (p.drop (j + 1)) ∧ w' = w1, fun g' _ => p.length - ixOf g' 0, ⟨i, rfl, Nat.le_refl _, hlt, rfl, rfl⟩, ?_⟩
      rintro g' z' w1 ⟨j, hg', hij, hj, hst, rfl⟩
      simp only [hg']
      refine int_add (by omega) ?_
      simp only [vxs]
      have fin : stars (p.drop (j + 1)) = p.drop (j + 1) → cnd (.bool (decide ((i : Int) < j))) (bld (signE sign0) [(0, 1, .int .i64 1)] fun t50 =>
          bsl t_glob_sign 1 (signE sign0) [(0, 259, t50)] w1 fun t51 w_4 =>
          rn Tryz.prog (Builtin.append_ #[t_S_glob_sign, t_S_glob_sign] t_S_glob_sign ([nth g 3, t51] : List Value).toArray) w_4 fun t52 w_5 =>
          bin .add (.int .i64 j) (.int .i64 1) fun t18 => (∃ (i : Nat) (out : List Sign), t18 = .int .i64 i ∧ i ≤ p.length ∧ Own t_glob_sign 259 signE w.heap.size w_5 t52 out ∧ Ext w w_5 ∧ signsS p = (signsS (p.drop i)).map (out ++ ·) ∧ out.length ≤ i) ∧ p.length - ixOf [.bool (p[i] == 42), .int .i64 i, t18, t52, nth g 4, nth g 5, nth g 6, nth g 7, nth g 8, nth g 9, nth g 10] 2 < p.length - ixOf g 2)
          (bld (signE sign0) [(0, 1, .int .i64 2)] fun t54 =>
          bsl t_glob_sign 1 (signE sign0) [(0, 259, t54)] w1 fun t55 w_4 =>
          rn Tryz.prog (Builtin.append_ #[t_S_glob_sign, t_S_glob_sign] t_S_glob_sign ([nth g 3, t55] : List Value).toArray) w_4 fun t52 w_5 =>
          bin .add (.int .i64 j) (.int .i64 1) fun t18 => (∃ (i : Nat) (out : List Sign), t18 = .int .i64 i ∧ i ≤ p.length ∧ Own t_glob_sign 259 signE w.heap.size w_5 t52 out ∧ Ext w w_5 ∧ signsS p = (signsS (p.drop i)).map (out ++ ·) ∧ out.length ≤ i) ∧ p.length - ixOf [.bool (p[i] == 42), .int .i64 i, t18, t52, nth g 4, nth g 5, nth g 6, nth g 7, nth g 8, nth g 9, nth g 10] 2 < p.length - ixOf g 2) := by
        intro hs
        have hl1 : (stars (p.drop (i + 1))).length = p.length - (j + 1) := by rw [hst, hs, List.length_drop]
        have hl2 : (p.drop (i + 1)).length = p.length - (i + 1) := by rw [List.length_drop]
        refine cnd_split (fun h => ?_) (fun h => ?_)
        · have h : ¬ i = j := by have : i < j := by simpa using h
                                 omega
          rw [if_neg (by omega), hst, hs] at he
          refine bld_kind (s := sign0) (k := 1) ?_
          refine app_sign (signE_len _) ho hx.size (by omega) fun v' w' ho' hx' => ?_
          refine int_add (by omega) ⟨⟨j + 1, out ++ [_], rfl, by omega, ho', Upd.trans hx hx' fun b hb h => by omega, ?_, by simp; omega⟩, ?_⟩
          · rw [he]; simp [Function.comp_def]
          · rw [ixOf_of hg, ixOf_of (n := j + 1) rfl]; omega
        · have h : i = j := by have : ¬ i < j := by simpa using h
                               omega
          rw [if_pos (by omega), hst, hs] at he
          refine bld_kind (s := sign0) (k := 2) ?_
          refine app_sign (signE_len _) ho hx.size (by omega) fun v' w' ho' hx' => ?_
          refine int_add (by omega) ⟨⟨j + 1, out ++ [_], rfl, by omega, ho', Upd.trans hx hx' fun b hb h => by omega, ?_, by simp; omega⟩, ?_⟩
          · rw [he]; simp [Function.comp_def]
          · rw [ixOf_of hg, ixOf_of (n := j + 1) rfl]; omega
      by_cases hj1 : j + 1 < p.length
      · have hd : decide ((j : Int) + 1 < p.length) = true := by simpa using by omega
        have ej : p.drop (j + 1) = p[j + 1] :: p.drop (j + 1 + 1) := List.drop_eq_getElem_cons hj1
        simp only [hd]
        refine gd_and (fun _ => ?_) (fun h => nomatch h)
        refine int_add (by omega) ?_
        refine ⟨⟨by omega, by simp; omega⟩, ?_⟩
        rw [show (j : Int) + 1 = ((j + 1 : Nat) : Int) from by omega, get8 p (j + 1) hj1]
        simp only [vxs]
        rw [show ((p[j + 1].toNat : Int) == 42) = (p[j + 1] == 42) from u8_eq p[j + 1] 42 (by omega)]
        refine cnd_split (fun hs => ?_) (fun hs => ?_)
        · have hs : p[j + 1] = 42 := by simpa using hs
          refine int_add (by omega) ⟨⟨j + 1, rfl, by omega, hj1, ?_, trivial⟩, ?_⟩
          · rw [hst, ej, hs, stars_cons]
          · rw [ixOf_of hg', ixOf_of (n := j + 1) rfl]; omega
        · have hs : p[j + 1] ≠ 42 := by simpa using hs
          exact fin (by rw [ej, stars_other _ hs])
      · have hd : decide ((j : Int) + 1 < p.length) = false := by simpa using by omega
        simp only [hd]
        refine gd_and (fun h => nomatch h) (fun _ => ?_)
        exact fin (by rw [List.drop_eq_nil_of_le (by omega)]; rfl)
    · have h42 : p[i] ≠ 42 := by simpa using h42
      rw [if_neg h42] at he
      rw [show ((p[i].toNat : Int) == 63) = (p[i] == 63) from u8_eq p[i] 63 (by omega)]
      refine cnd_split (fun h63 => ?_) (fun h63 => ?_)
      · have h63 : p[i] = 63 := by simpa using h63
        rw [if_pos h63] at he
        refine bld_kind (s := sign0) (k := 3) ?_
        refine app_sign (signE_len _) ho hx.size (by omega) fun v' w' ho' hx' => ?_
        refine int_add (by omega) ⟨⟨i + 1, out ++ [_], rfl, by omega, ho', Upd.trans hx hx' fun b hb h => by omega, ?_, by simp; omega⟩, ?_⟩
        · rw [he]; simp [Function.comp_def]
        · rw [ixOf_of hg, ixOf_of (n := i + 1) rfl]; omega
      · have h63 : p[i] ≠ 63 := by simpa using h63
        rw [if_neg h63] at he
        rw [show ((p[i].toNat : Int) == 91) = (p[i] == 91) from u8_eq p[i] 91 (by omega)]
        refine cnd_split (fun h91 => ?_) (fun h91 => ?_)
        · have h91 : p[i] = 91 := by simpa using h91
          rw [if_pos h91] at he
          refine int_add (by omega) ?_
          rw [show (i : Int) + 1 = ((i + 1 : Nat) : Int) from by omega]
          refine call_ok has_glob_classAt (classAt_spec p (i + 1) hp (by omega) w1) ?_
          rintro v2 w2 ⟨hc, hx2⟩
          cases hcl : classAtS (p.drop (i + 1)) with
          | none =>
            rw [hcl] at hc he
            obtain ⟨s, n, rfl⟩ := hc
            simp only [vxs]
            refine sign_st (s0 := sign0) (alloc_new _ _) fun w3 s7 hx3 => ?_
            exact sgPost_none (by rw [hpat, he]; rfl) (Upd.trans (Upd.trans (Ext.trans hx hx2) (alloc_upd _ _ _) fun _ _ h => h) hx3 fun k hk e => by have := Upd.size (Ext.trans hx hx2); omega)
          | some sr =>
            obtain ⟨s, r⟩ := sr
            rw [hcl] at hc he
            obtain ⟨nx, rfl, rfl, hn1, hn2⟩ := hc
            simp only [vxs]
            refine sign_st (s0 := sign0) (alloc_new _ _) fun w3 s7 hx3 => ?_
            refine s7.lds ?_
            have hsz := Upd.size (Ext.trans hx hx2)
            have hx3' : Ext w1 w3 := Upd.trans (Upd.trans hx2 (alloc_upd (fun _ => False) _ _) fun _ _ h => h) hx3 fun k hk e => by have := hx2.size; omega
            refine app_sign (signE_len _) (ho.mono hx3' (fun _ _ h => h) (Nat.le_refl _)) (by have := hx3'.size; have := hx.size; omega) (by omega) fun v' w' ho' hx' => ?_
            refine int_sub (by omega) (int_add (by omega) ⟨⟨nx, out ++ [_], by congr 1; omega, hn2, ho', Upd.trans (Ext.trans hx hx3') hx' fun b hb h => by omega, ?_, by simp; omega⟩, ?_⟩)
            · rw [he]; simp [Function.comp_def]
            · rw [ixOf_of hg, ixOf_of (n := nx) (q := .i64) (by show Value.int .i64 _ = _; congr 1; omega)]; omega
        · have h91 : p[i] ≠ 91 := by simpa using h91
          rw [if_neg h91] at he
          rw [show ((p[i].toNat : Int) == 92) = (p[i] == 92) from u8_eq p[i] 92 (by omega)]
          refine cnd_split (fun h92 => ?_) (fun h92 => ?_)
          · have h92 : p[i] = 92 := by simpa using h92
            rw [if_pos h92] at he
            refine int_add (by omega) ?_
            simp only [vxs]
            refine cnd_split (fun hend => ?_) (fun hend => ?_)
            · have hend : i + 1 = p.length := by simp at hend; omega
              rw [List.drop_eq_nil_of_le (by omega)] at he
              exact sgPost_none (by rw [hpat, he]; rfl) hx
            · have hend : i + 1 < p.length := by simp at hend; omega
              refine ⟨⟨by omega, by omega⟩, ?_⟩
              rw [show (i : Int) + 1 = ((i + 1 : Nat) : Int) from by omega, get8 p (i + 1) hend]
              rw [List.drop_eq_getElem_cons hend] at he
              refine bld_c (s := sign0) ?_
              refine app_sign (signE_len _) ho hx.size (by omega) fun v' w' ho' hx' => ?_
              refine int_add (by omega) ⟨⟨i + 1 + 1, out ++ [_], rfl, by omega, ho', Upd.trans hx hx' fun b hb h => by omega, ?_, by simp; omega⟩, ?_⟩
              · rw [he]; simp [Function.comp_def]
              · rw [ixOf_of hg, ixOf_of (n := i + 1 + 1) rfl]; omega
          · have h92 : p[i] ≠ 92 := by simpa using h92
            rw [if_neg h92] at he
            refine ⟨⟨by omega, by simpa using hlt⟩, ?_⟩
            refine bld_c (s := sign0) ?_
            refine app_sign (signE_len _) ho hx.size (by omega) fun v' w' ho' hx' => ?_
            refine int_add (by omega) ⟨⟨i + 1, out ++ [_], rfl, by omega, ho', Upd.trans hx hx' fun b hb h => by omega, ?_, by simp; omega⟩, ?_⟩
            · rw [he]; simp [Function.comp_def]
            · rw [ixOf_of hg, ixOf_of (n := i + 1) rfl]; omega
  · have hie : i = p.length := by simp at h; omega
    rw [List.drop_eq_nil_of_le (by omega), signsS_nil] at he
    exact sgPost_some (l := out) (by rw [hpat, he]; simp) hx ho
end Go.Proofs.YtkpefimnggojdaaGreat.VX
