/-
  Contracts: rules, metas.
-/
import Derived.Test.YtkpefimnggojdaaGreatPh
set_option linter.all false
namespace Go.Proofs.YtkpefimnggojdaaGreat.VX
open Go Pl
set_option maxRecDepth 4000

structure Rule where
  act : Int
  pat : Bytes
  dir : Bool
  anch : Bool
def ruleE (r : Rule) : List Value := [.int .i64 r.act, str r.pat, .bool r.dir, .bool r.anch]
theorem ruleE_len (r : Rule) : (ruleE r).length = 4 := rfl
theorem ruleE_one (r : Rule) : ∀ v ∈ ruleE r, oneCell v = true := by
  intro v hv; simp only [ruleE, List.mem_cons, List.not_mem_nil, or_false] at hv; rcases hv with rfl | rfl | rfl | rfl <;> rfl
def signR (a : Int) : Nat := if a = 1 then 43 else if a = 2 then 45 else if a = 3 then 80 else if a = 4 then 82 else 0
/-- May a rule be? -/
def ckR (r : Rule) : Int :=
  if signR r.act = 0 then 2 else if r.pat = [] ∨ r.pat.head? = some 47 ∨ r.pat.getLast? = some 47 ∨ 10 ∈ r.pat then 5 else patE r.pat
def ckL : List Rule → Int
  | [] => 0
  | r :: l => if ckR r ≠ 0 then ckR r else ckL l
def CkL (l : List Rule) : Int := if 64 < l.length then 7 else ckL l
def mtR (r : Rule) (p : Bytes) (dir : Bool) : Bool :=
  decide (ckR r = 0) && !(p == []) && rightB p && !(r.dir && !dir) && (if r.anch || decide (47 ∈ r.pat) then matchS r.pat p else matchS r.pat (baseP p))
def actR : List Rule → Bytes → Bool → Bool → Int
  | [], _, _, _ => 0
  | r :: l, p, dir, drop => if (drop || r.act == 1 || r.act == 2) && mtR r p dir then r.act else actR l p dir drop

theorem Contains_spec (s : Bytes) (c : UInt8) (w : World) : CallsV Tryz.prog f_strings_Contains #[str s, str [c]] w fun v w' => v = .bool (decide (c ∈ s)) ∧ w' = w := by
  refine (of_calls (Tryz.strings_Contains_one ⟨⟨s⟩⟩ c w)).mono fun v w' h => ⟨?_, h.2⟩
  rw [h.1]
  congr 1
  exact decide_eq_decide.2 (idx_mem s c)

theorem sign_spec (a : Int) (w : World) : CallsV Tryz.prog f_rules_sign #[.int .i64 a] w fun v w' => v = .int .u8 (signR a) ∧ w' = w := by
  refine ok_rules_sign _ _ _ ?_
  unfold go_rules_sign
  simp only [vxs]
  have no : (a ≤ 0 ∨ 4 < a) → (Value.int .u8 0 = .int .u8 (signR a) ∧ w = w) := fun h => by
    have : signR a = 0 := by unfold signR; rw [if_neg (by omega), if_neg (by omega), if_neg (by omega), if_neg (by omega)]
    rw [this]; exact ⟨rfl, rfl⟩
  refine gd_or (fun h => ?_) (fun h => no (.inl (by simpa using h)))
  have h0 : ¬ a ≤ 0 := by simpa using h
  simp only [vxs]
  refine cnd_split (fun h => ⟨(no (.inr (by simpa using h))).1, trivial⟩) (fun h => ?_)
  have h4 : ¬ 4 < a := by simpa using h
  have e : ∀ K : Value → Prop, K (.agg #[.int .u8 0, .int .u8 43, .int .u8 45, .int .u8 80, .int .u8 82]) → bld [(.int .u8 0), (.int .u8 0), (.int .u8 0), (.int .u8 0), (.int .u8 0)] [(1, 1, (.int .u8 43)), (2, 1, (.int .u8 45)), (3, 1, (.int .u8 80)), (4, 1, (.int .u8 82))] K := fun K h => h
  refine e _ ?_
  rcases (show a = 1 ∨ a = 2 ∨ a = 3 ∨ a = 4 from by omega) with rfl | rfl | rfl | rfl
  all_goals exact ⟨⟨by omega, by omega⟩, rfl, trivial⟩

theorem check_spec (r : Rule) (hp : r.pat.length ≤ 4294967296) (w : World) : CallsV Tryz.prog f_rules_check #[.agg (ruleE r).toArray] w fun v w' => v = .int .i64 (ckR r) ∧ Ext w w' := by
  refine ok_rules_check _ _ _ ?_
  unfold go_rules_check
  simp only [vxs, alloc_new]
  obtain ⟨w1, ew1⟩ : ∃ w1, w1 = w.alloc (.cells (ruleE r).toArray t_api_Rule) := ⟨_, rfl⟩
  have hx1 : Ext w w1 := by rw [ew1]; exact alloc_ext _ _
  rw [← ew1]
  simp only [ruleE, vxs]
  refine call_ok has_rules_sign (sign_spec r.act w1) ?_
  rintro _ w1 ⟨rfl, rfl⟩
  simp only [vxs]
  rw [show ((signR r.act : Int) == 0) = (signR r.act == 0) from nat_eq _ 0]
  refine cnd_split (fun h => ?_) (fun h => ?_)
  · have h : signR r.act = 0 := by simpa using h
    exact ⟨by simp [ckR, h], hx1⟩
  have hs : ¬ signR r.act = 0 := by simpa using h
  have bad : (r.pat = [] ∨ r.pat.head? = some 47 ∨ r.pat.getLast? = some 47 ∨ 10 ∈ r.pat) → (Value.int .i64 5 = .int .i64 (ckR r) ∧ Ext w w1) := fun h => ⟨by simp only [ckR]; rw [if_neg hs, if_pos h], hx1⟩
  generalize hpat : r.pat = p at *
  refine gd_or (fun h => ?_) (fun h => ?_)
  · have h0 : p ≠ [] := by simpa using h
    have hl0 : 0 < p.length := List.length_pos_iff.2 h0
    refine ⟨⟨by omega, by omega⟩, ?_⟩
    have eh : p.getD (0 : Int).toNat 0 = p[0] := get8 p 0 hl0
    rw [eh]
    rw [show ((p[0].toNat : Int) == 47) = (p[0] == 47) from u8_eq p[0] 47 (by omega)]
    simp only [vxs]
    refine gd_or (fun h => ?_) (fun h => ?_)
    · have h1 : p[0] ≠ 47 := by simpa using h
      refine int_sub (by omega) ?_
      rw [show ((p.length : Int) - 1) = ((p.length - 1 : Nat) : Int) from by omega]
      refine ixS_at (by omega) ?_
      simp only [vxs]
      rw [show ((p[p.length - 1].toNat : Int) == 47) = (p[p.length - 1] == 47) from u8_eq p[p.length - 1] 47 (by omega)]
      have elast : p.getLast? = some p[p.length - 1] := by rw [List.getLast?_eq_getElem?, List.getElem?_eq_getElem (by omega)]
      refine gd_or (fun h => ?_) (fun h => ?_)
      · have h2 : p[p.length - 1] ≠ 47 := by simpa using h
        refine call_ok has_strings_Contains (Contains_spec p 10 w1) ?_
        rintro _ w1 ⟨rfl, rfl⟩
        simp only [vxs]
        refine cnd_split (fun h => ?_) (fun h => ?_)
        · exact bad (.inr (.inr (.inr (by simpa using h))))
        · have h3 : ¬ 10 ∈ p := by simpa using h
          refine call_ok has_glob_Check (globCheck_spec p hp w1) ?_
          rintro _ w2 ⟨rfl, hx2⟩
          refine ⟨?_, Ext.trans hx1 hx2⟩
          simp only [ckR]
          rw [if_neg hs, hpat, if_neg]
          rintro (h | h | h | h)
          · exact h0 h
          · rw [List.head?_eq_getElem?, List.getElem?_eq_getElem hl0] at h; injection h with h; exact h1 h
          · rw [elast] at h; injection h with h; exact h2 h
          · exact h3 h
      · simp only [vxs]
        refine bad (.inr (.inr (.inl ?_)))
        rw [elast]; simpa using h
    · try simp only [vxs]
      refine jn_dup fun _ => ?_
      try simp only [vxs]
      refine bad (.inr (.inl ?_))
      rw [List.head?_eq_getElem?, List.getElem?_eq_getElem hl0]; simpa using h
  · try simp only [vxs]
    refine jn_dup fun _ => ?_
    try simp only [vxs]
    refine jn_dup fun _ => ?_
    try simp only [vxs]
    exact bad (.inl (by simpa using h))

/-- A variable is made, and set to what was read. -/
theorem new_st {zs : Array Value} {vs : List Value} {n : Nat} {t : TypeId} {w : World} {K : World → Prop} (hz : zs.size = n) (hv : vs.length = n) (hn : 0 < n) (h1 : ∀ v ∈ vs, oneCell v = true)
    (hk : ∀ w', w'.heap[w.heap.size]? = some (.cells vs.toArray t (0, 0)) → Ext w w' → K w') :
    st n (.pointer (some ⟨w.heap.size, 0, none⟩)) (.agg vs.toArray) (w.alloc (.cells zs t)) K := by
  refine st_in ?_
  rw [alloc_new]
  refine ⟨rfl, hv, hn, List.all_eq_true.2 h1, by rw [Array.length_toList]; omega, ?_⟩
  have : fillL zs.toList 0 (Value.agg vs.toArray).cells.toList = vs := by
    show fillL zs.toList 0 vs = vs
    have hd : zs.toList.drop (0 + vs.length) = [] := List.drop_eq_nil_of_le (by rw [Array.length_toList]; omega)
    simp only [fillL, hd, List.take_zero, List.nil_append, List.append_nil]
  rw [this]
  exact hk _ (setB_new (alloc_new _ _)) (Upd.trans (alloc_ext _ _) (setB_upd _ _ _) fun k hk e => by omega)
/-- A whole variable is read. -/
theorem lds_all {w : World} {b n : Nat} {vs : List Value} {t : TypeId} (h : w.heap[b]? = some (.cells vs.toArray t (0, 0))) (hn : vs.length = n) {K : Value → Prop} (hk : K (.agg vs.toArray)) : ldS n (.pointer (some ⟨b, 0, none⟩)) w K := by
  refine ldS_in w b 0 n K ?_
  rw [h]
  simp only [cellsIn]
  rw [if_pos (by show 0 + n ≤ vs.length; omega)]
  have : (vs.toArray.toList.drop 0).take n = vs := by
    show (vs.drop 0).take n = _
    rw [List.drop_zero, ← hn, List.take_length]
  rw [this]; exact hk
/-- xs[i], a struct, is read. -/
theorem Sl.lds {α : Type} {k : Nat} {enc : α → List Value} (he : ∀ x, (enc x).length = k) {w : World} {v : Value} {xs : List α} (h : Sl k enc w v xs) (i : Nat) (hi : i < xs.length) {q : IntKind} {K : Value → Prop}
    (hk : K (.agg (enc xs[i]).toArray)) : VX.ia k v (.int q i) fun a => ldS k a w K := by
  refine h.ia he i hi fun b off hr => ?_
  have := hr.ldn K hk
  rw [he] at this; exact this

theorem Check_spec {w : World} {v : Value} {l : List Rule} (h : Sl 4 ruleE w v l) (hl : l.length ≤ 4294967296) (hp : ∀ r ∈ l, r.pat.length ≤ 4294967296) :
    CallsV Tryz.prog f_rules_Check #[v] w fun r w' => r = .int .i64 (CkL l) ∧ Ext w w' := by
  refine ok_rules_Check _ _ _ ?_
  unfold go_rules_Check
  refine h.len ?_
  simp only [vxs]
  refine cnd_split (fun hc => ?_) (fun hc => ?_)
  · have : 64 < l.length := by simp at hc; omega
    exact ⟨by simp [CkL, this], .refl _ _⟩
  have hn : ¬ 64 < l.length := by simp at hc; omega
  refine h.len ?_
  refine ⟨fun g w' => ∃ k : Nat, nth g 2 = .int .i64 k ∧ k ≤ l.length ∧ ckL (l.drop k) = CkL l ∧ Ext w w', fun g _ => l.length - ixOf g 2, ⟨0, rfl, Nat.zero_le _, by simp [CkL, hn], .refl _ _⟩, ?_⟩
  rintro g z w1 ⟨k, hg, hk, he, hx⟩
  simp only [hg]
  simp only [vxs]
  refine cnd_split (fun hc => ?_) (fun hc => ?_)
  · have hlt : k < l.length := by simp at hc; omega
    have ed : l.drop k = l[k] :: l.drop (k + 1) := List.drop_eq_getElem_cons hlt
    rw [ed] at he
    refine (h.ext hx).lds ruleE_len k hlt ?_
    refine new_st rfl (ruleE_len _) (Nat.succ_pos 3) (ruleE_one _) fun w2 hb hx2 => ?_
    refine lds_all hb (ruleE_len _) ?_
    refine call_ok has_rules_check (check_spec l[k] (hp _ (List.getElem_mem hlt)) w2) ?_
    rintro _ w3 ⟨rfl, hx3⟩
    have hx := Ext.trans (Ext.trans hx hx2) hx3
    simp only [vxs]
    simp only [ckL] at he
    refine cnd_split (fun hc => ?_) (fun hc => ?_)
    · have hc : ckR l[k] ≠ 0 := by simpa using hc
      rw [if_pos hc] at he
      exact ⟨by rw [he], hx⟩
    · have hc : ¬ ckR l[k] ≠ 0 := by simpa using hc
      rw [if_neg hc] at he
      refine int_add (by omega) ⟨⟨k + 1, rfl, hlt, he, hx⟩, ?_⟩
      rw [ixOf_of hg, ixOf_of (n := k + 1) rfl]; omega
  · have hke : k = l.length := by simp at hc; omega
    subst hke
    rw [List.drop_length] at he
    exact ⟨by rw [← he]; rfl, hx⟩

theorem boxx_ok {vs : List Value} {t : TypeId} {w : World} {K : Value → World → Prop} (h : K (.pointer (some ⟨w.heap.size, 0, none⟩)) (w.alloc (.cells vs.toArray t))) : boxx t (.agg vs.toArray) w K := h
theorem baseP_len (p : Bytes) : (baseP p).length ≤ p.length := by
  unfold baseP
  rw [List.length_reverse]
  have := (List.takeWhile_sublist (fun x : UInt8 => decide (x ≠ 47)) (l := p.reverse)).length_le
  rwa [List.length_reverse] at this
theorem parentP_len (p : Bytes) : (parentP p).length ≤ p.length := by
  unfold parentP; split
  · rw [List.length_take]; omega
  · simp

theorem Matches_spec (r : Rule) (p : Bytes) (dir : Bool) (hr : r.pat.length ≤ 4294967296) (hp : p.length ≤ 4294967290) (w : World) :
    CallsV Tryz.prog f_rules_Matches #[.agg (ruleE r).toArray, str p, .bool dir] w fun v w' => v = .bool (mtR r p dir) ∧ Ext w w' := by
  refine ok_rules_Matches _ _ _ _ _ ?_
  unfold go_rules_Matches
  refine boxx_ok ?_
  have hb : (w.alloc (.cells (ruleE r).toArray t_api_Rule)).heap[w.heap.size]? = some (.cells (ruleE r).toArray t_api_Rule (0, 0)) := alloc_new _ _
  refine lds_all hb (ruleE_len _) ?_
  obtain ⟨w1, ew1⟩ : ∃ w1, w1 = w.alloc (.cells (ruleE r).toArray t_api_Rule) := ⟨_, rfl⟩
  have hx1 : Ext w w1 := by rw [ew1]; exact alloc_ext _ _
  obtain ⟨B, eB⟩ : ∃ B, B = w.heap.size := ⟨_, rfl⟩
  rw [← ew1, ← eB] at hb ⊢
  refine call_ok has_rules_check (check_spec r hr w1) ?_
  rintro _ w2 ⟨rfl, hx2⟩
  have hb : w2.heap[B]? = some (.cells (ruleE r).toArray t_api_Rule (0, 0)) := hx2.get hb
  have hx := Ext.trans hx1 hx2
  have no : ∀ w', Ext w w' → mtR r p dir = false → (Value.bool false = .bool (mtR r p dir) ∧ Ext w w') := fun w' h h' => ⟨by rw [h'], h⟩
  simp only [vxs]
  -- nothing matches
  refine gd_or (fun h => ?_) (fun h => ?_)
  · have h1 : ckR r = 0 := by simpa using h
    simp only [vxs]
    refine gd_or (fun h => ?_) (fun h => ?_)
    · have h2 : p ≠ [] := by simpa using h
      refine call_ok has_path_Right (Right_spec p hp w2) ?_
      rintro _ w3 ⟨rfl, hx3⟩
      have hb : w3.heap[B]? = some (.cells (ruleE r).toArray t_api_Rule (0, 0)) := hx3.get hb
      have hx := Ext.trans hx hx3
      simp only [vxs]
      cases hright : rightB p with
      | false =>
        simp only [vxs]
        refine jn_dup fun _ => ?_
        refine jn_dup fun _ => ?_
        refine jn_dup fun _ => ?_
        exact no w3 hx (by simp [mtR, hright])
      | true =>
        simp only [vxs]
        refine jn_dup ?_
        simp only [hb, ruleE, vxs]
        intro _
        have mt : (r.dir && !dir) = false → mtR r p dir = (if r.anch || decide (47 ∈ r.pat) then matchS r.pat p else matchS r.pat (baseP p)) := fun h => by
          simp only [mtR, h1, hright, h]; simp [h2]
        have nm : (r.dir && !dir) = true → mtR r p dir = false := fun h => by simp only [mtR, h]; simp
        cases hrd : r.dir <;> cases dir
        all_goals
          rw [hrd] at mt nm
          simp only [vxs]
          refine jn_dup fun _ => ?_
          try simp only [vxs]
          refine jn_dup fun _ => ?_
          try simp only [vxs]
        case true.false => exact no w3 hx (nm rfl)
        all_goals
          have mt := mt rfl
          simp only [hb, ruleE, vxs]
          cases han : r.anch
          all_goals
            rw [han] at mt
            simp only [vxs]
            refine jn_dup ?_
            first
            | (intro _
               simp only [hb, ruleE, vxs]
               refine call_ok has_glob_Match (Match_spec r.pat p hr (by omega) w3) ?_
               rintro _ w4 ⟨rfl, hx4⟩
               exact ⟨by rw [mt]; simp, Ext.trans hx hx4⟩)
            | (refine call_ok has_strings_Contains (Contains_spec r.pat 47 w3) ?_
               rintro _ w3 ⟨rfl, rfl⟩ _
               refine cnd_split (fun h => ?_) (fun h => ?_)
               · simp only [hb, ruleE, vxs]
                 refine call_ok has_glob_Match (Match_spec r.pat p hr (by omega) w3) ?_
                 rintro _ w4 ⟨rfl, hx4⟩
                 exact ⟨by rw [mt, h]; simp, Ext.trans hx hx4⟩
               · have hbl := baseP_len p
                 refine drw_det [.pointer (some ⟨B, 1, none⟩), str r.pat, undef, str (baseP p), .bool (matchS r.pat (baseP p))] ?_ ?_
                 · refine ⟨?_, ?_, ?_, ?_, trivial⟩ <;> intro d w4 q hd hx4 hk <;>
                     simp only [List.mem_cons, List.not_mem_nil, or_false, forall_eq_or_imp, forall_eq, vxs] at hd hk ⊢
                   · exact hk _ (.refl _ _)
                   · rw [hd]; simp only [hx4.get hb, ruleE, vxs]; exact hk _ (.refl _ _)
                   · refine call_ok has_path_Base (Base_spec p (by omega) w4) ?_
                     rintro _ w4 ⟨rfl, rfl⟩
                     exact hk _ (.refl _ _)
                   · rw [hd.1, hd.2.1]
                     refine call_ok has_glob_Match (Match_spec r.pat (baseP p) hr (by omega) w4) ?_
                     rintro _ w5 ⟨rfl, hx5⟩
                     exact hk _ hx5
                 · intro d w4 hd hx4
                   rw [hd 4 (by simp)]
                   exact ⟨by rw [mt, h]; rfl, Ext.trans hx hx4⟩)
    · simp only [vxs]
      refine jn_dup fun _ => ?_
      refine jn_dup fun _ => ?_
      refine jn_dup fun _ => ?_
      refine no w2 hx ?_
      have : p = [] := by simpa using h
      simp [mtR, this]
  · simp only [vxs]
    refine jn_dup fun _ => ?_
    refine jn_dup fun _ => ?_
    refine jn_dup fun _ => ?_
    refine jn_dup fun _ => ?_
    refine no w2 hx ?_
    have : ckR r ≠ 0 := by simpa using h
    simp [mtR, this]

theorem Act_spec {w : World} {v : Value} {l : List Rule} (h : Sl 4 ruleE w v l) (hl : l.length ≤ 4294967296) (hr : ∀ r ∈ l, r.pat.length ≤ 4294967296) (p : Bytes) (hp : p.length ≤ 4294967290) (dir drop : Bool) :
    CallsV Tryz.prog f_rules_Act #[v, str p, .bool dir, .bool drop] w fun r w' => r = .int .i64 (actR l p dir drop) ∧ Ext w w' := by
  refine ok_rules_Act _ _ _ _ _ _ ?_
  unfold go_rules_Act
  refine h.len ?_
  refine ⟨fun g w' => ∃ k : Nat, nth g 1 = .int .i64 k ∧ k ≤ l.length ∧ actR (l.drop k) p dir drop = actR l p dir drop ∧ Ext w w', fun g _ => l.length - ixOf g 1, ⟨0, rfl, Nat.zero_le _, rfl, .refl _ _⟩, ?_⟩
  rintro g z w1 ⟨k, hg, hk, he, hx⟩
  simp only [hg]
  simp only [vxs]
  refine cnd_split (fun hc => ?_) (fun hc => ?_)
  · have hlt : k < l.length := by simp at hc; omega
    have ed : l.drop k = l[k] :: l.drop (k + 1) := List.drop_eq_getElem_cons hlt
    rw [ed] at he
    refine (h.ext hx).lds ruleE_len k hlt ?_
    refine new_st rfl (ruleE_len _) (Nat.succ_pos 3) (ruleE_one _) fun w2 hb hx2 => ?_
    have hx := Ext.trans hx hx2
    obtain ⟨B, eB⟩ : ∃ B, B = w1.heap.size := ⟨_, rfl⟩
    rw [← eB] at hb ⊢
    have hpat := hr _ (List.getElem_mem hlt)
    generalize l[k] = r at *
    simp only [actR] at he
    have yes : ∀ w', Ext w w' → ((drop || r.act == 1 || r.act == 2) && mtR r p dir) = true → (Value.int .i64 r.act = .int .i64 (actR l p dir drop) ∧ Ext w w') := fun w' h1 h2 => by
      rw [if_pos h2] at he; exact ⟨by rw [he], h1⟩
    have no : ∀ w', Ext w w' → ((drop || r.act == 1 || r.act == 2) && mtR r p dir) = false → bin .add (.int .i64 k) (.int .i64 1) fun t36 => (∃ k : Nat, t36 = .int .i64 k ∧ k ≤ l.length ∧ actR (l.drop k) p dir drop = actR l p dir drop ∧ Ext w w') ∧ l.length - ixOf [nth g 0, t36] 1 < l.length - ixOf g 1 := fun w' h1 h2 => by
      rw [if_neg (by rw [h2]; exact Bool.false_ne_true)] at he
      refine int_add (by omega) ⟨⟨k + 1, rfl, hlt, he, h1⟩, ?_⟩
      rw [ixOf_of hg, ixOf_of (n := k + 1) rfl]; omega
    -- the call
    have call : ∀ {K : Value → World → Prop}, (∀ w', Ext w2 w' → K (.bool (mtR r p dir)) w') → ldS 4 (.pointer (some ⟨B, 0, none⟩)) w2 fun t29 => callv Tryz.prog (fnv f_rules_Matches) [t29, str p, .bool dir] w2 K := fun {K} hK => by
      refine lds_all hb (ruleE_len _) ?_
      refine call_ok has_rules_Matches (Matches_spec r p dir hpat hp w2) ?_
      rintro _ w3 ⟨rfl, hx3⟩
      exact hK w3 hx3
    cases drop with
    | false =>
      simp only [Bool.false_or] at yes no
      simp only [vxs]
      refine jn_dup ?_
      simp only [hb, ruleE, vxs, Nat.zero_add]
      intro _
      cases h1 : (r.act == 1) with
      | false =>
        rw [h1] at yes no
        simp only [Bool.false_or] at yes no
        simp only [vxs]
        refine jn_dup ?_
        simp only [hb, ruleE, vxs, Nat.zero_add]
        intro _
        cases h2 : (r.act == 2) with
        | false =>
          rw [h2] at no
          simp only [vxs]
          refine jn_dup fun _ => ?_
          exact no w2 hx rfl
        | true =>
          rw [h2] at yes no
          simp only [Bool.true_and] at yes no
          simp only [vxs]
          refine jn_dup ?_
          refine call fun w3 hx3 => ?_
          intro _
          exact cnd_split (fun h => by simp only [hx3.get hb, ruleE, vxs, Nat.zero_add]; exact yes w3 (Ext.trans hx hx3) h) (fun h => no w3 (Ext.trans hx hx3) h)
      | true =>
        rw [h1] at yes no
        simp only [Bool.true_or, Bool.true_and] at yes no
        simp only [vxs]
        refine jn_dup fun _ => ?_
        refine jn_dup ?_
        refine call fun w3 hx3 => ?_
        intro _
        exact cnd_split (fun h => by simp only [hx3.get hb, ruleE, vxs, Nat.zero_add]; exact yes w3 (Ext.trans hx hx3) h) (fun h => no w3 (Ext.trans hx hx3) h)
    | true =>
      simp only [Bool.true_or, Bool.true_and] at yes no
      simp only [vxs]
      refine jn_dup fun _ => ?_
      refine jn_dup fun _ => ?_
      refine jn_dup ?_
      refine call fun w3 hx3 => ?_
      intro _
      exact cnd_split (fun h => by simp only [hx3.get hb, ruleE, vxs, Nat.zero_add]; exact yes w3 (Ext.trans hx hx3) h) (fun h => no w3 (Ext.trans hx hx3) h)
  · have hke : k = l.length := by simp at hc; omega
    subst hke
    rw [List.drop_length] at he
    exact ⟨by rw [← he]; rfl, hx⟩

/-- Is a path, or one above it, excluded? -/
def hidR (l : List Rule) (p : Bytes) (dir : Bool) : Nat → Bool
  | 0 => false
  | n + 1 => if p = [] then false else if actR l p dir false = 2 then true else hidR l (parentP p) true n
theorem parentP_lt {p : Bytes} (h : p ≠ []) : (parentP p).length < p.length := by
  unfold parentP
  have := List.length_pos_iff.2 h
  split
  · rename_i hm
    rw [List.length_take]
    omega
  · exact this
theorem hidR_fuel (l : List Rule) : ∀ (n m : Nat) (p : Bytes) (dir : Bool), p.length < n → p.length < m → hidR l p dir n = hidR l p dir m
  | 0, _, p, dir, h, _ => by omega
  | _ + 1, 0, p, dir, _, h => by omega
  | n + 1, m + 1, p, dir, hn, hm => by
    simp only [hidR]
    by_cases hp : p = []
    · rw [if_pos hp, if_pos hp]
    · rw [if_neg hp, if_neg hp]
      have := parentP_lt hp
      rw [hidR_fuel l n m (parentP p) true (by omega) (by omega)]
def hiddenR (l : List Rule) (p : Bytes) (dir : Bool) : Bool := rightB p && hidR l p dir (p.length + 1)

theorem Hidden_spec {w : World} {v : Value} {l : List Rule} (h : Sl 4 ruleE w v l) (hl : l.length ≤ 4294967296) (hr : ∀ r ∈ l, r.pat.length ≤ 4294967296) (p : Bytes) (hp : p.length ≤ 4294967290) (dir : Bool) :
    CallsV Tryz.prog f_rules_Hidden #[v, str p, .bool dir] w fun r w' => r = .bool (hiddenR l p dir) ∧ Ext w w' := by
  refine ok_rules_Hidden _ _ _ _ _ ?_
  unfold go_rules_Hidden
  refine call_ok has_path_Right (Right_spec p hp w) ?_
  rintro _ w1 ⟨rfl, hx1⟩
  simp only [vxs]
  cases hrp : rightB p with
  | false => simp only [vxs]; exact ⟨by simp [hiddenR, hrp], hx1⟩
  | true =>
    simp only [vxs]
    refine ⟨fun g w' => ∃ (q : Bytes) (d : Bool), nth g 1 = str q ∧ nth g 2 = .bool d ∧ q.length ≤ p.length ∧ hidR l q d (q.length + 1) = hiddenR l p dir ∧ Ext w w', fun g _ => match nth g 1 with | .string s => s.data.toList.length | _ => 0,
      ⟨p, dir, rfl, rfl, Nat.le_refl _, by simp [hiddenR, hrp], hx1⟩, ?_⟩
    rintro g z w2 ⟨q, d, hg1, hg2, hq, he, hx⟩
    simp only [hg1, hg2, vxs]
    refine cnd_split (fun hc => ?_) (fun hc => ?_)
    · have hne : q ≠ [] := by simpa using hc
      simp only [hidR] at he
      rw [if_neg hne] at he
      refine call_ok has_rules_Act (Act_spec (h.ext hx) hl hr q (by omega) d false) ?_
      rintro _ w3 ⟨rfl, hx3⟩
      simp only [vxs]
      refine cnd_split (fun hc => ?_) (fun hc => ?_)
      · have hc : actR l q d false = 2 := by simpa using hc
        rw [if_pos hc] at he
        exact ⟨by rw [he], Ext.trans hx hx3⟩
      · have hc : ¬ actR l q d false = 2 := by simpa using hc
        rw [if_neg hc] at he
        refine call_ok has_path_Parent (Parent_spec q (by omega) w3) ?_
        rintro _ w3 ⟨rfl, rfl⟩
        have hlt := parentP_lt hne
        refine ⟨⟨parentP q, true, rfl, rfl, by omega, ?_, Ext.trans hx hx3⟩, ?_⟩
        · rw [← he]; exact hidR_fuel l _ _ _ _ (by omega) hlt
        · simp only [hg1]; exact hlt
    · have hne : q = [] := by simpa using hc
      rw [← he, hne]
      exact ⟨rfl, hx⟩
end Go.Proofs.YtkpefimnggojdaaGreat.VX
