/-
  Contracts: does a pattern match a text.
-/
import Derived.Test.YtkpefimnggojdaaGreatPg
set_option linter.all false
namespace Go.Proofs.YtkpefimnggojdaaGreat.VX
open Go Pl

theorem sign_at0 (s : Sign) : (signE s)[0]? = some (.int .i64 s.kind) := rfl
theorem sign_at1 (s : Sign) : (signE s)[1]? = some (.int .u8 s.c.toNat) := rfl
theorem sign_at2 (s : Sign) : (signE s)[2]? = some (.bool s.neg) := rfl
theorem sign_at3 (s : Sign) (c : UInt8) : (signE s)[3 + c.toNat]? = some (.bool (s.set c)) := by
  have hc := c.toNat_lt
  rw [show 3 + c.toNat = c.toNat + 1 + 1 + 1 from by omega]
  simp only [signE, List.getElem?_cons_succ, List.getElem?_map]
  rw [List.getElem?_range hc]
  simp
theorem nat_eq (a b : Nat) : ((a : Int) == (b : Int)) = (a == b) := by
  by_cases h : a = b
  · subst h; simp
  · have h' : ¬ (a : Int) = b := by omega
    have e1 : (a == b) = false := by simpa using h
    have e2 : ((a : Int) == (b : Int)) = false := by simpa using h'
    rw [e1, e2]
theorem Row.cin {w : World} {b off : Nat} {vs : List Value} (h : Row w b off vs) {i : Nat} {v : Value} (hi : vs[i]? = some v) : cellIn w.heap[b]? (off + i) = some v := by
  rw [← cell_in]; exact h.cell hi

theorem takes_spec {w : World} {b off : Nat} {s : Sign} (c : UInt8) (hr : Row w b off (signE s)) :
    CallsV Tryz.prog f_glob_sign_takes #[.pointer (some ⟨b, off, none⟩), .int .u8 c.toNat] w fun v w' => v = .bool (takesS s c) ∧ Ext w w' := by
  refine ok_glob_sign_takes _ _ _ _ ?_
  unfold go_glob_sign_takes
  simp only [nck]
  have fa' : ∀ (o : Nat) (K : Value → Prop), fa o (.pointer (some ⟨b, off, none⟩)) K = K (.pointer (some ⟨b, off + o, none⟩)) := fun o K => by simp only [fa, addr_add]
  rw [fa' 0]
  refine hr.ld1 (i := 0) (sign_at0 s) _ ?_
  have hk : ∀ n : Nat, ((s.kind : Int) == (n : Int)) = (s.kind == n) := fun n => nat_eq _ _
  have hcn : ((c.toNat : Int) != 47) = (c != 47) := congrArg (fun b => !b) (u8_eq c 47 (by omega))
  simp only [vxs]
  rw [show ((s.kind : Int) == 0) = (s.kind == 0) from hk 0]
  refine cnd_split (fun h => ?_) (fun h => ?_)
  · have h : s.kind = 0 := by simpa using h
    rw [hr.cin (sign_at1 s)]
    simp only [vxs]
    refine ⟨?_, .refl _ _⟩
    simp only [takesS, h, if_true]
    congr 1
    by_cases hc : c = s.c
    · subst hc; simp
    · have : ¬ c.toNat = s.c.toNat := fun e => hc (UInt8.toNat_inj.1 e)
      have h1 : (c == s.c) = false := by simpa using hc
      rw [h1]; simp; omega
  have h0 : ¬ s.kind = 0 := by simpa using h
  rw [show ((s.kind : Int) == 1) = (s.kind == 1) from hk 1]
  refine cnd_split (fun h => ?_) (fun h => ?_)
  · have h : s.kind = 1 := by simpa using h
    exact ⟨by simp [takesS, h], .refl _ _⟩
  have h1 : ¬ s.kind = 1 := by simpa using h
  rw [show ((s.kind : Int) == 4) = (s.kind == 4) from hk 4]
  refine cnd_split (fun h => ?_) (fun h => ?_)
  · have h4 : s.kind = 4 := by simpa using h
    have ht : takesS s c = (!(c == 47) && (s.set c != s.neg)) := by simp [takesS, h4]
    by_cases hc : c = 47
    · have hcf : (c != 47) = false := by simp [hc]
      refine drw_det [undef, .bool false, undef, undef, undef, undef, undef, undef, undef, undef, undef, undef, undef, undef, .bool false] ?_ ?_
      · refine ⟨?_, ?_, ?_, ?_, ?_, ?_, ?_, ?_, ?_, ?_, ?_, ?_, ?_, trivial⟩ <;> intro d w3 k hd hx3 hk <;>
          simp only [List.mem_cons, List.not_mem_nil, or_false, forall_eq_or_imp, forall_eq, vxs, hcn, hcf] at hd hk ⊢
        · exact hk _ (.refl _ _)
        · rw [hd]; exact hk _ (.refl _ _)
        · rw [hd]; exact hk _ (.refl _ _)
        · rw [hd.2]; exact hk _ (.refl _ _)
        · rw [hd.2.2]; exact hk _ (.refl _ _)
        · rw [hd.2.2.2.2]; exact hk _ (.refl _ _)
        · rw [hd.2.2.2.2.2]; exact hk _ (.refl _ _)
        · rw [hd]; exact hk _ (.refl _ _)
        · rw [hd.2]; exact hk _ (.refl _ _)
        · rw [hd.2.2]; exact hk _ (.refl _ _)
        · rw [hd.2.2.2]; exact hk _ (.refl _ _)
        · rw [hd.2.2.2.2.2.2.2.1]; exact hk _ (.refl _ _)
        · rw [hd.2.1]; exact hk _ (.refl _ _)
      · intro d w3 hd hx3
        rw [hd 14 (by simp)]
        exact ⟨by rw [ht]; simp [hc, nth], hx3⟩
    · have hcf : (c != 47) = true := by simpa using hc
      have hcc := c.toNat_lt
      refine drw_det [undef, .bool true, undef, .pointer (some ⟨b, off, none⟩), .int .u8 c.toNat, .pointer (some ⟨b, off, none⟩), .pointer (some ⟨b, off + 3, none⟩), .pointer (some ⟨b, off + 3 + c.toNat, none⟩), .bool (s.set c), .pointer (some ⟨b, off, none⟩), .pointer (some ⟨b, off, none⟩), .pointer (some ⟨b, off + 2, none⟩), .bool s.neg, .bool (s.set c != s.neg), .bool (s.set c != s.neg)] ?_ ?_
      · refine ⟨?_, ?_, ?_, ?_, ?_, ?_, ?_, ?_, ?_, ?_, ?_, ?_, ?_, trivial⟩ <;> intro d w3 k hd hx3 hk <;>
          simp only [List.mem_cons, List.not_mem_nil, or_false, forall_eq_or_imp, forall_eq, vxs, hcn, hcf] at hd hk ⊢
        · exact hk _ (.refl _ _)
        · rw [hd]; exact hk _ (.refl _ _)
        · rw [hd]; exact hk _ (.refl _ _)
        · rw [hd.1, hd.2]; exact hk _ (.refl _ _)
        · rw [hd.1, hd.2.2]; simp only [vxs]; exact hk _ (.refl _ _)
        · obtain ⟨h6, h4, _, _, hh1⟩ := hd
          rw [h6, h4, hh1]
          refine ⟨⟨by omega, by omega⟩, ?_⟩
          rw [addr_add, Int.toNat_natCast, Nat.mul_one]
          exact hk _ (.refl _ _)
        · obtain ⟨h7, _, _, _, _, hh1⟩ := hd
          rw [h7, hh1]
          have := (hr.mono hx3 fun f => f).ld1 (i := 3 + c.toNat) (sign_at3 s c) (fun x => k x w3) (hk _ (.refl _ _))
          rw [← Nat.add_assoc] at this; exact this
        · rw [hd]; exact hk _ (.refl _ _)
        · rw [hd.1, hd.2]; exact hk _ (.refl _ _)
        · rw [hd.1, hd.2.2]; simp only [vxs]; exact hk _ (.refl _ _)
        · rw [hd.1, hd.2.2.2]
          exact (hr.mono hx3 fun f => f).ld1 (i := 2) (sign_at2 s) _ (hk _ (.refl _ _))
        · obtain ⟨h8, h12, _, _, _, _, _, hh1, _⟩ := hd
          rw [h8, h12, hh1]; exact hk _ (.refl _ _)
        · rw [hd.1, hd.2.1]; exact hk _ (.refl _ _)
      · intro d w3 hd hx3
        rw [hd 14 (by simp)]
        refine ⟨?_, hx3⟩
        rw [ht]
        have : (c == 47) = false := by simpa using hc
        simp [nth, this]
  · have h4 : ¬ s.kind = 4 := by simpa using h
    rw [hcn]
    exact ⟨by simp [takesS, h0, h1, h4, bne], .refl _ _⟩

/-! Rows of bools. -/
def BoolsAt (w : World) (b : Nat) (l : List Bool) : Prop := w.heap[b]? = some (.cells (l.map Value.bool).toArray t_bool (0, 0))
theorem BoolsAt.ia {b n : Nat} {i : Nat} (hi : i < n) {q : IntKind} {K : Value → Prop} (hk : K (.pointer (some ⟨b, i, none⟩))) : VX.ia 1 (.slice (some ⟨b, 0, none⟩) n n) (.int q i) K := by
  refine ⟨⟨by omega, by omega⟩, ?_⟩
  rw [addr_add, Int.toNat_natCast, Nat.mul_one, Nat.zero_add]; exact hk
theorem BoolsAt.cin {w : World} {b : Nat} {l : List Bool} (h : BoolsAt w b l) {i : Nat} {v : Bool} (hi : l[i]? = some v) : cellIn w.heap[b]? i = some (.bool v) := by
  unfold BoolsAt at h
  rw [h]
  show (l.map Value.bool).toArray[i]? = _
  rw [List.getElem?_toArray, List.getElem?_map, hi]; rfl
theorem BoolsAt.st {w : World} {b : Nat} {l : List Bool} (h : BoolsAt w b l) {i : Nat} (hi : i < l.length) {v : Bool} {K : World → Prop} (hk : ∀ w', BoolsAt w' b (l.set i v) → Upd (fun k => k = b) w w' → K w') :
    VX.st 1 (.pointer (some ⟨b, i, none⟩)) (.bool v) w K := by
  refine st1_in h rfl (by simpa using hi) (hk _ ?_ (setB_upd _ _ _))
  unfold BoolsAt
  rw [setB_new h]
  congr 2
  apply Array.toList_inj.1
  rw [Array.toList_setIfInBounds]
  simp [List.map_set]

/-- The k-th sign's kind. -/
theorem sl_kind {w : World} {v : Value} {l : List Sign} (h : Sl 259 signE w v l) (k : Nat) (hk : k < l.length) {q : IntKind} {K : Value → Prop} (hK : K (.int .i64 l[k].kind)) :
    ia 259 v (.int q k) fun a => fa 0 a fun b => ld b w K := by
  refine h.ia signE_len k hk fun b off hr => ?_
  have e : fa 0 (.pointer (some ⟨b, off, none⟩)) (fun b => ld b w K) = ld (.pointer (some ⟨b, off + 0, none⟩)) w K := by simp only [fa, addr_add]
  rw [e]
  exact hr.ld1 (i := 0) (sign_at0 _) _ hK

theorem empty_spec {w : World} {v : Value} {l : List Sign} {b : Nat} {at_ : List Bool} (hl : ∀ w', Upd (fun k => k = b) w w' → Sl 259 signE w' v l) (hb : BoolsAt w b at_) (hn : at_.length = l.length + 1) (hlen : l.length ≤ 4294967296) :
    CallsV Tryz.prog f_glob_empty #[v, .slice (some ⟨b, 0, none⟩) (l.length + 1) (l.length + 1)] w fun _ w' => BoolsAt w' b (emptyS l at_) ∧ Upd (fun k => k = b) w w' := by
  refine ok_glob_empty _ _ _ _ ?_
  unfold go_glob_empty
  refine (hl w (.refl _ _)).len ?_
  refine ⟨fun g w' => ∃ (k : Nat) (pre rest : List Bool), nth g 1 = .int .i64 k ∧ k ≤ l.length ∧ pre.length = k ∧ pre.length + rest.length = l.length + 1 ∧ BoolsAt w' b (pre ++ rest) ∧ pre ++ emptyS (l.drop k) rest = emptyS l at_ ∧ Upd (fun k => k = b) w w', fun g _ => l.length - ixOf g 1,
    ⟨0, [], at_, rfl, Nat.zero_le _, rfl, by simpa using hn, hb, by simp, .refl _ _⟩, ?_⟩
  rintro g z w1 ⟨k, pre, rest, hg, hk, hpl, hpr, hba, he, hu⟩
  simp only [hg]
  simp only [vxs]
  refine cnd_split (fun h => ?_) (fun h => ?_)
  · have hlt : k < l.length := by simp at h; omega
    obtain ⟨a, b', r, rfl⟩ : ∃ a b' r, rest = a :: b' :: r := by
      match rest, hpr with
      | [], h => simp at h; omega
      | [a], h => simp at h; omega
      | a :: b' :: r, _ => exact ⟨a, b', r, rfl⟩
    have el : l.drop k = l[k] :: l.drop (k + 1) := List.drop_eq_getElem_cons hlt
    rw [el] at he
    simp only [emptyS] at he
    have hget : (pre ++ a :: b' :: r)[k]? = some a := by rw [List.getElem?_append_right (by omega), hpl]; simp
    refine BoolsAt.ia (by omega) ?_
    rw [show ∀ w K, ld (.pointer (some ⟨b, k, none⟩)) w K = ldm (cellIn w.heap[b]? k) K from vxs.2.2.2.2.2.2.2.2.2.2.2.2.1 b k]
    rw [hba.cin hget]
    simp only [vxs]
    have go : ∀ w2, BoolsAt w2 b ((pre ++ [a]) ++ (b' || (a && looseS l[k])) :: r) → Upd (fun k => k = b) w w2 → ∀ gx : Value, bin .add (.int .i64 k) (.int .i64 1) fun t34 => (∃ (k : Nat) (pre rest : List Bool), t34 = .int .i64 k ∧ k ≤ l.length ∧ pre.length = k ∧ pre.length + rest.length = l.length + 1 ∧ BoolsAt w2 b (pre ++ rest) ∧ pre ++ emptyS (l.drop k) rest = emptyS l at_ ∧ Upd (fun k => k = b) w w2) ∧ l.length - ixOf [gx, t34] 1 < l.length - ixOf g 1 := by
      intro w2 h1 h2 gx
      refine int_add (by omega) ⟨⟨k + 1, pre ++ [a], _ :: r, rfl, hlt, by simp [hpl], ?_, h1, by rw [← he]; simp, h2⟩, ?_⟩
      · simp at hpr ⊢; omega
      · rw [ixOf_of hg, ixOf_of (n := k + 1) rfl]; omega
    cases a with
    | false =>
      simp only [Bool.false_and, Bool.or_false] at go
      refine jn_dup fun _ => ?_
      simp only [vxs]
      refine jn_dup fun _ => ?_
      refine jn_dup fun _ => ?_
      try simp only [vxs]
      exact go w1 (by simpa using hba) hu _
    | true =>
      simp only [Bool.true_and] at go
      simp only [vxs]
      refine jn_dup ?_
      refine sl_kind (hl w1 hu) k hlt ?_
      simp only [vxs]
      rw [show ((l[k].kind : Int) == 1) = (l[k].kind == 1) from nat_eq _ 1]
      intro _
      have fin : ∀ x : Bool, looseS l[k] = x → cnd (.bool x) (bin .add (.int .i64 k) (.int .i64 1) fun t32 => ia 1 (.slice (some ⟨b, 0, none⟩) (l.length + 1) (l.length + 1)) t32 fun t33 => VX.st 1 t33 (.bool true) w1 fun w_5 =>
          bin .add (.int .i64 k) (.int .i64 1) fun t34 => (∃ (k : Nat) (pre rest : List Bool), t34 = .int .i64 k ∧ k ≤ l.length ∧ pre.length = k ∧ pre.length + rest.length = l.length + 1 ∧ BoolsAt w_5 b (pre ++ rest) ∧ pre ++ emptyS (l.drop k) rest = emptyS l at_ ∧ Upd (fun k => k = b) w w_5) ∧ l.length - ixOf [.int .i64 k, t34] 1 < l.length - ixOf g 1)
          (bin .add (.int .i64 k) (.int .i64 1) fun t34 => (∃ (k : Nat) (pre rest : List Bool), t34 = .int .i64 k ∧ k ≤ l.length ∧ pre.length = k ∧ pre.length + rest.length = l.length + 1 ∧ BoolsAt w1 b (pre ++ rest) ∧ pre ++ emptyS (l.drop k) rest = emptyS l at_ ∧ Upd (fun k => k = b) w w1) ∧ l.length - ixOf [.int .i64 k, t34] 1 < l.length - ixOf g 1) := by
        intro x hlo
        rw [hlo] at go
        cases x with
        | true =>
          simp only [vxs]
          refine int_add (by omega) ?_
          rw [show (k : Int) + 1 = ((k + 1 : Nat) : Int) from by omega]
          refine BoolsAt.ia (by omega) ?_
          refine hba.st (by simp; omega) fun w2 h2 hu2 => ?_
          refine go w2 ?_ (Upd.trans hu hu2 fun _ _ h => h) _
          have e : (pre ++ true :: b' :: r).set (k + 1) true = pre ++ [true] ++ (b' || true) :: r := by
            rw [List.set_append_right _ _ (by omega), hpl, show k + 1 - k = 1 from by omega]; simp
          rw [← e]; exact h2
        | false =>
          simp only [vxs]
          refine go w1 ?_ hu _
          simpa using hba
      cases hk1 : (l[k].kind == 1) with
      | true =>
        simp only [vxs]
        refine jn_dup fun _ => ?_
        refine jn_dup fun _ => ?_
        exact fin true (by simp only [looseS, hk1, Bool.true_or])
      | false =>
        simp only [vxs]
        refine jn_dup ?_
        refine sl_kind (hl w1 hu) k hlt ?_
        simp only [vxs]
        rw [show ((l[k].kind : Int) == 2) = (l[k].kind == 2) from nat_eq _ 2]
        intro _
        refine jn_dup fun _ => ?_
        exact fin (l[k].kind == 2) (by simp only [looseS, hk1, Bool.false_or])
  · have hke : k = l.length := by simp at h; omega
    subst hke
    rw [List.drop_length] at he
    simp only [emptyS] at he
    rw [he] at hba
    exact ⟨hba, hu⟩

theorem repl_bools : ∀ n : Nat, (List.replicate n [Value.bool false]).flatten = (List.replicate n false).map Value.bool
  | 0 => rfl
  | n + 1 => by rw [List.replicate_succ, List.flatten_cons, repl_bools n, List.replicate_succ, List.map_cons]; rfl
theorem mks_bools {w : World} {n : Nat} (hn : n ≤ 4294967296) {K : Value → World → Prop} (hk : BoolsAt (w.alloc (.cells ((List.replicate n false).map Value.bool).toArray t_bool)) w.heap.size (List.replicate n false) → K (.slice (some ⟨w.heap.size, 0, none⟩) n n) (w.alloc (.cells ((List.replicate n false).map Value.bool).toArray t_bool))) :
    mks t_bool [(.bool false)] 1 (.int .i64 n) (.int .i64 n) w K := by
  refine ⟨⟨by omega, by omega, by omega, by omega⟩, ?_⟩
  rw [Int.toNat_natCast, repl_bools n]
  exact hk (alloc_new _ _)

set_option maxRecDepth 4000 in
theorem Match_spec (p s : Bytes) (hp : p.length ≤ 4294967296) (hs : s.length ≤ 4294967296) (w : World) : CallsV Tryz.prog f_glob_Match #[str p, str s] w fun v w' => v = .bool (matchS p s) ∧ Ext w w' := by
  refine ok_glob_Match _ _ _ _ ?_
  unfold go_glob_Match
  refine call_ok has_glob_signs (signs_spec p w hp) ?_
  rintro v w1 ⟨hx1, hm⟩
  cases hpat : patS p with
  | none =>
    rw [hpat] at hm
    obtain ⟨x, rfl⟩ := hm
    simp only [vxs]
    exact ⟨by simp [matchS, hpat], hx1⟩
  | some l =>
    rw [hpat] at hm
    obtain ⟨x, rfl, ho⟩ := hm
    have hln : l.length ≤ 100 := by
      unfold patS at hpat
      split at hpat
      · rename_i h; have := signsS_len _ _ _ (Nat.le_refl _) hpat; omega
      · cases hpat
    simp only [vxs]
    have hsl := Sl.of_own signE_len ho
    refine hsl.len (int_add (by omega) ?_)
    rw [show (l.length : Int) + 1 = ((l.length + 1 : Nat) : Int) from by omega]
    refine mks_bools (by omega) fun hb2 => ?_
    have hx2 : Ext w1 (w1.alloc (.cells ((List.replicate (l.length + 1) false).map Value.bool).toArray t_bool)) := alloc_ext _ _
    obtain ⟨w2, ew2⟩ : ∃ w2, w2 = w1.alloc (.cells ((List.replicate (l.length + 1) false).map Value.bool).toArray t_bool) := ⟨_, rfl⟩
    rw [← ew2] at hb2 hx2 ⊢
    obtain ⟨b, eb⟩ : ∃ b, b = w1.heap.size := ⟨_, rfl⟩
    rw [← eb] at hb2 ⊢
    have hbw : w.heap.size ≤ b := by rw [eb]; exact hx1.size
    refine BoolsAt.ia (i := 0) (by omega) ?_
    refine hb2.st (by simp) fun w3 hb3 hu3 => ?_
    have hset : (List.replicate (l.length + 1) false).set 0 true = true :: List.replicate l.length false := by rw [List.replicate_succ]; rfl
    rw [hset] at hb3
    -- the signs' block is none of the later ones
    have keep : ∀ {w' : World} {B : Nat}, w1.heap.size ≤ B → Ext w1 w' → ∀ w'', Upd (fun k => k = B) w' w'' → Sl 259 signE w'' x l := fun {w' B} hB hx w'' hu => by
      have : Ext w1 w'' := Upd.trans hx hu fun k hk e => by omega
      exact hsl.ext this
    have hx3 : Ext w1 w3 := Upd.trans hx2 hu3 fun k hk e => by omega
    refine call_ok has_glob_empty (empty_spec (b := b) (keep (by omega) hx3) hb3 (by simp) (by omega)) ?_
    rintro _ w4 ⟨hb4, hu4⟩
    have hx4 : Ext w1 w4 := Upd.trans hx3 hu4 fun k hk e => by omega
    refine ⟨fun g w' => ∃ (k B : Nat) (at_ : List Bool), nth g 4 = .int .i64 k ∧ k ≤ s.length ∧ nth g 3 = .slice (some ⟨B, 0, none⟩) (l.length + 1) (l.length + 1) ∧ w1.heap.size ≤ B ∧ BoolsAt w' B at_ ∧ at_.length = l.length + 1 ∧ Ext w1 w' ∧
        runS l (s.drop k) at_ = runS l s (emptyS l (true :: List.replicate l.length false)), fun g _ => s.length - ixOf g 4,
      ⟨0, b, _, rfl, Nat.zero_le _, rfl, by omega, hb4, by rw [emptyS_len]; simp, hx4, rfl⟩, ?_⟩
    rintro g z w5 ⟨k, B, at_, hg, hk, hg3, hB, hb5, hal, hx5, hrun⟩
    simp only [hg, hg3, vxs]
    refine cnd_split (fun h => ?_) (fun h => ?_)
    · have hlt : k < s.length := by simp at h; omega
      refine (hsl.ext hx5).len (int_add (by omega) ?_)
      rw [show (l.length : Int) + 1 = ((l.length + 1 : Nat) : Int) from by omega]
      refine mks_bools (by omega) fun hb6 => ?_
      have hx6 : Ext w5 (w5.alloc (.cells ((List.replicate (l.length + 1) false).map Value.bool).toArray t_bool)) := alloc_ext _ _
      obtain ⟨w6, ew6⟩ : ∃ w6, w6 = w5.alloc (.cells ((List.replicate (l.length + 1) false).map Value.bool).toArray t_bool) := ⟨_, rfl⟩
      rw [← ew6] at hb6 hx6 ⊢
      obtain ⟨nb, enb⟩ : ∃ nb, nb = w5.heap.size := ⟨_, rfl⟩
      rw [← enb] at hb6 ⊢
      have hnb : w1.heap.size ≤ nb := by rw [enb]; exact hx5.size
      have hBnb : B ≠ nb := by have := lt_of_blk hb5; omega
      have hx6 := Ext.trans hx5 hx6
      have hb56 : BoolsAt w6 B at_ := by rw [ew6]; exact (alloc_ext _ _).get hb5
      refine (hsl.ext hx6).len ?_
      refine ⟨fun g' w' => ∃ (j : Nat) (pre : List Bool) (cy : Bool), nth g' 1 = .int .i64 j ∧ j ≤ l.length ∧ pre.length = j ∧ BoolsAt w' nb (pre ++ cy :: List.replicate (l.length - j) false) ∧ pre ++ stepS s[k] (l.drop j) (at_.drop j) cy = stepS s[k] l at_ false ∧ Ext w1 w' ∧ BoolsAt w' B at_,
        fun g' _ => l.length - ixOf g' 1, ⟨0, [], false, rfl, Nat.zero_le _, rfl, by simpa [List.replicate_succ] using hb6, by simp, hx6, hb56⟩, ?_⟩
      rintro g' z' w7 ⟨j, pre, cy, hg', hj, hpl, hb7, hst, hx7, hb57⟩
      simp only [hg', vxs]
      refine cnd_split (fun h => ?_) (fun h => ?_)
      · have hjl : j < l.length := by simp at h; omega
        have el : l.drop j = l[j] :: l.drop (j + 1) := List.drop_eq_getElem_cons hjl
        have ea : at_.drop j = at_[j] :: at_.drop (j + 1) := List.drop_eq_getElem_cons (by omega)
        rw [el, ea] at hst
        simp only [stepS] at hst
        have hga : at_[j]? = some at_[j] := List.getElem?_eq_getElem (by omega)
        generalize at_[j] = a at hst hga
        have erep : List.replicate (l.length - j) false = false :: List.replicate (l.length - (j + 1)) false := by
          rw [show l.length - j = l.length - (j + 1) + 1 from by omega, List.replicate_succ]
        rw [erep] at hb7
        -- the next round
        have next : ∀ (c1 c2 : Bool) (w9 : World) (g9 : Value), Ext w1 w9 → BoolsAt w9 B at_ → BoolsAt w9 nb (pre ++ c1 :: c2 :: List.replicate (l.length - (j + 1)) false) → pre ++ c1 :: stepS s[k] (l.drop (j + 1)) (at_.drop (j + 1)) c2 = stepS s[k] l at_ false →
            bin .add (.int .i64 j) (.int .i64 1) fun t77 => (∃ (j : Nat) (pre : List Bool) (cy : Bool), t77 = .int .i64 j ∧ j ≤ l.length ∧ pre.length = j ∧ BoolsAt w9 nb (pre ++ cy :: List.replicate (l.length - j) false) ∧ pre ++ stepS s[k] (l.drop j) (at_.drop j) cy = stepS s[k] l at_ false ∧ Ext w1 w9 ∧ BoolsAt w9 B at_) ∧ l.length - ixOf [g9, t77] 1 < l.length - ixOf g' 1 := by
          intro c1 c2 w9 g9 h1 h2 h3 h4
          refine int_add (by omega) ⟨⟨j + 1, pre ++ [c1], c2, rfl, hjl, by simp [hpl], by simpa using h3, by simpa using h4, h1, h2⟩, ?_⟩
          rw [ixOf_of hg', ixOf_of (n := j + 1) rfl]; omega
        have ldA : ∀ w', Ext w7 w' → ∀ K, K (.bool a) → ld (.pointer (some ⟨B, j, none⟩)) w' K := fun w' hx' K hK => by
          simp only [vxs, BoolsAt.cin (hx'.get hb57) hga]; exact hK
        obtain ⟨ax, capx, rfl, hcx, hrx⟩ := id hsl
        obtain ⟨bl, ol, rfl, hrow⟩ := hrx (by intro e; rw [e] at hjl; simp at hjl)
        have hrj := hrow.at signE_len j hjl
        cases a with
        | false =>
          simp only [Bool.false_and, Bool.or_false] at hst
          refine drw_det [undef, undef, .pointer (some ⟨B, j, none⟩), .bool false, .bool true, undef, undef, undef, undef, undef, undef, undef, undef, undef, .bool true] ?_ ?_
          · refine ⟨?_, ?_, ?_, ?_, ?_, ?_, ?_, ?_, ?_, ?_, ?_, ?_, trivial⟩ <;> intro d w3 q hd hx3 hk <;>
              simp only [List.mem_cons, List.not_mem_nil, or_false, forall_eq_or_imp, forall_eq, vxs] at hd hk ⊢
            · exact BoolsAt.ia (K := fun x => q x w3) (by omega) (hk _ (.refl _ _))
            · rw [hd]; exact ldA w3 hx3 _ (hk _ (.refl _ _))
            · rw [hd.1]; exact hk _ (.refl _ _)
            · rw [hd.1]; exact hk _ (.refl _ _)
            · rw [hd.1]; exact hk _ (.refl _ _)
            · rw [hd.2.2.1]; exact hk _ (.refl _ _)
            · rw [hd.1]; exact hk _ (.refl _ _)
            · rw [hd.1]; exact hk _ (.refl _ _)
            · rw [hd.2.2.1]; exact hk _ (.refl _ _)
            · rw [hd.2.2.2.2.1]; exact hk _ (.refl _ _)
            · rw [hd.2.2.2.2.2.1]; exact hk _ (.refl _ _)
            · rw [hd.2.1]; exact hk _ (.refl _ _)
          · intro d w9 hd hx9
            rw [hd 14 (by simp)]
            simp only [vxs]
            exact next cy false w9 _ (Ext.trans hx7 hx9) (hx9.get hb57) (hx9.get hb7) hst
        | true =>
          simp only [Bool.true_and] at hst
          have e12 : ∀ x : Bool, (!x) = !x := fun _ => rfl
          refine drw_det [undef, undef, .pointer (some ⟨B, j, none⟩), .bool true, .bool false, undef, .slice (some ⟨bl, ol, none⟩) l.length capx, .int .i64 j, .pointer (some ⟨bl, ol + j * 259, none⟩), str s, .int .i64 k, .int .u8 s[k].toNat, .bool (takesS l[j] s[k]), .bool (!takesS l[j] s[k]), .bool (!takesS l[j] s[k])] ?_ ?_
          · refine ⟨?_, ?_, ?_, ?_, ?_, ?_, ?_, ?_, ?_, ?_, ?_, ?_, trivial⟩ <;> intro d w3 q hd hx3 hk <;>
              simp only [List.mem_cons, List.not_mem_nil, or_false, forall_eq_or_imp, forall_eq, vxs] at hd hk ⊢
            · exact BoolsAt.ia (K := fun x => q x w3) (by omega) (hk _ (.refl _ _))
            · rw [hd]; exact ldA w3 hx3 _ (hk _ (.refl _ _))
            · rw [hd.1]; exact hk _ (.refl _ _)
            · rw [hd.1]; exact hk _ (.refl _ _)
            · rw [hd.1]; exact hk _ (.refl _ _)
            · obtain ⟨h6, h7, h4, _⟩ := hd
              rw [h4, h6, h7]
              refine ⟨⟨by omega, by omega⟩, ?_⟩
              rw [addr_add, Int.toNat_natCast]; exact hk _ (.refl _ _)
            · rw [hd.1]; exact hk _ (.refl _ _)
            · rw [hd.1]; exact hk _ (.refl _ _)
            · obtain ⟨h9, h10, h4, _⟩ := hd
              rw [h4, h9, h10]
              exact ixS_at (q := .i64) (K := fun x => q x w3) hlt (hk _ (.refl _ _))
            · obtain ⟨h8, h11, _, _, h4, _⟩ := hd
              rw [h8, h11, h4]
              refine call_ok has_glob_sign_takes (takes_spec s[k] (hrj.mono (Ext.trans hx7 hx3) fun f => f)) ?_
              rintro _ w' ⟨rfl, hx'⟩
              exact hk _ hx'
            · obtain ⟨h12, _, _, _, _, h4, _⟩ := hd
              rw [h12, h4]; exact hk _ (.refl _ _)
            · obtain ⟨h13, h4, _⟩ := hd
              rw [h13, h4]; exact hk _ (.refl _ _)
          · intro d w9 hd hx9
            have h14 := hd 14 (by simp)
            simp only [vxs] at h14
            rw [h14]
            have hx9' := Ext.trans hx7 hx9
            refine cnd_split (fun ht => ?_) (fun ht => ?_)
            · have ht : takesS l[j] s[k] = false := by simpa using ht
              rw [ht] at hst
              exact next cy false w9 _ hx9' (hx9.get hb57) (hx9.get hb7) (by simpa using hst)
            · have ht : takesS l[j] s[k] = true := by simpa using ht
              rw [ht] at hst
              simp only [Bool.true_and] at hst
              refine sl_kind (hsl.ext hx9') j hjl ?_
              simp only [vxs]
              rw [show ((l[j].kind : Int) == 1) = (l[j].kind == 1) from nat_eq _ 1]
              have hb7' := hx9.get hb7
              have hb57' := hx9.get hb57
              have fin : ∀ x : Bool, looseS l[j] = x → cnd (.bool x) (ia 1 (.slice (some ⟨nb, 0, none⟩) (l.length + 1) (l.length + 1)) (.int .i64 j) fun t72 => VX.st 1 t72 (.bool true) w9 fun w_10 =>
                  bin .add (.int .i64 j) (.int .i64 1) fun t77 => (∃ (j : Nat) (pre : List Bool) (cy : Bool), t77 = .int .i64 j ∧ j ≤ l.length ∧ pre.length = j ∧ BoolsAt w_10 nb (pre ++ cy :: List.replicate (l.length - j) false) ∧ pre ++ stepS s[k] (l.drop j) (at_.drop j) cy = stepS s[k] l at_ false ∧ Ext w1 w_10 ∧ BoolsAt w_10 B at_) ∧ l.length - ixOf [.int .i64 j, t77] 1 < l.length - ixOf g' 1)
                  (bin .add (.int .i64 j) (.int .i64 1) fun t75 => ia 1 (.slice (some ⟨nb, 0, none⟩) (l.length + 1) (l.length + 1)) t75 fun t76 => VX.st 1 t76 (.bool true) w9 fun w_11 =>
                  bin .add (.int .i64 j) (.int .i64 1) fun t77 => (∃ (j : Nat) (pre : List Bool) (cy : Bool), t77 = .int .i64 j ∧ j ≤ l.length ∧ pre.length = j ∧ BoolsAt w_11 nb (pre ++ cy :: List.replicate (l.length - j) false) ∧ pre ++ stepS s[k] (l.drop j) (at_.drop j) cy = stepS s[k] l at_ false ∧ Ext w1 w_11 ∧ BoolsAt w_11 B at_) ∧ l.length - ixOf [.int .i64 j, t77] 1 < l.length - ixOf g' 1) := by
                intro x hlo
                rw [hlo] at hst
                have hlen : (pre ++ cy :: false :: List.replicate (l.length - (j + 1)) false).length = l.length + 1 := by simp [hpl]; omega
                have hBne : ∀ w', Upd (fun q => q = nb) w9 w' → BoolsAt w' B at_ := fun w' hu => hu.get hb57' hBnb
                have hext : ∀ w', Upd (fun q => q = nb) w9 w' → Ext w1 w' := fun w' hu => Upd.trans hx9' hu fun q hq e => by omega
                cases x with
                | true =>
                  simp only [vxs]
                  refine BoolsAt.ia (by omega) (BoolsAt.st hb7' (by omega) fun w10 h10 hu10 => ?_)
                  refine next true false w10 _ (hext _ hu10) (hBne _ hu10) ?_ (by simpa using hst)
                  have e : (pre ++ cy :: false :: List.replicate (l.length - (j + 1)) false).set j true = pre ++ true :: false :: List.replicate (l.length - (j + 1)) false := by
                    rw [List.set_append_right _ _ (by omega), hpl, Nat.sub_self]; rfl
                  rw [← e]; exact h10
                | false =>
                  simp only [vxs]
                  refine int_add (by omega) ?_
                  rw [show (j : Int) + 1 = ((j + 1 : Nat) : Int) from by omega]
                  refine BoolsAt.ia (by omega) (BoolsAt.st hb7' (by omega) fun w10 h10 hu10 => ?_)
                  refine next cy true w10 _ (hext _ hu10) (hBne _ hu10) ?_ (by simpa using hst)
                  have e : (pre ++ cy :: false :: List.replicate (l.length - (j + 1)) false).set (j + 1) true = pre ++ cy :: true :: List.replicate (l.length - (j + 1)) false := by
                    rw [List.set_append_right _ _ (by omega), hpl, show j + 1 - j = 1 from by omega]; rfl
                  rw [← e]; exact h10
              cases hk1 : (l[j].kind == 1) with
              | true =>
                simp only [vxs]
                refine jn_dup fun _ => ?_
                exact fin true (by simp only [looseS, hk1, Bool.true_or])
              | false =>
                simp only [vxs]
                refine jn_dup ?_
                refine sl_kind (hsl.ext hx9') j hjl ?_
                simp only [vxs]
                rw [show ((l[j].kind : Int) == 2) = (l[j].kind == 2) from nat_eq _ 2]
                intro _
                exact fin (l[j].kind == 2) (by simp only [looseS, hk1, Bool.false_or])
      · have hje : j = l.length := by simp at h; omega
        subst hje
        have hfin : pre ++ [cy] = stepS s[k] l at_ false := by
          rw [← hst, List.drop_length]
          cases at_.drop l.length <;> rfl
        have hb8 : BoolsAt w7 nb (stepS s[k] l at_ false) := by rw [← hfin]; simpa using hb7
        have hsl8 := stepS_len s[k] l at_ false (by omega)
        refine call_ok has_glob_empty (empty_spec (b := nb) (keep (by omega) hx7) hb8 hsl8 (by omega)) ?_
        rintro _ w8 ⟨hb9, hu9⟩
        refine int_add (by omega) ⟨⟨k + 1, nb, _, rfl, hlt, rfl, hnb, hb9, by rw [emptyS_len, hsl8], Upd.trans hx7 hu9 fun k hk e => by omega, ?_⟩, ?_⟩
        · rw [← hrun, List.drop_eq_getElem_cons hlt]; rfl
        · rw [ixOf_of hg, ixOf_of (n := k + 1) rfl]; omega
    · have hke : k = s.length := by simp at h; omega
      subst hke
      refine (hsl.ext hx5).len ?_
      refine BoolsAt.ia (i := l.length) (by omega) ?_
      have hd : at_[l.length]? = some (at_.getD l.length false) := by
        rw [List.getD_eq_getElem?_getD, List.getElem?_eq_getElem (by omega)]; rfl
      have := hb5.cin hd
      simp only [vxs, this]
      refine ⟨?_, Ext.trans hx1 hx5⟩
      rw [List.drop_length] at hrun
      simp only [matchS, hpat]
      rw [← hrun]; rfl

/-- May a pattern be? -/
def patE (p : Bytes) : Int := if 100 < p.length then 7 else if (patS p).isSome then 0 else 5
theorem globCheck_spec (p : Bytes) (hp : p.length ≤ 4294967296) (w : World) : CallsV Tryz.prog f_glob_Check #[str p] w fun v w' => v = .int .i64 (patE p) ∧ Ext w w' := by
  refine ok_glob_Check _ _ _ ?_
  unfold go_glob_Check
  simp only [vxs]
  refine cnd_split (fun h => ?_) (fun h => ?_)
  · have : 100 < p.length := by simp at h; omega
    exact ⟨by simp [patE, this], .refl _ _⟩
  · have hn : ¬ 100 < p.length := by simp at h; omega
    refine call_ok has_glob_signs (signs_spec p w hp) ?_
    rintro v w1 ⟨hx1, hm⟩
    cases hpat : patS p with
    | none =>
      rw [hpat] at hm
      obtain ⟨x, rfl⟩ := hm
      simp only [vxs]
      exact ⟨by simp [patE, hn, hpat], hx1⟩
    | some l =>
      rw [hpat] at hm
      obtain ⟨x, rfl, -⟩ := hm
      simp only [vxs]
      exact ⟨by simp [patE, hn, hpat], hx1⟩
end Go.Proofs.YtkpefimnggojdaaGreat.VX
