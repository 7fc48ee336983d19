/-
  Contracts: texts and paths.
-/
import Derived.Test.YtkpefimnggojdaaGreatVs
import Derived.Test.YtkpefimnggojdaaGreatVp0
set_option linter.all false
namespace Go.Proofs.YtkpefimnggojdaaGreat.VX
open Go Pl

theorem isNaN_spec (s : Bytes) (w : World) : CallsV Tryz.prog f_cmp_isNaN_string #[str s] w fun v w' => v = .bool false ∧ w' = w := by
  refine ok_cmp_isNaN_string _ _ _ ?_
  unfold go_cmp_isNaN_string
  simp [vxs]

/-- The order of texts: -1, 0, 1. -/
def cmpB (a b : Bytes) : Int := if Op.bytesLess a b then -1 else if a = b then 0 else 1

theorem cmp_spec (a b : Bytes) (w : World) : CallsV Tryz.prog f_cmp_Compare_string #[str a, str b] w fun v w' => v = .int .i64 (cmpB a b) ∧ w' = w := by
  refine ok_cmp_Compare_string _ _ _ _ ?_
  unfold go_cmp_Compare_string
  refine call_ok has_cmp_isNaN_string (isNaN_spec a w) ?_
  rintro _ _ ⟨rfl, rfl⟩
  refine call_ok has_cmp_isNaN_string (isNaN_spec b _) ?_
  rintro _ w ⟨rfl, rfl⟩
  simp only [vxs]
  unfold cmpB
  refine cnd_split (fun h => ?_) (fun h => ?_)
  · simp [h]
  · refine cnd_split (fun h' => ?_) (fun h' => ?_)
    · simp [h] at h' ⊢; exact h'
    · simp [h] at h' ⊢; exact h'

/-- The iterator's place. -/
def itPos (w : World) (r : Nat) : Nat := match w.heap[r]? with | some (.stringIter _ p) => p | _ => 0

theorem itPos_of {w : World} {r p : Nat} {s : ByteArray} (h : w.heap[r]? = some (.stringIter s p)) : itPos w r = p := by unfold itPos; rw [h]

theorem Split_spec (s : Bytes) (hs : s.length ≤ 4294967290) (w : World) : CallsV Tryz.prog f_path_Split #[str s] w fun v w' => Own t_string 1 strE w.heap.size w' v (split s) ∧ Ext w w' := by
  refine ok_path_Split _ _ _ ?_
  unfold go_path_Split
  simp only [vxs]
  refine cnd_split (fun h => ?_) (fun h => ?_)
  · have : s = [] := by simpa using h
    subst this
    exact ⟨.inl ⟨rfl, rfl⟩, .refl _ _⟩
  · have hne : s ≠ [] := by simpa using h
    simp only [rgS]
    refine ⟨fun g w' => ∃ (pos frm : Nat) (out : List Bytes), w'.heap[w.heap.size]? = some (.stringIter ⟨⟨s⟩⟩ pos) ∧ pos ≤ s.length ∧ frm ≤ pos ∧ nth g 3 = .int .i64 frm ∧
        Own t_string 1 strE (w.heap.size + 1) w' (nth g 2) out ∧ out ++ spl (s.drop frm) = split s ∧ (∀ j x, frm ≤ j → j < pos → s[j]? = some x → x ≠ 47) ∧ Ext w w',
      fun g w' => s.length - itPos w' w.heap.size, ?_, ?_⟩
    · refine ⟨0, 0, [], alloc_new _ _, Nat.zero_le _, Nat.le_refl _, rfl, .inl ⟨rfl, rfl⟩, by simp [split, hne], fun j x _ h => by omega, alloc_ext _ _⟩
    · rintro g z w2 ⟨pos, frm, out, hit, hpos, hfrm, hg3, hown, hout, hns, hx⟩
      have hol : out.length ≤ s.length + 1 := by
        have := split_len s
        rw [← hout] at this; simp at this; omega
      simp only [nxS, hit]
      by_cases hlt : pos < s.length
      · obtain ⟨d1, d2, d3, d4, d5⟩ := decode_slash s pos hlt
        rw [if_pos hlt]
        simp only [vxs]
        generalize hd : (Utf8.decode ⟨⟨s⟩⟩ pos) = d at *
        obtain ⟨c, wd⟩ := d
        simp only at d1 d2 d3 d4 d5
        have hsz := lt_of_blk hit
        have hu2 : Ext w (setB w2 w.heap.size (.stringIter ⟨⟨s⟩⟩ (pos + wd))) := Upd.trans hx (setB_upd _ _ _) fun _ hk e => by omega
        have hown2 : Own t_string 1 strE (w.heap.size + 1) (setB w2 w.heap.size (.stringIter ⟨⟨s⟩⟩ (pos + wd))) (nth g 2) out := hown.mono (setB_upd _ _ _) (fun b hb e => by omega) (Nat.le_refl _)
        have hg0 : s.drop pos = s[pos] :: s.drop (pos + 1) := List.drop_eq_getElem_cons hlt
        by_cases h47 : s[pos] = 47
        · have hc : (c : Int) == 47 := by have := d3.2 h47; simp; omega
          have hw := d4 h47
          subst hw
          simp only [hc, vxs]
          refine str_cut (l := frm) (h := pos) (by rw [hg3]; rfl) rfl ⟨by omega, by omega, by omega⟩ ?_
          refine app_str hown2 (by rw [setB_size]; omega) (by omega) fun v' w' h1 h2 => ?_
          refine int_add (by omega) ?_
          have hu3 := Upd.trans hu2 h2 fun b hb h => by omega
          refine ⟨⟨pos + 1, pos + 1, out ++ [(s.drop frm).take (pos - frm)], ?_, by omega, Nat.le_refl _, rfl, ?_, ?_, fun j x h1 h2 => by omega, hu3⟩, ?_⟩
          · exact h2.get (setB_new hit) (fun h => by omega)
          · simpa [nth] using h1
          · rw [← hout]
            have e1 : s.drop frm = (s.drop frm).take (pos - frm) ++ 47 :: s.drop (pos + 1) := by
              have := List.take_append_drop (pos - frm) (s.drop frm)
              rw [List.drop_drop, show frm + (pos - frm) = pos from by omega, hg0, h47] at this
              exact this.symm
            have hpl : ∀ x ∈ (s.drop frm).take (pos - frm), x ≠ 47 := by
              intro x hx'
              obtain ⟨k, hk⟩ := List.mem_iff_getElem?.1 hx'
              rw [List.getElem?_take] at hk
              split at hk
              · rw [List.getElem?_drop] at hk; exact hns _ x (by omega) (by omega) hk
              · cases hk
            have e2 : spl (s.drop frm) = (s.drop frm).take (pos - frm) :: spl (s.drop (pos + 1)) := by
              conv => lhs; rw [e1]
              exact spl_cut _ _ hpl
            rw [e2]; simp
          · rw [itPos_of hit, itPos_of (h2.get (setB_new hit) (fun h => by omega))]; omega
        · have hc : ((c : Int) == 47) = false := by
            have hne : c ≠ 47 := fun h => h47 (d3.1 h)
            simp; omega
          simp only [hc, vxs]
          refine ⟨⟨pos + wd, frm, out, setB_new hit, d2, by omega, hg3, hown2, hout, fun j x h1 h2 hx => ?_, hu2⟩, ?_⟩
          · by_cases hj : j < pos
            · exact hns j x h1 hj hx
            · by_cases hj' : j = pos
              · subst hj'
                rw [List.getElem?_eq_getElem hlt] at hx
                cases hx; exact h47
              · exact d5 j x (by omega) h2 hx
          · rw [itPos_of hit, itPos_of (setB_new hit)]; omega
      · rw [if_neg hlt]
        simp only [vxs]
        have hpe : pos = s.length := by omega
        subst hpe
        refine str_cut (l := frm) (h := s.length) (by rw [hg3]; rfl) rfl ⟨by omega, by omega, by omega⟩ ?_
        have hsz := lt_of_blk hit
        refine app_str hown (by omega) (by omega) fun v' w' h1 h2 => ⟨?_, Upd.trans hx h2 fun b hb h => by omega⟩
        have e1 : ((s.drop (frm : Int).toNat).take ((s.length : Int).toNat - (frm : Int).toNat)) = s.drop frm := by
          rw [Int.toNat_natCast, Int.toNat_natCast]; exact List.take_of_length_le (by simp)
        rw [e1] at h1
        have e2 : spl (s.drop frm) = [s.drop frm] := spl_plain _ fun x hx' => by
          obtain ⟨k, hk⟩ := List.mem_iff_getElem?.1 hx'
          rw [List.getElem?_drop] at hk
          have : frm + k < s.length := by
            by_cases hl : frm + k < s.length
            · exact hl
            · rw [List.getElem?_eq_none (by omega)] at hk; cases hk
          exact hns _ x (by omega) this hk
        rw [← hout, e2]
        exact h1.mono (.refl (fun _ => False) _) (fun _ _ h => h) (by omega)

def ixOf (g : List Value) (k : Nat) : Nat := match nth g k with | .int _ n => n.toNat | _ => 0
theorem ixOf_of {g : List Value} {k : Nat} {q : IntKind} {n : Nat} (h : nth g k = .int q n) : ixOf g k = n := by unfold ixOf; rw [h]; simp

theorem part_spec (s : Bytes) (w : World) : CallsV Tryz.prog f_path_part #[str s] w fun v w' => v = .bool (partB s) ∧ w' = w := by
  refine ok_path_part _ _ _ ?_
  unfold go_path_part
  simp only [vxs]
  have no : ∀ b : Bool, b = false → partB s = false → (Value.bool b = .bool (partB s) ∧ w = w) := fun b h h' => ⟨by rw [h, h'], rfl⟩
  refine gd_and (fun h1 => ?_) (fun h1 => gd_and (fun h => nomatch h) fun _ => gd_and (fun h => nomatch h) fun _ => gd_and (fun h => nomatch h) fun _ => no _ rfl (by rw [show s = [] from by simpa using h1]; rfl))
  simp only [vxs]
  refine gd_and (fun h2 => ?_) (fun h2 => gd_and (fun h => nomatch h) fun _ => gd_and (fun h => nomatch h) fun _ => no _ rfl (by simp [partB]; intro _ h; simp at h2; omega))
  simp only [vxs]
  refine gd_and (fun h3 => ?_) (fun h3 => gd_and (fun h => nomatch h) fun _ => no _ rfl (by simp [partB]; intro _ _ h; simp at h3; exact absurd h3 h))
  simp only [vxs]
  refine gd_and (fun h4 => ?_) (fun h4 => no _ rfl (by simp [partB]; intro _ _ _ h; simp at h4; exact absurd h4 h))
  refine call_ok has_strings_IndexByte (IndexByte_spec s 0 w) ?_
  rintro _ _ ⟨rfl, rfl⟩
  simp only [vxs]
  refine ⟨?_, trivial⟩
  congr 1
  have h1' : s ≠ [] := by simpa using h1
  have h2' : s.length ≤ 48 := by simp at h2; omega
  have h3' : s ≠ [46] := by simpa using h3
  have h4' : s ≠ [46, 46] := by simpa using h4
  have hm := idx_mem s 0
  by_cases h0 : (0 : UInt8) ∈ s
  · have := hm.2 h0
    simp [partB, h0]; exact this
  · have : Lib.indexByte s 0 < 0 := by
      have : ¬ 0 ≤ Lib.indexByte s 0 := fun hh => h0 (hm.1 hh)
      omega
    simp [partB, h0, h1', h2', h3', h4', this]

/-- The last place of a byte, or -1. -/
def LastIx (s : Bytes) (c : UInt8) (i : Int) : Prop := (i = -1 ∧ c ∉ s) ∨ ∃ a b, s = a ++ c :: b ∧ c ∉ b ∧ i = a.length

theorem LastIndexByteString_spec (s : Bytes) (c : UInt8) (hs : s.length ≤ 4294967296) (w : World) : CallsV Tryz.prog f_internal_bytealg_LastIndexByteString #[str s, .int .u8 c.toNat] w fun v w' => (∃ i, v = .int .i64 i ∧ LastIx s c i) ∧ w' = w := by
  refine ok_internal_bytealg_LastIndexByteString _ _ _ _ ?_
  unfold go_internal_bytealg_LastIndexByteString
  simp only [vxs]
  refine int_sub (by omega) ?_
  refine ⟨fun g w' => ∃ k : Nat, k ≤ s.length ∧ nth g 1 = .int .i64 ((k : Int) - 1) ∧ c ∉ s.drop k ∧ w' = w, fun g _ => match nth g 1 with | .int _ n => (n + 1).toNat | _ => 0, ⟨s.length, Nat.le_refl _, rfl, by simp, rfl⟩, ?_⟩
  rintro g z _ ⟨k, hk, hg, hn, rfl⟩
  simp only [hg, vxs]
  refine cnd_split (fun h => ?_) (fun h => ?_)
  · have hk1 : 0 < k := by simp at h; omega
    obtain ⟨j, rfl⟩ : ∃ j, k = j + 1 := ⟨k - 1, by omega⟩
    have e : ((j + 1 : Nat) : Int) - 1 = j := by omega
    rw [e]
    simp only [vxs, Int.toNat_natCast]
    refine ⟨⟨by omega, by omega⟩, ?_⟩
    have hj : j < s.length := by omega
    have ed : s.drop j = s[j] :: s.drop (j + 1) := List.drop_eq_getElem_cons hj
    refine cnd_split (fun h => ?_) (fun h => ?_)
    · have hc : s[j] = c := by
        rw [List.getD_eq_getElem?_getD, List.getElem?_eq_getElem hj] at h
        have : (s[j].toNat : Int) = c.toNat := by simpa using h
        exact UInt8.toNat_inj.1 (by omega)
      refine ⟨⟨_, rfl, .inr ⟨s.take j, s.drop (j + 1), ?_, hn, by simp; omega⟩⟩, trivial⟩
      rw [← hc, ← ed, List.take_append_drop]
    · have hc : s[j] ≠ c := by
        intro hc
        rw [List.getD_eq_getElem?_getD, List.getElem?_eq_getElem hj] at h
        simp [hc] at h
      refine int_sub (by omega) ⟨⟨j, by omega, rfl, ?_, trivial⟩, ?_⟩
      · rw [ed]; intro hm; rcases List.mem_cons.1 hm with e | e
        · exact hc e.symm
        · exact hn e
      · simp [nth, hg]
  · have : k = 0 := by simp at h; omega
    subst this
    exact ⟨⟨_, rfl, .inl ⟨rfl, by simpa using hn⟩⟩, trivial⟩

theorem LastIndexByte_spec (s : Bytes) (c : UInt8) (hs : s.length ≤ 4294967296) (w : World) : CallsV Tryz.prog f_strings_LastIndexByte #[str s, .int .u8 c.toNat] w fun v w' => (∃ i, v = .int .i64 i ∧ LastIx s c i) ∧ w' = w := by
  refine ok_strings_LastIndexByte _ _ _ _ ?_
  unfold go_strings_LastIndexByte
  exact call_ok has_internal_bytealg_LastIndexByteString (LastIndexByteString_spec s c hs w) fun _ _ h => h

theorem Parent_spec (s : Bytes) (hs : s.length ≤ 4294967296) (w : World) : CallsV Tryz.prog f_path_Parent #[str s] w fun v w' => v = str (parentP s) ∧ w' = w := by
  refine ok_path_Parent _ _ _ ?_
  unfold go_path_Parent
  refine call_ok has_strings_LastIndexByte (LastIndexByte_spec s 47 hs w) ?_
  rintro _ _ ⟨⟨i, rfl, hi⟩, rfl⟩
  simp only [vxs]
  rcases hi with ⟨rfl, hn⟩ | ⟨a, b, rfl, hn, rfl⟩
  · refine str_cut rfl (h := 0) rfl ⟨by omega, by omega, by omega⟩ ?_
    simp [parentP_plain hn]
  · refine str_cut rfl (h := a.length) (by simp [bndI]) ⟨by omega, by omega, by simp; omega⟩ ?_
    simp [parentP_cut hn]

theorem Base_spec (s : Bytes) (hs : s.length ≤ 4294967296) (w : World) : CallsV Tryz.prog f_path_Base #[str s] w fun v w' => v = str (baseP s) ∧ w' = w := by
  refine ok_path_Base _ _ _ ?_
  unfold go_path_Base
  refine call_ok has_strings_LastIndexByte (LastIndexByte_spec s 47 hs w) ?_
  rintro _ _ ⟨⟨i, rfl, hi⟩, rfl⟩
  rcases hi with ⟨rfl, hn⟩ | ⟨a, b, rfl, hn, rfl⟩
  · refine int_add (by omega) (str_cut rfl rfl ⟨by omega, by omega, by omega⟩ ?_)
    simp [baseP_plain hn]
  · refine int_add (by simp at hs; omega) (str_cut rfl rfl ⟨by omega, by simp; omega, by omega⟩ ?_)
    have e : ((a.length : Int) + 1).toNat = a.length + 1 := by omega
    have e2 : (((a ++ 47 :: b).length : Int)).toNat = a.length + 1 + b.length := by simp; omega
    rw [e, e2]
    refine ⟨?_, rfl⟩
    have e3 : (a ++ 47 :: b).drop (a.length + 1) = b := by
      rw [show a ++ 47 :: b = (a ++ [47]) ++ b from by simp, show a.length + 1 = (a ++ [47]).length from by simp, List.drop_left]
    rw [e3, baseP_cut hn, List.take_of_length_le (by omega)]

theorem Right_spec (p : Bytes) (hp : p.length ≤ 4294967290) (w : World) : CallsV Tryz.prog f_path_Right #[str p] w fun v w' => v = .bool (rightB p) ∧ Ext w w' := by
  refine ok_path_Right _ _ _ ?_
  unfold go_path_Right
  refine call_ok has_path_Split (Split_spec p hp w) ?_
  rintro t7 w1 ⟨hown, hx⟩
  have hsl := Sl.of_own strE_len hown
  have hlen := split_len p
  refine hsl.len ?_
  refine ⟨fun g w' => ∃ k : Nat, k ≤ (split p).length ∧ nth g 2 = .int .i64 k ∧ ((split p).take k).all partB = true ∧ w' = w1, fun g _ => (split p).length - ixOf g 2, ⟨0, Nat.zero_le _, rfl, rfl, rfl⟩, ?_⟩
  rintro g z _ ⟨k, hk, hg, hall, rfl⟩
  simp only [hg, vxs]
  refine cnd_split (fun h => ?_) (fun h => ?_)
  · have hlt : k < (split p).length := by simp at h; omega
    refine hsl.ia strE_len k hlt fun b off hr => ?_
    refine hr.ld1 (i := 0) rfl _ ?_
    refine call_ok has_path_part (part_spec _ _) ?_
    rintro _ _ ⟨rfl, rfl⟩
    simp only [vxs]
    refine cnd_split (fun hp => ?_) (fun hp => ?_)
    · refine ⟨?_, hx⟩
      have : (split p).all partB = false := by
        rw [List.all_eq_false]
        exact ⟨_, List.getElem_mem hlt, by simpa using hp⟩
      simp [rightB, this]
    · refine int_add (by omega) ⟨⟨k + 1, hlt, rfl, ?_, trivial⟩, ?_⟩
      · rw [List.take_succ_eq_append_getElem hlt, List.all_append, hall]
        simp at hp; simp [hp]
      · rw [ixOf_of hg, ixOf_of (n := k + 1) rfl]; omega
  · have hke : k = (split p).length := by simp at h; omega
    subst hke
    rw [List.take_length] at hall
    refine hsl.len ?_
    simp only [vxs]
    refine jn_dup ?_
    by_cases h12 : (split p).length ≤ 12
    · have e : decide (((split p).length : Int) ≤ 12) = true := by simpa using by omega
      simp only [e, vxs]
      intro _
      refine ⟨?_, hx⟩
      simp [rightB, hall, h12]; omega
    · have e : decide (((split p).length : Int) ≤ 12) = false := by simpa using by omega
      simp only [e, vxs]
      intro _
      refine ⟨?_, hx⟩
      simp [rightB, h12]

end Go.Proofs.YtkpefimnggojdaaGreat.VX
