/-
  The library's contracts (the shelf's), in the words of VX.
-/
import Derived.Test.YtkpefimnggojdaaGreatSh
import Derived.Test.YtkpefimnggojdaaGreatVo
set_option linter.all false
namespace Go.Proofs.YtkpefimnggojdaaGreat.VX
open Go

theorem of_calls {P : Program} {f : FuncId} {args : Array Value} {w : World} {v : Value} {Q : World → Prop} (h : Calls P f args w fun e w' => e = .returned v ∧ Q w') : CallsV P f args w fun u w' => u = v ∧ Q w' :=
  Calls.mono h fun _ _ ⟨he, hq⟩ => ⟨v, he, rfl, hq⟩

theorem idx_mem : ∀ (l : Bytes) (c : UInt8), 0 ≤ Lib.indexByte l c ↔ c ∈ l
  | [], c => by simp [Lib.indexByte]
  | b :: l, c => by
    have ih := idx_mem l c
    have hge := Lib.indexByte_ge l c
    unfold Lib.indexByte
    by_cases h : b = c
    · subst h; simp
    · have h' : (b == c) = false := by simpa using h
      rw [if_neg (by simp [h'])]
      by_cases h2 : Lib.indexByte l c = -1
      · rw [if_pos (by simpa using h2)]
        rw [h2] at ih
        constructor
        · intro hh; omega
        · intro hh
          rcases List.mem_cons.1 hh with e | e
          · exact absurd e.symm h
          · have := ih.2 e; omega
      · rw [if_neg (by simpa using h2)]
        have : 0 ≤ Lib.indexByte l c := by omega
        constructor
        · intro _; exact List.mem_cons_of_mem _ (ih.1 this)
        · intro _; omega

theorem IndexByte_spec (s : Bytes) (c : UInt8) (w : World) : CallsV Tryz.prog f_strings_IndexByte #[str s, .int .u8 c.toNat] w fun v w' => v = .int .i64 (Lib.indexByte s c) ∧ w' = w := by
  have h := of_calls (Tryz.strings_IndexByte ⟨⟨s⟩⟩ c.toNat w)
  have e : ((c.toNat : Int).toNat).toUInt8 = c := by simp
  rw [e] at h
  exact h

theorem em_str : ∀ l : List Bytes, l.flatMap strE = l.map str
  | [] => rfl
  | x :: l => by rw [List.flatMap_cons, em_str l]; rfl
theorem ext_drewN (w : World) (q : Nat) : Ext w (w.drewN q) := drew_upd _ w _
theorem Upd.of_below {w w' : World} (h : RowKit.Below w.heap.size w w') : Ext w w' := ⟨h.os, h.tape, h.output, h.size, fun k hk _ => h.block k hk⟩
theorem Row.cell {w : World} {b off : Nat} {vs : List Value} (h : Row w b off vs) {i : Nat} {v : Value} (hi : vs[i]? = some v) : w.cell? ⟨b, off + i, none⟩ = some v := by
  have : ld (.pointer (some ⟨b, off + i, none⟩)) w (fun u => u = v) := h.ld1 hi _ rfl
  simp only [ld] at this
  split at this
  · rename_i u hu; rw [hu, this]
  · exact this.elim
theorem strs_cell {w : World} {b off : Nat} {xs : List Bytes} (h : Row w b off (xs.flatMap strE)) (j : Nat) (hj : j < xs.length) : w.cell? ⟨b, off + j, none⟩ = some (str xs[j]) := by
  refine h.cell ?_
  rw [em_str, List.getElem?_map, List.getElem?_eq_getElem hj]; rfl
theorem getD_bytes (xs : List Bytes) (j : Nat) (hj : j < xs.length) : (xs.map fun x => (⟨⟨x⟩⟩ : ByteArray)).getD j ByteArray.empty = ⟨⟨xs[j]⟩⟩ := by
  rw [List.getD_eq_getElem?_getD, List.getElem?_map, List.getElem?_eq_getElem hj]; rfl
theorem map_bytes_inj {xs ys : List Bytes} (h : (xs.map fun x => (⟨⟨x⟩⟩ : ByteArray)) = ys.map fun x => ⟨⟨x⟩⟩) : xs = ys :=
  List.map_inj_right (fun x y e => by injection e with e; injection e) |>.1 h

theorem Equal_spec {w : World} {u v : Value} {xs ys : List Bytes} (hu : Sl 1 strE w u xs) (hv : Sl 1 strE w v ys) (hx : xs.length ≤ 9223372036854775807) (hy : ys.length ≤ 9223372036854775807) :
    CallsV Tryz.prog f_slices_Equal_S_string_string #[u, v] w fun r w' => r = .bool (decide (xs = ys)) ∧ Ext w w' := by
  obtain ⟨a, c, rfl, hc, hr⟩ := hu
  obtain ⟨a', c', rfl, hc', hr'⟩ := hv
  by_cases hl : xs.length = ys.length
  · by_cases h0 : xs = []
    · subst h0
      have hy0 : ys = [] := List.length_eq_zero_iff.1 (by simpa using hl.symm)
      subst hy0
      exact (of_calls (Tryz.slices_Equal_string_empty a a' c 0 c' w (by omega))).mono fun r w' h => ⟨by simpa using h.1, by rw [h.2]; exact .refl _ _⟩
    · obtain ⟨b, o, rfl, hrow⟩ := hr h0
      obtain ⟨b', o', rfl, hrow'⟩ := hr' (fun e => h0 (by rw [e] at hl; exact List.length_eq_zero_iff.1 (by simpa using hl)))
      refine (of_calls (Tryz.slices_Equal_string b o xs.length c b' o' ys.length c' (xs.map fun x => ⟨⟨x⟩⟩) (ys.map fun x => ⟨⟨x⟩⟩) w (by simp) (by simp) hx hy
        (fun j hj => ?_) (fun j hj => ?_))).mono fun r w' h => ⟨?_, ?_⟩
      · rw [List.length_map] at hj; rw [getD_bytes xs j hj]; exact strs_cell hrow j hj
      · rw [List.length_map] at hj; rw [getD_bytes ys j hj]; exact strs_cell hrow' j hj
      · rw [h.1]
        congr 1
        have e1 : (xs.map fun x => (⟨⟨x⟩⟩ : ByteArray)).take xs.length = xs.map fun x => ⟨⟨x⟩⟩ := List.take_of_length_le (by simp)
        have e2 : (ys.map fun x => (⟨⟨x⟩⟩ : ByteArray)).take ys.length = ys.map fun x => ⟨⟨x⟩⟩ := List.take_of_length_le (by simp)
        rw [e1, e2]
        exact decide_eq_decide.2 ⟨map_bytes_inj, fun e => by rw [e]⟩
      · obtain ⟨q, rfl⟩ := h.2; exact ext_drewN w q
  · exact (of_calls (Tryz.slices_Equal_string_lens a a' xs.length c ys.length c' w hl)).mono fun r w' h => ⟨by rw [h.1]; congr 1; symm; simpa using fun e : xs = ys => hl (by rw [e]), by rw [h.2]; exact .refl _ _⟩

theorem Clone_spec {w : World} {u : Value} {xs : List Bytes} (hu : Sl 1 strE w u xs) (hx : xs.length ≤ 4294967296) :
    CallsV Tryz.prog f_slices_Clone_S_string_string #[u] w fun r w' => Own t_string 1 strE w.heap.size w' r xs ∧ Ext w w' := by
  obtain ⟨a, c, rfl, hc, hr⟩ := hu
  have fin : ∀ {w' : World} {r : Value} {n : Nat} {zs : List Value}, n = xs.length → zs = xs.flatMap strE → w'.ownsRow w.heap.size 9 1 r n zs → Own t_string 1 strE w.heap.size w' r xs := by
    rintro w' r n zs rfl rfl ⟨hl, ⟨rfl, h0⟩ | ⟨g, cap, cur, rfl, hb, hh, hn, -, hs, ht⟩⟩
    · exact .inl ⟨rfl, List.length_eq_zero_iff.1 h0⟩
    · exact .inr ⟨g, cap, cur, hb, rfl, hh, by simpa using Nat.le_of_eq hs.symm, hn, ht⟩
  have em := em_str
  cases a with
  | none =>
    have : xs = [] := by
      by_cases h0 : xs = []
      · exact h0
      · obtain ⟨b, o, e, _⟩ := hr h0; cases e
    subst this
    exact (of_calls (Tryz.slices_Clone_string_nil 0 c w)).mono fun r w' h => ⟨.inl ⟨h.1, rfl⟩, by rw [h.2]; exact .refl _ _⟩
  | some a =>
    by_cases h0 : xs = []
    · subst h0
      refine Calls.mono (Tryz.slices_Clone_string_zero a c w) ?_
      rintro e w' ⟨v', rfl, h1, -, h2⟩
      exact ⟨v', rfl, fin rfl rfl h1, .of_below h2⟩
    · obtain ⟨b, o, e, hrow⟩ := hr h0
      cases e
      refine Calls.mono (Tryz.slices_Clone_string b o xs.length c (xs.map fun x => ⟨⟨x⟩⟩) w (by simp) (by omega) (fun j hj => ?_)) ?_
      · rw [List.length_map] at hj; rw [getD_bytes xs j hj]; exact strs_cell hrow j hj
      · rintro e w' ⟨v', rfl, h1, -, h2⟩
        refine ⟨v', rfl, fin rfl ?_ h1, .of_below h2⟩
        rw [em, List.take_of_length_le (by simp), List.map_map]; rfl

/-- Texts rising, as sort.Strings leaves them. -/
def sorted (l : List Bytes) : List Bytes := l.mergeSort fun x y => decide (x ≤ y)
theorem SortStrings_spec {w : World} {v : Value} {xs : List Bytes} {base : Nat} (hv : Own t_string 1 strE base w v xs) (hx : xs.length ≤ 4294967296) :
    CallsV Tryz.prog f_sort_Strings #[v] w fun r w' => r = .tuple #[] ∧ Own t_string 1 strE base w' v (sorted xs) ∧ Upd (fun b => base ≤ b) w w' := by
  have hlen : (sorted xs).length = xs.length := List.length_mergeSort _
  rcases hv with ⟨rfl, rfl⟩ | ⟨b, cap, c, hb, rfl, hblk, hcl, hl, ht⟩
  · exact (of_calls (Tryz.sort_Strings_none none 0 w)).mono fun r w' h => ⟨h.1, .inl ⟨rfl, List.mergeSort_nil⟩, by rw [h.2]; exact .refl _ _⟩
  · have em := em_str
    rw [em, Nat.mul_one] at ht
    rw [Nat.mul_one] at hcl
    have hcell : ∀ j (hj : j < xs.length), c[j]? = some (str xs[j]) := fun j hj => by
      have := congrArg (fun l => l[j]?) ht
      simp only [List.getElem?_take, if_pos hj, List.getElem?_map, List.getElem?_eq_getElem hj, Option.map_some] at this
      rw [← Array.getElem?_toList]; exact this
    refine Calls.mono (Tryz.sort_Strings b 0 cap xs w (fun j hj => ?_) (lt_of_blk hblk) (by omega)) ?_
    · have hj' : j < xs.length := by simpa using hj
      refine ⟨?_, by simp [World.frozen?, hblk]⟩
      rw [cell_in, hblk, Nat.zero_add]
      show c[j]? = _
      rw [hcell j hj', getElem!_pos _ j hj]
      simp
    · rintro e w' ⟨rfl, n, os, rfl⟩
      refine ⟨_, rfl, rfl, ?_, ?_⟩
      · refine .inr ⟨b, cap, Sort.putCells encStr 0 (sorted xs).toArray c, hb, by rw [hlen], ?_, ?_, by rw [hlen]; exact hl, ?_⟩
        · have hlt := lt_of_blk hblk
          have hg : w.heap[b] = Obj.cells c t_string (0, 0) := by
            rw [Array.getElem?_eq_getElem hlt] at hblk; exact Option.some.inj hblk
          simp [Sort.grow, Sort.putRow, Sort.mapBlock, Sort.ahead, sorted, hlt, Array.getElem?_append, Array.getElem_modify, hg, Sort.onCells]
        · simpa [Sort.putCells] using hcl
        · rw [em, Nat.mul_one, hlen]
          apply List.ext_getElem?
          intro k
          rw [List.getElem?_take]
          by_cases hk : k < xs.length
          · rw [if_pos hk, Array.getElem?_toList]
            have hkc : k < c.size := by simp at hcl; omega
            have hks : k < (sorted xs).length := by omega
            simp only [Sort.putCells, Array.getElem?_mapIdx, Array.getElem?_eq_getElem hkc, Option.map_some]
            rw [if_pos ⟨Nat.zero_le _, by simp [hlen, hk]⟩, List.getElem?_map, List.getElem?_eq_getElem hks]
            simp [hks]
          · rw [if_neg hk, List.getElem?_eq_none (by rw [List.length_map]; omega)]
      · refine ⟨rfl, rfl, rfl, ?_, fun k hk hn => ?_⟩
        · simp [Sort.grow, Sort.putRow, Sort.mapBlock, Sort.ahead]
        · have hkb : k ≠ b := fun e => hn (by omega)
          simp [Sort.grow, Sort.putRow, Sort.mapBlock, Sort.ahead, Array.getElem?_append, hk, Array.getElem_modify, Ne.symm hkb]
end Go.Proofs.YtkpefimnggojdaaGreat.VX
