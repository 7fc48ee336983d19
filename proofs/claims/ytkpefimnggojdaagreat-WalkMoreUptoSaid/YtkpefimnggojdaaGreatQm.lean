/-
  Contracts: the chapter's small case (awake).
-/
import Derived.Test.YtkpefimnggojdaaGreatQl
import Derived.Test.YtkpefimnggojdaaGreatLz
import Derived.Lib.SlBytesConst
set_option linter.all false
namespace Go.Proofs.YtkpefimnggojdaaGreat.VX
open Go Pl
set_option maxRecDepth 8000

def m0 : Meta := ⟨0, 0, 0, 0, 0⟩
def aw1 : Deed := ⟨0, [100], [], [], ⟨493, 0, 0, 0, 0⟩⟩
def aw2 : Deed := ⟨1, [100, 47, 97], [], [97, 98, 99], m0⟩
def aw3 : Deed := ⟨3, [100, 47, 97], [100, 47, 98], [], m0⟩
def aw4 : Deed := ⟨2, [108], [100], [], m0⟩
def awL : List Ent := [⟨[100], 2, 2, ⟨493, 0, 0, 0, 0⟩, [], [], 0⟩, ⟨[100, 47, 97], 1, 3, m0, [], [], 1⟩, ⟨[100, 47, 98], 1, 3, m0, [], [], 1⟩, ⟨[108], 3, 1, m0, [100], [], 0⟩]
theorem aw_walk : walkT (buildT [aw1, aw2, aw3, aw4]) [] = awL := by decide +kernel
theorem aw_tot : totE (totT awL) = [.int .i64 2, .int .i64 1, .int .i64 1, .int .i64 3] := by rfl

theorem bytes_const {w : World} {n : Nat} {bs : Bytes} {K : Value → World → Prop} (hK : ∀ w', (∃ f, w'.heap[w.heap.size]? = some (.cells (bs.flatMap u8E).toArray t_uint8 f)) → Ext w w' → K (.slice (some ⟨w.heap.size, 0, none⟩) n n) w') :
    rn Tryz.prog (convert t_S_uint8 t_S_uint8 (.slice (some ⟨w.heap.size, 0, none⟩) n n)) (w.alloc (.cells (bs.flatMap u8E).toArray t_uint8)) K := by
  have := Lib.run_convert_bytes_const (P := Tryz.prog) w t_S_uint8 t_uint8 (bs.flatMap u8E).toArray n n (by kernel_rfl) (by kernel_rfl)
  exact rn_ok this (hK _ ⟨_, alloc_new _ _⟩ (alloc_ext _ _))

/-- A tree of the call's own. -/
structure Mine (base : Nat) (w : World) (t : Nat) (T : PT) (F : Nat → Prop) : Prop where
  at_ : TreeAt w t T F
  new : ∀ b, F b → base ≤ b
theorem Mine.made {base : Nat} {w0 w w' : World} {t : Nat} {T T' : PT} {F : Nat → Prop} (h : Mine base w t T F) (hb : w0.heap.size = base) (hx : Ext w0 w) (hm : Made w w' t F T') : Ext w0 w' ∧ ∃ F', Mine base w' t T' F' := by
  obtain ⟨F', h1, h2, h3⟩ := hm
  have s := hx.size
  refine ⟨Upd.trans hx h2 fun b hb' hf => by have := h.new b hf; omega, F', h1, fun b hb' => ?_⟩
  rcases h3 b hb' with h4 | h4
  · exact h.new b h4
  · omega
theorem Mine.ext {base : Nat} {w w' : World} {t : Nat} {T : PT} {F : Nat → Prop} (h : Mine base w t T F) (hx : Ext w w') : Mine base w' t T F := ⟨h.at_.ext hx, h.new⟩

theorem build_snoc (l : List Deed) (a : Deed) : (doT (buildT l) a).1 = buildT (l ++ [a]) := by
  unfold buildT; rw [List.foldl_append]; rfl

theorem hR0lt {w : World} {t : Nat} {T : PT} {F : Nat → Prop} (h : TreeAt w t T F) : ∀ b, F b → b < w.heap.size := h.lt
theorem new_mt (nb mb : Nat) : Mt (newS nb mb) newT := by
  refine ⟨fun q => ?_, fun q b hb => ?_, fun p q b c hb hc _ => ?_, rfl, fun q b hb => ?_⟩
  · show look1 [([], 1)] q = _
    simp only [look1, newS]
    by_cases e : q = []
    · subst e; rfl
    · rw [if_neg (fun h => e h.symm), if_neg e]; rfl
  · rfl
  · have hb : (if p = [] then some nb else none) = some b := hb
    have hc : (if q = [] then some nb else none) = some c := hc
    split at hb
    · split at hc
      · injection hb with hb; injection hc with hc; rw [← hb, ← hc]
      · cases hc
    · cases hb
  · rfl
theorem awake_spec (w : World) : CallsV Tryz.prog f_remoralaw19_awake #[] w fun v w' => v = .bool true ∧ Ext w w' := by
  refine ok_remoralaw19_awake _ _ ?_
  unfold go_remoralaw19_awake
  refine call_ok has_tree_New (New_spec w) ?_
  rintro _ w1 ⟨⟨t, nb, mb, F, rfl, hR, hF⟩, hx1⟩
  have hm0 : Mt (newS nb mb) newT := new_mt nb mb
  have h1 : Mine w.heap.size w1 t (buildT []) F := ⟨⟨_, hR, hm0⟩, hF⟩
  simp only [vxs, Option.isNone_some]
  have b1 : ∀ K : Value → Prop, K (.agg (metaE ⟨493, 0, 0, 0, 0⟩).toArray) → bld [(.int .i64 0), (.int .i64 0), (.int .i64 0), (.int .i64 0), (.int .i64 0)] [(0, 1, (.int .i64 493))] K := fun K h => h
  have b0 : ∀ K : Value → Prop, K (.agg (metaE m0).toArray) → bld [(.int .i64 0), (.int .i64 0), (.int .i64 0), (.int .i64 0), (.int .i64 0)] [] K := fun K h => h
  refine b1 _ ?_
  obtain ⟨S, hR, hm⟩ := h1.at_
  refine call_ok has_tree_Tree_Mkdir (Mkdir_T (wf_build []) hm (by simp) hR [100] (by simp) ⟨493, 0, 0, 0, 0⟩) ?_
  rintro _ w2 ⟨-, hM⟩
  obtain ⟨hx2, F2, h2⟩ := h1.made rfl hx1 hM
  have h2 : Mine w.heap.size w2 t (buildT [aw1]) F2 := h2
  have bs3 : ∀ K : Value → World → Prop, K (.slice (some ⟨w2.heap.size, 0, none⟩) 3 3) (w2.alloc (.cells (([97, 98, 99] : Bytes).flatMap u8E).toArray t_uint8)) → bsl t_uint8 3 [(.int .u8 0), (.int .u8 0), (.int .u8 0)] [(0, 1, (.int .u8 97)), (1, 1, (.int .u8 98)), (2, 1, (.int .u8 99))] w2 K := fun K h => h
  refine bs3 _ ?_
  refine bytes_const fun w3 h3 hx3 => ?_
  obtain ⟨f3, h3⟩ := h3
  refine b0 _ ?_
  have h23 := h2.ext hx3
  obtain ⟨S, hR, hm⟩ := h23.at_
  have hx03 := Ext.trans hx2 hx3
  have hbs : Sl 1 u8E w3 (.slice (some ⟨w2.heap.size, 0, none⟩) 3 3) [97, 98, 99] := ⟨_, _, rfl, by simp, fun _ => ⟨_, _, rfl, _, _, _, h3, by simp [u8E], by simp [u8E]⟩⟩
  have hFlt := hR0lt h2.at_
  refine call_ok has_tree_Tree_Write (Write_T (wf_build [aw1]) hm (by simp) hR [100, 47, 97] (by simp) _ [97, 98, 99] (fun w' hu => ?_) m0) ?_
  · obtain ⟨a, cap, e, hc, hr⟩ := hbs
    refine ⟨a, cap, e, hc, fun hne => ?_⟩
    obtain ⟨b, off, e2, hrow⟩ := hr hne
    injection e with e3
    rw [e2] at e3; injection e3 with e3; injection e3 with e3
    refine ⟨b, off, e2, hrow.mono hu fun hf => ?_⟩
    have := hFlt b hf
    omega
  rintro _ w4 ⟨-, hM⟩
  obtain ⟨hx4, F4, h4⟩ := h23.made rfl hx03 hM
  have h4 : Mine w.heap.size w4 t (buildT [aw1, aw2]) F4 := h4
  obtain ⟨S, hR, hm⟩ := h4.at_
  refine call_ok has_tree_Tree_Link (Link_T (wf_build [aw1, aw2]) hm (by simp) hR [100, 47, 97] [100, 47, 98] (by simp) (by simp)) ?_
  rintro _ w5 ⟨-, hM⟩
  obtain ⟨hx5, F5, h5⟩ := h4.made rfl hx4 hM
  have h5 : Mine w.heap.size w5 t (buildT [aw1, aw2, aw3]) F5 := h5
  refine b0 _ ?_
  obtain ⟨S, hR, hm⟩ := h5.at_
  refine call_ok has_tree_Tree_Symlink (Symlink_T (wf_build [aw1, aw2, aw3]) hm (by simp) hR [108] [100] (by simp) m0) ?_
  rintro _ w6 ⟨-, hM⟩
  obtain ⟨hx6, F6, h6⟩ := h5.made rfl hx5 hM
  have h6 : Mine w.heap.size w6 t (buildT [aw1, aw2, aw3, aw4]) F6 := h6
  obtain ⟨S, hR, hm⟩ := h6.at_
  refine call_ok has_walk_List (WList_spec (wf_build [aw1, aw2, aw3, aw4]) hm (by simp) hR (Sl.nil 4 ruleE w6 none 0) rfl (by simp) (by simp)) ?_
  rintro v w7 ⟨ho, hx7⟩
  rw [aw_walk] at ho
  have hx := Ext.trans hx6 hx7
  obtain ⟨b, cap, ev, hrow⟩ : ∃ b cap, v = .slice (some ⟨b, 0, none⟩) 4 cap ∧ Row w7 b 0 (awL.flatMap entE) := by
    have hsl := Sl.of_own entE_len ho
    rcases ho with ⟨-, e⟩ | ⟨b, cap, c, q1, q2, q3, q4, q5, q6⟩
    · cases e
    · refine ⟨b, cap, q2, ?_⟩
      obtain ⟨a, cap', e, -, hr⟩ := hsl
      obtain ⟨b', off, e2, hr⟩ := hr (by decide)
      rw [q2] at e; injection e with e; rw [← e] at e2; injection e2 with e2; injection e2 with e3 e4
      rw [← e3, ← e4] at hr; exact hr
  have c : ∀ k (hk : k < 4) i u, (entE (awL[k]'(by simpa [awL] using hk)))[i]? = some u → cellIn w7.heap[b]? (k * 11 + i) = some u := fun k hk i u hu => by
    have := (hrow.at entE_len k (by simpa [awL] using hk)).pick i hu
    rw [Nat.zero_add] at this; exact this
  have ia4 : ∀ (k : Nat) (n : Int) (K : Value → Prop), n = k → k < 4 → K (.pointer (some ⟨b, k * 11, none⟩)) → ia 11 v (.int .i64 n) K := fun k n K hn hk hK => by
    rw [ev, hn]
    refine ⟨⟨by omega, by omega⟩, ?_⟩
    rw [addr_add, Int.toNat_natCast, Nat.zero_add]; exact hK
  have hsl := Sl.of_own entE_len ho
  refine hsl.len ?_
  have e4 : (awL.length : Int) = 4 := rfl
  rw [e4]
  simp only [vxs]
  have t1 : ((4 : Int) == 4) = true := rfl
  rw [t1]
  refine gd_and (fun _ => ?_) (fun h => by cases h)
  refine ia4 0 0 _ rfl (by omega) ?_
  simp only [vxs, c 0 (by omega) 0 (str [100]) rfl]
  have t2 : (([100] : Bytes) == [100]) = true := rfl
  rw [t2]
  refine gd_and (fun _ => ?_) (fun h => by cases h)
  refine ia4 0 0 _ rfl (by omega) ?_
  simp only [vxs, c 0 (by omega) 2 (.int .i64 2) rfl]
  have t3 : ((2 : Int) == 2) = true := rfl
  rw [t3]
  refine gd_and (fun _ => ?_) (fun h => by cases h)
  refine ia4 2 2 _ rfl (by omega) ?_
  simp only [vxs, c 2 (by omega) 0 (str [100, 47, 98]) rfl]
  have t4 : (([100, 47, 98] : Bytes) == [100, 47, 98]) = true := rfl
  rw [t4]
  refine gd_and (fun _ => ?_) (fun h => by cases h)
  refine ia4 2 2 _ rfl (by omega) ?_
  simp only [vxs, c 2 (by omega) 10 (.int .i64 1) rfl]
  have t5 : ((1 : Int) == 1) = true := rfl
  rw [t5]
  refine gd_and (fun _ => ?_) (fun h => by cases h)
  refine ia4 3 3 _ rfl (by omega) ?_
  simp only [vxs, c 3 (by omega) 8 (str [100]) rfl]
  rw [t2]
  refine gd_and (fun _ => ?_) (fun h => by cases h)
  refine call_ok has_walk_Total (Total_spec hsl (by decide) (by decide)) ?_
  rintro _ w8 ⟨rfl, hx8⟩
  rw [aw_tot]
  have b4 : ∀ K : Value → Prop, K (.agg #[.int .i64 2, .int .i64 1, .int .i64 1, .int .i64 3]) → bld [(.int .i64 0), (.int .i64 0), (.int .i64 0), (.int .i64 0)] [(0, 1, (.int .i64 2)), (1, 1, (.int .i64 1)), (2, 1, (.int .i64 1)), (3, 1, (.int .i64 3))] K := fun K h => h
  refine b4 _ ?_
  refine four_eq ?_
  exact ⟨rfl, Ext.trans hx hx8⟩
end Go.Proofs.YtkpefimnggojdaaGreat.VX
