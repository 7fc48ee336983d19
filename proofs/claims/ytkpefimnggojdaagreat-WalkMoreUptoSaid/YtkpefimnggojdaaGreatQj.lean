/-
  Contracts: the list of all that is seen (walk.List), whole.
-/
import Derived.Test.YtkpefimnggojdaaGreatQh
set_option linter.all false
namespace Go.Proofs.YtkpefimnggojdaaGreat.VX
open Go Pl
set_option maxRecDepth 4000

theorem takeD {w : World} {D : Nat} {P : Program} (h : w.heap[D]? = some (.deferred (some []))) : (Instr.takeDeferred D).run P w = .ok [] (w.putObj D (.deferred none)) := run_takeDeferred h

theorem enter_ok {P : Program} {f : FuncId} (h : hasB P f) (args : Array Value) (w : World) : (callFunc f args).run P w = .ok (.enter f args) w := by
  have hb := h.out
  split at hb
  · rename_i fn hfn
    have hbn : fn.body ≠ none := by intro hh; rw [hh] at hb; cases hb.2
    simp only [callFunc, program]
    simp [Sem.run, hfn, hb.1, hbn]
  · exact hb.elim
theorem WList_spec {w : World} {t : Nat} {lv : Value} {S : St} {T : PT} {F : Nat → Prop} {L : List Rule} {m : Nat} (hw : Wf T m) (hm : Mt S T) (hm0 : m ≤ 100000) (hR : Rep w t S F) (hl : Sl 4 ruleE w lv L) (h1 : oneCell lv = true) (hn : L.length ≤ 4294967290) (hp : ∀ r ∈ L, r.pat.length ≤ 4294967296) :
    CallsV Tryz.prog f_walk_List #[.pointer (some ⟨t, 0, none⟩), lv] w fun v w' => Own t_api_Entry 11 entE w.heap.size w' v (walkT T L) ∧ Ext w w' := by
  obtain ⟨c, hc⟩ : ∃ c, fn_walk_List.body = some c := ⟨_, rfl⟩
  obtain ⟨a0, ea0⟩ : ∃ a0 : Value, a0 = .pointer (some ⟨t, 0, none⟩) := ⟨_, rfl⟩
  refine (callsIn_wide (n := 0)).1 ?_
  refine callsIn_of_wp_marks (F := F0 none) fun_walk_List hc trivial ?_
  have ef : ({ tmps := #[Value.pointer (some ⟨t, 0, none⟩), lv] ++ Array.replicate (fn_walk_List.ntmps - #[Value.pointer (some ⟨t, 0, none⟩), lv].size) undef, defers := [] } : Act) = act [a0, lv, undef, undef, undef, undef, undef, undef, undef, undef, undef, undef, undef, undef, undef, undef] := by
    rw [ea0]
    simp only [act]; congr 1
  rw [ef]
  obtain ⟨c1, c2, c3, c4, g, ps, asg', bod, c5, ec⟩ : ∃ c1 c2 c3 c4 g ps asg' bod c5, c = .seq c1 (.seq c2 (.seq (.seq c3 (.block c4 (.rangeFunc g ps asg' bod))) (.seq c5 .ret))) := by
    cases hc; exact ⟨_, _, _, _, _, _, _, _, _, rfl⟩
  -- each piece by itself
  have k1 : ∀ (w : World) (Q : Exit → Act → World → Prop), Q .normal (act [a0, lv, undef, undef, .slice none 0 0, undef, undef, undef, undef, undef, undef, undef, undef, undef, undef, undef]) w → c1.wpIn (F0 none) 0 Tryz.prog Q (act [a0, lv, undef, undef, undef, undef, undef, undef, undef, undef, undef, undef, undef, undef, undef, undef]) w := by
    cases hc
    injection ec with e1 e2
    subst e1
    intro w Q hQ
    refine wpIn_mono (region_sound (kn := fun fr w' => fr = [a0, lv, undef, undef, .slice none 0 0, undef, undef, undef, undef, undef, undef, undef, undef, undef, undef, undef] ∧ w' = w) (of_eq (B := (([a0, lv, undef, undef, .slice none 0 0, undef, undef, undef, undef, undef, undef, undef, undef, undef, undef, undef] : List Value) = [a0, lv, undef, undef, .slice none 0 0, undef, undef, undef, undef, undef, undef, undef, undef, undef, undef, undef] ∧ w = w)) (by kernel_rfl) ⟨rfl, rfl⟩)) ?_
    rintro e a w' ⟨rfl, fr, rfl, rfl, rfl⟩
    exact hQ
  have k2 : ∀ (w : World) (Q : Exit → Act → World → Prop), Q .normal (act [a0, lv, undef, undef, .slice none 0 0, .pointer (some ⟨w.heap.size, 0, none⟩), undef, undef, undef, undef, undef, undef, undef, undef, undef, undef]) (w.alloc (.cells #[.slice none 0 0] t_S_api_Entry)) →
      c2.wpIn (F0 none) 0 Tryz.prog Q (act [a0, lv, undef, undef, .slice none 0 0, undef, undef, undef, undef, undef, undef, undef, undef, undef, undef, undef]) w := by
    cases hc
    injection ec with e1 e2
    injection e2 with e2 e3
    subst e2
    intro w Q hQ
    refine wpIn_mono (region_sound (kn := fun fr w' => fr = [a0, lv, undef, undef, .slice none 0 0, .pointer (some ⟨w.heap.size, 0, none⟩), undef, undef, undef, undef, undef, undef, undef, undef, undef, undef] ∧ w' = w.alloc (.cells #[.slice none 0 0] t_S_api_Entry))
      (of_eq (B := newx [.slice none 0 0] t_S_api_Entry w fun p w1 => ([a0, lv, undef, undef, .slice none 0 0, p, undef, undef, undef, undef, undef, undef, undef, undef, undef, undef] : List Value) = [a0, lv, undef, undef, .slice none 0 0, .pointer (some ⟨w.heap.size, 0, none⟩), undef, undef, undef, undef, undef, undef, undef, undef, undef, undef] ∧ w1 = w.alloc (.cells #[.slice none 0 0] t_S_api_Entry)) (by kernel_rfl) ⟨rfl, rfl⟩)) ?_
    rintro e a w' ⟨rfl, fr, rfl, rfl, rfl⟩
    exact hQ
  have k3 : ∀ (w : World) (p : Value) (K : Value → World → Prop), callv Tryz.prog (fnv f_walk_Each) [a0, lv] w K →
      c3.wpIn (F0 none) 0 Tryz.prog (fun e a w' => e = .normal ∧ ∃ v, a = act (frL a0 lv v p undef undef) ∧ K v w') (act [a0, lv, undef, undef, .slice none 0 0, p, undef, undef, undef, undef, undef, undef, undef, undef, undef, undef]) w := by
    cases hc
    injection ec with e1 e2
    injection e2 with e2 e3
    injection e3 with e3 e4
    injection e3 with e3 e5
    subst e3
    intro w p K hK
    refine wpIn_mono (region_sound (kn := fun fr w' => ∃ v, fr = frL a0 lv v p undef undef ∧ K v w') (of_eq (B := callv Tryz.prog (fnv f_walk_Each) [a0, lv] w fun v w' => ∃ u, frL a0 lv v p undef undef = frL a0 lv u p undef undef ∧ K u w') (by kernel_rfl) ?_)) ?_
    · unfold callv at hK ⊢
      simp only [fnv] at hK ⊢
      exact ⟨hK.1, hK.2.mono fun v w' h => ⟨v, rfl, h⟩⟩
    · rintro e a w' ⟨rfl, fr, rfl, v, rfl, h⟩
      exact ⟨rfl, v, rfl, h⟩
  have k4 : g = .tmp 9 ∧ ps = #[10] ∧ asg' = (bodyOf c).1 ∧ bod = (bodyOf c).2 := by
    cases hc
    injection ec with e1 e2
    injection e2 with e2 e3
    injection e3 with e3 e4
    injection e3 with e3 e5
    injection e5 with e5 e6
    injection e6 with e6 e7 e8 e9
    subst e6 e7 e8 e9
    exact ⟨rfl, rfl, rfl, rfl⟩
  have k5 : ∀ (w : World) (v p : Value) (ds : List Deferred) (B : Nat) (u : Value), p = .pointer (some ⟨B, 0, none⟩) → w.heap[B]? = some (.cells #[u] t_S_api_Entry (0, 0)) → ∀ (Q : Exit → Act → World → Prop), Q .normal { tmps := [a0, lv, undef, undef, u, p, undef, a0, lv, v, undef, undef, undef, undef, undef, u].toArray, defers := ds } w →
      c5.wpIn (F0 none) 0 Tryz.prog Q { tmps := (frL a0 lv v p undef undef).toArray, defers := ds } w := by
    cases hc
    injection ec with e1 e2
    injection e2 with e2 e3
    injection e3 with e3 e4
    injection e4 with e4 e5
    subst e4
    intro w v p ds B u hp hB Q hQ
    refine wpIn_region_list ?_
    refine wpListIn_step fun K hK => ?_
    rw [if_pos (show Region.wanted _ _ = true from rfl)]
    refine opx_sound (K := fun v' w' => v' = u ∧ w' = w) ?_ ?_
    · refine of_eq (B := ld p w fun v' => v' = u ∧ w = w) (by kernel_rfl) ?_
      rw [hp]
      simp only [vxs, hB]
      exact ⟨trivial, trivial⟩
    · rintro v' w' ⟨hv', hw'⟩
      rw [hv', hw']
      refine hK _ _ ?_
      refine wpListIn_step fun K2 hK2 => ?_
      rw [if_pos (show Region.wanted _ _ = true from rfl)]
      refine opx_sound (K := fun v'' w'' => v'' = u ∧ w'' = w) ?_ ?_
      · exact of_eq (B := u = u ∧ w = w) (by kernel_rfl) ⟨rfl, rfl⟩
      · rintro v'' w'' ⟨hv'', hw''⟩
        rw [hv'', hw'']
        refine hK2 _ _ ?_
        refine wpListIn_nil ?_
        have et : (({ tmps := (frL a0 lv v p undef undef).toArray, defers := ds } : Act).put (some 15) u).put (some 4) u = { tmps := [a0, lv, undef, undef, u, p, undef, a0, lv, v, undef, undef, undef, undef, undef, u].toArray, defers := ds } := by
          simp [Act.put, frL]
        show Q .normal ((Act.put _ (some 15) u).put (some 4) u) w
        rw [et]; exact hQ
  obtain ⟨rfl, rfl, e8, e9⟩ := k4
  rw [ec]
  refine wpIn_seq (k1 _ _ ?_)
  refine wpIn_seq (k2 _ _ ?_)
  generalize hw1 : w.alloc (.cells #[.slice none 0 0] t_S_api_Entry) = w1
  have hx1 : Ext w w1 := by rw [← hw1]; exact alloc_ext _ _
  have s1 : w1.heap.size = w.heap.size + 1 := by rw [← hw1]; exact alloc_size _ _
  have hB1 : w1.heap[w.heap.size]? = some (.cells #[.slice none 0 0] t_S_api_Entry (0, 0)) := by rw [← hw1]; exact alloc_new _ _
  refine wpIn_seq (wpIn_seq (wpIn_mono (k3 _ _ (fun v w2 => ∃ b1 b2 rv, v = .func (.func f_walk_Each_d1) #[] [Value.pointer (some ⟨b1, 0, none⟩), .pointer (some ⟨b2, 0, none⟩)].toArray ∧
      w2.heap[b1]? = some (.cells #[.pointer (some ⟨t, 0, none⟩)] t_P_tree_Tree (0, 0)) ∧ w2.heap[b2]? = some (.cells #[rv] t_S_api_Rule (0, 0)) ∧ w1.heap.size ≤ b1 ∧ w1.heap.size ≤ b2 ∧ Own t_api_Rule 4 ruleE w1.heap.size w2 rv L ∧ Ext w1 w2) ?_) ?_))
  · rw [ea0]
    exact call_ok has_walk_Each (Each_spec (hl.ext hx1) hn h1) fun _ _ h => h
  rintro e a w2 ⟨rfl, v, rfl, b1, b2, rv, rfl, q1, q2, q3, q4, q5, hx2⟩
  refine wpIn_block ?_
  refine wpIn_rangeFunc ?_
  intro fn _
  obtain ⟨B, eB⟩ : ∃ B, B = w.heap.size := ⟨_, rfl⟩
  obtain ⟨D, eD⟩ : ∃ D, D = w2.heap.size := ⟨_, rfl⟩
  rw [← eB] at hB1 ⊢
  obtain ⟨v, ev⟩ : ∃ v : Value, v = .func (.func f_walk_Each_d1) #[] [Value.pointer (some ⟨b1, 0, none⟩), .pointer (some ⟨b2, 0, none⟩)].toArray := ⟨_, rfl⟩
  rw [← ev]
  obtain ⟨rec, hrec⟩ : ∃ rec : Loop, rec = { state := .ready, pending := none, fn, tmps := (frL a0 lv v (.pointer (some ⟨B, 0, none⟩)) undef undef).toArray, params := #[10], assign := (bodyOf c).1, body := (bodyOf c).2, defers := D } := ⟨_, rfl⟩
  generalize hw3 : (w2.alloc (.deferred (some []))).alloc (.loop rec) = w3
  have hxa : Ext w2 (w2.alloc (.deferred (some []))) := alloc_ext _ _
  have hx3 : Ext w2 w3 := by rw [← hw3]; exact Ext.trans hxa (alloc_ext _ _)
  have sa : (w2.alloc (.deferred (some []))).heap.size = D + 1 := by rw [eD]; exact alloc_size _ _
  have hD3 : w3.heap[D]? = some (.deferred (some [])) := by
    rw [← hw3]
    have : (w2.alloc (.deferred (some []))).heap[D]? = some (.deferred (some [])) := by rw [eD]; exact alloc_new _ _
    exact Ext.get (alloc_ext _ _) this
  have hL3 : w3.heap[D + 1]? = some (.loop rec) := by
    rw [← hw3, ← sa]; exact alloc_new _ _
  have s2 := hx2.size
  have s3 := hx3.size
  have hB3 := Ext.get (Ext.trans hx2 hx3) hB1
  have hx13 := Ext.trans (Ext.trans hx1 hx2) hx3
  have hy0 : listY B D (D + 1) rec [] (fun b => b = D + 1 ∨ b = D ∨ b = B ∨ ∃ a n c, Value.slice none 0 0 = .slice (some a) n c ∧ a.block = b) w3 := ⟨hL3, hD3, _, hB3, .inl ⟨rfl, rfl⟩, rfl⟩
  have hs : Sink Tryz.prog (.func (.yield (D + 1)) #[] #[]) entArg entOk (.bool true) (listY B D (D + 1) rec) := list_sink hc (by rw [hrec]) (by rw [hrec]) (by rw [hrec]) (by rw [hrec]) (by rw [hrec]) (by rw [hrec]) ⟨by omega, by omega, by omega⟩
  have hO : ∀ b, (b = D + 1 ∨ b = D ∨ b = B ∨ ∃ a n c, Value.slice none 0 0 = .slice (some a) n c ∧ a.block = b) → b = D + 1 ∨ b = D ∨ b = B := fun b h => by
    rcases h with h | h | h | ⟨a, n, c, e, -⟩
    · exact .inl h
    · exact .inr (.inl h)
    · exact .inr (.inr h)
    · cases e
  have hcall : CallsV Tryz.prog f_walk_Each_d1 ([Value.func (.yield (D + 1)) #[] #[]] ++ [Value.pointer (some ⟨b1, 0, none⟩), .pointer (some ⟨b2, 0, none⟩)]).toArray w3 _ :=
    Each_d1_spec (S := S) (T := T) (F := F) (L := L) hw hm hm0 (hR.ext hx13) (fun x hx h => by
      have := hR.lt x hx
      rcases hO x h with h | h | h <;> omega) (Ext.get hx3 q1) (Ext.get hx3 q2) (fun w' hu => Sl.of_own ruleE_len ((q5.ext hx3).keep hu fun a n c e h => by
        have := (q5.blk e)
        rcases hO _ h with h | h | h <;> omega)) q5.one hn hp hs rfl hy0
  refine ⟨D + 1, [{ target := .collected D, args := #[] }], w3, { target := .fn (.func f_walk_Each_d1) [Value.pointer (some ⟨b1, 0, none⟩), .pointer (some ⟨b2, 0, none⟩)].toArray, args := #[.func (.yield (D + 1)) #[] #[]] }, w3, f_walk_Each_d1,
    ([Value.func (.yield (D + 1)) #[] #[]] ++ [Value.pointer (some ⟨b1, 0, none⟩), .pointer (some ⟨b2, 0, none⟩)]).toArray, w3, ?_, ?_, ?_, ?_, fun h => by (cases h), ?_⟩
  · have := run_enterLoop_outer (P := Tryz.prog) (w := w2) fn (frL a0 lv v (.pointer (some ⟨B, 0, none⟩)) undef undef).toArray #[10] (bodyOf c).1 (bodyOf c).2
    rw [← eD] at this
    rw [← hw3, hrec, e8, e9]
    exact this
  · have hg : (act (frL a0 lv v (.pointer (some ⟨B, 0, none⟩)) undef undef)).eval (.tmp 9) = .func (.func f_walk_Each_d1) #[] [Value.pointer (some ⟨b1, 0, none⟩), .pointer (some ⟨b2, 0, none⟩)].toArray := by rw [act_eval, ev]; rfl
    simp only [resolve, hg, Deferred.ofValue]
    simp [go_sem]
  · exact fun _ _ => trivial
  · exact enter_ok has_walk_Each_d1 _ _
  · refine callsIn_F0 (Calls.mono hcall ?_)
    rintro e w4 ⟨u0, rfl, -, O', ⟨g1, g2, u, g3, g4, rfl⟩, g5, g6⟩
    have hend := run_endLoop (P := Tryz.prog) g1 (by rw [hrec]; simp)
    refine ⟨_, _, hend, ?_⟩
    rw [show rec.pending = none by rw [hrec]]
    generalize hw5 : w4.putObj (D + 1) _ = w5
    have u5 : Upd (fun k => k = D + 1) w4 w5 := by rw [← hw5]; exact setB_upd w4 _ _
    have hD5 := u5.get g2 (by omega)
    have hB5 := u5.get g3 (by omega)
    have ho5 : Own t_api_Entry 11 entE (B + 1) w5 u (walkT T L) := g4.keep u5 fun a n c e h => by
      rcases g4 with ⟨h5, -⟩ | ⟨b0, cap, ccc, h5, h6, h7, -⟩
      · rw [h5] at e; cases e
      · rw [h6] at e; injection e with e; injection e with e; rw [← e] at h
        have h : b0 = D + 1 := h
        rw [h, g1] at h7; cases h7
    show Code.wpIn (F0 none) 0 Tryz.prog (.seq c5 .ret) _ _ w5
    refine wpIn_seq (k5 _ _ _ _ B u rfl hB5 _ ?_)
    refine wpIn_ret ?_
    have u6 := setB_upd w5 D (.deferred none)
    obtain ⟨rv', hr1, hr2⟩ := results_run (P := Tryz.prog) (fn := fn_walk_List) (R := fun v' _ => v' = u) [a0, lv, undef, undef, u, .pointer (some ⟨B, 0, none⟩), undef, a0, lv, v, undef, undef, undef, undef, undef, u] (w5.putObj D (.deferred none)) (of_eq (B := u = u) (by kernel_rfl) rfl)
    rw [hr2] at hr1
    refine ⟨by simp, .inl ⟨D, _, rfl, takeD hD5, u, hr1, u, rfl, ?_⟩⟩
    have ho6 : Own t_api_Entry 11 entE (B + 1) (w5.putObj D (.deferred none)) u (walkT T L) := ho5.keep u6 fun a n c e h => by
      rcases ho5 with ⟨h5, -⟩ | ⟨b0, cap, ccc, h5, h6, h7, -⟩
      · rw [h5] at e; cases e
      · rw [h6] at e; injection e with e; injection e with e; rw [← e] at h
        have h : b0 = D := h
        rw [h, hD5] at h7; cases h7
    refine ⟨ho6.mono (.refl (fun _ => False) _) (fun _ _ h => h) (by omega), ?_⟩
    refine Upd.trans (Upd.trans (Upd.trans hx13 g5 fun k hk h => ?_) u5 fun k hk e => by omega) u6 fun k hk e => by omega
    rcases hO k h with h | h | h <;> omega
end Go.Proofs.YtkpefimnggojdaaGreat.VX
