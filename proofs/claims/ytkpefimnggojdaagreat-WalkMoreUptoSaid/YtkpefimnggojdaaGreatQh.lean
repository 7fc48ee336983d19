/-
  Contracts: going through a tree (walk.Each, and what it hands back).
  Contracts: the list of all that is seen (walk.List: a range over a function).
-/
import Derived.Test.YtkpefimnggojdaaGreatQg
import Derived.Test.YtkpefimnggojdaaGreatVq
set_option linter.all false
namespace Go.Proofs.YtkpefimnggojdaaGreat.VX
open Go Pl
set_option maxRecDepth 4000

theorem E_rule : ElemOf Tryz.prog t_S_api_Rule t_api_Rule 4 32 [.int .i64 0, str [], .bool false, .bool false] := .mk' (by kernel_rfl) (by kernel_rfl) rfl

theorem Each_spec {w : World} {t : Nat} {lv : Value} {L : List Rule} (hl : Sl 4 ruleE w lv L) (hn : L.length ≤ 4294967290) (h1 : oneCell lv = true) :
    CallsV Tryz.prog f_walk_Each #[.pointer (some ⟨t, 0, none⟩), lv] w fun v w' => ∃ b1 b2 rv, v = .func (.func f_walk_Each_d1) #[] [Value.pointer (some ⟨b1, 0, none⟩), .pointer (some ⟨b2, 0, none⟩)].toArray ∧
      w'.heap[b1]? = some (.cells #[.pointer (some ⟨t, 0, none⟩)] t_P_tree_Tree (0, 0)) ∧ w'.heap[b2]? = some (.cells #[rv] t_S_api_Rule (0, 0)) ∧ w.heap.size ≤ b1 ∧ w.heap.size ≤ b2 ∧ Own t_api_Rule 4 ruleE w.heap.size w' rv L ∧ Ext w w' := by
  refine ok_walk_Each _ _ _ _ ?_
  unfold go_walk_Each
  have ec : (Value.cells lv) = #[lv] := by cases lv <;> first | rfl | cases h1
  simp only [vxs, ec]
  have ep : (Value.pointer (some ⟨t, 0, none⟩)).cells = #[.pointer (some ⟨t, 0, none⟩)] := rfl
  rw [ep]
  generalize hw1 : w.alloc _ = w1
  have hx1 : Ext w w1 := by rw [← hw1]; exact alloc_ext _ _
  have c1 : w1.heap[w.heap.size]? = some (.cells #[.pointer (some ⟨t, 0, none⟩)] t_P_tree_Tree (0, 0)) := by rw [← hw1]; exact alloc_new _ _
  have s1 : w1.heap.size = w.heap.size + 1 := by rw [← hw1]; exact alloc_size _ _
  generalize hw2 : w1.alloc _ = w2
  have hx2 : Ext w1 w2 := by rw [← hw2]; exact alloc_ext _ _
  have c2 : w2.heap[w1.heap.size]? = some (.cells #[lv] t_S_api_Rule (0, 0)) := by rw [← hw2]; exact alloc_new _ _
  have s2 : w2.heap.size = w1.heap.size + 1 := by rw [← hw2]; exact alloc_size _ _
  have c12 := Ext.get hx2 c1
  simp only [c2, vxs]
  refine Own.append' (base := w.heap.size) E_rule (by omega) (by omega) ruleE_len ruleE_one (xs := ([] : List Rule)) (.inl ⟨rfl, rfl⟩) (hl.ext (Ext.trans hx1 hx2)) (by omega) (by simp; omega) fun v' w3 ho hu hb => ?_
  rw [List.nil_append] at ho
  have hx3 : Ext w2 w3 := hu.mono fun k _ e => by
    obtain ⟨-, c, l, e, -⟩ := e; cases e
  have c13 := Ext.get hx3 c12
  have c23 := Ext.get hx3 c2
  refine st1_in c23 ho.one (by show 0 < 1; omega) ?_
  have us := setB_upd w3 w1.heap.size (.cells (#[lv].setIfInBounds 0 v') t_S_api_Rule (0, 0))
  have s3 := hx3.size
  refine ⟨w.heap.size, w1.heap.size, v', rfl, us.get c13 (by omega), by rw [setB_new c23]; rfl, Nat.le_refl _, by omega, ho.keep us fun a n c e hh => ?_, Upd.trans (Ext.trans (Ext.trans hx1 hx2) hx3) us fun k hk e => by omega⟩
  rcases hb a n c e with ⟨n', c', e'⟩ | h
  · cases e'
  · omega

theorem Each_d1_spec {w : World} {t b1 b2 : Nat} {rv yv : Value} {S : St} {T : PT} {F O : Nat → Prop} {L : List Rule} {m : Nat} (hw : Wf T m) (hm : Mt S T) (hm0 : m ≤ 100000) (hR : Rep w t S F) (hFO : ∀ x, F x → ¬ O x)
    (c1 : w.heap[b1]? = some (.cells #[.pointer (some ⟨t, 0, none⟩)] t_P_tree_Tree (0, 0))) (c2 : w.heap[b2]? = some (.cells #[rv] t_S_api_Rule (0, 0)))
    (hl : ∀ w', Upd O w w' → Sl 4 ruleE w' rv L) (hrv : oneCell rv = true) (hn : L.length ≤ 4294967290) (hp : ∀ r ∈ L, r.pat.length ≤ 4294967296)
    {Y : List Ent → (Nat → Prop) → World → Prop} (hs : Sink Tryz.prog yv entArg entOk (.bool true) Y) (hy : oneCell yv = true) (hY : Y [] O w) :
    CallsV Tryz.prog f_walk_Each_d1 ([yv] ++ [Value.pointer (some ⟨b1, 0, none⟩), .pointer (some ⟨b2, 0, none⟩)]).toArray w fun v w' => v = .tuple #[] ∧ ∃ O', Y (walkT T L) O' w' ∧ Upd O w w' ∧ (∀ b, O' b → O b ∨ w.heap.size ≤ b) := by
  refine ok_walk_Each_d1 _ _ _ _ _ ?_
  unfold go_walk_Each_d1
  simp only [vxs, c1, c2]
  generalize hw1 : w.alloc (Obj.map #[] 0) = w1
  have hx1 : Ext w w1 := by rw [← hw1]; exact alloc_ext _ _
  have cg : w1.heap[w.heap.size]? = some (.map #[] 0) := by rw [← hw1]; exact alloc_new _ _
  have s1 : w1.heap.size = w.heap.size + 1 := by rw [← hw1]; exact alloc_size _ _
  have ec : ∀ {v : Value}, oneCell v = true → v.cells.toList = [v] := fun {v} h => by cases v <;> first | rfl | cases h
  have eb : ∀ K : Value → Prop, K (.agg (wkE t rv w.heap.size yv).toArray) → bld [(.pointer none), (.slice none 0 0), (.map none), .nilFunc] [(0, 1, .pointer (some ⟨t, 0, none⟩)), (1, 1, rv), (2, 1, .map (some w.heap.size)), (3, 1, yv)] K := fun K hK => by
    simp only [bld, bldL, ec hrv, ec hy, ec (v := .pointer (some ⟨t, 0, none⟩)) rfl, ec (v := .map (some w.heap.size)) rfl]
    exact hK
  refine eb _ ?_
  simp only [vxs]
  generalize hw2 : w1.alloc _ = w2
  have hx2 : Ext w1 w2 := by rw [← hw2]; exact alloc_ext _ _
  have cw : w2.heap[w1.heap.size]? = some (.cells (wkE t rv w.heap.size yv).toArray t_walk_walker (0, 0)) := by rw [← hw2]; exact alloc_new _ _
  have s2 : w2.heap.size = w1.heap.size + 1 := by rw [← hw2]; exact alloc_size _ _
  have hx := Ext.trans hx1 hx2
  have hOlt := hs.lt hY
  have hk : Walk w2 O w1.heap.size t w.heap.size rv yv S T F L := by
    refine ⟨fun w' hu => hu.get cw fun e => ?_, fun w' hu => (hR.ext hx).mono hu fun b hb e => ?_, fun w' hu => hl w' (Upd.trans (Ext.to hx) hu fun b hb e => ?_), by omega, by omega, fun h => ?_, fun h => ?_, fun b hb => ?_, by omega, hp⟩
    · rcases e with e | e
      · omega
      · have := hOlt _ e; omega
    · rcases e with e | e
      · have := hR.lt b hb; omega
      · exact hFO b hb e
    · rcases e with e | e
      · omega
      · exact e
    · have := hOlt _ h; omega
    · have := hOlt _ h; omega
    · have := hOlt _ hb; omega
  have hvl : (visT T L 13 []).length ≤ m + 1 := by
    have h0 := visT_more
    -- no more is seen than there are names
    have key : ∀ (n : Nat) (q : List Bytes), ((visT T L n q)).Sublist ((relT T n q).map (q ++ ·)) := by
      intro n
      induction n with
      | zero => intro q; exact .slnil
      | succ n ih =>
        intro q
        simp only [visT, relT, List.map_flatMap]
        refine flatMap_sub _ fun x _ => ?_
        split
        · exact List.nil_sublist _
        · rw [List.map_cons]
          refine .cons_cons _ ?_
          split
          · have := ih (q ++ [x])
            rw [List.map_map]
            refine this.trans ?_
            have e : ((relT T n (q ++ [x])).map ((q ++ ·) ∘ (x :: ·))) = (relT T n (q ++ [x])).map (q ++ [x] ++ ·) := by
              apply List.map_congr_left; intro r _; simp
            rw [e]; exact List.Sublist.refl _
          · exact .slnil
    have := (key 13 []).length_le
    rw [List.length_map] at this
    exact Nat.le_trans this (relT_len hw 13 [])
  have hY2 := hs.keep hY hx fun _ _ f => f
  have e3 : str [] = str (joinP []) := rfl
  rw [e3]
  refine call_ok has_walk_walker_below (below_spec hw hm hm0 hk hs 13 (q := []) (l := []) (gs := []) (O := O) (look1_mem hw.at_top) hw.topk rfl hY2 (fun _ h => .inl h) (.refl _ _) ⟨#[], 0, Ext.get hx2 cg, rfl, List.nodup_nil, fun j h => by simp at h⟩ (by simp; omega) (by simp; omega)) ?_
  rintro _ w3 ⟨-, O', hY3, -, hu3, hO3⟩
  refine ⟨trivial, O', hY3, Upd.trans (Ext.to hx) hu3 fun b hb e => ?_, fun b hb => (hO3 b hb).imp id fun h => by omega⟩
  rcases e with e | e
  · omega
  · exact e
end Go.Proofs.YtkpefimnggojdaaGreat.VX

namespace Go.Proofs.YtkpefimnggojdaaGreat.VX
open Go Pl
set_option maxRecDepth 4000

theorem of_eq {A B : Prop} (h : A = B) (hb : B) : A := h ▸ hb
def ent0 : Ent := ⟨[], 0, 0, ⟨0, 0, 0, 0, 0⟩, [], [], 0⟩
theorem E_entry : ElemOf Tryz.prog t_S_api_Entry t_api_Entry 11 112 (entE ent0) := .mk' (by kernel_rfl) (by kernel_rfl) rfl

/-- out = append(out, e) for a slice of entries. -/
theorem bsl_ent {w : World} {e : Ent} {K : Value → World → Prop} (h : K (.slice (some ⟨w.heap.size, 0, none⟩) 1 1) (w.alloc (.cells (entE e).toArray t_api_Entry))) : bsl t_api_Entry 1 (entE ent0) [(0, 11, .agg (entE e).toArray)] w K := h
theorem one_ent {w : World} {e : Ent} : Sl 11 entE (w.alloc (.cells (entE e).toArray t_api_Entry)) (.slice (some ⟨w.heap.size, 0, none⟩) 1 1) [e] :=
  ⟨_, _, rfl, Nat.le_refl _, fun _ => ⟨_, _, rfl, _, _, _, alloc_new _ _, by simp [entE], by simp [entE]⟩⟩
theorem app_ent {w : World} {e : Ent} {base : Nat} {v : Value} {xs : List Ent} (hv : Own t_api_Entry 11 entE base w v xs) (hb : base ≤ w.heap.size) (hn : xs.length + 1 ≤ 4294967296) {K : Value → World → Prop}
    (hK : ∀ v' w', Own t_api_Entry 11 entE base w' v' (xs ++ [e]) → Upd (fun b => base ≤ b ∧ ∃ c l, v = .slice (some ⟨b, 0, none⟩) l c) w w' → (∀ a n c, v' = .slice (some a) n c → (∃ n c, v = .slice (some a) n c) ∨ w.heap.size ≤ a.block) → K v' w') :
    bsl t_api_Entry 1 (entE ent0) [(0, 11, .agg (entE e).toArray)] w fun t w1 => rn Tryz.prog (Builtin.append_ #[t_S_api_Entry, t_S_api_Entry] t_S_api_Entry ([v, t] : List Value).toArray) w1 K := by
  refine bsl_ent ?_
  refine Own.append' E_entry (by omega) (by omega) entE_len entE_one (hv.ext (alloc_ext _ _)) one_ent (by rw [alloc_size]; omega) hn fun v' w' h1 h2 h3 => hK v' w' h1 ?_ fun a n c e => (h3 a n c e).imp id fun h => by rw [alloc_size] at h; omega
  exact Upd.trans (alloc_upd _ _ _) h2 fun _ _ ⟨q1, c, l, q2, _⟩ => ⟨q1, c, l, q2⟩

def listY (B D l : Nat) (rec : Loop) (acc : List Ent) (O : Nat → Prop) (w : World) : Prop :=
  w.heap[l]? = some (.loop rec) ∧ w.heap[D]? = some (.deferred (some [])) ∧ ∃ v, w.heap[B]? = some (.cells #[v] t_S_api_Entry (0, 0)) ∧ Own t_api_Entry 11 entE (B + 1) w v acc ∧ O = fun b => b = l ∨ b = D ∨ b = B ∨ ∃ a n c, v = .slice (some a) n c ∧ a.block = b
def frL (a0 a1 v B t6 t10 : Value) : List Value := [a0, a1, undef, undef, .slice none 0 0, B, t6, a0, a1, v, t10, undef, undef, undef, undef, undef]
def bodyOf (c : Code) : Code × Code := match c with | .seq _ (.seq _ (.seq (.seq _ (.block _ (.rangeFunc _ _ a b))) _)) => (a, b) | _ => (.skip, .skip)
theorem list_asg {l : Nat} {a0 a1 v0 b : Value} {c : Code} (hc : fn_walk_List.body = some c) (w : World) (x : Ent) : (bodyOf c).1.wpIn (F0 (some l)) 0 Tryz.prog (fun e a w2 => e = .normal ∧ ∃ fr', a = act fr' ∧ fr' = frL a0 a1 v0 b (.pointer (some ⟨w.heap.size, 0, none⟩)) (.agg (entE x).toArray) ∧ w2.heap[w.heap.size]? = some (.cells (entE x).toArray t_api_Entry (0, 0)) ∧ Ext w w2)
    (act (frL a0 a1 v0 b undef (.agg (entE x).toArray))) w := by
  cases hc
  simp only [bodyOf]
  refine region_sound (kn := fun fr' w2 => fr' = frL a0 a1 v0 b (.pointer (some ⟨w.heap.size, 0, none⟩)) (.agg (entE x).toArray) ∧ w2.heap[w.heap.size]? = some (.cells (entE x).toArray t_api_Entry (0, 0)) ∧ Ext w w2) ?_
  refine of_eq (B := newx (entE ent0) t_api_Entry w fun p w1 => st 11 p (.agg (entE x).toArray) w1 fun w2 => (frL a0 a1 v0 b p (.agg (entE x).toArray) = frL a0 a1 v0 b (.pointer (some ⟨w.heap.size, 0, none⟩)) (.agg (entE x).toArray) ∧ w2.heap[w.heap.size]? = some (.cells (entE x).toArray t_api_Entry (0, 0)) ∧ Ext w w2)) (by kernel_rfl) ?_
  exact newst (vs := entE x) (n := 11) rfl rfl (by omega) (entE_one _) fun w' g1 g2 => ⟨rfl, g1, g2⟩
theorem list_body {l : Nat} {a0 a1 v0 b p t10 : Value} {c : Code} (hc : fn_walk_List.body = some c) (w : World) (K : World → Prop)
    (h : ld b w fun t11 => ldS 11 p w fun t12 => bsl t_api_Entry 1 (entE ent0) [(0, 11, t12)] w fun t13 w4 => rn Tryz.prog (Builtin.append_ #[t_S_api_Entry, t_S_api_Entry] t_S_api_Entry ([t11, t13] : List Value).toArray) w4 fun t14 w5 => st 1 b t14 w5 K) :
    (bodyOf c).2.wpIn (F0 (some l)) 0 Tryz.prog (fun e a w2 => e = .normal ∧ K w2) (act (frL a0 a1 v0 b p t10)) w := by
  cases hc
  simp only [bodyOf]
  refine wpIn_block (wpIn_mono (region_sound (kn := fun _ w2 => K w2) ?_) ?_)
  · exact of_eq (by kernel_rfl) h
  · rintro e a w2 ⟨rfl, fr', -, hk⟩
    exact ⟨rfl, hk⟩
theorem list_sink {B D l : Nat} {rec : Loop} {a0 a1 v0 : Value} {c : Code} (hc : fn_walk_List.body = some c) (h1 : rec.state = .ready) (h2 : rec.pending = none) (h3 : rec.tmps = (frL a0 a1 v0 (.pointer (some ⟨B, 0, none⟩)) undef undef).toArray) (h4 : rec.params = #[10]) (h5 : rec.assign = (bodyOf c).1) (h6 : rec.body = (bodyOf c).2) (hBl : B ≠ l ∧ B ≠ D ∧ l ≠ D) :
    Sink Tryz.prog (.func (.yield l) #[] #[]) entArg entOk (.bool true) (listY B D l rec) where
  keep := by
    rintro acc O w w' M ⟨q1, q2, v, q3, q4, rfl⟩ hu hm
    exact ⟨hu.get q1 (hm _ (.inl rfl)), hu.get q2 (hm _ (.inr (.inl rfl))), v, hu.get q3 (hm _ (.inr (.inr (.inl rfl)))), q4.keep hu fun a n c e => hm _ (.inr (.inr (.inr ⟨a, n, c, e, rfl⟩))), rfl⟩
  lt := by
    rintro acc O w ⟨q1, q2, v, q3, q4, rfl⟩ b (rfl | rfl | rfl | ⟨a, n, c, e, rfl⟩)
    · exact lt_of_blk q1
    · exact lt_of_blk q2
    · exact lt_of_blk q3
    · exact (q4.blk e).2
  call := by
    rintro acc O w x ⟨q1, q2, v, q3, q4, rfl⟩ hok K hK
    have hok : acc.length < 1000000 := hok
    obtain ⟨sta, pe, fnn, tmps, ps, asg', bo, df⟩ := rec
    simp only at h1 h2 h3 h4 h5 h6
    subst h1 h2 h3 h4 h5 h6
    refine ⟨_, _, _, _, w, run_yield q1 rfl, roundIn_of_wpIn trivial ?_⟩
    have et : ((#[10] : Array Tmp).zip (#[] ++ (entArg x).toArray)).foldl (fun t (p, v) => t.setIfInBounds p v) (frL a0 a1 v0 (.pointer (some ⟨B, 0, none⟩)) undef undef).toArray = (frL a0 a1 v0 (.pointer (some ⟨B, 0, none⟩)) undef (.agg (entE x).toArray)).toArray := by
      apply Array.toList_inj.1
      simp [entArg, frL]
    simp only
    rw [et]
    refine wpIn_mono (list_asg (l := l) hc w x) ?_
    rintro e a w2 ⟨rfl, fr', rfl, rfl, g1, g2⟩
    have hl2 := Ext.get g2 q1
    refine ⟨_, run_beginRound hl2 rfl, ?_⟩
    generalize hw3 : w2.putObj l _ = w3
    have u3 : Upd (fun k => k = l) w2 w3 := by rw [← hw3]; exact setB_upd w2 l _
    have hl3 : w3.heap[l]? = some (.loop { state := .busy, pending := none, fn := fnn, tmps := (frL a0 a1 v0 (.pointer (some ⟨B, 0, none⟩)) undef undef).toArray, params := #[10], assign := (bodyOf c).1, body := (bodyOf c).2, defers := df }) := by rw [← hw3]; exact setB_new hl2
    have hd3 := u3.get (Ext.get g2 q2) (fun e => hBl.2.2 e.symm)
    have hb3 := u3.get (Ext.get g2 q3) hBl.1
    have hx3 := u3.get g1 (by have := lt_of_blk q1; omega)
    have hlb : ∀ {a : Addr} {n cc : Nat}, v = .slice (some a) n cc → a.block ≠ l := fun e hh => by
      rcases q4 with ⟨h5, -⟩ | ⟨b0, cap, ccc, h5, h6, h7, -⟩
      · rw [h5] at e; cases e
      · rw [h6] at e; injection e with e; injection e with e; rw [← e] at hh
        have hh : b0 = l := hh
        rw [hh, q1] at h7; cases h7
    have ho3 : Own t_api_Entry 11 entE (B + 1) w3 v acc := (q4.ext g2).keep u3 fun a n cc e => hlb e
    have hBlt := lt_of_blk q3
    have hsz2 := g2.size
    have hsz3 := u3.size
    refine wpIn_mono (list_body (l := l) hc w3 (fun w5 => ∃ v', w5.heap[B]? = some (.cells #[v'] t_S_api_Entry (0, 0)) ∧ Own t_api_Entry 11 entE (B + 1) w5 v' (acc ++ [x]) ∧ Upd (fun b => b = B ∨ ∃ a n cc, v = .slice (some a) n cc ∧ a.block = b) w3 w5 ∧ (∀ a n cc, v' = .slice (some a) n cc → (∃ n cc, v = .slice (some a) n cc) ∨ w3.heap.size ≤ a.block)) ?_) ?_
    · simp only [vxs, hb3]
      refine lds_all hx3 rfl ?_
      refine app_ent ho3 (by omega) (by omega) fun v' w4 h9 hu4 hb4 => ?_
      have hB4 := hu4.get hb3 fun e => by have := e.1; omega
      refine st1_in hB4 h9.one (by show 0 < 1; omega) ?_
      have us := setB_upd w4 B (.cells (#[v].setIfInBounds 0 v') t_S_api_Entry (0, 0))
      refine ⟨v', setB_new hB4, h9.keep us fun a n cc e hh => by have := (h9.blk e).1; omega, ?_, hb4⟩
      refine Upd.trans (hu4.mono fun k _ e => ?_) us fun k _ e => .inl e
      obtain ⟨-, cc, ln, e⟩ := e
      exact .inr ⟨_, _, _, e, rfl⟩
    · rintro e a5 w5 ⟨rfl, v', k1, k2, k3, k4⟩
      have hnl : ¬ (l = B ∨ ∃ a n cc, v = .slice (some a) n cc ∧ a.block = l) := fun h => by
        rcases h with h | ⟨a, n, cc, e, hh⟩
        · exact hBl.1 h.symm
        · exact hlb e hh
      have hnd : ¬ (D = B ∨ ∃ a n cc, v = .slice (some a) n cc ∧ a.block = D) := fun h => by
        rcases h with h | ⟨a, n, cc, e, hh⟩
        · exact hBl.2.1 h.symm
        · rcases q4 with ⟨h5, -⟩ | ⟨b0, cap, ccc, h5, h6, h7, -⟩
          · rw [h5] at e; cases e
          · rw [h6] at e; injection e with e; injection e with e; rw [← e] at hh
            have hh : b0 = D := hh
            rw [hh, q2] at h7; cases h7
      have hl5 := k3.get hl3 hnl
      refine ⟨_, _, run_endRound none hl5, _, rfl, ?_⟩
      simp only [Option.isNone_none, if_true]
      generalize hw6 : w5.putObj l _ = w6
      have u6 : Upd (fun k => k = l) w5 w6 := by rw [← hw6]; exact setB_upd w5 l _
      have hl6 : w6.heap[l]? = some (.loop { state := .ready, pending := none, fn := fnn, tmps := (frL a0 a1 v0 (.pointer (some ⟨B, 0, none⟩)) undef undef).toArray, params := #[10], assign := (bodyOf c).1, body := (bodyOf c).2, defers := df }) := by rw [← hw6]; exact setB_new hl5
      have hlv : ∀ {a : Addr} {n cc : Nat}, v' = .slice (some a) n cc → a.block ≠ l := fun e hh => by
        rcases k4 _ _ _ e with ⟨n', c', e'⟩ | h
        · exact hlb e' hh
        · have := lt_of_blk q1; omega
      refine hK (fun b => b = l ∨ b = D ∨ b = B ∨ ∃ a n cc, v' = .slice (some a) n cc ∧ a.block = b) w6 ⟨hl6, u6.get (k3.get hd3 hnd) (fun e => hBl.2.2 e.symm), v', u6.get k1 hBl.1, k2.keep u6 fun a n cc e => hlv e, rfl⟩ ?_ ?_
      · refine Upd.trans (Upd.trans (Upd.trans (Ext.to g2) u3 fun k _ e => .inl e) k3 fun k _ e => ?_) u6 fun k _ e => .inl e
        rcases e with e | e
        · exact .inr (.inr (.inl e))
        · exact .inr (.inr (.inr e))
      · rintro b (h | h | h | ⟨a, n, cc, e, rfl⟩)
        · exact .inl (.inl h)
        · exact .inl (.inr (.inl h))
        · exact .inl (.inr (.inr (.inl h)))
        · rcases k4 _ _ _ e with ⟨n', c', e'⟩ | h
          · exact .inl (.inr (.inr (.inr ⟨a, n', c', e', rfl⟩)))
          · right; omega
end Go.Proofs.YtkpefimnggojdaaGreat.VX
