/-
  Contracts: a tree is gone through (each, fits, Paths).
  Contracts: Paths; more behind a file's bytes (Append); another name in the place of one (Rename).
-/
import Derived.Test.YtkpefimnggojdaaGreatPz
import Derived.Test.YtkpefimnggojdaaGreatLk
set_option linter.all false
namespace Go.Proofs.YtkpefimnggojdaaGreat.VX
open Go Pl
set_option maxRecDepth 4000

/-- A function value that takes things one by one: l is what it has taken, O the blocks that are its own. -/
structure Sink {α : Type} (P : Program) (f : Value) (arg : α → List Value) (ok : List α → α → Prop) (ret : Value) (Y : List α → (Nat → Prop) → World → Prop) : Prop where
  keep : ∀ {l O w w'} {M : Nat → Prop}, Y l O w → Upd M w w' → (∀ b, O b → ¬ M b) → Y l O w'
  lt : ∀ {l O w}, Y l O w → ∀ b, O b → b < w.heap.size
  call : ∀ {l O w x}, Y l O w → ok l x → ∀ {K : Value → World → Prop}, (∀ O' w', Y (l ++ [x]) O' w' → Upd O w w' → (∀ b, O' b → O b ∨ w.heap.size ≤ b) → K ret w') → callv P f (arg x) w K

theorem call_clo {P : Program} {f : FuncId} {args cap : List Value} {w : World} {K R : Value → World → Prop} (hb : hasB P f) (h : CallsV P f (args ++ cap).toArray w R) (hk : ∀ v w', R v w' → K v w') :
    callv P (.func (.func f) #[] cap.toArray) args w K := by
  refine ⟨hb.out, ?_⟩
  have e : (#[] ++ args.toArray ++ cap.toArray : Array Value) = (args ++ cap).toArray := by simp
  rw [e]
  exact h.mono hk

def blkS (S : St) (q : List Bytes) : Nat := (S.at_ q).getD 0
/-- What each tells: texts and blocks. -/
def pushT (S : St) (T : PT) (n : Nat) (q : List Bytes) (P : Bytes) : List (Bytes × Nat) := (relT T n q).map fun r => (P ++ joinP r, blkS S (q ++ r))
def pushX (S : St) (T : PT) (n : Nat) (q : List Bytes) (P : Bytes) (x : Bytes) : List (Bytes × Nat) := (P ++ x, blkS S (q ++ [x])) :: (if dirT T (q ++ [x]) then pushT S T n (q ++ [x]) (P ++ x ++ [47]) else [])
theorem pushT_succ {S : St} {T : PT} {m : Nat} (h : Wf T m) (n : Nat) (q : List Bytes) (P : Bytes) : pushT S T (n + 1) q P = (kidsT T q).flatMap (pushX S T n q P) := by
  unfold pushT
  simp only [relT, List.map_flatMap]
  congr 1
  funext x
  unfold pushX
  rw [List.map_cons]
  congr 1
  split
  · unfold pushT
    rw [List.map_map]
    apply List.map_congr_left
    intro r hr
    have := (relT_mem h n hr).1
    show (P ++ joinP (x :: r), blkS S (q ++ x :: r)) = _
    rw [joinP_cons x this]
    simp
  · rfl

def eachArg (x : Bytes × Nat) : List Value := [str x.1, .pointer (some ⟨x.2, 0, none⟩)]
def eachOk (l : List (Bytes × Nat)) (x : Bytes × Nat) : Prop := l.length < 1048576 ∧ x.1.length ≤ 100000
theorem each_spec {t : Nat} {S : St} {T : PT} {F : Nat → Prop} {m : Nat} (hw : Wf T m) (hm : Mt S T) (hm0 : m ≤ 100000) {f : Value} {Y : List (Bytes × Nat) → (Nat → Prop) → World → Prop} (hs : Sink Tryz.prog f eachArg eachOk (.tuple #[]) Y) : ∀ (n : Nat) {w : World} {q : List Bytes} {b : Nat} {P : Bytes} {l : List (Bytes × Nat)} {O : Nat → Prop},
    Rep w t S F → (∀ x, F x → ¬ O x) → Y l O w → S.at_ q = some b → (S.nd b).kind = 2 → q.length + n = 13 → P.length + 49 * n ≤ 99000 → l.length + (relT T n q).length ≤ 1048576 →
    CallsV Tryz.prog f_tree_node_each #[.pointer (some ⟨b, 0, none⟩), str P, f] w fun v w' => v = .tuple #[] ∧ ∃ O', Y (l ++ pushT S T n q P) O' w' ∧ Upd O w w' ∧ (∀ b, O' b → O b ∨ w.heap.size ≤ b) := by
  intro n
  induction n with
  | zero =>
    intro w q b P l O hR hFO hY hb hk hn hP hl
    have := (RightL_iff.1 (hw.right _ (hm.mem hb))).2.1
    simp only at this; omega
  | succ n ih =>
    intro w q b P l O hR hFO hY hb hk hn hP hl
    refine ok_tree_node_each _ _ _ _ _ ?_
    unfold go_tree_node_each
    have hcard : ∀ k, Card (fun x => S.at_ (q ++ [x])) k → k ≤ 1048576 := by
      rintro k ⟨ks, k1, k2, rfl⟩
      have := len_le_of_nodup ks (kidsT T q) k1 fun x hx => by
        obtain ⟨c, hc⟩ := (k2 x).1 hx
        exact mem_kidsT.2 ⟨_, hm.mem hc⟩
      have := kids_len hw q
      omega
    refine call_ok has_tree_node_names (names_spec hR hb hk hcard) ?_
    rintro v w1 ⟨⟨ks, ho, hks⟩, hx1⟩
    have eks : ks = kidsT T q := kids_of_names hw (fun x => by
      constructor
      · rintro ⟨c, hc⟩; exact ⟨_, hm.at_some hc⟩
      · rintro ⟨i, hi⟩; obtain ⟨c, hc, -⟩ := hm.back hi; exact ⟨c, hc⟩) hks
    have hsl := Sl.of_own strE_len ho
    refine hsl.len ?_
    rw [pushT_succ hw, ← eks]
    have hY1 : Y l O w1 := hs.keep hY hx1 fun _ _ f => f
    have hlen : ((ks.flatMap (pushX S T n q P))).length = (relT T (n + 1) q).length := by rw [eks, ← pushT_succ hw]; unfold pushT; rw [List.length_map]
    have hsz := hx1.size
    have hkb : ks.length ≤ m + 1 := by rw [eks]; exact kids_len hw q
    refine ⟨fun g w' => ∃ (k : Nat) (O' : Nat → Prop), k ≤ ks.length ∧ nth g 2 = .int .i64 k ∧ Y (l ++ (ks.take k).flatMap (pushX S T n q P)) O' w' ∧ Upd O w1 w' ∧ (∀ b, O' b → O b ∨ w1.heap.size ≤ b),
      fun g _ => ks.length - ixOf g 2, ⟨0, O, Nat.zero_le _, rfl, by simpa using hY1, .refl _ _, fun _ h => .inl h⟩, ?_⟩
    rintro g z w2 ⟨k, O', hkl, hg2, hY2, hu, hO⟩
    have hu2 : Upd O w w2 := Upd.trans (Ext.to hx1) hu fun _ _ h => h
    have hR2 : Rep w2 t S F := hR.mono hu2 hFO
    have hsl2 : Sl 1 strE w2 v ks := Sl.of_own strE_len (ho.mono hu (fun bb hbb hO => by have := hs.lt hY bb hO; omega) (Nat.le_refl _))
    have hFO' : ∀ x, F x → ¬ O' x := fun x hx hO' => by
      rcases hO x hO' with h | h
      · exact hFO x hx h
      · have := hR.lt x hx; omega
    simp only [hg2, vxs]
    refine cnd_split (fun hc => ?_) (fun hc => ?_)
    · have hlt : k < ks.length := by simp at hc; omega
      refine hsl2.ia strE_len k hlt fun ab ao hr => ?_
      refine hr.ld1 (i := 0) rfl _ ?_
      obtain ⟨x, ex⟩ : ∃ x, x = ks[k] := ⟨_, rfl⟩
      rw [← ex]
      have hxm : x ∈ kidsT T q := by rw [← eks, ex]; exact List.getElem_mem hlt
      obtain ⟨i, hi⟩ := mem_kidsT.1 hxm
      obtain ⟨c, hc, hci⟩ := hm.back (hw.at_iff.2 hi)
      have hri := RightL_iff.1 (hw.right _ hi)
      have hx48 : x.length ≤ 48 := by
        have := (okPart_iff.1 (hri.1 x (by simp))).1
        simp [partB] at this; omega
      have hbn := (hR2.node _ _ hb).1
      obtain ⟨kd, -⟩ := hR2.kids _ _ hb hk
      simp only [vxs, hbn, nodeE, Nat.zero_add]
      rw [kv_dir hk]
      refine kd.lk x ?_
      rw [hc]
      simp only [ptrO]
      refine str_add (by omega) ?_
      have hxs : (ks.take (k + 1)).flatMap (pushX S T n q P) = (ks.take k).flatMap (pushX S T n q P) ++ pushX S T n q P x := by
        rw [List.take_succ_eq_append_getElem hlt, List.flatMap_append, ← ex]; simp
      have hb2 : (ks.take k).flatMap (pushX S T n q P) ++ pushX S T n q P x ++ (ks.drop (k + 1)).flatMap (pushX S T n q P) = ks.flatMap (pushX S T n q P) := by
        rw [← hxs, ← List.flatMap_append, List.take_append_drop]
      have hlb := congrArg List.length hb2
      rw [hlen] at hlb
      have hpl : 1 ≤ (pushX S T n q P x).length := by unfold pushX; simp
      simp only [List.length_append] at hlb
      refine hs.call (x := (P ++ x, c)) hY2 ⟨?_, ?_⟩ fun O3 w3 hY3 hu3 hO3 => ?_
      · simp only [List.length_append]; omega
      · simp only [List.length_append]; omega
      have hu23 : Upd O w1 w3 := Upd.trans hu hu3 fun y hy hh => by
        rcases hO y hh with h | h
        · exact h
        · omega
      have hO3' : ∀ b, O3 b → O b ∨ w1.heap.size ≤ b := fun y hy => by
        rcases hO3 y hy with h | h
        · exact hO y h
        · have := hu.size; right; omega
      have hR3 : Rep w3 t S F := hR.mono (Upd.trans (Ext.to hx1) hu23 fun _ _ h => h) hFO
      have hcn := (hR3.node _ _ hc).1
      have hbk : blkS S (q ++ [x]) = c := by unfold blkS; rw [hc]; rfl
      have again : ∀ (O4 : Nat → Prop) (w4 : World), Y (l ++ (ks.take (k + 1)).flatMap (pushX S T n q P)) O4 w4 → Upd O w1 w4 → (∀ b, O4 b → O b ∨ w1.heap.size ≤ b) →
          bin .add (.int .i64 k) (.int .i64 1) fun t40 => (∃ (k : Nat) (O' : Nat → Prop), k ≤ ks.length ∧ nth [str x, .pointer (some ⟨c, 0, none⟩), t40] 2 = .int .i64 k ∧ Y (l ++ (ks.take k).flatMap (pushX S T n q P)) O' w4 ∧ Upd O w1 w4 ∧ (∀ b, O' b → O b ∨ w1.heap.size ≤ b)) ∧
            ks.length - ixOf [str x, .pointer (some ⟨c, 0, none⟩), t40] 2 < ks.length - ixOf g 2 := fun O4 w4 h1 h2 h3 => by
        refine int_add (by omega) ?_
        refine ⟨⟨k + 1, O4, by omega, by simp only [vxs]; rfl, h1, h2, h3⟩, ?_⟩
        rw [ixOf_of hg2, ixOf_of (n := k + 1) rfl]; omega
      simp only [vxs, Nat.zero_add, hcn, nodeE]
      have hdT : dirT T (q ++ [x]) = ((S.nd c).kind == 2) := by
        unfold dirT; rw [hm.at_some hc]; simp only; rw [hm.kind hc]
      by_cases hck : (S.nd c).kind = 2
      · rw [kv_dir hck]
        simp only [vxs]
        refine str_add (by omega) ?_
        refine str_add (by simp only [List.length_append, List.length_cons, List.length_nil]; omega) ?_
        have hdt : dirT T (q ++ [x]) = true := by rw [hdT]; simp [hck]
        have ep : pushX S T n q P x = (P ++ x, c) :: pushT S T n (q ++ [x]) (P ++ x ++ [47]) := by unfold pushX; rw [if_pos hdt, hbk]
        have hpl2 : (pushX S T n q P x).length = (relT T n (q ++ [x])).length + 1 := by rw [ep]; unfold pushT; simp
        refine call_ok has_tree_node_each (ih (P := P ++ x ++ [47]) hR3 (fun y hy hO' => by
          rcases hO3' y hO' with h | h
          · exact hFO y hy h
          · have := hR.lt y hy; omega) hY3 hc hck (by simp only [List.length_append, List.length_cons, List.length_nil]; omega) (by simp only [List.length_append, List.length_cons, List.length_nil]; omega) (by simp only [List.length_append, List.length_cons, List.length_nil]; omega)) ?_
        rintro _ w4 ⟨-, O4, hY4, hu4, hO4⟩
        refine again O4 w4 ?_ ?_ ?_
        · rw [hxs, ep]
          have e : l ++ ((ks.take k).flatMap (pushX S T n q P) ++ (P ++ x, c) :: pushT S T n (q ++ [x]) (P ++ x ++ [47])) = l ++ (ks.take k).flatMap (pushX S T n q P) ++ [(P ++ x, c)] ++ pushT S T n (q ++ [x]) (P ++ x ++ [47]) := by simp
          rw [e]; exact hY4
        · exact Upd.trans hu23 hu4 fun y hy hh => by
            rcases hO3' y hh with h | h
            · exact h
            · omega
        · intro y hy
          rcases hO4 y hy with h | h
          · exact hO3' y h
          · have := hu23.size; right; omega
      · rw [kv_not hck]
        simp only [vxs]
        have hdt : dirT T (q ++ [x]) = false := by rw [hdT]; simp [hck]
        have ep : pushX S T n q P x = [(P ++ x, c)] := by unfold pushX; rw [if_neg (by rw [hdt]; simp), hbk]
        refine again O3 w3 ?_ hu23 hO3'
        rw [hxs, ep, ← List.append_assoc]; exact hY3
    · have hke : k = ks.length := by simp at hc; omega
      subst hke
      rw [List.take_length] at hY2
      exact ⟨trivial, O', hY2, hu2, fun y hy => by
        rcases hO y hy with h | h
        · exact .inl h
        · right; omega⟩

/-! fits. -/
def fitsY (B : Nat) (l : List (Bytes × Nat)) (O : Nat → Prop) (w : World) : Prop := w.heap[B]? = some (.cells #[.bool (l.all fun x => rightB x.1)] t_bool (0, 0)) ∧ O = fun b => b = B
theorem fits_d1_sink (B : Nat) : Sink Tryz.prog (.func (.func f_tree_node_fits_d1) #[] [Value.pointer (some ⟨B, 0, none⟩)].toArray) eachArg eachOk (.tuple #[]) (fitsY B) where
  keep := by
    rintro l O w w' M ⟨h1, rfl⟩ hu hm
    exact ⟨hu.get h1 (hm B rfl), rfl⟩
  lt := by
    rintro l O w ⟨h1, rfl⟩ b rfl
    exact lt_of_blk h1
  call := by
    rintro l O w x ⟨h1, rfl⟩ ⟨-, hx⟩ K hK
    have fin : ∀ w' (c : Bool), w'.heap[B]? = some (.cells #[.bool (l.all fun x => rightB x.1)] t_bool (0, 0)) → Ext w w' → c = ((l ++ [x]).all fun x => rightB x.1) → st 1 (.pointer (some ⟨B, 0, none⟩)) (.bool c) w' fun w2 => K (.tuple #[]) w2 := fun w' c hb hx' hc => by
      refine st1_in hb rfl (by show 0 < 1; omega) ?_
      refine hK _ _ ⟨?_, rfl⟩ (Upd.trans (Ext.to hx') (setB_upd _ _ _) fun _ _ h => h) fun b hb => .inl hb
      rw [setB_new hb, hc]; rfl
    have hC : CallsV Tryz.prog f_tree_node_fits_d1 (eachArg x ++ [Value.pointer (some ⟨B, 0, none⟩)]).toArray w K := by
      refine ok_tree_node_fits_d1 _ _ _ _ _ ?_
      unfold go_tree_node_fits_d1
      simp only [vxs, h1]
      refine jn_dup ?_
      cases hl : (l.all fun x => rightB x.1) with
      | true =>
        simp only [vxs]
        refine call_ok has_path_Right (Right_spec x.1 (by omega) w) ?_
        rintro _ w2 ⟨rfl, hx2⟩
        intro _
        have h2 := hx2.get h1
        exact fin w2 _ h2 hx2 (by rw [List.all_append, hl]; simp)
      | false =>
        simp only [vxs]
        intro _
        exact fin w _ h1 (.refl _ _) (by rw [List.all_append, hl]; simp)
    exact call_clo has_tree_node_fits_d1 hC fun _ _ h => h
theorem fits_spec {w : World} {t : Nat} {S : St} {T : PT} {F : Nat → Prop} {m : Nat} (hw : Wf T m) (hm : Mt S T) (hm0 : m ≤ 100000) (h : Rep w t S F) {q : List Bytes} {b : Nat} (hb : S.at_ q = some b) (hk : (S.nd b).kind = 2) (p : Bytes) (hp : rightB p = true) (hp0 : p ≠ []) :
    CallsV Tryz.prog f_tree_node_fits #[.pointer (some ⟨b, 0, none⟩), str p] w fun v w' => v = .bool (fitsT T q (split p)) ∧ Ext w w' := by
  refine ok_tree_node_fits _ _ _ _ ?_
  unfold go_tree_node_fits
  refine newx_any fun w1 h1 hx1 hsz => ?_
  obtain ⟨B, eB⟩ : ∃ B, B = w.heap.size := ⟨_, rfl⟩
  rw [← eB] at h1 ⊢
  refine st1_in h1 rfl (by show 0 < 1; omega) ?_
  obtain ⟨w2, ew2⟩ : ∃ w2, w2 = setB w1 B (.cells (([Value.bool false].toArray).setIfInBounds 0 (.bool true)) t_bool (0, 0)) := ⟨_, rfl⟩
  rw [← ew2]
  have hb2 : w2.heap[B]? = some (.cells #[.bool true] t_bool (0, 0)) := by rw [ew2]; exact setB_new h1
  have hx2 : Ext w w2 := by rw [ew2]; exact Upd.trans hx1 (setB_upd _ _ _) fun k hk e => by omega
  have hpl : p.length ≤ 200 := by
    rw [rightB_split, RightL_iff, join_split] at hp; exact hp.2.2
  refine str_add (by simp; omega) ?_
  have hri := (RightL_iff.1 (hw.right _ (hm.mem hb))).2.1
  simp only at hri
  have hn : q.length + (13 - q.length) = 13 := by omega
  have hrl := relT_len hw (13 - q.length) q
  refine call_ok has_tree_node_each (each_spec hw hm hm0 (fits_d1_sink B) (13 - q.length) (P := p ++ [47]) (l := []) (O := fun b => b = B) (h.ext hx2) (fun x hx e => by have := h.lt x hx; omega) ⟨hb2, rfl⟩ hb hk hn (by simp; omega) (by simp only [List.length_nil]; omega)) ?_
  rintro _ w3 ⟨-, O', ⟨h3, -⟩, hu3, -⟩
  simp only [vxs, h3]
  refine ⟨?_, Upd.trans hx2 hu3 fun k hk e => by omega⟩
  congr 1
  rw [← fits_rel hw ⟨_, hm.mem hb⟩ (by rw [← rightB_split]; exact hp)]
  unfold pushT
  rw [List.nil_append, List.all_map]
  rw [Bool.eq_iff_iff, List.all_eq_true, List.all_eq_true]
  have key : ∀ r ∈ relT T (13 - q.length) q, rightB (p ++ [47] ++ joinP r) = RightL (split p ++ r) := fun r hr => by
    obtain ⟨h0, i, hi⟩ := relT_mem hw _ hr
    have hr2 := (RightL_iff.1 (hw.right _ hi)).1
    have hrn : ∀ s ∈ r, 47 ∉ s := fun s hs => (okPart_iff.1 (hr2 s (by simp [hs]))).2
    rw [rightB_split]
    have : split (p ++ [47] ++ joinP r) = split p ++ r := by
      unfold split
      rw [if_neg (by simp), if_neg hp0, List.append_assoc, List.singleton_append, spl_append, spl_join h0 hrn]
    rw [this]
  constructor
  · intro hh r hr
    have := hh r hr
    simp only [Function.comp_apply] at this
    rw [key r hr] at this; exact this
  · intro hh r hr
    have := hh r hr
    simp only [Function.comp_apply]
    rw [key r hr]; exact this

/-! Paths. -/
def pathsY (B : Nat) (l : List (Bytes × Nat)) (O : Nat → Prop) (w : World) : Prop := ∃ v, w.heap[B]? = some (.cells #[v] t_S_string (0, 0)) ∧ Own t_string 1 strE (B + 1) w v (l.map (·.1)) ∧ O = fun b => b = B ∨ ∃ a n c, v = .slice (some a) n c ∧ a.block = b
theorem Own.blk {t : TypeId} {k base : Nat} {α : Type} {enc : α → List Value} {w : World} {v : Value} {xs : List α} (h : Own t k enc base w v xs) {a : Addr} {n c : Nat} (e : v = .slice (some a) n c) : base ≤ a.block ∧ a.block < w.heap.size := by
  rcases h with ⟨h1, -⟩ | ⟨b, cap, cc, h1, h2, h3, -⟩
  · rw [h1] at e; cases e
  · rw [h2] at e; injection e with e; injection e with e; rw [← e]; exact ⟨h1, lt_of_blk h3⟩
theorem Own.one {t : TypeId} {k base : Nat} {α : Type} {enc : α → List Value} {w : World} {v : Value} {xs : List α} (h : Own t k enc base w v xs) : oneCell v = true := by
  rcases h with ⟨rfl, -⟩ | ⟨b, cap, c, _, rfl, _⟩ <;> rfl
theorem Own.keep {t : TypeId} {k base : Nat} {α : Type} {enc : α → List Value} {M : Nat → Prop} {w w' : World} {v : Value} {xs : List α} (h : Own t k enc base w v xs) (hu : Upd M w w') (hm : ∀ a n c, v = .slice (some a) n c → ¬ M a.block) : Own t k enc base w' v xs := by
  rcases h with h | ⟨b, cap, c, h1, h2, h3, h4⟩
  · exact .inl h
  · exact .inr ⟨b, cap, c, h1, h2, hu.get h3 (hm _ _ _ h2), h4⟩
theorem Paths_d1_sink (B : Nat) : Sink Tryz.prog (.func (.func f_tree_Tree_Paths_d1) #[] [Value.pointer (some ⟨B, 0, none⟩)].toArray) eachArg eachOk (.tuple #[]) (pathsY B) where
  keep := by
    rintro l O w w' M ⟨v, h1, h2, rfl⟩ hu hm
    exact ⟨v, hu.get h1 (hm B (.inl rfl)), h2.keep hu fun a n c e => hm _ (.inr ⟨a, n, c, e, rfl⟩), rfl⟩
  lt := by
    rintro l O w ⟨v, h1, h2, rfl⟩ b (rfl | ⟨a, n, c, e, rfl⟩)
    · exact lt_of_blk h1
    · exact (h2.blk e).2
  call := by
    rintro l O w x ⟨v, h1, h2, rfl⟩ ⟨hl, -⟩ K hK
    have hB := lt_of_blk h1
    have hC : CallsV Tryz.prog f_tree_Tree_Paths_d1 (eachArg x ++ [Value.pointer (some ⟨B, 0, none⟩)]).toArray w K := by
      refine ok_tree_Tree_Paths_d1 _ _ _ _ _ ?_
      unfold go_tree_Tree_Paths_d1
      simp only [vxs, h1]
      refine app_str' h2 (by omega) (by rw [List.length_map]; omega) fun v' w' h3 hu hblk => ?_
      have h4 : w'.heap[B]? = some (.cells #[v] t_S_string (0, 0)) := hu.get h1 fun e => by have := e.1; omega
      refine st1_in h4 h3.one (by show 0 < 1; omega) ?_
      have us := setB_upd w' B (.cells (#[v].setIfInBounds 0 v') t_S_string (0, 0))
      refine hK (fun b => b = B ∨ ∃ a n c, v' = .slice (some a) n c ∧ a.block = b) _ ⟨v', setB_new h4, ?_, rfl⟩ ?_ ?_
      · rw [List.map_append]
        exact h3.keep us fun a n c e hh => by have := (h3.blk e).1; omega
      · refine Upd.trans (hu.mono fun k _ e => ?_) us fun k _ e => .inl e
        obtain ⟨-, c, ln, e⟩ := e
        exact .inr ⟨_, _, _, e, rfl⟩
      · rintro b (rfl | ⟨a, n, c, e, rfl⟩)
        · exact .inl (.inl rfl)
        · rcases hblk a n c e with ⟨n', c', e'⟩ | h
          · exact .inl (.inr ⟨a, n', c', e', rfl⟩)
          · exact .inr h
    exact call_clo has_tree_Tree_Paths_d1 hC fun _ _ h => h
end Go.Proofs.YtkpefimnggojdaaGreat.VX

namespace Go.Proofs.YtkpefimnggojdaaGreat.VX
open Go Pl
set_option maxRecDepth 4000

theorem Paths_spec {w : World} {t : Nat} {S : St} {T : PT} {F : Nat → Prop} {m : Nat} (hw : Wf T m) (hm : Mt S T) (hm0 : m ≤ 100000) (h : Rep w t S F) :
    CallsV Tryz.prog f_tree_Tree_Paths #[.pointer (some ⟨t, 0, none⟩)] w fun v w' => Own t_string 1 strE w.heap.size w' v (pathsT T) ∧ Ext w w' := by
  refine ok_tree_Tree_Paths _ _ _ ?_
  unfold go_tree_Tree_Paths
  simp only [vxs]
  obtain ⟨B, eB⟩ : ∃ B, B = w.heap.size := ⟨_, rfl⟩
  rw [← eB]
  obtain ⟨w1, ew1⟩ : ∃ w1, w1 = w.alloc (.cells #[.slice none 0 0] t_S_string) := ⟨_, rfl⟩
  have e1 : [Value.slice none 0 0].toArray = #[.slice none 0 0] := rfl
  rw [← ew1]
  have hx1 : Ext w w1 := by rw [ew1]; exact alloc_ext _ _
  have hb1 : w1.heap[B]? = some (.cells #[.slice none 0 0] t_S_string (0, 0)) := by rw [ew1, eB]; exact alloc_new _ _
  have hR1 := h.ext hx1
  obtain ⟨b, hb, hk⟩ := h.top
  simp only [hR1.tree, vxs]
  rw [hb]
  have hrl := relT_len hw 13 []
  refine call_ok has_tree_node_each (each_spec hw hm hm0 (Paths_d1_sink B) 13 (q := []) (P := []) (l := []) (O := fun k => k = B) hR1 (fun x hx e => by have := h.lt x hx; omega) ⟨_, hb1, .inl ⟨rfl, rfl⟩, by
    funext k; apply propext; constructor
    · exact .inl
    · rintro (h | ⟨a, n, c, h, -⟩)
      · exact h
      · cases h⟩ hb hk rfl (by simp) (by simp only [List.length_nil]; omega)) ?_
  rintro _ w2 ⟨-, O', ⟨v, h2, ho, -⟩, hu2, -⟩
  simp only [vxs, h2]
  have el : (([] : List (Bytes × Nat)) ++ pushT S T 13 [] []).map (·.1) = pathsT T := by
    unfold pushT pathsT
    rw [List.nil_append, List.map_map]; rfl
  rw [el] at ho
  have hx2 : Ext w w2 := Upd.trans hx1 hu2 fun k hk e => by omega
  have hall : ∀ x ∈ pathsT T, x.length ≤ 200 := fun x hx => by
    obtain ⟨r, hr, rfl⟩ := List.mem_map.1 hx
    obtain ⟨-, i, hi⟩ := relT_mem hw 13 hr
    exact (RightL_iff.1 (hw.right _ hi)).2.2
  have hpl : (pathsT T).length ≤ m + 1 := by unfold pathsT; rw [List.length_map]; exact hrl
  refine call_ok has_path_Sort (Sort_spec (Sl.of_own strE_len ho) (paths_ris hw) (by omega) (fun x hx => by have := hall x hx; omega)) ?_
  rintro v3 w3 ⟨ho3, hx3⟩
  have := hx2.size
  rw [eB]
  exact ⟨ho3.mono (.refl (fun _ => False) _) (fun _ _ h => h) this, Ext.trans hx2 hx3⟩

/-! Append. -/
theorem E_u8 : ElemOf Tryz.prog t_S_uint8 t_uint8 1 1 [.int .u8 0] := .mk' (by kernel_rfl) (by kernel_rfl) rfl
theorem u8E_one (x : UInt8) : ∀ v ∈ u8E x, oneCell v = true := by intro v hv; simp [u8E] at hv; subst hv; rfl
def appE (S : St) (p : Bytes) (n : Nat) : Int :=
  if (thereA S p).2.2 ≠ 0 then (thereA S p).2.2
  else match (thereA S p).1 with | none => 0 | some b => if fileE (S.nd b) ≠ 0 then fileE (S.nd b) else if 65536 < (S.nd b).data.length + n then 7 else 0
theorem Append_spec {w : World} {t : Nat} {S : St} {F : Nat → Prop} (h : Rep w t S F) (p : Bytes) (hp : p.length ≤ 4294967290) (v : Value) (bs : Bytes) (hv : ∀ w', Upd F w w' → Sl 1 u8E w' v bs) (hbl : bs.length ≤ 4294967296) (hdl : ∀ q b, S.at_ q = some b → (S.nd b).data.length ≤ 65536) :
    CallsV Tryz.prog f_tree_Tree_Append #[.pointer (some ⟨t, 0, none⟩), str p, v] w fun r w' => r = .int .i64 (appE S p bs.length) ∧ Turned w w' t F (fun S' => if appE S p bs.length = 0 then ∃ b, S.at_ (split p) = some b ∧ Reset S b { S.nd b with data := (S.nd b).data ++ bs } S' else S' = S) := by
  refine ok_tree_Tree_Append _ _ _ _ _ ?_
  unfold go_tree_Tree_Append
  refine call_ok has_tree_Tree_there (there_spec h p hp) ?_
  rintro _ w1 ⟨rfl, hx1⟩
  simp only [tri, vxs]
  refine cnd_split (fun hc => ?_) (fun hc => ?_)
  · have hf : (thereA S p).2.2 ≠ 0 := by simpa using hc
    have e : appE S p bs.length = (thereA S p).2.2 := by unfold appE; rw [if_pos hf]
    exact ⟨by rw [e], .same h hx1 (by rw [e, if_neg hf])⟩
  have hf : (thereA S p).2.2 = 0 := by simpa using hc
  obtain ⟨b, hb1, hat⟩ := thereA_some hf
  have e : appE S p bs.length = if fileE (S.nd b) ≠ 0 then fileE (S.nd b) else if 65536 < (S.nd b).data.length + bs.length then 7 else 0 := by unfold appE; rw [if_neg (by simp [hf]), hb1]
  rw [hb1]
  have hR1 := h.ext hx1
  refine call_ok has_tree_file (file_spec hR1 hat) ?_
  rintro _ w1 ⟨rfl, rfl⟩
  simp only [vxs]
  refine cnd_split (fun hc => ?_) (fun hc => ?_)
  · have hfe : fileE (S.nd b) ≠ 0 := by simpa using hc
    rw [if_pos hfe] at e
    exact ⟨by rw [e], .same h hx1 (by rw [e, if_neg hfe])⟩
  have hfe : fileE (S.nd b) = 0 := by simpa using hc
  rw [if_neg (by simp [hfe])] at e
  have hnb := (hR1.node _ _ hat).1
  obtain ⟨hd1, hd2⟩ := hR1.data _ _ hat
  have hsd := Sl.of_own u8E_len hd1
  have hdl := hdl _ _ hat
  simp only [ptrO, vxs, Nat.zero_add, hnb, nodeE]
  refine hsd.len ?_
  refine (hv w1 (Ext.to hx1)).len ?_
  refine int_add (by omega) ?_
  simp only [vxs]
  refine cnd_split (fun hc => ?_) (fun hc => ?_)
  · have ht : 65536 < (S.nd b).data.length + bs.length := by simp at hc; omega
    rw [if_pos ht] at e
    exact ⟨by rw [e], .same h hx1 (by rw [e]; rfl)⟩
  have ht : ¬ 65536 < (S.nd b).data.length + bs.length := by simp at hc; omega
  rw [if_neg ht] at e
  obtain ⟨dv, edv⟩ : ∃ dv, dv = S.dv b := ⟨_, rfl⟩
  obtain ⟨ds, eds⟩ : ∃ ds, ds = (S.nd b).data := ⟨_, rfl⟩
  obtain ⟨da, dc, edd, edc⟩ : ∃ da dc, dv = .slice da ds.length dc ∧ ds.length ≤ dc := by
    rw [edv, eds]; obtain ⟨a, c, h1, h2, -⟩ := hsd; exact ⟨a, c, h1, h2⟩
  obtain ⟨dv', edv'⟩ : ∃ dv', dv' = Value.slice da ds.length ds.length := ⟨_, rfl⟩
  have hcut : ∀ K : Value → Prop, K dv' → slV 1 dv none (some (.int .i64 ds.length)) (some (.int .i64 ds.length)) K := fun K hK => by
    rw [edd]
    simp only [slV, bndI, Option.isSome_some]
    refine ⟨by omega, by omega, by omega, fun _ => trivial, ?_⟩
    have e0 : (0 : Int).toNat = 0 := rfl
    rw [Int.toNat_natCast, e0]
    rw [edv'] at hK
    by_cases h0 : ds.length = 0
    · rw [if_pos h0, Nat.sub_zero]; exact hK
    · rw [if_neg h0]
      have : da.map (fun x => x.add (0 * 1)) = da := by cases da <;> simp [Addr.add]
      rw [this, Nat.sub_zero]; exact hK
  have hown : ∀ w', Ext w1 w' → Own t_uint8 1 u8E 0 w' dv' ds := fun w' hx' => by
    have := hd1.ext hx'
    rw [← edv, ← eds] at this
    rcases this with ⟨h1, h2⟩ | ⟨b0, cap, c, h1, h2, h3, h4, h5, h6⟩
    · left
      rw [edd] at h1; injection h1 with h1
      rw [edv', h1, h2]; exact ⟨rfl, rfl⟩
    · right
      rw [edd] at h2; injection h2 with h2 h7 h8
      refine ⟨b0, ds.length, c, h1, by rw [edv', h2], h3, ?_, Nat.le_refl _, h6⟩
      have := h5; omega
  have P : Value := .pointer (some ⟨b, 0, none⟩)
  refine drw_seq [undef, undef, .pointer (some ⟨b, 0, none⟩), .pointer (some ⟨b, 10, none⟩), dv, undef, .pointer (some ⟨b, 0, none⟩), .pointer (some ⟨b, 10, none⟩), dv, .int .i64 ds.length, undef, .pointer (some ⟨b, 0, none⟩), .pointer (some ⟨b, 10, none⟩), dv, .int .i64 ds.length, dv']
    (A := [(2, _, _), (3, _, _), (4, _, _), (6, _, _), (7, _, _), (8, _, _), (9, _, _), (11, _, _), (12, _, _), (13, _, _), (14, _, _), (15, _, _)]) (C := [(17, _, _), (18, _, _), (19, _, _), (20, _, _)]) ?_ (by rfl) ?_
  · refine ⟨?_, ?_, ?_, ?_, ?_, ?_, ?_, ?_, ?_, ?_, ?_, ?_, trivial⟩ <;> intro dd w5 q hd5 hx5 hk5 <;>
      simp only [List.mem_cons, List.not_mem_nil, or_false, forall_eq_or_imp, forall_eq, vxs] at hd5 hk5 ⊢
    all_goals first
      | exact hk5 _ (.refl _ _)
      | (rw [hd5]; simp only [vxs, Nat.zero_add]; exact hk5 _ (.refl _ _))
      | (rw [hd5.1]; have hn5 := hx5.get hnb; simp only [vxs, hn5, nodeE]; rw [← edv]; exact hk5 _ (.refl _ _))
      | (rw [hd5.1, edd]; simp only [vxs]; exact hk5 _ (.refl _ _))
      | (rw [hd5.1, hd5.2.1, hd5.2.2.1]; exact hcut _ (hk5 _ (.refl _ _)))
  · intro w5 hx5
    simp only [seqC, knownA, List.map_cons, List.map_nil, List.cons_append, List.nil_append, List.mem_cons, List.not_mem_nil, or_false, forall_eq_or_imp, forall_eq, vxs]
    rintro d k ⟨-, -, -, -, -, -, -, -, -, -, -, h15⟩ hk
    rw [h15]
    refine Own.append' E_u8 (by omega) (by omega) u8E_len u8E_one (hown w5 hx5) (hv w5 (Ext.to (Ext.trans hx1 hx5))) (Nat.zero_le _) (by rw [eds]; omega) fun v6 w6 ho6 hu6 hb6 => hk _ _ ?_
    have hu6 : Ext w5 w6 := hu6.mono fun k _ hh => by
      obtain ⟨-, c, l, q1, q2, q3⟩ := hh
      rw [edv'] at q1; injection q1 with _ q4 q5
      apply q3
      rw [← q4, ← q5] at q2
      exact List.length_eq_zero_iff.1 (by omega)
    have hx6 := Ext.trans hx5 hu6
    rintro d2 k2 - hk2
    refine hk2 _ _ ?_
    rintro d3 k3 hd3 hk3
    simp only [hd3, vxs, Nat.zero_add]
    refine hk3 _ _ ?_
    rintro d4 k4 hd4 hk4
    simp only [hd4]
    refine node_data (Ext.get hx6 hnb) v6 (own_cell ho6) (ds ++ bs) fun w7 h7 u7 => hk4 _ _ ?_
    rintro d5 -
    refine ⟨by rw [e], _, _, (h.ext (Ext.trans hx1 hx6)).setData hat (n := { S.nd b with data := ds ++ bs }) rfl rfl ho6 h7 u7, ?_, ?_, ?_⟩
    · exact Upd.trans (Ext.to (Ext.trans hx1 hx6)) u7 fun k _ e => by rw [e]; exact (h.node _ _ hat).2
    · rintro q (hq | ⟨a, l, c, ea, rfl⟩)
      · exact .inl hq
      · rcases hb6 a l c ea with ⟨n', c', e'⟩ | h9
        · left
          rw [edv'] at e'; injection e' with e' _ _
          exact (h.data _ _ hat).2 a ds.length dc (by rw [← edv, edd, e'])
        · right
          have s1 := hx1.size
          have s2 := hx5.size
          omega
    · show (if appE S p bs.length = 0 then _ else _)
      rw [if_pos e]
      exact ⟨b, hat, v6, by rw [eds]⟩
end Go.Proofs.YtkpefimnggojdaaGreat.VX
