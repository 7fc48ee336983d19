/-
  Contracts: an act on a tree (Do), a tree of acts (Build).
  Contracts: an act on a tree (Do), a tree of acts (Build), whether acts are few and light (Small).
-/
import Derived.Test.YtkpefimnggojdaaGreatQc
import Derived.Test.YtkpefimnggojdaaGreatVp3
set_option linter.all false
namespace Go.Proofs.YtkpefimnggojdaaGreat.VX
open Go Pl
set_option maxRecDepth 4000

/-- In memory lies the tree T, in the blocks F. -/
def TreeAt (w : World) (t : Nat) (T : PT) (F : Nat → Prop) : Prop := ∃ S, Rep w t S F ∧ Mt S T
theorem TreeAt.ext {w w' : World} {t : Nat} {T : PT} {F : Nat → Prop} (h : TreeAt w t T F) (hx : Ext w w') : TreeAt w' t T F := by
  obtain ⟨S, h1, h2⟩ := h; exact ⟨S, h1.ext hx, h2⟩
theorem TreeAt.mono {w w' : World} {t : Nat} {T : PT} {F M : Nat → Prop} (h : TreeAt w t T F) (hu : Upd M w w') (hm : ∀ b, F b → ¬ M b) : TreeAt w' t T F := by
  obtain ⟨S, h1, h2⟩ := h; exact ⟨S, h1.mono hu hm, h2⟩
theorem TreeAt.lt {w : World} {t : Nat} {T : PT} {F : Nat → Prop} (h : TreeAt w t T F) : ∀ b, F b → b < w.heap.size := by
  obtain ⟨S, h1, _⟩ := h; exact h1.lt
/-- What a call has made of a tree. -/
def Made (w w' : World) (t : Nat) (F : Nat → Prop) (T : PT) : Prop := ∃ F', TreeAt w' t T F' ∧ Upd F w w' ∧ (∀ b, F' b → F b ∨ w.heap.size ≤ b)
theorem Made.of {w w' : World} {t : Nat} {F : Nat → Prop} {Q : St → Prop} {T : PT} (h : Turned w w' t F Q) (hq : ∀ S', Q S' → Mt S' T) : Made w w' t F T := by
  obtain ⟨S', F', h1, h2, h3, h4⟩ := h
  exact ⟨F', ⟨S', h1, hq _ h4⟩, h2, h3⟩
theorem mayT_eq (p : Bytes) (m : Meta) : mayT p m = mayE p m := rfl

variable {w : World} {t : Nat} {S : St} {T : PT} {F : Nat → Prop} {m : Nat}
theorem nextOk (hw : Wf T m) (hm : Mt S T) (hm0 : m ≤ 100000) : 0 ≤ S.next ∧ S.next ≤ 4294967296 := by
  have := hw.nx; rw [hm.next]; omega
theorem Mkdir_T (hw : Wf T m) (hm : Mt S T) (hm0 : m ≤ 100000) (h : Rep w t S F) (p : Bytes) (hp : p.length ≤ 4294967290) (mt : Meta) :
    CallsV Tryz.prog f_tree_Tree_Mkdir #[.pointer (some ⟨t, 0, none⟩), str p, .agg (metaE mt).toArray] w fun v w' => v = .int .i64 (mkdirT T p mt).2 ∧ Made w w' t F (mkdirT T p mt).1 := by
  have e : mkdirE' T p mt = mkdirE S p mt := by unfold mkdirE' mkdirE; rw [hm.fresh, mayT_eq]
  refine (Mkdir_spec h p hp mt (nextOk hw hm hm0)).mono ?_
  rintro v w' ⟨rfl, ht⟩
  unfold mkdirT
  rw [e]
  by_cases h0 : mkdirE S p mt = 0
  · rw [if_pos h0]
    refine ⟨by rw [h0], .of ht fun S' hq => ?_⟩
    rw [if_pos h0] at hq
    have hf : freshT T p = 0 := (mkdirE_ok (by rw [e]; exact h0)).2
    have hno := hm.at_none.1 (freshT_ok hw hf).2.2.1
    exact hm.add hw hno ⟨rfl, rfl⟩ rfl hq
  · rw [if_neg h0]
    refine ⟨rfl, .of ht fun S' hq => ?_⟩
    rw [if_neg h0] at hq; rw [hq]; exact hm
theorem Symlink_T (hw : Wf T m) (hm : Mt S T) (hm0 : m ≤ 100000) (h : Rep w t S F) (p to : Bytes) (hp : p.length ≤ 4294967290) (mt : Meta) :
    CallsV Tryz.prog f_tree_Tree_Symlink #[.pointer (some ⟨t, 0, none⟩), str p, str to, .agg (metaE mt).toArray] w fun v w' => v = .int .i64 (symT T p to mt).2 ∧ Made w w' t F (symT T p to mt).1 := by
  have e : symE' T p to mt = symE S p to mt := by unfold symE' symE; rw [hm.fresh, mayT_eq]
  refine (Symlink_spec h p to hp mt (nextOk hw hm hm0)).mono ?_
  rintro v w' ⟨rfl, ht⟩
  unfold symT
  rw [e]
  by_cases h0 : symE S p to mt = 0
  · rw [if_pos h0]
    refine ⟨by rw [h0], .of ht fun S' hq => ?_⟩
    rw [if_pos h0] at hq
    have hf : freshT T p = 0 := (symE_ok (by rw [e]; exact h0)).2.2.2
    have hno := hm.at_none.1 (freshT_ok hw hf).2.2.1
    exact hm.add hw hno ⟨rfl, rfl⟩ rfl hq
  · rw [if_neg h0]
    refine ⟨rfl, .of ht fun S' hq => ?_⟩
    rw [if_neg h0] at hq; rw [hq]; exact hm
theorem Write_T (hw : Wf T m) (hm : Mt S T) (hm0 : m ≤ 100000) (h : Rep w t S F) (p : Bytes) (hp : p.length ≤ 4294967290) (v : Value) (bs : Bytes) (hv : ∀ w', Upd F w w' → Sl 1 u8E w' v bs) (mt : Meta) :
    CallsV Tryz.prog f_tree_Tree_Write #[.pointer (some ⟨t, 0, none⟩), str p, v, .agg (metaE mt).toArray] w fun v w' => v = .int .i64 (writeT T p bs mt).2 ∧ Made w w' t F (writeT T p bs mt).1 := by
  have e : writeE' T p bs.length mt = writeE S p bs.length mt := by
    unfold writeE' writeE; rw [hm.look, mayT_eq]
    simp only
    cases hh : (lookA S p).1 with
    | none => rfl
    | some b =>
      simp only [Option.map_some]
      by_cases hz : (lookA S p).2.2 = 0
      · rw [hm.file (q := split p) (by rw [look_at h hz]; exact hh)]
      · simp only [ne_eq, hz, not_false_eq_true, if_true]
  refine (Write_spec h p hp v bs hv mt (nextOk hw hm hm0)).mono ?_
  rintro v w' ⟨rfl, ht⟩
  unfold writeT
  rw [e]
  by_cases h0 : writeE S p bs.length mt = 0
  · rw [if_pos h0]
    obtain ⟨-, -, hl, -⟩ := writeE_ok (by rw [e]; exact h0)
    have hl' : (lookA S p).2.2 = 0 := by rw [hm.look] at hl; exact hl
    have hat := look_at h hl'
    rw [hm.look p]
    simp only
    cases hh : (lookA S p).1 with
    | none =>
      rw [hh] at hat
      refine ⟨by rw [h0]; rfl, .of ht fun S' hq => ?_⟩
      rw [if_pos h0] at hq
      unfold Wrote at hq
      rw [hat] at hq
      obtain ⟨S1, b, q1, q2, q3⟩ := hq
      have m1 := hm.add hw (y := ⟨1, ⟨0, 0, 0, 0, 0⟩, [], []⟩) hat ⟨rfl, rfl⟩ rfl q1
      have hb1 : (S1.nd b).ino = T.next ∧ (S1.nd b).kind = 1 ∧ (S1.nd b).links = 1 := by
        obtain ⟨nb, mb, hf, rfl⟩ := q1
        have : b = nb := by
          have : (if split p = split p then some nb else S.at_ (split p)) = some b := q2
          rw [if_pos rfl] at this; injection this with this; exact this.symm
        subst this
        have : (addS S (split p) b mb ⟨1, S.next, 1, ⟨0, 0, 0, 0, 0⟩, [], []⟩).nd b = ⟨1, S.next, 1, ⟨0, 0, 0, 0, 0⟩, [], []⟩ := upN_self _ _ _
        rw [this]; exact ⟨hm.next, rfl, rfl⟩
      have m2 := m1.reset (y := ⟨1, mt, [], bs⟩) q2 (by rw [hb1.1, ← hm.next]) (by rw [hb1.2.1]) (by rw [hb1.2.2]) rfl q3
      rw [hb1.1] at m2
      have e2 : (makeT T p ⟨1, mt, [], bs⟩ : PT) = ⟨(makeT T p ⟨1, ⟨0, 0, 0, 0, 0⟩, [], []⟩).L, upI (makeT T p ⟨1, ⟨0, 0, 0, 0, 0⟩, [], []⟩).th T.next ⟨1, mt, [], bs⟩, (makeT T p ⟨1, ⟨0, 0, 0, 0, 0⟩, [], []⟩).next⟩ := by
        unfold makeT
        simp only
        congr 1
        funext k
        unfold upI
        split <;> rfl
      show Mt S' (makeT T p ⟨1, mt, [], bs⟩)
      rw [e2]; exact m2
    | some b =>
      rw [hh] at hat
      refine ⟨by rw [h0]; rfl, .of ht fun S' hq => ?_⟩
      rw [if_pos h0] at hq
      unfold Wrote at hq
      rw [hat] at hq
      have := hm.reset (n := { S.nd b with data := bs, mt := mt }) (y := { T.th (S.nd b).ino with data := bs, mt := mt }) hat rfl rfl rfl (by rw [hm.th _ _ hat]) hq
      exact this
  · rw [if_neg h0]
    refine ⟨rfl, .of ht fun S' hq => ?_⟩
    rw [if_neg h0] at hq; rw [hq]; exact hm
theorem Append_T (hw : Wf T m) (hm : Mt S T) (h : Rep w t S F) (p : Bytes) (hp : p.length ≤ 4294967290) (v : Value) (bs : Bytes) (hv : ∀ w', Upd F w w' → Sl 1 u8E w' v bs) (hbl : bs.length ≤ 4294967296) :
    CallsV Tryz.prog f_tree_Tree_Append #[.pointer (some ⟨t, 0, none⟩), str p, v] w fun v w' => v = .int .i64 (appT T p bs).2 ∧ Made w w' t F (appT T p bs).1 := by
  have hdl : ∀ q b, S.at_ q = some b → (S.nd b).data.length ≤ 65536 := fun q b hb => by
    have := (hw.thing _ (hm.mem hb)).big
    rw [hm.th _ _ hb] at this; exact this
  have e : appE' T p bs.length = appE S p bs.length := by
    unfold appE' appE; rw [hm.there]
    simp only
    by_cases hz : (thereA S p).2.2 = 0
    · obtain ⟨b, h1, h2⟩ := thereA_some hz
      rw [h1]
      simp only [Option.map_some]
      rw [hm.file h2, hm.th _ _ h2]
    · rw [if_pos hz, if_pos hz]
  refine (Append_spec h p hp v bs hv hbl hdl).mono ?_
  rintro v w' ⟨rfl, ht⟩
  unfold appT
  rw [e]
  by_cases h0 : appE S p bs.length = 0
  · rw [if_pos h0]
    obtain ⟨hl, i, hi, -⟩ := appE_ok (by rw [e]; exact h0)
    have hl' : (thereA S p).2.2 = 0 := by rw [hm.there] at hl; exact hl
    obtain ⟨b, h1, h2⟩ := thereA_some hl'
    rw [hm.there p]
    simp only [h1, Option.map_some]
    refine ⟨by rw [h0], .of ht fun S' hq => ?_⟩
    rw [if_pos h0] at hq
    obtain ⟨b', h3, h4⟩ := hq
    rw [h2] at h3; injection h3 with h3; subst h3
    refine hm.reset (n := { S.nd b with data := (S.nd b).data ++ bs }) h2 rfl rfl rfl ?_ h4
    rw [hm.th _ _ h2]
  · rw [if_neg h0]
    refine ⟨rfl, .of ht fun S' hq => ?_⟩
    rw [if_neg h0] at hq; rw [hq]; exact hm
theorem Set_T (hw : Wf T m) (hm : Mt S T) (h : Rep w t S F) (p : Bytes) (hp : p.length ≤ 4294967290) (mt : Meta) :
    CallsV Tryz.prog f_tree_Tree_Set #[.pointer (some ⟨t, 0, none⟩), str p, .agg (metaE mt).toArray] w fun v w' => v = .int .i64 (setT T p mt).2 ∧ Made w w' t F (setT T p mt).1 := by
  have e : setE' T p mt = setE S p mt := by unfold setE' setE; rw [hm.there, mayT_eq]
  refine (Set_spec h p hp mt).mono ?_
  rintro v w' ⟨rfl, ht⟩
  unfold setT
  rw [e]
  by_cases h0 : setE S p mt = 0
  · rw [if_pos h0]
    have hl' : (thereA S p).2.2 = 0 := by
      unfold setE at h0
      split at h0
      · rename_i h1; exact absurd h0 h1
      · exact h0
    obtain ⟨b, h1, h2⟩ := thereA_some hl'
    rw [hm.there p]
    simp only [h1, Option.map_some]
    refine ⟨by rw [h0], .of ht fun S' hq => ?_⟩
    rw [if_pos h0] at hq
    obtain ⟨b', h3, h4⟩ := hq
    rw [h2] at h3; injection h3 with h3; subst h3
    refine hm.reset (n := { S.nd b with mt := mt }) h2 rfl rfl rfl ?_ h4
    rw [hm.th _ _ h2]
  · rw [if_neg h0]
    refine ⟨rfl, .of ht fun S' hq => ?_⟩
    rw [if_neg h0] at hq; rw [hq]; exact hm
theorem Link_T (hw : Wf T m) (hm : Mt S T) (hm0 : m ≤ 100000) (h : Rep w t S F) (old p : Bytes) (ho : old.length ≤ 4294967290) (hp : p.length ≤ 4294967290) :
    CallsV Tryz.prog f_tree_Tree_Link #[.pointer (some ⟨t, 0, none⟩), str old, str p] w fun v w' => v = .int .i64 (linkT T old p).2 ∧ Made w w' t F (linkT T old p).1 := by
  have e : linkE' T old p = linkE S old p := by
    unfold linkE' linkE; rw [hm.there, hm.fresh]
    simp only
    by_cases hz : (thereA S old).2.2 = 0
    · obtain ⟨b, h1, h2⟩ := thereA_some hz
      rw [h1]
      simp only [Option.map_some]
      rw [hm.file h2]
    · simp only [ne_eq, hz, not_false_eq_true, if_true]
  refine (Link_spec h old p ho hp (hm.bnd hw hm0)).mono ?_
  rintro v w' ⟨rfl, ht⟩
  unfold linkT
  rw [e]
  by_cases h0 : linkE S old p = 0
  · rw [if_pos h0]
    obtain ⟨-, -, hl, i, hi, hfi, hf⟩ := linkE_ok (by rw [e]; exact h0)
    have hl' : (thereA S old).2.2 = 0 := by rw [hm.there] at hl; exact hl
    obtain ⟨b, h1, h2⟩ := thereA_some hl'
    rw [hm.there old]
    simp only [h1, Option.map_some]
    refine ⟨by rw [h0], .of ht fun S' hq => ?_⟩
    rw [if_pos h0] at hq
    have hno := hm.at_none.1 (freshT_ok hw hf).2.2.1
    obtain ⟨b', h3, h4⟩ := hm.linked hw hno hq
    rw [h2] at h3; injection h3 with h3; subst h3
    exact h4
  · rw [if_neg h0]
    refine ⟨rfl, .of ht fun S' hq => ?_⟩
    rw [if_neg h0] at hq; rw [hq]; exact hm
theorem Remove_T (hw : Wf T m) (hm : Mt S T) (hm0 : m ≤ 100000) (h : Rep w t S F) (p : Bytes) (hp : p.length ≤ 4294967290) :
    CallsV Tryz.prog f_tree_Tree_Remove #[.pointer (some ⟨t, 0, none⟩), str p] w fun v w' => v = .int .i64 (remT T p).2 ∧ Made w w' t F (remT T p).1 := by
  have ek : (∃ y b, S.at_ (split p ++ [y]) = some b) ↔ hasKid T (split p) = true := by
    unfold hasKid
    rw [List.any_eq_true]
    constructor
    · rintro ⟨y, b, hb⟩
      exact ⟨_, hm.mem hb, childOf_iff.2 ⟨y, rfl⟩⟩
    · rintro ⟨x, hx, hc⟩
      obtain ⟨y, hy⟩ := childOf_iff.1 hc
      obtain ⟨b, hb, -⟩ := hm.back (hw.at_iff.2 (show (split p ++ [y], x.2) ∈ T.L by rw [← hy]; exact hx))
      exact ⟨y, b, hb⟩
  have e : remE' T p = remE S p := by
    unfold remE' remE; rw [hm.there]
    simp only
    have e2 : (if hasKid T (split p) = true then (14 : Int) else 0) = @ite _ (∃ y b, S.at_ (split p ++ [y]) = some b) (Classical.propDecidable _) 14 0 := by
      by_cases hh : ∃ y b, S.at_ (split p ++ [y]) = some b
      · rw [if_pos (ek.1 hh), if_pos hh]
      · rw [if_neg (fun h => hh (ek.2 h)), if_neg hh]
    rw [e2]
  refine (Remove_spec h p hp (hm.bnd hw hm0)).mono ?_
  rintro v w' ⟨rfl, ht⟩
  unfold remT
  rw [e]
  by_cases h0 : remE S p = 0
  · rw [if_pos h0]
    refine ⟨by rw [h0], .of ht fun S' hq => ?_⟩
    rw [if_pos h0] at hq
    obtain ⟨b, hb, rfl⟩ := hq
    exact hm.dropped hw hb
  · rw [if_neg h0]
    refine ⟨rfl, .of ht fun S' hq => ?_⟩
    rw [if_neg h0] at hq; rw [hq]; exact hm
theorem Rename_T (hw : Wf T m) (hm : Mt S T) (hm0 : m ≤ 100000) (h : Rep w t S F) (old p : Bytes) (ho : old.length ≤ 4294967290) (hp : p.length ≤ 4294967290) :
    CallsV Tryz.prog f_tree_Tree_Rename #[.pointer (some ⟨t, 0, none⟩), str old, str p] w fun v w' => v = .int .i64 (renT T old p).2 ∧ Made w w' t F (renT T old p).1 := by
  refine (Rename_spec hw hm hm0 h old p ho hp).mono ?_
  rintro v w' ⟨rfl, ht⟩
  refine ⟨?_, .of ht fun S' hq => hq⟩
  congr 1
  unfold renT
  split
  · rename_i h0
    rw [h0]
    split
    · rfl
    · split
      · rfl
      · split <;> rfl
  · rfl
end Go.Proofs.YtkpefimnggojdaaGreat.VX

namespace Go.Proofs.YtkpefimnggojdaaGreat.VX
open Go Pl
set_option maxRecDepth 4000

theorem lds_at {w : World} {b o n : Nat} {vs mid : List Value} {t : TypeId} {f : Nat × Nat} (h : w.heap[b]? = some (.cells vs.toArray t f)) (hl : o + n ≤ vs.length) (hm : (vs.drop o).take n = mid) {K : Value → Prop} (hk : K (.agg mid.toArray)) : ldS n (.pointer (some ⟨b, o, none⟩)) w K := by
  have hn : mid.length = n := by rw [← hm, List.length_take, List.length_drop]; omega
  have hr : Row w b o mid := ⟨vs.toArray, t, f, h, by rw [hn]; exact hl, by rw [hn]; exact hm⟩
  have := hr.ldn K hk
  rw [hn] at this; exact this

def deedE (x : Deed × Value) : List Value := [.int .i64 x.1.act, str x.1.path, str x.1.to, x.2, .int .i64 x.1.mt.mode, .int .i64 x.1.mt.sec, .int .i64 x.1.mt.nano, .int .i64 x.1.mt.uid, .int .i64 x.1.mt.gid]
theorem deedE_len (x : Deed × Value) : (deedE x).length = 9 := rfl
theorem Made.ext {w0 w w' : World} {t : Nat} {F : Nat → Prop} {T : PT} (h : Made w w' t F T) (hx : Ext w0 w) : Made w0 w' t F T := by
  obtain ⟨F', h1, h2, h3⟩ := h
  have := hx.size
  exact ⟨F', h1, Upd.trans (Ext.to hx) h2 fun _ _ h => h, fun b hb => (h3 b hb).imp id fun h => by omega⟩
theorem Made.same {w w' : World} {t : Nat} {F : Nat → Prop} {T : PT} (h : TreeAt w t T F) (hx : Ext w w') : Made w w' t F T := ⟨F, h.ext hx, Ext.to hx, fun _ hb => .inl hb⟩

theorem Do_spec {W0 w : World} {t : Nat} {T : PT} {F : Nat → Prop} {m : Nat} (hw : Wf T m) (hm0 : m ≤ 100000) (h : TreeAt w t T F) (hx0 : Ext W0 w) (hF : ∀ b, F b → W0.heap.size ≤ b) (a : Deed) (v : Value) (hv : Sl 1 u8E W0 v a.data)
    (hp : a.path.length ≤ 4294967290) (ht : a.to.length ≤ 4294967290) (hd : a.data.length ≤ 4294967296) :
    CallsV Tryz.prog f_remoralaw17_Do #[.pointer (some ⟨t, 0, none⟩), .agg (deedE (a, v)).toArray] w fun r w' => r = .int .i64 (doT T a).2 ∧ Made w w' t F (doT T a).1 := by
  refine ok_remoralaw17_Do _ _ _ _ ?_
  unfold go_remoralaw17_Do
  refine boxx_ok ?_
  obtain ⟨w1, ew1⟩ : ∃ w1, w1 = w.alloc (.cells (deedE (a, v)).toArray t_remoraref17_Act) := ⟨_, rfl⟩
  have hx1 : Ext w w1 := by rw [ew1]; exact alloc_ext _ _
  have hb : w1.heap[w.heap.size]? = some (.cells (deedE (a, v)).toArray t_remoraref17_Act (0, 0)) := by rw [ew1]; exact alloc_new _ _
  rw [← ew1]
  obtain ⟨S, hR0, hm⟩ := h
  have hR := hR0.ext hx1
  have hv1 : ∀ w', Upd F w1 w' → Sl 1 u8E w' v a.data := fun w' hu => hv.ext (Upd.trans (Ext.trans hx0 hx1) hu fun k hk hf => by have := hF k hf; omega)
  have hmeta : ∀ K : Value → Prop, K (.agg (metaE a.mt).toArray) → ldS 5 (.pointer (some ⟨w.heap.size, 4, none⟩)) w1 K := fun K hK => lds_at hb (by show 4 + 5 ≤ 9; omega) rfl hK
  simp only [vxs, hb, deedE, Nat.zero_add]
  have e : doT T a = if a.act = 0 then mkdirT T a.path a.mt else if a.act = 1 then writeT T a.path a.data a.mt else if a.act = 2 then symT T a.path a.to a.mt
      else if a.act = 3 then linkT T a.path a.to else if a.act = 4 then remT T a.path else if a.act = 5 then renT T a.path a.to
      else if a.act = 6 then setT T a.path a.mt else if a.act = 7 then appT T a.path a.data else (T, 0) := rfl
  have fin : ∀ {r : Value} {w' : World} {x : PT × Int}, doT T a = x → (r = .int .i64 x.2 ∧ Made w1 w' t F x.1) → (r = .int .i64 (doT T a).2 ∧ Made w w' t F (doT T a).1) := fun hx h => by rw [hx]; exact ⟨h.1, h.2.ext hx1⟩
  refine cnd_split (fun hc => ?_) (fun hc => ?_)
  · have hc : a.act = 0 := by simpa using hc
    rw [if_pos hc] at e
    refine hmeta _ ?_
    exact call_ok has_tree_Tree_Mkdir (Mkdir_T hw hm hm0 hR a.path hp a.mt) fun _ _ h => fin e h
  have h0 : ¬ a.act = 0 := by simpa using hc
  rw [if_neg h0] at e
  refine cnd_split (fun hc => ?_) (fun hc => ?_)
  · have hc : a.act = 1 := by simpa using hc
    rw [if_pos hc] at e
    refine hmeta _ ?_
    exact call_ok has_tree_Tree_Write (Write_T hw hm hm0 hR a.path hp v a.data hv1 a.mt) fun _ _ h => fin e h
  have h0 : ¬ a.act = 1 := by simpa using hc
  rw [if_neg h0] at e
  refine cnd_split (fun hc => ?_) (fun hc => ?_)
  · have hc : a.act = 2 := by simpa using hc
    rw [if_pos hc] at e
    refine hmeta _ ?_
    exact call_ok has_tree_Tree_Symlink (Symlink_T hw hm hm0 hR a.path a.to hp a.mt) fun _ _ h => fin e h
  have h0 : ¬ a.act = 2 := by simpa using hc
  rw [if_neg h0] at e
  refine cnd_split (fun hc => ?_) (fun hc => ?_)
  · have hc : a.act = 3 := by simpa using hc
    rw [if_pos hc] at e
    exact call_ok has_tree_Tree_Link (Link_T hw hm hm0 hR a.path a.to hp ht) fun _ _ h => fin e h
  have h0 : ¬ a.act = 3 := by simpa using hc
  rw [if_neg h0] at e
  refine cnd_split (fun hc => ?_) (fun hc => ?_)
  · have hc : a.act = 4 := by simpa using hc
    rw [if_pos hc] at e
    exact call_ok has_tree_Tree_Remove (Remove_T hw hm hm0 hR a.path hp) fun _ _ h => fin e h
  have h0 : ¬ a.act = 4 := by simpa using hc
  rw [if_neg h0] at e
  refine cnd_split (fun hc => ?_) (fun hc => ?_)
  · have hc : a.act = 5 := by simpa using hc
    rw [if_pos hc] at e
    exact call_ok has_tree_Tree_Rename (Rename_T hw hm hm0 hR a.path a.to hp ht) fun _ _ h => fin e h
  have h0 : ¬ a.act = 5 := by simpa using hc
  rw [if_neg h0] at e
  refine cnd_split (fun hc => ?_) (fun hc => ?_)
  · have hc : a.act = 6 := by simpa using hc
    rw [if_pos hc] at e
    refine hmeta _ ?_
    exact call_ok has_tree_Tree_Set (Set_T hw hm hR a.path hp a.mt) fun _ _ h => fin e h
  have h0 : ¬ a.act = 6 := by simpa using hc
  rw [if_neg h0] at e
  refine cnd_split (fun hc => ?_) (fun hc => ?_)
  · have hc : a.act = 7 := by simpa using hc
    rw [if_pos hc] at e
    exact call_ok has_tree_Tree_Append (Append_T hw hm hR a.path hp v a.data hv1 hd) fun _ _ h => fin e h
  have h0 : ¬ a.act = 7 := by simpa using hc
  rw [if_neg h0] at e
  exact fin e ⟨rfl, F, ⟨S, hR, hm⟩, .refl _ _, fun _ h => .inl h⟩

/-- Acts as they lie in memory. -/
structure ActsAt (w : World) (v : Value) (l : List (Deed × Value)) : Prop where
  sl : Sl 9 deedE w v l
  data : ∀ x ∈ l, Sl 1 u8E w x.2 x.1.data
structure Light (l : List Deed) : Prop where
  len : l.length ≤ 40
  each : ∀ a ∈ l, a.data.length ≤ 400 ∧ a.path.length ≤ 600 ∧ a.to.length ≤ 600
theorem ActsAt.ext {w w' : World} {v : Value} {l : List (Deed × Value)} (h : ActsAt w v l) (hx : Ext w w') : ActsAt w' v l := ⟨h.sl.ext hx, fun x hm => (h.data x hm).ext hx⟩

theorem Build_spec {w : World} {v : Value} {l : List (Deed × Value)} (h : ActsAt w v l) (hl : Light (l.map (·.1))) :
    CallsV Tryz.prog f_remoralaw17_Build #[v] w fun r w' => ∃ t F, r = .pointer (some ⟨t, 0, none⟩) ∧ TreeAt w' t (buildT (l.map (·.1))) F ∧ Ext w w' ∧ (∀ b, F b → w.heap.size ≤ b) := by
  refine ok_remoralaw17_Build _ _ _ ?_
  unfold go_remoralaw17_Build
  refine call_ok has_tree_New (New_spec w) ?_
  rintro _ w1 ⟨⟨t, nb, mb, F, rfl, hR, hF⟩, hx1⟩
  have hm0 : Mt (newS nb mb) newT := by
    refine ⟨fun q => ?_, fun q b hb => ?_, fun p q b c hb hc _ => ?_, rfl, fun q b hb => ?_⟩
    · show look1 [([], 1)] q = _
      simp only [look1, newS]
      by_cases e : q = []
      · subst e; rfl
      · rw [if_neg (fun h => e h.symm), if_neg e]; rfl
    · rfl
    · have hb : (if p = [] then some nb else none) = some b := hb
      have hc : (if q = [] then some nb else none) = some c := hc
      split at hb
      · split at hc
        · injection hb with hb; injection hc with hc; rw [← hb, ← hc]
        · cases hc
      · cases hb
    · rfl
  have hlen := hl.len
  rw [List.length_map] at hlen
  refine ⟨fun g w' => ∃ (k : Nat) (F : Nat → Prop), k ≤ l.length ∧ nth g 0 = .int .i64 k ∧ TreeAt w' t (buildT ((l.map (·.1)).take k)) F ∧ Ext w w' ∧ (∀ b, F b → w.heap.size ≤ b), fun g _ => l.length - ixOf g 0, ⟨0, F, Nat.zero_le _, rfl, ⟨_, hR, hm0⟩, hx1, hF⟩, ?_⟩
  rintro g z w2 ⟨k, F2, hk, hg, hT, hx2, hF2⟩
  refine h.sl.len ?_
  simp only [hg, vxs]
  refine cnd_split (fun hc => ?_) (fun hc => ?_)
  · have hlt : k < l.length := by simp at hc; omega
    refine (h.sl.ext hx2).lds deedE_len k hlt ?_
    have hmem : l[k] ∈ l := List.getElem_mem hlt
    obtain ⟨h1, h2, h3⟩ := hl.each l[k].1 (List.mem_map.2 ⟨_, hmem, rfl⟩)
    have hwf := wf_build ((l.map (·.1)).take k)
    refine call_ok has_remoralaw17_Do (Do_spec hwf (by rw [List.length_take]; omega) hT hx2 hF2 l[k].1 l[k].2 (h.data _ hmem) (by omega) (by omega) (by omega)) ?_
    rintro _ w3 ⟨-, F3, hT3, hu3, hF3⟩
    have hx3 : Ext w w3 := Upd.trans hx2 hu3 fun b hb hf => by have := hF2 b hf; omega
    have e : buildT ((l.map (·.1)).take (k + 1)) = (doT (buildT ((l.map (·.1)).take k)) l[k].1).1 := by
      unfold buildT
      rw [List.take_succ_eq_append_getElem (by simpa using hlt), List.foldl_append]
      simp
    refine int_add (by omega) ⟨⟨k + 1, F3, by omega, rfl, by rw [e]; exact hT3, hx3, fun b hb => ?_⟩, ?_⟩
    · rcases hF3 b hb with h | h
      · exact hF2 b h
      · have := hx2.size; omega
    · rw [ixOf_of hg, ixOf_of (n := k + 1) rfl]; omega
  · have hke : k = l.length := by simp at hc; omega
    subst hke
    rw [List.take_of_length_le (by simp)] at hT
    exact ⟨t, F2, rfl, hT, hx2, hF2⟩

def smallB (l : List Deed) : Bool := l.all (fun a => decide (a.data.length ≤ 400) && decide (a.path.length ≤ 600) && decide (a.to.length ≤ 600)) && decide (l.length ≤ 40)
theorem smallB_iff {l : List Deed} : smallB l = true ↔ Light l := by
  unfold smallB
  simp only [Bool.and_eq_true, List.all_eq_true, decide_eq_true_eq]
  exact ⟨fun ⟨h1, h2⟩ => ⟨h2, fun a ha => ⟨(h1 a ha).1.1, (h1 a ha).1.2, (h1 a ha).2⟩⟩, fun ⟨h1, h2⟩ => ⟨fun a ha => ⟨⟨(h2 a ha).1, (h2 a ha).2.1⟩, (h2 a ha).2.2⟩, h1⟩⟩
theorem Row.pick {w : World} {b off : Nat} {vs : List Value} {v : Value} (h : Row w b off vs) (i : Nat) (hi : vs[i]? = some v) : cellIn w.heap[b]? (off + i) = some v := by
  have := h.ld1 hi (fun u => u = v) rfl
  rw [vxs.2.2.2.2.2.2.2.2.2.2.2.2.1] at this
  cases hc : cellIn w.heap[b]? (off + i) with
  | none => rw [hc] at this; exact this.elim
  | some u => rw [hc] at this; exact congrArg some this
theorem Small_spec {w : World} {v : Value} {l : List (Deed × Value)} (h : ActsAt w v l) (hl : l.length ≤ 9223372036854775806) :
    CallsV Tryz.prog f_remoraref17_Small #[v] w fun r w' => r = .bool (smallB (l.map (·.1))) ∧ w' = w := by
  refine ok_remoraref17_Small _ _ _ ?_
  unfold go_remoraref17_Small
  refine ⟨fun g w' => ∃ k : Nat, k ≤ l.length ∧ nth g 1 = .int .i64 k ∧ w' = w ∧ (∀ x ∈ l.take k, x.1.data.length ≤ 400 ∧ x.1.path.length ≤ 600 ∧ x.1.to.length ≤ 600), fun g _ => l.length - ixOf g 1, ⟨0, Nat.zero_le _, rfl, rfl, by simp⟩, ?_⟩
  rintro g z w1 ⟨k, hk, hg, rfl, hall⟩
  refine h.sl.len ?_
  simp only [hg, vxs]
  have no : ∀ x ∈ l, ¬ (x.1.data.length ≤ 400 ∧ x.1.path.length ≤ 600 ∧ x.1.to.length ≤ 600) → smallB (l.map (·.1)) = false := fun x hx hn => by
    cases hs : smallB (l.map (·.1)) with
    | false => rfl
    | true => exact absurd ((smallB_iff.1 hs).each x.1 (List.mem_map.2 ⟨x, hx, rfl⟩)) hn
  refine cnd_split (fun hc => ?_) (fun hc => ?_)
  · have hlt : k < l.length := by simp at hc; omega
    have hmem : l[k] ∈ l := List.getElem_mem hlt
    obtain ⟨a, cap, rfl, hcp, hrr⟩ := id h.sl
    obtain ⟨b, off, rfl, hrow⟩ := hrr (by intro e; subst e; simp at hlt)
    have hr := hrow.at deedE_len k hlt
    have hia : ∀ K : Value → Prop, K (.pointer (some ⟨b, off + k * 9, none⟩)) → ia 9 (.slice (some ⟨b, off, none⟩) l.length cap) (.int .i64 k) K := fun K hK => by
      refine ⟨⟨by omega, by omega⟩, ?_⟩
      rw [addr_add, Int.toNat_natCast]; exact hK
    have c1 := hr.pick 1 (v := str l[k].1.path) rfl
    have c2 := hr.pick 2 (v := str l[k].1.to) rfl
    have c3 := hr.pick 3 (v := l[k].2) rfl
    refine hia _ ?_
    simp only [vxs, c3]
    refine (h.data _ hmem).len ?_
    simp only [vxs]
    have go : (¬ l[k].1.data.length ≤ 400 ∨ ¬ l[k].1.path.length ≤ 600 ∨ ¬ l[k].1.to.length ≤ 600) → Value.bool false = .bool (smallB (l.map (·.1))) ∧ True := fun hh => ⟨by rw [no _ hmem (by omega)], trivial⟩
    have on : l[k].1.data.length ≤ 400 → l[k].1.path.length ≤ 600 → l[k].1.to.length ≤ 600 → bin .add (.int .i64 k) (.int .i64 1) fun t9 => (∃ k : Nat, k ≤ l.length ∧ nth [nth g 0, t9] 1 = .int .i64 k ∧ True ∧ (∀ x ∈ l.take k, x.1.data.length ≤ 400 ∧ x.1.path.length ≤ 600 ∧ x.1.to.length ≤ 600)) ∧ l.length - ixOf [nth g 0, t9] 1 < l.length - ixOf g 1 := fun h1 h2 h3 => by
      refine int_add (by omega) ⟨⟨k + 1, by omega, rfl, trivial, fun x hx => ?_⟩, ?_⟩
      · rw [List.take_succ_eq_append_getElem hlt] at hx
        rcases List.mem_append.1 hx with hx | hx
        · exact hall x hx
        · rw [List.mem_singleton.1 hx]; exact ⟨h1, h2, h3⟩
      · rw [ixOf_of hg, ixOf_of (n := k + 1) rfl]; omega
    refine gd_or (fun hc => ?_) (fun hc => ?_)
    · have h1 : l[k].1.data.length ≤ 400 := by simp at hc; omega
      refine hia _ ?_
      simp only [vxs, c1]
      refine gd_or (fun hc => ?_) (fun hc => ?_)
      · have h2 : l[k].1.path.length ≤ 600 := by simp at hc; omega
        refine hia _ ?_
        simp only [vxs, c2]
        refine cnd_split (fun hc => ?_) (fun hc => ?_)
        · exact go (.inr (.inr (by simp at hc; omega)))
        · exact on h1 h2 (by simp at hc; omega)
      · simp only [vxs]
        exact go (.inr (.inl (by simp at hc; omega)))
    · simp only [vxs]
      refine jn_dup fun _ => ?_
      simp only [vxs]
      exact go (.inl (by simp at hc; omega))
  · have hke : k = l.length := by simp at hc; omega
    subst hke
    rw [List.take_length] at hall
    refine h.sl.len ?_
    simp only [vxs]
    refine ⟨?_, trivial⟩
    congr 1
    rw [Bool.eq_iff_iff, smallB_iff, decide_eq_true_eq]
    constructor
    · intro hh
      exact ⟨by rw [List.length_map]; omega, fun a ha => by obtain ⟨x, hx, rfl⟩ := List.mem_map.1 ha; exact hall x hx⟩
    · intro hh
      have := hh.len; rw [List.length_map] at this; omega
end Go.Proofs.YtkpefimnggojdaaGreat.VX
