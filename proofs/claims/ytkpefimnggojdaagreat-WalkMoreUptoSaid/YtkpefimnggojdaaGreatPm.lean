/-
  Contracts: metas.
-/
import Derived.Test.YtkpefimnggojdaaGreatPr
set_option linter.all false
namespace Go.Proofs.YtkpefimnggojdaaGreat.VX
open Go Pl
set_option maxRecDepth 4000

structure Meta where
  mode : Int
  sec : Int
  nano : Int
  uid : Int
  gid : Int
  deriving DecidableEq
def metaE (m : Meta) : List Value := [.int .i64 m.mode, .int .i64 m.sec, .int .i64 m.nano, .int .i64 m.uid, .int .i64 m.gid]
def inB (n least most : Int) : Bool := decide (least ≤ n) && decide (n ≤ most)
def okM (m : Meta) : Bool := inB m.mode 0 4095 && inB m.sec (-1099511627776) 1099511627776 && inB m.nano 0 999999999 && inB m.uid 0 2147483647 && inB m.gid 0 2147483647
def ckM (m : Meta) : Int := if okM m then 0 else 2

theorem inB_spec (n least most : Int) (w : World) : CallsV Tryz.prog f_meta_Check_d1 #[.int .i64 n, .int .i64 least, .int .i64 most] w fun v w' => v = .bool (inB n least most) ∧ w' = w := by
  refine ok_meta_Check_d1 _ _ _ _ _ ?_
  unfold go_meta_Check_d1
  simp only [vxs]
  refine gd_and (fun h => ?_) (fun h => ?_)
  · simp only [vxs, inB, h, Bool.true_and]
    exact ⟨trivial, trivial⟩
  · simp [inB, h]

theorem metaCheck_spec (m : Meta) (w : World) : CallsV Tryz.prog f_meta_Check #[.agg (metaE m).toArray] w fun v w' => v = .int .i64 (ckM m) ∧ Ext w w' := by
  refine ok_meta_Check _ _ _ ?_
  unfold go_meta_Check
  refine boxx_ok ?_
  obtain ⟨w1, ew1⟩ : ∃ w1, w1 = w.alloc (.cells (metaE m).toArray t_api_Meta) := ⟨_, rfl⟩
  have hx : Ext w w1 := by rw [ew1]; exact alloc_ext _ _
  have hb : w1.heap[w.heap.size]? = some (.cells (metaE m).toArray t_api_Meta (0, 0)) := by rw [ew1]; exact alloc_new _ _
  rw [← ew1]
  simp only [hb, metaE, vxs, Nat.zero_add]
  refine call_ok has_meta_Check_d1 (inB_spec _ _ _ _) ?_
  rintro _ w1 ⟨rfl, rfl⟩
  have bad : okM m = false → (Value.int .i64 2 = .int .i64 (ckM m) ∧ Ext w w1) := fun h => ⟨by simp [ckM, h], hx⟩
  have step : ∀ {rest : Value → World → Prop} (x : Int) (a b : Int), rest (.bool (inB x a b)) w1 → callv Tryz.prog (fnv f_meta_Check_d1) [.int .i64 x, .int .i64 a, .int .i64 b] w1 rest := fun x a b h => by
    refine call_ok has_meta_Check_d1 (inB_spec x a b w1) ?_
    rintro _ _ ⟨rfl, rfl⟩
    exact h
  refine gd_and (fun h0 => ?_) (fun h0 => gd_and (fun h => nomatch h) fun _ => gd_and (fun h => nomatch h) fun _ => gd_and (fun h => nomatch h) fun _ => bad (by simp [okM, h0]))
  simp only [hb, metaE, vxs, Nat.zero_add]
  refine step _ _ _ (gd_and (fun h1 => ?_) (fun h1 => gd_and (fun h => nomatch h) fun _ => gd_and (fun h => nomatch h) fun _ => bad (by simp [okM, h1])))
  simp only [hb, metaE, vxs, Nat.zero_add]
  refine step _ _ _ (gd_and (fun h2 => ?_) (fun h2 => gd_and (fun h => nomatch h) fun _ => bad (by simp [okM, h2])))
  simp only [hb, metaE, vxs, Nat.zero_add]
  refine step _ _ _ (gd_and (fun h3 => ?_) (fun h3 => bad (by simp [okM, h3])))
  simp only [hb, metaE, vxs, Nat.zero_add]
  refine step _ _ _ ?_
  refine cnd_split (fun h4 => ⟨?_, hx⟩) (fun h4 => bad (by simp [okM, h4]))
  have : okM m = true := by simp only [okM, h0, h1, h2, h3, h4, Bool.and_self]
  simp [ckM, this]
end Go.Proofs.YtkpefimnggojdaaGreat.VX
