/-
  WalkMore, lifted: where what it reads is of bulk at most 1048576, it returns true and what was handed in reads as it did.
-/
import Derived.Test.YtkpefimnggojdaaGreatQn
import Derived.Test.YtkpefimnggojdaaGreatRa
import Derived.WalkKit
import Derived.ProofKit
set_option linter.all false
namespace Go.Proofs.YtkpefimnggojdaaGreat.VX
open Go Pl
set_option maxRecDepth 100000
open Go.ChangeShapes Go.WideShapes Go.ChangeAt Go.RowKit

theorem own_knob : ownKnob Tryz.prog.godebug = none := by kernel_rfl
theorem stay_walk : ∀ t ∈ Tryz.f3.params.toList, t < Tryz.prog.types.size ∧ Tryz.prog.readableRec t = true := by
  rw [Tryz.params3]
  intro t ht
  simp only [List.mem_cons, List.not_mem_nil, or_false] at ht
  rcases ht with rfl | rfl | rfl <;> exact ⟨of_decide_eq_true (by kernel_rfl), by kernel_rfl⟩

theorem cells_one {v v' : Value} (h : v.cells.toList = [v']) (ho : ∀ cs, v ≠ .agg cs) : v = v' := by
  cases v <;> first | (exact absurd rfl (ho _)) | (simpa [Value.cells] using h)

theorem walk_contract (H : Type) (enc : TypeId × Value → H) (W : World) (base : Nat) (args : Array Value) (ds gs : List (DataW H)) (before : List MemPlace)
    (hval : ∀ (j : Nat) t v, Tryz.f3.params[j]? = some t → args[j]? = some v → Value.okWide Tryz.prog W .any base t v)
    (hW : DataW.Whole enc Tryz.prog Tryz.f3.params.toList Rows.walkMoreSpec.vars false W args.toList ds gs before) (hk : Rows.uptoSmall H (ds ++ gs) = true) :
    Calls Tryz.prog 3 args W fun e W' => ∃ v, e = .returned v ∧ Rows.walkMoreSpec.post enc Tryz.prog Tryz.f3 false true false false W args v W' := by
  have hW' := hW
  obtain ⟨p, q, hA0, hV, rfl, hfz, hnd⟩ := hW
  have hA : DataW.TrodAll enc Tryz.prog W 0 (fun _ => true) true Tryz.f3.params.toList args.toList ds p := hA0
  rw [Tryz.params3] at hA hval
  obtain ⟨v0, vs0, d0, ds0, p0, q0, hargs, rfl, rfl, h0, r0⟩ := trodAll_cons hA
  obtain ⟨v1, vs1, d1, ds1, p1, q1, rfl, rfl, rfl, h1, r1⟩ := trodAll_cons r0
  obtain ⟨v2, vs2, d2, ds2, p2, q2, rfl, rfl, rfl, h2, r2⟩ := trodAll_cons r1
  obtain ⟨rfl, rfl, rfl⟩ := trodAll_nil r2
  obtain rfl : args = #[v0, v1, v2] := by cases args; simp_all
  obtain ⟨rfl, rfl⟩ := trodVars_none hV
  simp only [List.append_nil] at hk hW'
  have hb : Rows.uptoBulk d0 + (Rows.uptoBulk d1 + Rows.uptoBulk d2) ≤ 1048576 := by
    unfold Rows.uptoSmall at hk
    have h := of_decide_eq_true hk
    simp only [Rows.uptoBulkAll, Nat.add_zero] at h
    exact h
  obtain ⟨a0, n0, c0, rfl⟩ := okWide_slice (Tryz.underlying22) (hval 0 22 v0 rfl rfl)
  obtain ⟨a1, n1, c1, rfl⟩ := okWide_slice (Tryz.underlying23) (hval 1 23 v1 rfl rfl)
  obtain ⟨s2, rfl⟩ := okWide_string (Tryz.underlying9) (hval 2 9 v2 rfl rfl)
  obtain ⟨_, h0⟩ := h0
  obtain ⟨_, h1⟩ := h1
  obtain ⟨_, h2⟩ := h2
  obtain ⟨av, acts, ea, _, ha, hal, _⟩ := open_acts h0
  obtain ⟨lv, L, el, h1c, hl, hL, hp⟩ := open_rules h1
  obtain ⟨pat, ep, hpb⟩ := open_str u_str h2
  simp only [Value.cells, List.cons.injEq, and_true] at ea el ep
  subst ea el
  rw [ep]
  have hpat : pat.length + 1 ≤ 1048576 := by
    have : Rows.uptoBulk d2 = pat.length + 1 := hpb
    omega
  have hal' : acts.length + 1 ≤ 1048576 := by
    have : acts.length + 1 ≤ Rows.uptoBulk d0 := hal
    omega
  have hL' : Rows.uptoBulk d1 ≤ 1048576 := by omega
  refine CallsV.mono (R' := fun v W' => Rows.walkMoreSpec.post enc Tryz.prog Tryz.f3 false true false false W #[.slice a0 n0 c0, .slice a1 n1 c1, str pat] v W')
    (WalkMore_spec ha hl h1c (by omega) (by have : L.length + 1 ≤ Rows.uptoBulk d1 := hL; omega) (fun r hr => by have : r.pat.length ≤ Rows.uptoBulk d1 := hp r hr; omega) (by omega)) fun v W' ⟨he, hx⟩ => ?_
  subst he
  rw [← ep]
  exact post_ext hW' rfl hx stay_walk (fun _ _ _ => trodAll_cons_mk (shut_bool u_bool _) trodAll_mk0) rfl rfl (ok_one (by kernel_rfl) rfl (okWide_bool_mk u_bool _))

theorem walk_lifted (os : Os) (started : os.Started) (H : Type) (enc : TypeId × Value → H) (F : Stop.Interp) :
    ReturnsInHanded {} Tryz.checked os 3 .any ((Rows.OpenSpec.upto Rows.walkMoreSpec).pre6 enc Tryz.prog Tryz.f3 Rows.walkMoreUptoRow.domain false) (((Rows.OpenSpec.upto Rows.walkMoreSpec).at F).post enc Tryz.prog Tryz.f3 false true false false) := by
  refine returnsInHanded_of_cond (C := Tryz.checked) (s := Rows.OpenSpec.upto Rows.walkMoreSpec) (k := Rows.uptoSmall) rfl own_knob started (by kernel_rfl) Tryz.func3
    (OpenSpec.witness (enc := enc) (C := Tryz.checked) (s := Rows.OpenSpec.upto Rows.walkMoreSpec) (k := Rows.uptoSmall) rfl false ⟨#[], #[.slice none 0 0, .slice none 0 0, .string .empty], []⟩ 8 (by kernel_rfl) (by kernel_rfl) (by kernel_rfl)
      (x := ([.nil, .nil, .lit (.string [])], [], [])) (by kernel_rfl) rfl (by kernel_rfl)) ?_
  intro W base args ds gs before hval hW _ hk _
  exact walk_contract H enc W base args ds gs before hval hW hk

theorem walk_more_said : Rows.WalkMoreUptoSaid :=
  OpenClaim.holds_of_cond 3 Tryz.f3 rfl rfl rfl rfl rfl rfl rfl ⟨rfl, rfl, rfl, rfl, rfl⟩ rfl rfl rfl rfl rfl (by kernel_rfl) Tryz.func3 (by kernel_rfl)
    (of_decide_eq_true (by kernel_rfl)) (by unfold Func.isWrapper; first | (rw [if_pos (by decide +kernel)]; kernel_rfl) | (rw [if_neg (by decide +kernel)]; exact ⟨rfl, rfl⟩))
    (fun os started H enc _ F => walk_lifted os started H enc F)
end Go.Proofs.YtkpefimnggojdaaGreat.VX
