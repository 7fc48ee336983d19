/-
  The rows of types in the program's table that appends ask for, and encodings.
-/
import Derived.Test.YtkpefimnggojdaaGreatVk
import Derived.Test.YtkpefimnggojdaaGreatVn
import Derived.Test.YtkpefimnggojdaaGreatLa
import Derived.Test.YtkpefimnggojdaaGreatProg
import Derived.KernelRfl
set_option linter.all false
namespace Go.Proofs.YtkpefimnggojdaaGreat.VX
open Go

theorem ElemOf.mk' {P : Program} {T t : TypeId} {k bytes : Nat} {zs : List Value} (h : P.underlying T = some (.slice t)) (hi : (P.info? t).map (fun i => (i.size, i.bytes, i.zero.map (·.cells.toList))) = some (k, bytes, some zs)) (hl : zs.length = k) : ElemOf P T t k bytes zs := by
  refine ⟨h, ?_, hl⟩
  cases hh : P.info? t with
  | none => rw [hh] at hi; cases hi
  | some i =>
    rw [hh] at hi
    simp only [Option.map_some, Option.some.injEq, Prod.mk.injEq] at hi
    obtain ⟨h1, h2, h3⟩ := hi
    cases hz : i.zero with
    | none => rw [hz] at h3; cases h3
    | some z => rw [hz] at h3; simp only [Option.map_some, Option.some.injEq] at h3; exact ⟨i, z, rfl, h1, h2, hz, h3⟩

abbrev Bytes := List UInt8
def strE (s : Bytes) : List Value := [str s]
theorem strE_len (s : Bytes) : (strE s).length = 1 := rfl
theorem strE_one (s : Bytes) : ∀ v ∈ strE s, oneCell v = true := by intro v hv; simp [strE] at hv; subst hv; rfl

theorem E_string : ElemOf Tryz.prog t_S_string t_string 1 16 [str []] := .mk' (by kernel_rfl) (by kernel_rfl) rfl

/-- A slice of one text. -/
theorem one_str {w : World} {s : Bytes} : Sl 1 strE (w.alloc (.cells [str s].toArray t_string)) (.slice (some ⟨w.heap.size, 0, none⟩) 1 1) [s] :=
  ⟨_, _, rfl, Nat.le_refl _, fun _ => ⟨_, _, rfl, _, _, _, alloc_new _ _, by simp [strE], by simp [strE]⟩⟩
theorem bsl_str {w : World} {s : Bytes} {K : Value → World → Prop} (h : K (.slice (some ⟨w.heap.size, 0, none⟩) 1 1) (w.alloc (.cells [str s].toArray t_string))) : bsl t_string 1 [str []] [(0, 1, str s)] w K := h
/-- out = append(out, s) for a slice of texts. -/
theorem app_str' {w : World} {s : Bytes} {base : Nat} {v : Value} {xs : List Bytes} (hv : Own t_string 1 strE base w v xs) (hb : base ≤ w.heap.size) (hn : xs.length + 1 ≤ 4294967296) {K : Value → World → Prop}
    (hK : ∀ v' w', Own t_string 1 strE base w' v' (xs ++ [s]) → Upd (fun b => base ≤ b ∧ ∃ c l, v = .slice (some ⟨b, 0, none⟩) l c) w w' → (∀ a n c, v' = .slice (some a) n c → (∃ n c, v = .slice (some a) n c) ∨ w.heap.size ≤ a.block) → K v' w') :
    bsl t_string 1 [str []] [(0, 1, str s)] w fun t w1 => rn Tryz.prog (Builtin.append_ #[t_S_string, t_S_string] t_S_string ([v, t] : List Value).toArray) w1 K := by
  refine bsl_str ?_
  refine Own.append' E_string (by omega) (by omega) strE_len strE_one (hv.ext (alloc_ext _ _)) one_str (by rw [alloc_size]; omega) hn fun v' w' h1 h2 h3 => hK v' w' h1 ?_ fun a n c e => (h3 a n c e).imp id fun h => by rw [alloc_size] at h; omega
  exact Upd.trans (alloc_upd _ _ _) h2 fun _ _ ⟨q1, c, l, q2, _⟩ => ⟨q1, c, l, q2⟩
theorem app_str {w : World} {s : Bytes} {base : Nat} {v : Value} {xs : List Bytes} (hv : Own t_string 1 strE base w v xs) (hb : base ≤ w.heap.size) (hn : xs.length + 1 ≤ 4294967296) {K : Value → World → Prop}
    (hK : ∀ v' w', Own t_string 1 strE base w' v' (xs ++ [s]) → Upd (fun b => base ≤ b ∧ ∃ c l, v = .slice (some ⟨b, 0, none⟩) l c) w w' → K v' w') :
    bsl t_string 1 [str []] [(0, 1, str s)] w fun t w1 => rn Tryz.prog (Builtin.append_ #[t_S_string, t_S_string] t_S_string ([v, t] : List Value).toArray) w1 K :=
  app_str' hv hb hn fun v' w' a b _ => hK v' w' a b
end Go.Proofs.YtkpefimnggojdaaGreat.VX
