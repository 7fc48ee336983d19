/-
  Functions of the program by name; printed by program (wip/mkfn.py).
-/
import Derived.Test.YtkpefimnggojdaaGreatVn
import Derived.Test.YtkpefimnggojdaaGreatProg
set_option linter.all false
namespace Go.Proofs.YtkpefimnggojdaaGreat.VX
open Go
noncomputable abbrev fn_walk_List : Func := Tryz.f12
theorem fun_walk_List : Tryz.prog.funcs[f_walk_List]? = some fn_walk_List := Tryz.func12
end Go.Proofs.YtkpefimnggojdaaGreat.VX
