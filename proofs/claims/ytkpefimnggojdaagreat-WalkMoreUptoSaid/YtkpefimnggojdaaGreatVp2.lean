/-
  The functions of the program as predicates, printed by program (wip/tpl/Gen.lean) out of the dump; each is held against the dump by the kernel.
-/
import Derived.Test.YtkpefimnggojdaaGreatVn
import Derived.Test.YtkpefimnggojdaaGreatProg
import Derived.KernelRfl
set_option linter.all false
namespace Go.Proofs.YtkpefimnggojdaaGreat.VX
open Go
set_option maxRecDepth 20000

/-- (*remora/tree.Tree).Paths -/
def go_tree_Tree_Paths (t0 : Value) (w : World) (R : Value → World → Prop) : Prop :=
  binP .eql t0 (.pointer none) w fun t5 =>
  cnd t5 (R (.slice none 0 0) w) (
  newx [(.slice none 0 0)] t_S_string w fun l3 w_1 =>
    nck t0 fun t7 =>
    fa 0 t7 fun t8 =>
    ld t8 w_1 fun t9 =>
    callv Tryz.prog (fnv f_tree_node_each) [t9, (str []), (.func (.func f_tree_Tree_Paths_d1) #[] #[l3])] w_1 fun t11 w_2 =>
    ld l3 w_2 fun t12 =>
    callv Tryz.prog (fnv f_path_Sort) [t12] w_2 fun t13 w_3 =>
    R t13 w_3)
theorem ok_tree_Tree_Paths (t0 : Value) (w : World) (R : Value → World → Prop) (h : go_tree_Tree_Paths t0 w R) : CallsV Tryz.prog f_tree_Tree_Paths #[t0] w R :=
  calls_of_vx Tryz.func9 (by rw [show vxF Tryz.prog Tryz.f9 [t0] w R = go_tree_Tree_Paths t0 w R by kernel_rfl]; exact h)
theorem has_tree_Tree_Paths : hasB Tryz.prog f_tree_Tree_Paths := .mk' (fn := Tryz.f9) Tryz.func9 (by decide) rfl

/-- remora/tree.New -/
def go_tree_New (w : World) (R : Value → World → Prop) : Prop :=
  bld [(.pointer none), (.int .i64 0)] [(1, 1, (.int .i64 2))] fun t2 =>
  boxx t_tree_Tree t2 w fun t3 w_1 =>
  bld [(.int .i64 0), (.int .i64 0), (.int .i64 0), (.int .i64 0), (.int .i64 0)] [(0, 1, (.int .i64 493))] fun t5 =>
  bld [(.int .i64 0), (.int .i64 0), (.int .i64 0), (.int .i64 0), (.int .i64 0), (.int .i64 0), (.int .i64 0), (.int .i64 0), (.int .i64 0), (str [])] [(0, 1, (.int .i64 2)), (1, 1, (.int .i64 1)), (3, 1, (.int .i64 1)), (4, 5, t5)] fun t6 =>
  mkmap w_1 fun t7 w_2 =>
  bld [(.int .i64 0), (.int .i64 0), (.int .i64 0), (.int .i64 0), (.int .i64 0), (.int .i64 0), (.int .i64 0), (.int .i64 0), (.int .i64 0), (str []), (.slice none 0 0), (.map none)] [(0, 10, t6), (11, 1, t7)] fun t8 =>
  boxx t_tree_node t8 w_2 fun t9 w_3 =>
  nck t3 fun t10 =>
  fa 0 t10 fun t11 =>
  st 1 t11 t9 w_3 fun w_4 =>
  R t3 w_4
theorem ok_tree_New (w : World) (R : Value → World → Prop) (h : go_tree_New  w R) : CallsV Tryz.prog f_tree_New #[] w R :=
  calls_of_vx Tryz.func27 (by rw [show vxF Tryz.prog Tryz.f27 [] w R = go_tree_New  w R by kernel_rfl]; exact h)
theorem has_tree_New : hasB Tryz.prog f_tree_New := .mk' (fn := Tryz.f27) Tryz.func27 (by decide) rfl

/-- (*remora/tree.Tree).Mkdir -/
def go_tree_Tree_Mkdir (t0 p1 m2 : Value) (w : World) (R : Value → World → Prop) : Prop :=
  boxx t_api_Meta m2 w fun m5 w_1 =>
  ldS 5 m5 w_1 fun t12 =>
  callv Tryz.prog (fnv f_tree_Tree_may) [t0, p1, t12] w_1 fun t13 w_2 =>
  bin .neq t13 (.int .i64 0) fun t15 =>
  cnd t15 (R t13 w_2) (
  callv Tryz.prog (fnv f_tree_Tree_fresh) [t0, p1] w_2 fun t20 w_3 =>
    ex t20 0 fun t21 =>
    ex t20 1 fun t22 =>
    bin .neq t22 (.int .i64 0) fun t24 =>
    cnd t24 (R t22 w_3) (
    ldS 5 m5 w_3 fun t29 =>
      bld [(.int .i64 0), (.int .i64 0), (.int .i64 0), (.int .i64 0), (.int .i64 0), (.int .i64 0), (.int .i64 0), (.int .i64 0), (.int .i64 0), (str [])] [(0, 1, (.int .i64 2)), (4, 5, t29)] fun t30 =>
      mkmap w_3 fun t31 w_4 =>
      bld [(.int .i64 0), (.int .i64 0), (.int .i64 0), (.int .i64 0), (.int .i64 0), (.int .i64 0), (.int .i64 0), (.int .i64 0), (.int .i64 0), (str []), (.slice none 0 0), (.map none)] [(0, 10, t30), (11, 1, t31)] fun t32 =>
      boxx t_tree_node t32 w_4 fun t33 w_5 =>
      callv Tryz.prog (fnv f_tree_Tree_put) [t0, t21, p1, t33] w_5 fun t34 w_6 =>
      R (.int .i64 0) w_6))
theorem ok_tree_Tree_Mkdir (t0 p1 m2 : Value) (w : World) (R : Value → World → Prop) (h : go_tree_Tree_Mkdir t0 p1 m2 w R) : CallsV Tryz.prog f_tree_Tree_Mkdir #[t0, p1, m2] w R :=
  calls_of_vx Tryz.func28 (by rw [show vxF Tryz.prog Tryz.f28 [t0, p1, m2] w R = go_tree_Tree_Mkdir t0 p1 m2 w R by kernel_rfl]; exact h)
theorem has_tree_Tree_Mkdir : hasB Tryz.prog f_tree_Tree_Mkdir := .mk' (fn := Tryz.f28) Tryz.func28 (by decide) rfl

/-- (*remora/tree.Tree).Write -/
def go_tree_Tree_Write (t0 p1 b2 m3 : Value) (w : World) (R : Value → World → Prop) : Prop :=
  boxx t_api_Meta m3 w fun m7 w_1 =>
  ldS 5 m7 w_1 fun t16 =>
  callv Tryz.prog (fnv f_tree_Tree_may) [t0, p1, t16] w_1 fun t17 w_2 =>
  bin .neq t17 (.int .i64 0) fun t19 =>
  cnd t19 (R t17 w_2) (
  lenV b2 fun t22 =>
    bin .gtr t22 (.int .i64 65536) fun t23 =>
    cnd t23 (R (.int .i64 7) w_2) (
    callv Tryz.prog (fnv f_tree_Tree_look) [t0, p1] w_2 fun t27 w_3 =>
      ex t27 0 fun t28 =>
      ex t27 1 fun t29 =>
      ex t27 2 fun t30 =>
      bin .neq t30 (.int .i64 0) fun t32 =>
      cnd t32 (R t30 w_3) (
      jn (fun g z w_4 => /- 0:n10 1:e13 2:t8 -/
          callv Tryz.prog (fnv f_bytes_Clone) [b2] w_4 fun t51 w_5 =>
          nck (nth g 0) fun t52 =>
          fa 10 t52 fun t53 =>
          st 1 t53 t51 w_5 fun w_6 =>
          ldS 5 m7 w_6 fun t55 =>
          nck (nth g 0) fun t56 =>
          fa 0 t56 fun t57 =>
          fa 4 t57 fun t58 =>
          st 5 t58 t55 w_6 fun w_7 =>
          R (.int .i64 0) w_7) fun J =>
        binP .eql t28 (.pointer none) w_3 fun t35 =>
        cnd t35 (bld [(.int .i64 0), (.int .i64 0), (.int .i64 0), (.int .i64 0), (.int .i64 0), (.int .i64 0), (.int .i64 0), (.int .i64 0), (.int .i64 0), (str [])] [(0, 1, (.int .i64 1))] fun t36 =>
          bld [(.int .i64 0), (.int .i64 0), (.int .i64 0), (.int .i64 0), (.int .i64 0), (.int .i64 0), (.int .i64 0), (.int .i64 0), (.int .i64 0), (str []), (.slice none 0 0), (.map none)] [(0, 10, t36)] fun t37 =>
          boxx t_tree_node t37 w_3 fun t38 w_8 =>
          callv Tryz.prog (fnv f_tree_Tree_put) [t0, t29, p1, t38] w_8 fun t43 w_9 =>
          J [t38, undef, (.int .i64 0)] w_9) (
        callv Tryz.prog (fnv f_tree_file) [t28] w_3 fun t45 w_10 =>
          bin .neq t45 (.int .i64 0) fun t47 =>
          cnd t47 (R t45 w_10) (
          J [t28, t45, (.int .i64 0)] w_10)))))
theorem ok_tree_Tree_Write (t0 p1 b2 m3 : Value) (w : World) (R : Value → World → Prop) (h : go_tree_Tree_Write t0 p1 b2 m3 w R) : CallsV Tryz.prog f_tree_Tree_Write #[t0, p1, b2, m3] w R :=
  calls_of_vx Tryz.func29 (by rw [show vxF Tryz.prog Tryz.f29 [t0, p1, b2, m3] w R = go_tree_Tree_Write t0 p1 b2 m3 w R by kernel_rfl]; exact h)
theorem has_tree_Tree_Write : hasB Tryz.prog f_tree_Tree_Write := .mk' (fn := Tryz.f29) Tryz.func29 (by decide) rfl

/-- (*remora/tree.Tree).Link -/
def go_tree_Tree_Link (t0 old1 p2 : Value) (w : World) (R : Value → World → Prop) : Prop :=
  binP .eql t0 (.pointer none) w fun t13 =>
  cnd t13 (R (.int .i64 1) w) (
  callv Tryz.prog (fnv f_path_Right) [old1] w fun t15 w_1 =>
    un .not t15 fun t16 =>
    jn (fun g z w_2 => /- 0:t20 -/
      pickx t16 (.bool true) (nth g 0) fun t21 =>
      cnd t21 (R (.int .i64 9) w_2) (
      callv Tryz.prog (fnv f_tree_Tree_there) [t0, old1] w_2 fun t25 w_3 =>
        ex t25 0 fun t26 =>
        ex t25 1 fun t27 =>
        ex t25 2 fun t28 =>
        bin .neq t28 (.int .i64 0) fun t30 =>
        cnd t30 (R t28 w_3) (
        callv Tryz.prog (fnv f_tree_file) [t26] w_3 fun t33 w_4 =>
          bin .neq t33 (.int .i64 0) fun t35 =>
          cnd t35 (R t33 w_4) (
          callv Tryz.prog (fnv f_tree_Tree_fresh) [t0, p2] w_4 fun t40 w_5 =>
            ex t40 0 fun t41 =>
            ex t40 1 fun t42 =>
            bin .neq t42 (.int .i64 0) fun t44 =>
            cnd t44 (R t42 w_5) (
            drw [(1, [], fun d w_6 k => nck t41 fun x => k x w_6),
                (2, [1], fun d w_6 k => fa 11 (d 1) fun x => k x w_6),
                (3, [2, 1], fun d w_6 k => ld (d 2) w_6 fun x => k x w_6),
                (5, [], fun d w_6 k => callv Tryz.prog (fnv f_path_Base) [p2] w_6 k),
                (7, [3, 5, 1, 2], fun d w_6 k => mux .string (d 3) (d 5) t26 w_6 fun w_ => k undef w_)] (fun d w_6 =>
              nck t26 fun t54 =>
              fa 0 t54 fun t55 =>
              fa 3 t55 fun t56 =>
              ld t56 w_6 fun t57 =>
              bin .add t57 (.int .i64 1) fun t58 =>
              nck t26 fun t59 =>
              fa 0 t59 fun t60 =>
              fa 3 t60 fun t61 =>
              st 1 t61 t58 w_6 fun w_7 =>
              R (.int .i64 0) w_7) w_5))))) fun J =>
    gd t16 false (callv Tryz.prog (fnv f_path_Right) [p2] w_1 fun t19 w_8 =>
      un .not t19 fun t20 =>
      J [t20] w_8) (J [undef] w_1))
theorem ok_tree_Tree_Link (t0 old1 p2 : Value) (w : World) (R : Value → World → Prop) (h : go_tree_Tree_Link t0 old1 p2 w R) : CallsV Tryz.prog f_tree_Tree_Link #[t0, old1, p2] w R :=
  calls_of_vx Tryz.func30 (by rw [show vxF Tryz.prog Tryz.f30 [t0, old1, p2] w R = go_tree_Tree_Link t0 old1 p2 w R by kernel_rfl]; exact h)
theorem has_tree_Tree_Link : hasB Tryz.prog f_tree_Tree_Link := .mk' (fn := Tryz.f30) Tryz.func30 (by decide) rfl

/-- (*remora/tree.Tree).Symlink -/
def go_tree_Tree_Symlink (t0 p1 target2 m3 : Value) (w : World) (R : Value → World → Prop) : Prop :=
  boxx t_api_Meta m3 w fun m7 w_1 =>
  ldS 5 m7 w_1 fun t14 =>
  callv Tryz.prog (fnv f_tree_Tree_may) [t0, p1, t14] w_1 fun t15 w_2 =>
  bin .neq t15 (.int .i64 0) fun t17 =>
  cnd t17 (R t15 w_2) (
  bin .eql target2 (str []) fun t20 =>
    cnd t20 (R (.int .i64 2) w_2) (
    lenS target2 fun t22 =>
      bin .gtr t22 (.int .i64 200) fun t23 =>
      cnd t23 (R (.int .i64 7) w_2) (
      callv Tryz.prog (fnv f_tree_Tree_fresh) [t0, p1] w_2 fun t27 w_3 =>
        ex t27 0 fun t28 =>
        ex t27 1 fun t29 =>
        bin .neq t29 (.int .i64 0) fun t31 =>
        cnd t31 (R t29 w_3) (
        ldS 5 m7 w_3 fun t36 =>
          bld [(.int .i64 0), (.int .i64 0), (.int .i64 0), (.int .i64 0), (.int .i64 0), (.int .i64 0), (.int .i64 0), (.int .i64 0), (.int .i64 0), (str [])] [(0, 1, (.int .i64 3)), (4, 5, t36), (9, 1, target2)] fun t38 =>
          bld [(.int .i64 0), (.int .i64 0), (.int .i64 0), (.int .i64 0), (.int .i64 0), (.int .i64 0), (.int .i64 0), (.int .i64 0), (.int .i64 0), (str []), (.slice none 0 0), (.map none)] [(0, 10, t38)] fun t39 =>
          boxx t_tree_node t39 w_3 fun t40 w_4 =>
          callv Tryz.prog (fnv f_tree_Tree_put) [t0, t28, p1, t40] w_4 fun t41 w_5 =>
          R (.int .i64 0) w_5))))
theorem ok_tree_Tree_Symlink (t0 p1 target2 m3 : Value) (w : World) (R : Value → World → Prop) (h : go_tree_Tree_Symlink t0 p1 target2 m3 w R) : CallsV Tryz.prog f_tree_Tree_Symlink #[t0, p1, target2, m3] w R :=
  calls_of_vx Tryz.func31 (by rw [show vxF Tryz.prog Tryz.f31 [t0, p1, target2, m3] w R = go_tree_Tree_Symlink t0 p1 target2 m3 w R by kernel_rfl]; exact h)
theorem has_tree_Tree_Symlink : hasB Tryz.prog f_tree_Tree_Symlink := .mk' (fn := Tryz.f31) Tryz.func31 (by decide) rfl

/-- (*remora/tree.node).each -/
def go_tree_node_each (n0 p1 tell2 : Value) (w : World) (R : Value → World → Prop) : Prop :=
  callv Tryz.prog (fnv f_tree_node_names) [n0] w fun t10 w_1 =>
  lenV t10 fun t11 =>
  lp (fun again g z w_2 => /- 0:x7 1:k8 2:t12 -/
    bin .lss (nth g 2) t11 fun t13 =>
    cnd t13 (ia 1 t10 (nth g 2) fun t14 =>
      ld t14 w_2 fun t15 =>
      nck n0 fun t17 =>
      fa 11 t17 fun t18 =>
      ld t18 w_2 fun t19 =>
      lk .string (.pointer none) t19 t15 false w_2 fun t21 =>
      bin .add p1 t15 fun t25 =>
      callv Tryz.prog tell2 [t25, t21] w_2 fun t27 w_3 =>
      nck t21 fun t29 =>
      fa 11 t29 fun t30 =>
      ld t30 w_3 fun t31 =>
      binM .neq t31 (.map none) fun t32 =>
      cnd t32 (bin .add p1 t15 fun t36 =>
        bin .add t36 (str [47]) fun t37 =>
        callv Tryz.prog (fnv f_tree_node_each) [t21, t37, tell2] w_3 fun t39 w_4 =>
        bin .add (nth g 2) (.int .i64 1) fun t40 =>
        again [t15, t21, t40] w_4) (
      bin .add (nth g 2) (.int .i64 1) fun t40_1 =>
        again [t15, t21, t40_1] w_3)) (
    R (.tuple #[]) w_2)) [undef, undef, (.int .i64 0)] w_1
theorem ok_tree_node_each (n0 p1 tell2 : Value) (w : World) (R : Value → World → Prop) (h : go_tree_node_each n0 p1 tell2 w R) : CallsV Tryz.prog f_tree_node_each #[n0, p1, tell2] w R :=
  calls_of_vx Tryz.func34 (by rw [show vxF Tryz.prog Tryz.f34 [n0, p1, tell2] w R = go_tree_node_each n0 p1 tell2 w R by kernel_rfl]; exact h)
theorem has_tree_node_each : hasB Tryz.prog f_tree_node_each := .mk' (fn := Tryz.f34) Tryz.func34 (by decide) rfl

/-- (*remora/tree.Tree).Paths$1 -/
def go_tree_Tree_Paths_d1 (p0 t1 t2 : Value) (w : World) (R : Value → World → Prop) : Prop :=
  ld t2 w fun t5 =>
  bsl t_string 1 [(str [])] [(0, 1, p0)] w fun t7 w_1 =>
  rn Tryz.prog (Builtin.append_ #[t_S_string, t_S_string] t_S_string ([t5, t7] : List Value).toArray) w_1 fun t8 w_2 =>
  st 1 t2 t8 w_2 fun w_3 =>
  R (.tuple #[]) w_3
theorem ok_tree_Tree_Paths_d1 (p0 t1 t2 : Value) (w : World) (R : Value → World → Prop) (h : go_tree_Tree_Paths_d1 p0 t1 t2 w R) : CallsV Tryz.prog f_tree_Tree_Paths_d1 #[p0, t1, t2] w R :=
  calls_of_vx Tryz.func35 (by rw [show vxF Tryz.prog Tryz.f35 [p0, t1, t2] w R = go_tree_Tree_Paths_d1 p0 t1 t2 w R by kernel_rfl]; exact h)
theorem has_tree_Tree_Paths_d1 : hasB Tryz.prog f_tree_Tree_Paths_d1 := .mk' (fn := Tryz.f35) Tryz.func35 (by decide) rfl

/-- (*remora/tree.Tree).may -/
def go_tree_Tree_may (t0 p1 m2 : Value) (w : World) (R : Value → World → Prop) : Prop :=
  boxx t_api_Meta m2 w fun m5 w_1 =>
  binP .eql t0 (.pointer none) w_1 fun t8 =>
  cnd t8 (R (.int .i64 1) w_1) (
  callv Tryz.prog (fnv f_path_Right) [p1] w_1 fun t10 w_2 =>
    un .not t10 fun t11 =>
    cnd t11 (R (.int .i64 9) w_2) (
    ldS 5 m5 w_2 fun t12 =>
      callv Tryz.prog (fnv f_meta_Check) [t12] w_2 fun t13 w_3 =>
      bin .neq t13 (.int .i64 0) fun t14 =>
      cnd t14 (R (.int .i64 2) w_3) (
      R (.int .i64 0) w_3)))
theorem ok_tree_Tree_may (t0 p1 m2 : Value) (w : World) (R : Value → World → Prop) (h : go_tree_Tree_may t0 p1 m2 w R) : CallsV Tryz.prog f_tree_Tree_may #[t0, p1, m2] w R :=
  calls_of_vx Tryz.func57 (by rw [show vxF Tryz.prog Tryz.f57 [t0, p1, m2] w R = go_tree_Tree_may t0 p1 m2 w R by kernel_rfl]; exact h)
theorem has_tree_Tree_may : hasB Tryz.prog f_tree_Tree_may := .mk' (fn := Tryz.f57) Tryz.func57 (by decide) rfl

/-- (*remora/tree.Tree).fresh -/
def go_tree_Tree_fresh (t0 p1 : Value) (w : World) (R : Value → World → Prop) : Prop :=
  callv Tryz.prog (fnv f_tree_Tree_look) [t0, p1] w fun t12 w_1 =>
  ex t12 0 fun t13 =>
  ex t12 1 fun t14 =>
  ex t12 2 fun t15 =>
  bin .eql t15 (.int .i64 0) fun t17 =>
  jn (fun g z w_2 => /- 0:t20 -/
    pickx t17 (nth g 0) (.bool false) fun t21 =>
    cnd t21 (R (.tuple #[t14, (.int .i64 11)]) w_2) (
    R (.tuple #[t14, t15]) w_2)) fun J =>
  gd t17 true (binP .neq t13 (.pointer none) w_1 fun t20 =>
    J [t20] w_1) (J [undef] w_1)
theorem ok_tree_Tree_fresh (t0 p1 : Value) (w : World) (R : Value → World → Prop) (h : go_tree_Tree_fresh t0 p1 w R) : CallsV Tryz.prog f_tree_Tree_fresh #[t0, p1] w R :=
  calls_of_vx Tryz.func58 (by rw [show vxF Tryz.prog Tryz.f58 [t0, p1] w R = go_tree_Tree_fresh t0 p1 w R by kernel_rfl]; exact h)
theorem has_tree_Tree_fresh : hasB Tryz.prog f_tree_Tree_fresh := .mk' (fn := Tryz.f58) Tryz.func58 (by decide) rfl

/-- (*remora/tree.Tree).put -/
def go_tree_Tree_put (t0 d1 p2 n3 : Value) (w : World) (R : Value → World → Prop) : Prop :=
  nck t0 fun t10 =>
  fa 1 t10 fun t11 =>
  ld t11 w fun t12 =>
  nck n3 fun t13 =>
  fa 0 t13 fun t14 =>
  fa 1 t14 fun t15 =>
  st 1 t15 t12 w fun w_1 =>
  nck n3 fun t17 =>
  fa 0 t17 fun t18 =>
  fa 3 t18 fun t19 =>
  st 1 t19 (.int .i64 1) w_1 fun w_2 =>
  nck t0 fun t21 =>
  fa 1 t21 fun t22 =>
  ld t22 w_2 fun t23 =>
  bin .add t23 (.int .i64 1) fun t24 =>
  nck t0 fun t25 =>
  fa 1 t25 fun t26 =>
  st 1 t26 t24 w_2 fun w_3 =>
  drw [(1, [], fun d w_4 k => nck d1 fun x => k x w_4),
    (2, [1], fun d w_4 k => fa 11 (d 1) fun x => k x w_4),
    (3, [2, 1], fun d w_4 k => ld (d 2) w_4 fun x => k x w_4),
    (5, [], fun d w_4 k => callv Tryz.prog (fnv f_path_Base) [p2] w_4 k),
    (7, [3, 5, 1, 2], fun d w_4 k => mux .string (d 3) (d 5) n3 w_4 fun w_ => k undef w_)] (fun d w_4 =>
  R (.tuple #[]) w_4) w_3
theorem ok_tree_Tree_put (t0 d1 p2 n3 : Value) (w : World) (R : Value → World → Prop) (h : go_tree_Tree_put t0 d1 p2 n3 w R) : CallsV Tryz.prog f_tree_Tree_put #[t0, d1, p2, n3] w R :=
  calls_of_vx Tryz.func59 (by rw [show vxF Tryz.prog Tryz.f59 [t0, d1, p2, n3] w R = go_tree_Tree_put t0 d1 p2 n3 w R by kernel_rfl]; exact h)
theorem has_tree_Tree_put : hasB Tryz.prog f_tree_Tree_put := .mk' (fn := Tryz.f59) Tryz.func59 (by decide) rfl

/-- (*remora/tree.Tree).look -/
def go_tree_Tree_look (t0 p1 : Value) (w : World) (R : Value → World → Prop) : Prop :=
  callv Tryz.prog (fnv f_path_Right) [p1] w fun t9 w_1 =>
  un .not t9 fun t10 =>
  cnd t10 (R (.tuple #[(.pointer none), (.pointer none), (.int .i64 9)]) w_1) (
  bin .eql p1 (str []) fun t12 =>
    cnd t12 (nck t0 fun t14 =>
      fa 0 t14 fun t15 =>
      ld t15 w_1 fun t16 =>
      R (.tuple #[t16, (.pointer none), (.int .i64 0)]) w_1) (
    callv Tryz.prog (fnv f_path_Parent) [p1] w_1 fun t19 w_2 =>
      callv Tryz.prog (fnv f_tree_Tree_at) [t0, t19] w_2 fun t20 w_3 =>
      binP .eql t20 (.pointer none) w_3 fun t22 =>
      cnd t22 (R (.tuple #[(.pointer none), (.pointer none), (.int .i64 10)]) w_3) (
      nck t20 fun t24 =>
        fa 0 t24 fun t25 =>
        fa 0 t25 fun t26 =>
        ld t26 w_3 fun t27 =>
        bin .neq t27 (.int .i64 2) fun t28 =>
        cnd t28 (R (.tuple #[(.pointer none), (.pointer none), (.int .i64 12)]) w_3) (
        drw [(1, [], fun d w_4 k => nck t20 fun x => k x w_4),
            (2, [1], fun d w_4 k => fa 11 (d 1) fun x => k x w_4),
            (3, [2, 1], fun d w_4 k => ld (d 2) w_4 fun x => k x w_4),
            (5, [], fun d w_4 k => callv Tryz.prog (fnv f_path_Base) [p1] w_4 k),
            (6, [3, 5, 2, 1], fun d w_4 k => lk .string (.pointer none) (d 3) (d 5) false w_4 fun x => k x w_4)] (fun d w_4 =>
          R (.tuple #[(d 6), t20, (.int .i64 0)]) w_4) w_3))))
theorem ok_tree_Tree_look (t0 p1 : Value) (w : World) (R : Value → World → Prop) (h : go_tree_Tree_look t0 p1 w R) : CallsV Tryz.prog f_tree_Tree_look #[t0, p1] w R :=
  calls_of_vx Tryz.func60 (by rw [show vxF Tryz.prog Tryz.f60 [t0, p1] w R = go_tree_Tree_look t0 p1 w R by kernel_rfl]; exact h)
theorem has_tree_Tree_look : hasB Tryz.prog f_tree_Tree_look := .mk' (fn := Tryz.f60) Tryz.func60 (by decide) rfl

/-- remora/tree.file -/
def go_tree_file (n0 : Value) (w : World) (R : Value → World → Prop) : Prop :=
  nck n0 fun t4 =>
  fa 0 t4 fun t5 =>
  fa 0 t5 fun t6 =>
  ld t6 w fun t7 =>
  bin .eql t7 (.int .i64 2) fun t9 =>
  cnd t9 (R (.int .i64 13) w) (
  bin .eql t7 (.int .i64 3) fun t11 =>
    cnd t11 (R (.int .i64 17) w) (
    R (.int .i64 0) w))
theorem ok_tree_file (n0 : Value) (w : World) (R : Value → World → Prop) (h : go_tree_file n0 w R) : CallsV Tryz.prog f_tree_file #[n0] w R :=
  calls_of_vx Tryz.func54 (by rw [show vxF Tryz.prog Tryz.f54 [n0] w R = go_tree_file n0 w R by kernel_rfl]; exact h)
theorem has_tree_file : hasB Tryz.prog f_tree_file := .mk' (fn := Tryz.f54) Tryz.func54 (by decide) rfl

/-- (*remora/tree.Tree).there -/
def go_tree_Tree_there (t0 p1 : Value) (w : World) (R : Value → World → Prop) : Prop :=
  binP .eql t0 (.pointer none) w fun t11 =>
  cnd t11 (R (.tuple #[(.pointer none), (.pointer none), (.int .i64 1)]) w) (
  callv Tryz.prog (fnv f_tree_Tree_look) [t0, p1] w fun t15 w_1 =>
    ex t15 0 fun t16 =>
    ex t15 1 fun t17 =>
    ex t15 2 fun t18 =>
    jn (fun g z w_2 => /- 0:e9 -/
      R (.tuple #[t16, t17, (nth g 0)]) w_2) fun J =>
    bin .eql t18 (.int .i64 0) fun t20 =>
    jn (fun g_1 z_1 w_3 => /- 0:t23 -/
      pickx t20 (nth g_1 0) (.bool false) fun t24 =>
      cnd t24 (J [(.int .i64 10)] w_3) (
      J [t18] w_3)) fun J_1 =>
    gd t20 true (binP .eql t16 (.pointer none) w_1 fun t23 =>
      J_1 [t23] w_1) (J_1 [undef] w_1))
theorem ok_tree_Tree_there (t0 p1 : Value) (w : World) (R : Value → World → Prop) (h : go_tree_Tree_there t0 p1 w R) : CallsV Tryz.prog f_tree_Tree_there #[t0, p1] w R :=
  calls_of_vx Tryz.func45 (by rw [show vxF Tryz.prog Tryz.f45 [t0, p1] w R = go_tree_Tree_there t0 p1 w R by kernel_rfl]; exact h)
theorem has_tree_Tree_there : hasB Tryz.prog f_tree_Tree_there := .mk' (fn := Tryz.f45) Tryz.func45 (by decide) rfl

/-- (*remora/tree.Tree).Remove -/
def go_tree_Tree_Remove (t0 p1 : Value) (w : World) (R : Value → World → Prop) : Prop :=
  binP .eql t0 (.pointer none) w fun t9 =>
  cnd t9 (R (.int .i64 1) w) (
  callv Tryz.prog (fnv f_path_Right) [p1] w fun t11 w_1 =>
    un .not t11 fun t12 =>
    cnd t12 (R (.int .i64 9) w_1) (
    bin .eql p1 (str []) fun t14 =>
      cnd t14 (R (.int .i64 2) w_1) (
      callv Tryz.prog (fnv f_tree_Tree_there) [t0, p1] w_1 fun t18 w_2 =>
        ex t18 0 fun t19 =>
        ex t18 1 fun t20 =>
        ex t18 2 fun t21 =>
        bin .neq t21 (.int .i64 0) fun t23 =>
        cnd t23 (R t21 w_2) (
        nck t19 fun t26 =>
          fa 11 t26 fun t27 =>
          ld t27 w_2 fun t28 =>
          lenM t28 w_2 fun t29 =>
          bin .gtr t29 (.int .i64 0) fun t30 =>
          cnd t30 (R (.int .i64 14) w_2) (
          callv Tryz.prog (fnv f_tree_out) [t20, p1] w_2 fun t33 w_3 =>
            R (.int .i64 0) w_3)))))
theorem ok_tree_Tree_Remove (t0 p1 : Value) (w : World) (R : Value → World → Prop) (h : go_tree_Tree_Remove t0 p1 w R) : CallsV Tryz.prog f_tree_Tree_Remove #[t0, p1] w R :=
  calls_of_vx Tryz.func16 (by rw [show vxF Tryz.prog Tryz.f16 [t0, p1] w R = go_tree_Tree_Remove t0 p1 w R by kernel_rfl]; exact h)
theorem has_tree_Tree_Remove : hasB Tryz.prog f_tree_Tree_Remove := .mk' (fn := Tryz.f16) Tryz.func16 (by decide) rfl

/-- (*remora/tree.Tree).Rename -/
def go_tree_Tree_Rename (t0 old1 p2 : Value) (w : World) (R : Value → World → Prop) : Prop :=
  binP .eql t0 (.pointer none) w fun t14 =>
  cnd t14 (R (.int .i64 1) w) (
  callv Tryz.prog (fnv f_path_Right) [old1] w fun t16 w_1 =>
    un .not t16 fun t17 =>
    jn (fun g z w_2 => /- 0:t21 -/
      pickx t17 (.bool true) (nth g 0) fun t22 =>
      cnd t22 (R (.int .i64 9) w_2) (
      bin .eql old1 (str []) fun t24 =>
        jn (fun g_1 z_1 w_3 => /- 0:t27 -/
          pickx t24 (.bool true) (nth g_1 0) fun t28 =>
          cnd t28 (R (.int .i64 2) w_3) (
          callv Tryz.prog (fnv f_tree_Tree_there) [t0, old1] w_3 fun t32 w_4 =>
            ex t32 0 fun t33 =>
            ex t32 1 fun t34 =>
            ex t32 2 fun t35 =>
            bin .neq t35 (.int .i64 0) fun t37 =>
            cnd t37 (R t35 w_4) (
            nck t33 fun t40 =>
              fa 0 t40 fun t41 =>
              fa 0 t41 fun t42 =>
              ld t42 w_4 fun t43 =>
              bin .eql t43 (.int .i64 2) fun t44 =>
              jn (fun g_2 z_2 w_5 => /- 0:t49 -/
                pickx t44 (nth g_2 0) (.bool false) fun t50 =>
                jn (fun g_3 z_3 w_6 => /- 0:t54 -/
                  pickx t50 (nth g_3 0) (.bool false) fun t55 =>
                  cnd t55 (R (.int .i64 2) w_6) (
                  callv Tryz.prog (fnv f_tree_Tree_look) [t0, p2] w_6 fun t59 w_7 =>
                    ex t59 0 fun t60 =>
                    ex t59 1 fun t61 =>
                    ex t59 2 fun t62 =>
                    bin .neq t62 (.int .i64 0) fun t64 =>
                    cnd t64 (R t62 w_7) (
                    jn (fun g_4 z_4 w_8 => /- 0:t70 -/
                        pickx t44 (nth g_4 0) (.bool false) fun t71 =>
                        cnd t71 (R (.int .i64 11) w_8) (
                        jn (fun g_5 z_5 w_9 => /- 0:t78 -/
                        pickx t44 (nth g_5 0) (.bool false) fun t79 =>
                        cnd t79 (R (.int .i64 7) w_9) (
                        binP .neq t60 (.pointer none) w_9 fun t82 =>
                        jn (fun g_6 z_6 w_10 => /- 0:t89 -/
                        pickx t82 (nth g_6 0) (.bool false) fun t90 =>
                        cnd t90 (R (.int .i64 13) w_10) (
                        binP .eql t60 t33 w_10 fun t94 =>
                        cnd t94 (R (.int .i64 0) w_10) (
                        callv Tryz.prog (fnv f_tree_out) [t61, p2] w_10 fun t97 w_11 =>
                        drw [(1, [], fun d w_12 k => nck t34 fun x => k x w_12),
                        (2, [1], fun d w_12 k => fa 11 (d 1) fun x => k x w_12),
                        (3, [2, 1], fun d w_12 k => ld (d 2) w_12 fun x => k x w_12),
                        (5, [], fun d w_12 k => callv Tryz.prog (fnv f_path_Base) [old1] w_12 k),
                        (6, [3, 5, 2, 1], fun d w_12 k => delx .string (d 3) (d 5) w_12 fun w_ => k undef w_)] (fun d w_12 =>
                        drw [(1, [], fun d_1 w_13 k_1 => nck t61 fun x => k_1 x w_13),
                        (2, [1], fun d_1 w_13 k_1 => fa 11 (d_1 1) fun x => k_1 x w_13),
                        (3, [2, 1], fun d_1 w_13 k_1 => ld (d_1 2) w_13 fun x => k_1 x w_13),
                        (5, [], fun d_1 w_13 k_1 => callv Tryz.prog (fnv f_path_Base) [p2] w_13 k_1),
                        (7, [3, 5, 1, 2], fun d_1 w_13 k_1 => mux .string (d_1 3) (d_1 5) t33 w_13 fun w_ => k_1 undef w_)] (fun d_1 w_13 =>
                        R (.int .i64 0) w_13) w_12) w_11))) fun J_6 =>
                        gd t82 true (nck t60 fun t85 =>
                        fa 0 t85 fun t86 =>
                        fa 0 t86 fun t87 =>
                        ld t87 w_9 fun t88 =>
                        bin .eql t88 (.int .i64 2) fun t89 =>
                        J_6 [t89] w_9) (J_6 [undef] w_9))) fun J_5 =>
                        gd t44 true (callv Tryz.prog (fnv f_tree_node_fits) [t33, p2] w_8 fun t77 w_14 =>
                        un .not t77 fun t78 =>
                        J_5 [t78] w_14) (J_5 [undef] w_8))) fun J_4 =>
                      gd t44 true (binP .neq t60 (.pointer none) w_7 fun t70 =>
                        J_4 [t70] w_7) (J_4 [undef] w_7)))) fun J_3 =>
                gd t50 true (callv Tryz.prog (fnv f_path_Under) [p2, old1] w_5 fun t54 w_15 =>
                  J_3 [t54] w_15) (J_3 [undef] w_5)) fun J_2 =>
              gd t44 true (bin .neq p2 old1 fun t49 =>
                J_2 [t49] w_4) (J_2 [undef] w_4)))) fun J_1 =>
        gd t24 false (bin .eql p2 (str []) fun t27 =>
          J_1 [t27] w_2) (J_1 [undef] w_2))) fun J =>
    gd t17 false (callv Tryz.prog (fnv f_path_Right) [p2] w_1 fun t20 w_16 =>
      un .not t20 fun t21 =>
      J [t21] w_16) (J [undef] w_1))
theorem ok_tree_Tree_Rename (t0 old1 p2 : Value) (w : World) (R : Value → World → Prop) (h : go_tree_Tree_Rename t0 old1 p2 w R) : CallsV Tryz.prog f_tree_Tree_Rename #[t0, old1, p2] w R :=
  calls_of_vx Tryz.func62 (by rw [show vxF Tryz.prog Tryz.f62 [t0, old1, p2] w R = go_tree_Tree_Rename t0 old1 p2 w R by kernel_rfl]; exact h)
theorem has_tree_Tree_Rename : hasB Tryz.prog f_tree_Tree_Rename := .mk' (fn := Tryz.f62) Tryz.func62 (by decide) rfl

/-- (*remora/tree.Tree).Set -/
def go_tree_Tree_Set (t0 p1 m2 : Value) (w : World) (R : Value → World → Prop) : Prop :=
  boxx t_api_Meta m2 w fun m5 w_1 =>
  ldS 5 m5 w_1 fun t13 =>
  callv Tryz.prog (fnv f_tree_Tree_may) [t0, p1, t13] w_1 fun t14 w_2 =>
  bin .neq t14 (.int .i64 0) fun t16 =>
  cnd t16 (R t14 w_2) (
  callv Tryz.prog (fnv f_tree_Tree_there) [t0, p1] w_2 fun t21 w_3 =>
    ex t21 0 fun t22 =>
    ex t21 1 fun t23 =>
    ex t21 2 fun t24 =>
    bin .neq t24 (.int .i64 0) fun t26 =>
    cnd t26 (R t24 w_3) (
    ldS 5 m5 w_3 fun t29 =>
      nck t22 fun t30 =>
      fa 0 t30 fun t31 =>
      fa 4 t31 fun t32 =>
      st 5 t32 t29 w_3 fun w_4 =>
      R (.int .i64 0) w_4))
theorem ok_tree_Tree_Set (t0 p1 m2 : Value) (w : World) (R : Value → World → Prop) (h : go_tree_Tree_Set t0 p1 m2 w R) : CallsV Tryz.prog f_tree_Tree_Set #[t0, p1, m2] w R :=
  calls_of_vx Tryz.func63 (by rw [show vxF Tryz.prog Tryz.f63 [t0, p1, m2] w R = go_tree_Tree_Set t0 p1 m2 w R by kernel_rfl]; exact h)
theorem has_tree_Tree_Set : hasB Tryz.prog f_tree_Tree_Set := .mk' (fn := Tryz.f63) Tryz.func63 (by decide) rfl

/-- (*remora/tree.Tree).Append -/
def go_tree_Tree_Append (t0 p1 b2 : Value) (w : World) (R : Value → World → Prop) : Prop :=
  callv Tryz.prog (fnv f_tree_Tree_there) [t0, p1] w fun t14 w_1 =>
  ex t14 0 fun t15 =>
  ex t14 1 fun t16 =>
  ex t14 2 fun t17 =>
  bin .neq t17 (.int .i64 0) fun t19 =>
  cnd t19 (R t17 w_1) (
  callv Tryz.prog (fnv f_tree_file) [t15] w_1 fun t22 w_2 =>
    bin .neq t22 (.int .i64 0) fun t24 =>
    cnd t24 (R t22 w_2) (
    nck t15 fun t27 =>
      fa 10 t27 fun t28 =>
      ld t28 w_2 fun t29 =>
      lenV t29 fun t30 =>
      lenV b2 fun t32 =>
      bin .add t30 t32 fun t33 =>
      bin .gtr t33 (.int .i64 65536) fun t34 =>
      cnd t34 (R (.int .i64 7) w_2) (
      drw [(2, [], fun d w_3 k => nck t15 fun x => k x w_3),
          (3, [2], fun d w_3 k => fa 10 (d 2) fun x => k x w_3),
          (4, [3, 2], fun d w_3 k => ld (d 3) w_3 fun x => k x w_3),
          (6, [], fun d w_3 k => nck t15 fun x => k x w_3),
          (7, [6], fun d w_3 k => fa 10 (d 6) fun x => k x w_3),
          (8, [7, 6], fun d w_3 k => ld (d 7) w_3 fun x => k x w_3),
          (9, [8, 7, 6], fun d w_3 k => lenV (d 8) fun x => k x w_3),
          (11, [], fun d w_3 k => nck t15 fun x => k x w_3),
          (12, [11], fun d w_3 k => fa 10 (d 11) fun x => k x w_3),
          (13, [12, 11], fun d w_3 k => ld (d 12) w_3 fun x => k x w_3),
          (14, [13, 12, 11], fun d w_3 k => lenV (d 13) fun x => k x w_3),
          (15, [4, 9, 14, 3, 2, 8, 7, 6, 13, 12, 11], fun d w_3 k => slV 1 (d 4) none (some (d 9)) (some (d 14)) fun x => k x w_3),
          (17, [15, 4, 9, 14, 3, 2, 8, 7, 6, 13, 12, 11], fun d w_3 k => rn Tryz.prog (Builtin.append_ #[t_S_uint8, t_S_uint8] t_S_uint8 ([(d 15), b2] : List Value).toArray) w_3 k),
          (18, [2, 3, 4, 6, 7, 8, 9, 11, 12, 13, 14, 15, 17], fun d w_3 k => nck t15 fun x => k x w_3),
          (19, [18, 2, 3, 4, 6, 7, 8, 9, 11, 12, 13, 14, 15, 17], fun d w_3 k => fa 10 (d 18) fun x => k x w_3),
          (20, [19, 17, 2, 3, 4, 6, 7, 8, 9, 11, 12, 13, 14, 15, 18], fun d w_3 k => st 1 (d 19) (d 17) w_3 fun w_ => k undef w_)] (fun d w_3 =>
        R (.int .i64 0) w_3) w_2)))
theorem ok_tree_Tree_Append (t0 p1 b2 : Value) (w : World) (R : Value → World → Prop) (h : go_tree_Tree_Append t0 p1 b2 w R) : CallsV Tryz.prog f_tree_Tree_Append #[t0, p1, b2] w R :=
  calls_of_vx Tryz.func64 (by rw [show vxF Tryz.prog Tryz.f64 [t0, p1, b2] w R = go_tree_Tree_Append t0 p1 b2 w R by kernel_rfl]; exact h)
theorem has_tree_Tree_Append : hasB Tryz.prog f_tree_Tree_Append := .mk' (fn := Tryz.f64) Tryz.func64 (by decide) rfl

/-- (*remora/tree.node).names -/
def go_tree_node_names (n0 : Value) (w : World) (R : Value → World → Prop) : Prop :=
  nck n0 fun t6 =>
  fa 11 t6 fun t7 =>
  ld t7 w fun t8 =>
  lenM t8 w fun t9 =>
  mks t_string [(str [])] 16 (.int .i64 0) t9 w fun t10 w_1 =>
  nck n0 fun t12 =>
  fa 11 t12 fun t13 =>
  ld t13 w_1 fun t14 =>
  rgM t14 w_1 fun t15 w_2 =>
  lp (fun again g z w_3 => /- 0:x4 1:l3 -/
    rn Tryz.prog (Instr.next t15 false t_) w_3 fun t16 w_4 =>
    ex t16 0 fun t17 =>
    cnd t17 (enx t15 w_4 fun t18 =>
      ex t18 0 fun t19 =>
      bsl t_string 1 [(str [])] [(0, 1, t19)] w_4 fun t22 w_5 =>
      rn Tryz.prog (Builtin.append_ #[t_S_string, t_S_string] t_S_string ([(nth g 1), t22] : List Value).toArray) w_5 fun t23 w_6 =>
      again [t19, t23] w_6) (
    callv Tryz.prog (fnv f_sort_Strings) [(nth g 1)] w_4 fun t25 w_7 =>
      R (nth g 1) w_7)) [undef, t10] w_2
theorem ok_tree_node_names (n0 : Value) (w : World) (R : Value → World → Prop) (h : go_tree_node_names n0 w R) : CallsV Tryz.prog f_tree_node_names #[n0] w R :=
  calls_of_vx Tryz.func65 (by rw [show vxF Tryz.prog Tryz.f65 [n0] w R = go_tree_node_names n0 w R by kernel_rfl]; exact h)
theorem has_tree_node_names : hasB Tryz.prog f_tree_node_names := .mk' (fn := Tryz.f65) Tryz.func65 (by decide) rfl

/-- (*remora/tree.Tree).at -/
def go_tree_Tree_at (t0 p1 : Value) (w : World) (R : Value → World → Prop) : Prop :=
  nck t0 fun t9 =>
  fa 0 t9 fun t10 =>
  ld t10 w fun t11 =>
  callv Tryz.prog (fnv f_path_Split) [p1] w fun t13 w_1 =>
  lenV t13 fun t14 =>
  lp (fun again g z w_2 => /- 0:x7 1:t4 2:n5 3:t15 -/
    bin .lss (nth g 3) t14 fun t16 =>
    cnd t16 (ia 1 t13 (nth g 3) fun t17 =>
      ld t17 w_2 fun t18 =>
      binP .eql (nth g 2) (.pointer none) w_2 fun t20 =>
      jn (fun g_1 z_1 w_3 => /- 0:t26 -/
        pickx t20 (.bool true) (nth g_1 0) fun t27 =>
        cnd t27 (R (.pointer none) w_3) (
        nck (nth g 2) fun t29 =>
          fa 11 t29 fun t30 =>
          ld t30 w_3 fun t31 =>
          lk .string (.pointer none) t31 t18 false w_3 fun t33 =>
          bin .add (nth g 3) (.int .i64 1) fun t34 =>
          again [t18, (nth g 1), t33, t34] w_3)) fun J =>
      gd t20 false (nck (nth g 2) fun t23 =>
        fa 11 t23 fun t24 =>
        ld t24 w_2 fun t25 =>
        binM .eql t25 (.map none) fun t26 =>
        J [t26] w_2) (J [undef] w_2)) (
    R (nth g 2) w_2)) [undef, (.pointer none), t11, (.int .i64 0)] w_1
theorem ok_tree_Tree_at (t0 p1 : Value) (w : World) (R : Value → World → Prop) (h : go_tree_Tree_at t0 p1 w R) : CallsV Tryz.prog f_tree_Tree_at #[t0, p1] w R :=
  calls_of_vx Tryz.func88 (by rw [show vxF Tryz.prog Tryz.f88 [t0, p1] w R = go_tree_Tree_at t0 p1 w R by kernel_rfl]; exact h)
theorem has_tree_Tree_at : hasB Tryz.prog f_tree_Tree_at := .mk' (fn := Tryz.f88) Tryz.func88 (by decide) rfl

/-- remora/tree.out -/
def go_tree_out (d0 p1 : Value) (w : World) (R : Value → World → Prop) : Prop :=
  callv Tryz.prog (fnv f_path_Base) [p1] w fun t7 w_1 =>
  nck d0 fun t9 =>
  fa 11 t9 fun t10 =>
  ld t10 w_1 fun t11 =>
  lk .string (.pointer none) t11 t7 false w_1 fun t13 =>
  binP .neq t13 (.pointer none) w_1 fun t15 =>
  cnd t15 (nck t13 fun t17 =>
    fa 0 t17 fun t18 =>
    fa 3 t18 fun t19 =>
    ld t19 w_1 fun t20 =>
    bin .sub t20 (.int .i64 1) fun t21 =>
    nck t13 fun t22 =>
    fa 0 t22 fun t23 =>
    fa 3 t23 fun t24 =>
    st 1 t24 t21 w_1 fun w_2 =>
    nck d0 fun t26 =>
    fa 11 t26 fun t27 =>
    ld t27 w_2 fun t28 =>
    delx .string t28 t7 w_2 fun w_3 =>
    R (.tuple #[]) w_3) (
  R (.tuple #[]) w_1)
theorem ok_tree_out (d0 p1 : Value) (w : World) (R : Value → World → Prop) (h : go_tree_out d0 p1 w R) : CallsV Tryz.prog f_tree_out #[d0, p1] w R :=
  calls_of_vx Tryz.func46 (by rw [show vxF Tryz.prog Tryz.f46 [d0, p1] w R = go_tree_out d0 p1 w R by kernel_rfl]; exact h)
theorem has_tree_out : hasB Tryz.prog f_tree_out := .mk' (fn := Tryz.f46) Tryz.func46 (by decide) rfl

/-- (*remora/tree.node).fits -/
def go_tree_node_fits (n0 p1 : Value) (w : World) (R : Value → World → Prop) : Prop :=
  newx [(.bool false)] t_bool w fun ok5 w_1 =>
  st 1 ok5 (.bool true) w_1 fun w_2 =>
  bin .add p1 (str [47]) fun t8 =>
  callv Tryz.prog (fnv f_tree_node_each) [n0, t8, (.func (.func f_tree_node_fits_d1) #[] #[ok5])] w_2 fun t10 w_3 =>
  ld ok5 w_3 fun t11 =>
  R t11 w_3
theorem ok_tree_node_fits (n0 p1 : Value) (w : World) (R : Value → World → Prop) (h : go_tree_node_fits n0 p1 w R) : CallsV Tryz.prog f_tree_node_fits #[n0, p1] w R :=
  calls_of_vx Tryz.func90 (by rw [show vxF Tryz.prog Tryz.f90 [n0, p1] w R = go_tree_node_fits n0 p1 w R by kernel_rfl]; exact h)
theorem has_tree_node_fits : hasB Tryz.prog f_tree_node_fits := .mk' (fn := Tryz.f90) Tryz.func90 (by decide) rfl

/-- (*remora/tree.Tree).List -/
def go_tree_Tree_List (t0 p1 : Value) (w : World) (R : Value → World → Prop) : Prop :=
  callv Tryz.prog (fnv f_tree_Tree_there) [t0, p1] w fun t12 w_1 =>
  ex t12 0 fun t13 =>
  ex t12 1 fun t14 =>
  ex t12 2 fun t15 =>
  jn (fun g z w_2 => /- 0:e8 -/
    bin .neq (nth g 0) (.int .i64 0) fun t27 =>
    cnd t27 (R (.tuple #[(.slice none 0 0), (nth g 0)]) w_2) (
    callv Tryz.prog (fnv f_tree_node_names) [t13] w_2 fun t30 w_3 =>
      R (.tuple #[t30, (.int .i64 0)]) w_3)) fun J =>
  bin .eql t15 (.int .i64 0) fun t17 =>
  jn (fun g_1 z_1 w_4 => /- 0:t24 -/
    pickx t17 (nth g_1 0) (.bool false) fun t25 =>
    cnd t25 (J [(.int .i64 12)] w_4) (
    J [t15] w_4)) fun J_1 =>
  gd t17 true (nck t13 fun t20 =>
    fa 0 t20 fun t21 =>
    fa 0 t21 fun t22 =>
    ld t22 w_1 fun t23 =>
    bin .neq t23 (.int .i64 2) fun t24 =>
    J_1 [t24] w_1) (J_1 [undef] w_1)
theorem ok_tree_Tree_List (t0 p1 : Value) (w : World) (R : Value → World → Prop) (h : go_tree_Tree_List t0 p1 w R) : CallsV Tryz.prog f_tree_Tree_List #[t0, p1] w R :=
  calls_of_vx Tryz.func96 (by rw [show vxF Tryz.prog Tryz.f96 [t0, p1] w R = go_tree_Tree_List t0 p1 w R by kernel_rfl]; exact h)
theorem has_tree_Tree_List : hasB Tryz.prog f_tree_Tree_List := .mk' (fn := Tryz.f96) Tryz.func96 (by decide) rfl

/-- (*remora/tree.Tree).Stat -/
def go_tree_Tree_Stat (t0 p1 : Value) (w : World) (R : Value → World → Prop) : Prop :=
  newx [(.int .i64 0), (.int .i64 0), (.int .i64 0), (.int .i64 0), (.int .i64 0), (.int .i64 0), (.int .i64 0), (.int .i64 0), (.int .i64 0), (str [])] t_api_Stat w fun t4 w_1 =>
  callv Tryz.prog (fnv f_tree_Tree_there) [t0, p1] w_1 fun t12 w_2 =>
  ex t12 0 fun t13 =>
  ex t12 1 fun t14 =>
  ex t12 2 fun t15 =>
  bin .neq t15 (.int .i64 0) fun t17 =>
  cnd t17 (bld [(.int .i64 0), (.int .i64 0), (.int .i64 0), (.int .i64 0), (.int .i64 0), (.int .i64 0), (.int .i64 0), (.int .i64 0), (.int .i64 0), (str [])] [] fun t18 =>
    st 10 t4 t18 w_2 fun w_3 =>
    ldS 10 t4 w_3 fun r =>
    R (.tuple #[r, t15]) w_3) (
  callv Tryz.prog (fnv f_tree_node_tell) [t13] w_2 fun t21 w_4 =>
    st 10 t4 t21 w_4 fun w_5 =>
    ldS 10 t4 w_5 fun r_1 =>
    R (.tuple #[r_1, (.int .i64 0)]) w_5)
theorem ok_tree_Tree_Stat (t0 p1 : Value) (w : World) (R : Value → World → Prop) (h : go_tree_Tree_Stat t0 p1 w R) : CallsV Tryz.prog f_tree_Tree_Stat #[t0, p1] w R :=
  calls_of_vx Tryz.func18 (by rw [show vxF Tryz.prog Tryz.f18 [t0, p1] w R = go_tree_Tree_Stat t0 p1 w R by kernel_rfl]; exact h)
theorem has_tree_Tree_Stat : hasB Tryz.prog f_tree_Tree_Stat := .mk' (fn := Tryz.f18) Tryz.func18 (by decide) rfl

/-- (*remora/tree.node).fits$1 -/
def go_tree_node_fits_d1 (q0 t1 t2 : Value) (w : World) (R : Value → World → Prop) : Prop :=
  ld t2 w fun t5 =>
  jn (fun g z w_1 => /- 0:t8 -/
    pickx t5 (nth g 0) (.bool false) fun t9 =>
    st 1 t2 t9 w_1 fun w_2 =>
    R (.tuple #[]) w_2) fun J =>
  gd t5 true (callv Tryz.prog (fnv f_path_Right) [q0] w fun t8 w_3 =>
    J [t8] w_3) (J [undef] w)
theorem ok_tree_node_fits_d1 (q0 t1 t2 : Value) (w : World) (R : Value → World → Prop) (h : go_tree_node_fits_d1 q0 t1 t2 w R) : CallsV Tryz.prog f_tree_node_fits_d1 #[q0, t1, t2] w R :=
  calls_of_vx Tryz.func109 (by rw [show vxF Tryz.prog Tryz.f109 [q0, t1, t2] w R = go_tree_node_fits_d1 q0 t1 t2 w R by kernel_rfl]; exact h)
theorem has_tree_node_fits_d1 : hasB Tryz.prog f_tree_node_fits_d1 := .mk' (fn := Tryz.f109) Tryz.func109 (by decide) rfl

/-- (*remora/tree.node).tell -/
def go_tree_node_tell (n0 : Value) (w : World) (R : Value → World → Prop) : Prop :=
  newx [(.int .i64 0), (.int .i64 0), (.int .i64 0), (.int .i64 0), (.int .i64 0), (.int .i64 0), (.int .i64 0), (.int .i64 0), (.int .i64 0), (str [])] t_api_Stat w fun t2 w_1 =>
  nck n0 fun t5 =>
  fa 0 t5 fun t6 =>
  ldS 10 t6 w_1 fun t7 =>
  newx [(.int .i64 0), (.int .i64 0), (.int .i64 0), (.int .i64 0), (.int .i64 0), (.int .i64 0), (.int .i64 0), (.int .i64 0), (.int .i64 0), (str [])] t_api_Stat w_1 fun s3 w_2 =>
  st 10 s3 t7 w_2 fun w_3 =>
  fa 0 s3 fun t8 =>
  ld t8 w_3 fun t9 =>
  bin .eql t9 (.int .i64 1) fun t11 =>
  cnd t11 (nck n0 fun t13 =>
    fa 10 t13 fun t14 =>
    ld t14 w_3 fun t15 =>
    lenV t15 fun t16 =>
    fa 2 s3 fun t17 =>
    st 1 t17 t16 w_3 fun w_4 =>
    ldS 10 s3 w_4 fun t32 =>
    st 10 t2 t32 w_4 fun w_5 =>
    ldS 10 t2 w_5 fun r =>
    R r w_5) (
  bin .eql t9 (.int .i64 2) fun t19 =>
    cnd t19 (nck n0 fun t21 =>
      fa 11 t21 fun t22 =>
      ld t22 w_3 fun t23 =>
      lenM t23 w_3 fun t24 =>
      fa 2 s3 fun t25 =>
      st 1 t25 t24 w_3 fun w_6 =>
      ldS 10 s3 w_6 fun t32_1 =>
      st 10 t2 t32_1 w_6 fun w_7 =>
      ldS 10 t2 w_7 fun r_1 =>
      R r_1 w_7) (
    bin .eql t9 (.int .i64 3) fun t27 =>
      cnd t27 (fa 9 s3 fun t28 =>
        ld t28 w_3 fun t29 =>
        lenS t29 fun t30 =>
        fa 2 s3 fun t31 =>
        st 1 t31 t30 w_3 fun w_8 =>
        ldS 10 s3 w_8 fun t32_2 =>
        st 10 t2 t32_2 w_8 fun w_9 =>
        ldS 10 t2 w_9 fun r_2 =>
        R r_2 w_9) (
      ldS 10 s3 w_3 fun t32_3 =>
        st 10 t2 t32_3 w_3 fun w_10 =>
        ldS 10 t2 w_10 fun r_3 =>
        R r_3 w_10)))
theorem ok_tree_node_tell (n0 : Value) (w : World) (R : Value → World → Prop) (h : go_tree_node_tell n0 w R) : CallsV Tryz.prog f_tree_node_tell #[n0] w R :=
  calls_of_vx Tryz.func48 (by rw [show vxF Tryz.prog Tryz.f48 [n0] w R = go_tree_node_tell n0 w R by kernel_rfl]; exact h)
theorem has_tree_node_tell : hasB Tryz.prog f_tree_node_tell := .mk' (fn := Tryz.f48) Tryz.func48 (by decide) rfl


end Go.Proofs.YtkpefimnggojdaaGreat.VX
