/-
  The functions of the program as predicates, printed by program (wip/tpl/Gen.lean) out of the dump; each is held against the dump by the kernel.
-/
import Derived.Test.YtkpefimnggojdaaGreatVn
import Derived.Test.YtkpefimnggojdaaGreatProg
import Derived.KernelRfl
set_option linter.all false
namespace Go.Proofs.YtkpefimnggojdaaGreat.VX
open Go
set_option maxRecDepth 20000

/-- remora/remoralaw19.WalkMore -/
def go_remoralaw19_WalkMore (acts0 l1 pattern2 : Value) (w : World) (R : Value → World → Prop) : Prop :=
  callv Tryz.prog (fnv f_remoraref17_Small) [acts0] w fun t18 w_1 =>
  un .not t18 fun t19 =>
  jn (fun g z w_2 => /- 0:t23 -/
    pickx t19 (.bool true) (nth g 0) fun t24 =>
    cnd t24 (callv Tryz.prog (fnv f_remoralaw19_awake) [] w_2 fun t25 w_3 =>
      R t25 w_3) (
    callv Tryz.prog (fnv f_remoralaw17_Build) [acts0] w_2 fun t27 w_4 =>
      binP .eql t27 (.pointer none) w_4 fun t29 =>
      cnd t29 (R (.bool false) w_4) (
      callv Tryz.prog (fnv f_tree_Tree_Paths) [t27] w_4 fun t31 w_5 =>
        lp (fun again g_1 z_1 w_6 => /- 0:n9 1:i10 -/
          lenV t31 fun t34 =>
          bin .lss (nth g_1 1) t34 fun t35 =>
          cnd t35 (ia 1 t31 (nth g_1 1) fun t40 =>
            ld t40 w_6 fun t41 =>
            bin .neq t41 (str []) fun t42 =>
            jn (fun g_2 z_2 w_7 => /- 0:t49 -/
              pickx t42 (nth g_2 0) (.bool false) fun t50 =>
              cnd t50 (bin .add (nth g_1 0) (.int .i64 1) fun t52 =>
                bin .add (nth g_1 1) (.int .i64 1) fun t37 =>
                again [t52, t37] w_7) (
              bin .add (nth g_1 1) (.int .i64 1) fun t37_1 =>
                again [(nth g_1 0), t37_1] w_7)) fun J_1 =>
            gd t42 true (ia 1 t31 (nth g_1 1) fun t46 =>
              ld t46 w_6 fun t47 =>
              callv Tryz.prog (fnv f_path_Under) [t47, (str [46, 114, 101, 109, 111, 114, 97])] w_6 fun t48 w_8 =>
              un .not t48 fun t49 =>
              J_1 [t49] w_8) (J_1 [undef] w_6)) (
          rn Tryz.prog (Builtin.append_ #[t_S_api_Rule, t_S_api_Rule] t_S_api_Rule ([(.slice none 0 0), l1] : List Value).toArray) w_6 fun t55 w_9 =>
            bld [(.int .i64 0), (str []), (.bool false), (.bool false)] [(0, 1, (.int .i64 2)), (1, 1, pattern2)] fun t57 =>
            bsl t_api_Rule 1 [(.int .i64 0), (str []), (.bool false), (.bool false)] [(0, 4, t57)] w_9 fun t58 w_10 =>
            rn Tryz.prog (Builtin.append_ #[t_S_api_Rule, t_S_api_Rule] t_S_api_Rule ([t55, t58] : List Value).toArray) w_10 fun t59 w_11 =>
            callv Tryz.prog (fnv f_rules_Check) [t59] w_11 fun t61 w_12 =>
            bin .neq t61 (.int .i64 0) fun t62 =>
            cnd t62 (callv Tryz.prog (fnv f_remoralaw19_awake) [] w_12 fun t63 w_13 =>
              R t63 w_13) (
            callv Tryz.prog (fnv f_walk_List) [t27, l1] w_12 fun t66 w_14 =>
              callv Tryz.prog (fnv f_walk_List) [t27, t59] w_14 fun t69 w_15 =>
              lp (fun again_1 g_3 z_3 w_16 => /- 0:k15 1:t6 2:i14 -/
                lenV t69 fun t72 =>
                bin .lss (nth g_3 2) t72 fun t73 =>
                cnd t73 (ia 11 t69 (nth g_3 2) fun t79 =>
                  fa 0 t79 fun t80 =>
                  ld t80 w_16 fun t81 =>
                  callv Tryz.prog (fnv f_remoralaw19_where) [t66, t81] w_16 fun t82 w_17 =>
                  bin .lss t82 (.int .i64 0) fun t84 =>
                  cnd t84 (R (.bool false) w_17) (
                  ia 11 t66 t82 fun t87 =>
                    ldS 11 t87 w_17 fun t88 =>
                    newx [(str []), (.int .i64 0), (.int .i64 0), (.int .i64 0), (.int .i64 0), (.int .i64 0), (.int .i64 0), (.int .i64 0), (str []), (str []), (.int .i64 0)] t_api_Entry w_17 fun x16 w_18 =>
                    st 11 x16 t88 w_18 fun w_19 =>
                    ia 11 t69 (nth g_3 2) fun t91 =>
                    fa 10 t91 fun t92 =>
                    ld t92 w_19 fun t93 =>
                    fa 10 x16 fun t94 =>
                    st 1 t94 t93 w_19 fun w_20 =>
                    drw [(0, [], fun d w_21 k => ldS 11 x16 w_21 fun x => k x w_21),
                      (3, [], fun d w_21 k => ia 11 t69 (nth g_3 2) fun x => k x w_21),
                      (4, [3], fun d w_21 k => ldS 11 (d 3) w_21 fun x => k x w_21),
                      (5, [0, 4, 3], fun d w_21 k => rn Tryz.prog (do eqGuard .neq t_api_Entry (.tmp 95) (.tmp 99) (d 0) (d 4); binOp .neq t_api_Entry (d 0) (d 4)) w_21 k),
                      (7, [5, 0, 4, 3], fun d w_21 k => gd (d 5) false (k t66 w_21) (k undef w_21)),
                      (8, [5, 0, 4, 3], fun d w_21 k => gd (d 5) false (k t82 w_21) (k undef w_21)),
                      (9, [7, 8, 5, 0, 4, 3], fun d w_21 k => gd (d 5) false (ia 11 (d 7) (d 8) fun x => k x w_21) (k undef w_21)),
                      (10, [9, 7, 8, 5, 0, 4, 3], fun d w_21 k => gd (d 5) false (fa 10 (d 9) fun x => k x w_21) (k undef w_21)),
                      (11, [10, 9, 7, 8, 5, 0, 4, 3], fun d w_21 k => gd (d 5) false (ld (d 10) w_21 fun x => k x w_21) (k undef w_21)),
                      (12, [11, 10, 9, 7, 8, 5, 0, 4, 3], fun d w_21 k => gd (d 5) false (bin .eql (d 11) (.int .i64 0) fun x => k x w_21) (k undef w_21)),
                      (13, [5, 0, 4, 3], fun d w_21 k => gd (d 5) false (k t69 w_21) (k undef w_21)),
                      (14, [5, 0, 4, 3], fun d w_21 k => gd (d 5) false (k (nth g_3 2) w_21) (k undef w_21)),
                      (15, [13, 14, 5, 0, 4, 3], fun d w_21 k => gd (d 5) false (ia 11 (d 13) (d 14) fun x => k x w_21) (k undef w_21)),
                      (16, [15, 13, 14, 5, 0, 4, 3], fun d w_21 k => gd (d 5) false (fa 10 (d 15) fun x => k x w_21) (k undef w_21)),
                      (17, [16, 15, 13, 14, 5, 0, 4, 3], fun d w_21 k => gd (d 5) false (ld (d 16) w_21 fun x => k x w_21) (k undef w_21)),
                      (18, [17, 16, 15, 13, 14, 5, 0, 4, 3], fun d w_21 k => gd (d 5) false (bin .eql (d 17) (.int .i64 0) fun x => k x w_21) (k undef w_21)),
                      (19, [12, 18, 11, 10, 9, 7, 8, 5, 0, 4, 3, 17, 16, 15, 13, 14], fun d w_21 k => gd (d 5) false (binB .neq (d 12) (d 18) fun x => k x w_21) (k undef w_21)),
                      (20, [19, 5, 0, 4, 3, 12, 18, 11, 10, 9, 7, 8, 17, 16, 15, 13, 14], fun d w_21 k => pickx (d 5) (.bool true) (d 19) fun x => k x w_21)] (fun d w_21 =>
                    cnd (d 20) (R (.bool false) w_21) (
                    bin .add (nth g_3 2) (.int .i64 1) fun t75 =>
                      again_1 [t82, (nth g_3 1), t75] w_21)) w_20)) (
                callv Tryz.prog (fnv f_walk_List) [t27, (.slice none 0 0)] w_16 fun t117 w_22 =>
                  lenV t117 fun t118 =>
                  bin .eql t118 (nth g_1 0) fun t120 =>
                  jn (fun g_4 z_4 w_23 => /- 0:t126 -/
                    pickx t120 (nth g_4 0) (.bool false) fun t127 =>
                    jn (fun g_5 z_5 w_24 => /- 0:t129 -/
                      pickx t127 (nth g_5 0) (.bool false) fun t130 =>
                      R t130 w_24) fun J_3 =>
                    gd t127 true (callv Tryz.prog (fnv f_remoralaw19_awake) [] w_23 fun t129 w_25 =>
                      J_3 [t129] w_25) (J_3 [undef] w_23)) fun J_2 =>
                  gd t120 true (lenV t69 fun t123 =>
                    lenV t66 fun t125 =>
                    bin .leq t123 t125 fun t126 =>
                    J_2 [t126] w_22) (J_2 [undef] w_22))) [undef, (.bool false), (.int .i64 0)] w_15))) [(.int .i64 0), (.int .i64 0)] w_5))) fun J =>
  gd t19 false (lenV l1 fun t22 =>
    bin .gtr t22 (.int .i64 60) fun t23 =>
    J [t23] w_1) (J [undef] w_1)
theorem ok_remoralaw19_WalkMore (acts0 l1 pattern2 : Value) (w : World) (R : Value → World → Prop) (h : go_remoralaw19_WalkMore acts0 l1 pattern2 w R) : CallsV Tryz.prog f_remoralaw19_WalkMore #[acts0, l1, pattern2] w R :=
  calls_of_vx Tryz.func3 (by rw [show vxF Tryz.prog Tryz.f3 [acts0, l1, pattern2] w R = go_remoralaw19_WalkMore acts0 l1 pattern2 w R by kernel_rfl]; exact h)
theorem has_remoralaw19_WalkMore : hasB Tryz.prog f_remoralaw19_WalkMore := .mk' (fn := Tryz.f3) Tryz.func3 (by decide) rfl

/-- remora/remoraref17.Small -/
def go_remoraref17_Small (l0 : Value) (w : World) (R : Value → World → Prop) : Prop :=
  lp (fun again g z w_1 => /- 0:t2 1:i3 -/
    lenV l0 fun t6 =>
    bin .lss (nth g 1) t6 fun t7 =>
    cnd t7 (ia 9 l0 (nth g 1) fun t12 =>
      fa 3 t12 fun t13 =>
      ld t13 w_1 fun t14 =>
      lenV t14 fun t15 =>
      bin .gtr t15 (.int .i64 400) fun t16 =>
      jn (fun g_1 z_1 w_2 => /- 0:t24 -/
        pickx t16 (.bool true) (nth g_1 0) fun t25 =>
        jn (fun g_2 z_2 w_3 => /- 0:t33 -/
          pickx t25 (.bool true) (nth g_2 0) fun t34 =>
          cnd t34 (R (.bool false) w_3) (
          bin .add (nth g 1) (.int .i64 1) fun t9 =>
            again [(nth g 0), t9] w_3)) fun J_1 =>
        gd t25 false (ia 9 l0 (nth g 1) fun t29 =>
          fa 2 t29 fun t30 =>
          ld t30 w_2 fun t31 =>
          lenS t31 fun t32 =>
          bin .gtr t32 (.int .i64 600) fun t33 =>
          J_1 [t33] w_2) (J_1 [undef] w_2)) fun J =>
      gd t16 false (ia 9 l0 (nth g 1) fun t20 =>
        fa 1 t20 fun t21 =>
        ld t21 w_1 fun t22 =>
        lenS t22 fun t23 =>
        bin .gtr t23 (.int .i64 600) fun t24 =>
        J [t24] w_1) (J [undef] w_1)) (
    lenV l0 fun t36 =>
      bin .leq t36 (.int .i64 40) fun t37 =>
      R t37 w_1)) [(.bool false), (.int .i64 0)] w
theorem ok_remoraref17_Small (l0 : Value) (w : World) (R : Value → World → Prop) (h : go_remoraref17_Small l0 w R) : CallsV Tryz.prog f_remoraref17_Small #[l0] w R :=
  calls_of_vx Tryz.func6 (by rw [show vxF Tryz.prog Tryz.f6 [l0] w R = go_remoraref17_Small l0 w R by kernel_rfl]; exact h)
theorem has_remoraref17_Small : hasB Tryz.prog f_remoraref17_Small := .mk' (fn := Tryz.f6) Tryz.func6 (by decide) rfl

/-- remora/remoralaw19.awake -/
def go_remoralaw19_awake (w : World) (R : Value → World → Prop) : Prop :=
  callv Tryz.prog (fnv f_tree_New) [] w fun t3 w_1 =>
  binP .eql t3 (.pointer none) w_1 fun t5 =>
  cnd t5 (R (.bool false) w_1) (
  bld [(.int .i64 0), (.int .i64 0), (.int .i64 0), (.int .i64 0), (.int .i64 0)] [(0, 1, (.int .i64 493))] fun t7 =>
    callv Tryz.prog (fnv f_tree_Tree_Mkdir) [t3, (str [100]), t7] w_1 fun t8 w_2 =>
    bsl t_uint8 3 [(.int .u8 0), (.int .u8 0), (.int .u8 0)] [(0, 1, (.int .u8 97)), (1, 1, (.int .u8 98)), (2, 1, (.int .u8 99))] w_2 fun t10 w_3 =>
    rn Tryz.prog (convert t_S_uint8 t_S_uint8 t10) w_3 fun t11 w_4 =>
    bld [(.int .i64 0), (.int .i64 0), (.int .i64 0), (.int .i64 0), (.int .i64 0)] [] fun t12 =>
    callv Tryz.prog (fnv f_tree_Tree_Write) [t3, (str [100, 47, 97]), t11, t12] w_4 fun t13 w_5 =>
    callv Tryz.prog (fnv f_tree_Tree_Link) [t3, (str [100, 47, 97]), (str [100, 47, 98])] w_5 fun t15 w_6 =>
    bld [(.int .i64 0), (.int .i64 0), (.int .i64 0), (.int .i64 0), (.int .i64 0)] [] fun t17 =>
    callv Tryz.prog (fnv f_tree_Tree_Symlink) [t3, (str [108]), (str [100]), t17] w_6 fun t18 w_7 =>
    callv Tryz.prog (fnv f_walk_List) [t3, (.slice none 0 0)] w_7 fun t20 w_8 =>
    lenV t20 fun t22 =>
    bin .eql t22 (.int .i64 4) fun t23 =>
    jn (fun g z w_9 => /- 0:t29 -/
      pickx t23 (nth g 0) (.bool false) fun t30 =>
      jn (fun g_1 z_1 w_10 => /- 0:t36 -/
        pickx t30 (nth g_1 0) (.bool false) fun t37 =>
        jn (fun g_2 z_2 w_11 => /- 0:t43 -/
          pickx t37 (nth g_2 0) (.bool false) fun t44 =>
          jn (fun g_3 z_3 w_12 => /- 0:t50 -/
            pickx t44 (nth g_3 0) (.bool false) fun t51 =>
            jn (fun g_4 z_4 w_13 => /- 0:t57 -/
              pickx t51 (nth g_4 0) (.bool false) fun t58 =>
              jn (fun g_5 z_5 w_14 => /- 0:t63 -/
                pickx t58 (nth g_5 0) (.bool false) fun t64 =>
                R t64 w_14) fun J_5 =>
              gd t58 true (callv Tryz.prog (fnv f_walk_Total) [t20] w_13 fun t61 w_15 =>
                bld [(.int .i64 0), (.int .i64 0), (.int .i64 0), (.int .i64 0)] [(0, 1, (.int .i64 2)), (1, 1, (.int .i64 1)), (2, 1, (.int .i64 1)), (3, 1, (.int .i64 3))] fun t62 =>
                rn Tryz.prog (do eqGuard .eql t__4int (.tmp 61) (.tmp 62) t61 t62; binOp .eql t__4int t61 t62) w_15 fun t63 w_16 =>
                J_5 [t63] w_16) (J_5 [undef] w_13)) fun J_4 =>
            gd t51 true (ia 11 t20 (.int .i64 3) fun t54 =>
              fa 8 t54 fun t55 =>
              ld t55 w_12 fun t56 =>
              bin .eql t56 (str [100]) fun t57 =>
              J_4 [t57] w_12) (J_4 [undef] w_12)) fun J_3 =>
          gd t44 true (ia 11 t20 (.int .i64 2) fun t47 =>
            fa 10 t47 fun t48 =>
            ld t48 w_11 fun t49 =>
            bin .eql t49 (.int .i64 1) fun t50 =>
            J_3 [t50] w_11) (J_3 [undef] w_11)) fun J_2 =>
        gd t37 true (ia 11 t20 (.int .i64 2) fun t40 =>
          fa 0 t40 fun t41 =>
          ld t41 w_10 fun t42 =>
          bin .eql t42 (str [100, 47, 98]) fun t43 =>
          J_2 [t43] w_10) (J_2 [undef] w_10)) fun J_1 =>
      gd t30 true (ia 11 t20 (.int .i64 0) fun t33 =>
        fa 2 t33 fun t34 =>
        ld t34 w_9 fun t35 =>
        bin .eql t35 (.int .i64 2) fun t36 =>
        J_1 [t36] w_9) (J_1 [undef] w_9)) fun J =>
    gd t23 true (ia 11 t20 (.int .i64 0) fun t26 =>
      fa 0 t26 fun t27 =>
      ld t27 w_8 fun t28 =>
      bin .eql t28 (str [100]) fun t29 =>
      J [t29] w_8) (J [undef] w_8))
theorem ok_remoralaw19_awake (w : World) (R : Value → World → Prop) (h : go_remoralaw19_awake  w R) : CallsV Tryz.prog f_remoralaw19_awake #[] w R :=
  calls_of_vx Tryz.func7 (by rw [show vxF Tryz.prog Tryz.f7 [] w R = go_remoralaw19_awake  w R by kernel_rfl]; exact h)
theorem has_remoralaw19_awake : hasB Tryz.prog f_remoralaw19_awake := .mk' (fn := Tryz.f7) Tryz.func7 (by decide) rfl

/-- remora/remoralaw17.Build -/
def go_remoralaw17_Build (l0 : Value) (w : World) (R : Value → World → Prop) : Prop :=
  callv Tryz.prog (fnv f_tree_New) [] w fun t5 w_1 =>
  lp (fun again g z w_2 => /- 0:i4 -/
    lenV l0 fun t8 =>
    bin .lss (nth g 0) t8 fun t9 =>
    cnd t9 (ia 9 l0 (nth g 0) fun t15 =>
      ldS 9 t15 w_2 fun t16 =>
      callv Tryz.prog (fnv f_remoralaw17_Do) [t5, t16] w_2 fun t17 w_3 =>
      bin .add (nth g 0) (.int .i64 1) fun t11 =>
      again [t11] w_3) (
    R t5 w_2)) [(.int .i64 0)] w_1
theorem ok_remoralaw17_Build (l0 : Value) (w : World) (R : Value → World → Prop) (h : go_remoralaw17_Build l0 w R) : CallsV Tryz.prog f_remoralaw17_Build #[l0] w R :=
  calls_of_vx Tryz.func8 (by rw [show vxF Tryz.prog Tryz.f8 [l0] w R = go_remoralaw17_Build l0 w R by kernel_rfl]; exact h)
theorem has_remoralaw17_Build : hasB Tryz.prog f_remoralaw17_Build := .mk' (fn := Tryz.f8) Tryz.func8 (by decide) rfl

/-- remora/walk.List -/
def go_walk_List (t0 l1 : Value) (w : World) (R : Value → World → Prop) : Prop :=
  newx [(.slice none 0 0)] t_S_api_Entry w fun out5 w_1 =>
  callv Tryz.prog (fnv f_walk_Each) [t0, l1] w_1 fun t9 w_2 =>
  False
theorem ok_walk_List (t0 l1 : Value) (w : World) (R : Value → World → Prop) (h : go_walk_List t0 l1 w R) : CallsV Tryz.prog f_walk_List #[t0, l1] w R :=
  calls_of_vx Tryz.func12 (by rw [show vxF Tryz.prog Tryz.f12 [t0, l1] w R = go_walk_List t0 l1 w R by kernel_rfl]; exact h)
theorem has_walk_List : hasB Tryz.prog f_walk_List := .mk' (fn := Tryz.f12) Tryz.func12 (by decide) rfl

/-- remora/remoralaw19.where -/
def go_remoralaw19_where (l0 p1 : Value) (w : World) (R : Value → World → Prop) : Prop :=
  lp (fun again g z w_1 => /- 0:t4 1:i5 -/
    lenV l0 fun t8 =>
    bin .lss (nth g 1) t8 fun t9 =>
    cnd t9 (ia 11 l0 (nth g 1) fun t14 =>
      fa 0 t14 fun t15 =>
      ld t15 w_1 fun t16 =>
      bin .eql t16 p1 fun t18 =>
      cnd t18 (R (nth g 1) w_1) (
      bin .add (nth g 1) (.int .i64 1) fun t11 =>
        again [(nth g 0), t11] w_1)) (
    R (.int .i64 (-1)) w_1)) [(.int .i64 0), (.int .i64 0)] w
theorem ok_remoralaw19_where (l0 p1 : Value) (w : World) (R : Value → World → Prop) (h : go_remoralaw19_where l0 p1 w R) : CallsV Tryz.prog f_remoralaw19_where #[l0, p1] w R :=
  calls_of_vx Tryz.func13 (by rw [show vxF Tryz.prog Tryz.f13 [l0, p1] w R = go_remoralaw19_where l0 p1 w R by kernel_rfl]; exact h)
theorem has_remoralaw19_where : hasB Tryz.prog f_remoralaw19_where := .mk' (fn := Tryz.f13) Tryz.func13 (by decide) rfl

/-- remora/walk.Total -/
def go_walk_Total (l0 : Value) (w : World) (R : Value → World → Prop) : Prop :=
  newx [(.int .i64 0), (.int .i64 0), (.int .i64 0), (.int .i64 0)] t__4int w fun t2 w_1 =>
  newx [(.int .i64 0), (.int .i64 0), (.int .i64 0), (.int .i64 0)] t__4int w_1 fun n3 w_2 =>
  mkmap w_2 fun t7 w_3 =>
  lenV l0 fun t9 =>
  lp (fun again g z w_4 => /- 0:t16 1:t22 2:t28 3:t10 -/
    bin .lss (nth g 3) t9 fun t11 =>
    cnd t11 (ia 11 l0 (nth g 3) fun t12 =>
      ldS 11 t12 w_4 fun t13 =>
      newx [(str []), (.int .i64 0), (.int .i64 0), (.int .i64 0), (.int .i64 0), (.int .i64 0), (.int .i64 0), (.int .i64 0), (str []), (str []), (.int .i64 0)] t_api_Entry w_4 fun e6 w_5 =>
      st 11 e6 t13 w_5 fun w_6 =>
      fa 1 e6 fun t14 =>
      ld t14 w_6 fun t15 =>
      bin .eql t15 (.int .i64 2) fun t17 =>
      cnd t17 (iaA 4 1 n3 (.int .i64 1) fun t18 =>
        ld t18 w_6 fun t19 =>
        bin .add t19 (.int .i64 1) fun t20 =>
        iaA 4 1 n3 (.int .i64 1) fun t21 =>
        st 1 t21 t20 w_6 fun w_7 =>
        bin .add (nth g 3) (.int .i64 1) fun t53 =>
        again [t17, (nth g 1), (nth g 2), t53] w_7) (
      bin .eql t15 (.int .i64 3) fun t23 =>
        cnd t23 (iaA 4 1 n3 (.int .i64 2) fun t24 =>
          ld t24 w_6 fun t25 =>
          bin .add t25 (.int .i64 1) fun t26 =>
          iaA 4 1 n3 (.int .i64 2) fun t27 =>
          st 1 t27 t26 w_6 fun w_8 =>
          bin .add (nth g 3) (.int .i64 1) fun t53_1 =>
          again [t17, t23, (nth g 2), t53_1] w_8) (
        bin .eql t15 (.int .i64 1) fun t29 =>
          cnd t29 (iaA 4 1 n3 (.int .i64 0) fun t30 =>
            ld t30 w_6 fun t31 =>
            bin .add t31 (.int .i64 1) fun t32 =>
            iaA 4 1 n3 (.int .i64 0) fun t33 =>
            st 1 t33 t32 w_6 fun w_9 =>
            fa 10 e6 fun t34 =>
            ld t34 w_9 fun t35 =>
            bin .leq t35 (.int .i64 0) fun t36 =>
            jn (fun g_1 z_1 w_10 => /- 0:t42 -/
              pickx t36 (.bool true) (nth g_1 0) fun t43 =>
              cnd t43 (iaA 4 1 n3 (.int .i64 3) fun t44 =>
                ld t44 w_10 fun t45 =>
                fa 2 e6 fun t46 =>
                ld t46 w_10 fun t47 =>
                bin .add t45 t47 fun t48 =>
                iaA 4 1 n3 (.int .i64 3) fun t49 =>
                st 1 t49 t48 w_10 fun w_11 =>
                fa 10 e6 fun t51 =>
                ld t51 w_11 fun t52 =>
                mux (.int .i64) t7 t52 (.bool true) w_11 fun w_12 =>
                bin .add (nth g 3) (.int .i64 1) fun t53_2 =>
                again [t17, t23, t29, t53_2] w_12) (
              fa 10 e6 fun t51_1 =>
                ld t51_1 w_10 fun t52_1 =>
                mux (.int .i64) t7 t52_1 (.bool true) w_10 fun w_13 =>
                bin .add (nth g 3) (.int .i64 1) fun t53_3 =>
                again [t17, t23, t29, t53_3] w_13)) fun J =>
            gd t36 false (fa 10 e6 fun t39 =>
              ld t39 w_9 fun t40 =>
              lk (.int .i64) (.bool false) t7 t40 false w_9 fun t41 =>
              un .not t41 fun t42 =>
              J [t42] w_9) (J [undef] w_9)) (
          bin .add (nth g 3) (.int .i64 1) fun t53_4 =>
            again [t17, t23, t29, t53_4] w_6)))) (
    ldS 4 n3 w_4 fun t54 =>
      st 4 t2 t54 w_4 fun w_14 =>
      ldS 4 t2 w_14 fun r =>
      R r w_14)) [undef, undef, undef, (.int .i64 0)] w_3
theorem ok_walk_Total (l0 : Value) (w : World) (R : Value → World → Prop) (h : go_walk_Total l0 w R) : CallsV Tryz.prog f_walk_Total #[l0] w R :=
  calls_of_vx Tryz.func32 (by rw [show vxF Tryz.prog Tryz.f32 [l0] w R = go_walk_Total l0 w R by kernel_rfl]; exact h)
theorem has_walk_Total : hasB Tryz.prog f_walk_Total := .mk' (fn := Tryz.f32) Tryz.func32 (by decide) rfl

/-- remora/remoralaw17.Do -/
def go_remoralaw17_Do (t0 a1 : Value) (w : World) (R : Value → World → Prop) : Prop :=
  boxx t_remoraref17_Act a1 w fun a3 w_1 =>
  fa 0 a3 fun t5 =>
  ld t5 w_1 fun t6 =>
  bin .eql t6 (.int .i64 0) fun t8 =>
  cnd t8 (fa 1 a3 fun t10 =>
    ld t10 w_1 fun t11 =>
    fa 4 a3 fun t12 =>
    ldS 5 t12 w_1 fun t13 =>
    callv Tryz.prog (fnv f_tree_Tree_Mkdir) [t0, t11, t13] w_1 fun t14 w_2 =>
    R t14 w_2) (
  bin .eql t6 (.int .i64 1) fun t16 =>
    cnd t16 (fa 1 a3 fun t18 =>
      ld t18 w_1 fun t19 =>
      fa 3 a3 fun t20 =>
      ld t20 w_1 fun t21 =>
      fa 4 a3 fun t22 =>
      ldS 5 t22 w_1 fun t23 =>
      callv Tryz.prog (fnv f_tree_Tree_Write) [t0, t19, t21, t23] w_1 fun t24 w_3 =>
      R t24 w_3) (
    bin .eql t6 (.int .i64 2) fun t26 =>
      cnd t26 (fa 1 a3 fun t28 =>
        ld t28 w_1 fun t29 =>
        fa 2 a3 fun t30 =>
        ld t30 w_1 fun t31 =>
        fa 4 a3 fun t32 =>
        ldS 5 t32 w_1 fun t33 =>
        callv Tryz.prog (fnv f_tree_Tree_Symlink) [t0, t29, t31, t33] w_1 fun t34 w_4 =>
        R t34 w_4) (
      bin .eql t6 (.int .i64 3) fun t36 =>
        cnd t36 (fa 1 a3 fun t38 =>
          ld t38 w_1 fun t39 =>
          fa 2 a3 fun t40 =>
          ld t40 w_1 fun t41 =>
          callv Tryz.prog (fnv f_tree_Tree_Link) [t0, t39, t41] w_1 fun t42 w_5 =>
          R t42 w_5) (
        bin .eql t6 (.int .i64 4) fun t44 =>
          cnd t44 (fa 1 a3 fun t46 =>
            ld t46 w_1 fun t47 =>
            callv Tryz.prog (fnv f_tree_Tree_Remove) [t0, t47] w_1 fun t48 w_6 =>
            R t48 w_6) (
          bin .eql t6 (.int .i64 5) fun t50 =>
            cnd t50 (fa 1 a3 fun t52 =>
              ld t52 w_1 fun t53 =>
              fa 2 a3 fun t54 =>
              ld t54 w_1 fun t55 =>
              callv Tryz.prog (fnv f_tree_Tree_Rename) [t0, t53, t55] w_1 fun t56 w_7 =>
              R t56 w_7) (
            bin .eql t6 (.int .i64 6) fun t58 =>
              cnd t58 (fa 1 a3 fun t60 =>
                ld t60 w_1 fun t61 =>
                fa 4 a3 fun t62 =>
                ldS 5 t62 w_1 fun t63 =>
                callv Tryz.prog (fnv f_tree_Tree_Set) [t0, t61, t63] w_1 fun t64 w_8 =>
                R t64 w_8) (
              bin .eql t6 (.int .i64 7) fun t66 =>
                cnd t66 (fa 1 a3 fun t68 =>
                  ld t68 w_1 fun t69 =>
                  fa 3 a3 fun t70 =>
                  ld t70 w_1 fun t71 =>
                  callv Tryz.prog (fnv f_tree_Tree_Append) [t0, t69, t71] w_1 fun t72 w_9 =>
                  R t72 w_9) (
                R (.int .i64 0) w_1))))))))
theorem ok_remoralaw17_Do (t0 a1 : Value) (w : World) (R : Value → World → Prop) (h : go_remoralaw17_Do t0 a1 w R) : CallsV Tryz.prog f_remoralaw17_Do #[t0, a1] w R :=
  calls_of_vx Tryz.func33 (by rw [show vxF Tryz.prog Tryz.f33 [t0, a1] w R = go_remoralaw17_Do t0 a1 w R by kernel_rfl]; exact h)
theorem has_remoralaw17_Do : hasB Tryz.prog f_remoralaw17_Do := .mk' (fn := Tryz.f33) Tryz.func33 (by decide) rfl

/-- remora/walk.Each -/
def go_walk_Each (t0 l1 : Value) (w : World) (R : Value → World → Prop) : Prop :=
  boxx t_P_tree_Tree t0 w fun t2 w_1 =>
  boxx t_S_api_Rule l1 w_1 fun l3 w_2 =>
  ld l3 w_2 fun t5 =>
  rn Tryz.prog (Builtin.append_ #[t_S_api_Rule, t_S_api_Rule] t_S_api_Rule ([(.slice none 0 0), t5] : List Value).toArray) w_2 fun t6 w_3 =>
  st 1 l3 t6 w_3 fun w_4 =>
  R (.func (.func f_walk_Each_d1) #[] #[t2, l3]) w_4
theorem ok_walk_Each (t0 l1 : Value) (w : World) (R : Value → World → Prop) (h : go_walk_Each t0 l1 w R) : CallsV Tryz.prog f_walk_Each #[t0, l1] w R :=
  calls_of_vx Tryz.func40 (by rw [show vxF Tryz.prog Tryz.f40 [t0, l1] w R = go_walk_Each t0 l1 w R by kernel_rfl]; exact h)
theorem has_walk_Each : hasB Tryz.prog f_walk_Each := .mk' (fn := Tryz.f40) Tryz.func40 (by decide) rfl

/-- remora/walk.Each$1 -/
def go_walk_Each_d1 (yield0 t1 t2 : Value) (w : World) (R : Value → World → Prop) : Prop :=
  ld t1 w fun t5 =>
  ld t2 w fun t6 =>
  mkmap w fun t7 w_1 =>
  bld [(.pointer none), (.slice none 0 0), (.map none), .nilFunc] [(0, 1, t5), (1, 1, t6), (2, 1, t7), (3, 1, yield0)] fun t9 =>
  boxx t_walk_walker t9 w_1 fun t10 w_2 =>
  callv Tryz.prog (fnv f_walk_walker_below) [t10, (str [])] w_2 fun t12 w_3 =>
  R (.tuple #[]) w_3
theorem ok_walk_Each_d1 (yield0 t1 t2 : Value) (w : World) (R : Value → World → Prop) (h : go_walk_Each_d1 yield0 t1 t2 w R) : CallsV Tryz.prog f_walk_Each_d1 #[yield0, t1, t2] w R :=
  calls_of_vx Tryz.func73 (by rw [show vxF Tryz.prog Tryz.f73 [yield0, t1, t2] w R = go_walk_Each_d1 yield0 t1 t2 w R by kernel_rfl]; exact h)
theorem has_walk_Each_d1 : hasB Tryz.prog f_walk_Each_d1 := .mk' (fn := Tryz.f73) Tryz.func73 (by decide) rfl

/-- (*remora/walk.walker).below -/
def go_walk_walker_below (w0 dir1 : Value) (w : World) (R : Value → World → Prop) : Prop :=
  nck w0 fun t14 =>
  fa 0 t14 fun t15 =>
  ld t15 w fun t16 =>
  callv Tryz.prog (fnv f_tree_Tree_List) [t16, dir1] w fun t18 w_1 =>
  ex t18 0 fun t19 =>
  ex t18 1 fun t20 =>
  lenV t19 fun t22 =>
  lp (fun again g z w_2 => /- 0:name8 1:p9 2:e11 3:t4 4:t23 -/
    bin .lss (nth g 4) t22 fun t24 =>
    cnd t24 (ia 1 t19 (nth g 4) fun t25 =>
      ld t25 w_2 fun t26 =>
      jn (fun g_1 z_1 w_3 => /- 0:p9 -/
        nck w0 fun t36 =>
        fa 0 t36 fun t37 =>
        ld t37 w_3 fun t38 =>
        callv Tryz.prog (fnv f_tree_Tree_Stat) [t38, (nth g_1 0)] w_3 fun t40 w_4 =>
        ex t40 0 fun t41 =>
        ex t40 1 fun t42 =>
        newx [(.int .i64 0), (.int .i64 0), (.int .i64 0), (.int .i64 0), (.int .i64 0), (.int .i64 0), (.int .i64 0), (.int .i64 0), (.int .i64 0), (str [])] t_api_Stat w_4 fun s10 w_5 =>
        st 10 s10 t41 w_5 fun w_6 =>
        drw [(1, [], fun d w_7 k => bin .neq t42 (.int .i64 0) fun x => k x w_7),
          (3, [1], fun d w_7 k => gd (d 1) false (k (nth g_1 0) w_7) (k undef w_7)),
          (4, [3, 1], fun d w_7 k => gd (d 1) false (bin .eql (d 3) (str [46, 114, 101, 109, 111, 114, 97]) fun x => k x w_7) (k undef w_7)),
          (5, [4, 1, 3], fun d w_7 k => pickx (d 1) (.bool true) (d 4) fun x => k x w_7),
          (7, [5, 4, 1, 3], fun d w_7 k => gd (d 5) false (k w0 w_7) (k undef w_7)),
          (8, [7, 5, 4, 1, 3], fun d w_7 k => gd (d 5) false (nck (d 7) fun x => k x w_7) (k undef w_7)),
          (9, [8, 7, 5, 4, 1, 3], fun d w_7 k => gd (d 5) false (fa 1 (d 8) fun x => k x w_7) (k undef w_7)),
          (10, [9, 8, 7, 5, 4, 1, 3], fun d w_7 k => gd (d 5) false (ld (d 9) w_7 fun x => k x w_7) (k undef w_7)),
          (11, [5, 4, 1, 3], fun d w_7 k => gd (d 5) false (k (nth g_1 0) w_7) (k undef w_7)),
          (12, [5, 4, 1, 3], fun d w_7 k => gd (d 5) false (fa 0 s10 fun x => k x w_7) (k undef w_7)),
          (13, [12, 5, 4, 1, 3], fun d w_7 k => gd (d 5) false (ld (d 12) w_7 fun x => k x w_7) (k undef w_7)),
          (14, [13, 12, 5, 4, 1, 3], fun d w_7 k => gd (d 5) false (bin .eql (d 13) (.int .i64 2) fun x => k x w_7) (k undef w_7)),
          (15, [10, 11, 14, 9, 8, 7, 5, 4, 1, 3, 13, 12], fun d w_7 k => gd (d 5) false (callv Tryz.prog (fnv f_rules_Hidden) [(d 10), (d 11), (d 14)] w_7 k) (k undef w_7)),
          (16, [15, 5, 4, 1, 3, 10, 11, 14, 9, 8, 7, 13, 12], fun d w_7 k => pickx (d 5) (.bool true) (d 15) fun x => k x w_7)] (fun d w_7 =>
        cnd (d 16) (bin .add (nth g 4) (.int .i64 1) fun t81 =>
          again [t26, (nth g_1 0), t42, (nth g 3), t81] w_7) (
        drw [(1, [], fun d_1 w_8 k_1 => nck w0 fun x => k_1 x w_8),
            (2, [1], fun d_1 w_8 k_1 => fa 3 (d_1 1) fun x => k_1 x w_8),
            (3, [2, 1], fun d_1 w_8 k_1 => ld (d_1 2) w_8 fun x => k_1 x w_8),
            (6, [], fun d_1 w_8 k_1 => ldS 10 s10 w_8 fun x => k_1 x w_8),
            (7, [6], fun d_1 w_8 k_1 => callv Tryz.prog (fnv f_walk_walker_entry) [w0, (nth g_1 0), (d_1 6)] w_8 k_1),
            (8, [3, 7, 2, 1, 6], fun d_1 w_8 k_1 => callv Tryz.prog (d_1 3) [(d_1 7)] w_8 k_1),
            (9, [8, 3, 7, 2, 1, 6], fun d_1 w_8 k_1 => un .not (d_1 8) fun x => k_1 x w_8),
            (11, [9, 8, 3, 7, 2, 1, 6], fun d_1 w_8 k_1 => gd (d_1 9) false (fa 0 s10 fun x => k_1 x w_8) (k_1 undef w_8)),
            (12, [11, 9, 8, 3, 7, 2, 1, 6], fun d_1 w_8 k_1 => gd (d_1 9) false (ld (d_1 11) w_8 fun x => k_1 x w_8) (k_1 undef w_8)),
            (13, [12, 11, 9, 8, 3, 7, 2, 1, 6], fun d_1 w_8 k_1 => gd (d_1 9) false (bin .eql (d_1 12) (.int .i64 2) fun x => k_1 x w_8) (k_1 undef w_8)),
            (14, [13, 12, 11, 9, 8, 3, 7, 2, 1, 6], fun d_1 w_8 k_1 => gd (d_1 9) false (k_1 (d_1 13) w_8) (k_1 undef w_8)),
            (15, [14, 13, 12, 11, 9, 8, 3, 7, 2, 1, 6], fun d_1 w_8 k_1 => gd (d_1 14) true (k_1 w0 w_8) (k_1 undef w_8)),
            (16, [14, 13, 12, 11, 9, 8, 3, 7, 2, 1, 6], fun d_1 w_8 k_1 => gd (d_1 14) true (k_1 (nth g_1 0) w_8) (k_1 undef w_8)),
            (17, [15, 16, 14, 13, 12, 11, 9, 8, 3, 7, 2, 1, 6], fun d_1 w_8 k_1 => gd (d_1 14) true (callv Tryz.prog (fnv f_walk_walker_below) [(d_1 15), (d_1 16)] w_8 k_1) (k_1 undef w_8)),
            (18, [17, 14, 15, 16, 13, 12, 11, 9, 8, 3, 7, 2, 1, 6], fun d_1 w_8 k_1 => gd (d_1 14) true (un .not (d_1 17) fun x => k_1 x w_8) (k_1 undef w_8)),
            (19, [14, 18, 13, 12, 11, 9, 8, 3, 7, 2, 1, 6, 17, 15, 16], fun d_1 w_8 k_1 => gd (d_1 9) false (pickx (d_1 14) (d_1 18) (.bool false) fun x => k_1 x w_8) (k_1 undef w_8)),
            (20, [19, 9, 8, 3, 7, 2, 1, 6, 14, 18, 13, 12, 11, 17, 15, 16], fun d_1 w_8 k_1 => pickx (d_1 9) (.bool true) (d_1 19) fun x => k_1 x w_8)] (fun d_1 w_8 =>
          cnd (d_1 20) (R (.bool false) w_8) (
          bin .add (nth g 4) (.int .i64 1) fun t81_1 =>
            again [t26, (nth g_1 0), t42, (nth g 3), t81_1] w_8)) w_7)) w_6) fun J =>
      bin .neq dir1 (str []) fun t29 =>
      cnd t29 (bin .add dir1 (str [47]) fun t31 =>
        bin .add t31 t26 fun t33 =>
        J [t33] w_2) (
      J [t26] w_2)) (
    R (.bool true) w_2)) [undef, undef, undef, (.bool false), (.int .i64 0)] w_1
theorem ok_walk_walker_below (w0 dir1 : Value) (w : World) (R : Value → World → Prop) (h : go_walk_walker_below w0 dir1 w R) : CallsV Tryz.prog f_walk_walker_below #[w0, dir1] w R :=
  calls_of_vx Tryz.func74 (by rw [show vxF Tryz.prog Tryz.f74 [w0, dir1] w R = go_walk_walker_below w0 dir1 w R by kernel_rfl]; exact h)
theorem has_walk_walker_below : hasB Tryz.prog f_walk_walker_below := .mk' (fn := Tryz.f74) Tryz.func74 (by decide) rfl

/-- (*remora/walk.walker).entry -/
def go_walk_walker_entry (w0 p1 s2 : Value) (w : World) (R : Value → World → Prop) : Prop :=
  boxx t_api_Stat s2 w fun s5 w_1 =>
  newx [(str []), (.int .i64 0), (.int .i64 0), (.int .i64 0), (.int .i64 0), (.int .i64 0), (.int .i64 0), (.int .i64 0), (str []), (str []), (.int .i64 0)] t_api_Entry w_1 fun t6 w_2 =>
  fa 0 s5 fun t9 =>
  ld t9 w_2 fun t10 =>
  fa 2 s5 fun t11 =>
  ld t11 w_2 fun t12 =>
  fa 4 s5 fun t13 =>
  ldS 5 t13 w_2 fun t14 =>
  fa 9 s5 fun t15 =>
  ld t15 w_2 fun t16 =>
  bld [(str []), (.int .i64 0), (.int .i64 0), (.int .i64 0), (.int .i64 0), (.int .i64 0), (.int .i64 0), (.int .i64 0), (str []), (str []), (.int .i64 0)] [(0, 1, p1), (1, 1, t10), (2, 1, t12), (3, 5, t14), (8, 1, t16)] fun t17 =>
  newx [(str []), (.int .i64 0), (.int .i64 0), (.int .i64 0), (.int .i64 0), (.int .i64 0), (.int .i64 0), (.int .i64 0), (str []), (str []), (.int .i64 0)] t_api_Entry w_2 fun e7 w_3 =>
  st 11 e7 t17 w_3 fun w_4 =>
  fa 0 s5 fun t18 =>
  ld t18 w_4 fun t19 =>
  bin .eql t19 (.int .i64 1) fun t20 =>
  jn (fun g z w_5 => /- 0:t24 -/
    pickx t20 (nth g 0) (.bool false) fun t25 =>
    cnd t25 (jn (fun g_1 z_1 w_6 => /-  -/
        drw [(1, [], fun d w_7 k => nck w0 fun x => k x w_7),
          (2, [1], fun d w_7 k => fa 2 (d 1) fun x => k x w_7),
          (3, [2, 1], fun d w_7 k => ld (d 2) w_7 fun x => k x w_7),
          (4, [], fun d w_7 k => fa 1 s5 fun x => k x w_7),
          (5, [4], fun d w_7 k => ld (d 4) w_7 fun x => k x w_7),
          (6, [3, 5, 2, 1, 4], fun d w_7 k => lk (.int .i64) (.int .i64 0) (d 3) (d 5) false w_7 fun x => k x w_7),
          (7, [1, 2, 3, 4, 5, 6], fun d w_7 k => fa 10 e7 fun x => k x w_7),
          (8, [7, 6, 1, 2, 3, 4, 5], fun d w_7 k => st 1 (d 7) (d 6) w_7 fun w_ => k undef w_)] (fun d w_7 =>
        ldS 11 e7 w_7 fun t54 =>
        st 11 t6 t54 w_7 fun w_8 =>
        ldS 11 t6 w_8 fun r =>
        R r w_8) w_6) fun J_1 =>
      drw [(1, [], fun d_1 w_9 k_1 => nck w0 fun x => k_1 x w_9),
        (2, [1], fun d_1 w_9 k_1 => fa 2 (d_1 1) fun x => k_1 x w_9),
        (3, [2, 1], fun d_1 w_9 k_1 => ld (d_1 2) w_9 fun x => k_1 x w_9),
        (4, [], fun d_1 w_9 k_1 => fa 1 s5 fun x => k_1 x w_9),
        (5, [4], fun d_1 w_9 k_1 => ld (d_1 4) w_9 fun x => k_1 x w_9),
        (6, [3, 5, 2, 1, 4], fun d_1 w_9 k_1 => lk (.int .i64) (.int .i64 0) (d_1 3) (d_1 5) false w_9 fun x => k_1 x w_9),
        (7, [6, 3, 5, 2, 1, 4], fun d_1 w_9 k_1 => bin .eql (d_1 6) (.int .i64 0) fun x => k_1 x w_9)] (fun d_1 w_9 =>
      cnd (d_1 7) (drw [(1, [], fun d_2 w_10 k_2 => nck w0 fun x => k_2 x w_10),
          (2, [1], fun d_2 w_10 k_2 => fa 2 (d_2 1) fun x => k_2 x w_10),
          (3, [2, 1], fun d_2 w_10 k_2 => ld (d_2 2) w_10 fun x => k_2 x w_10),
          (4, [], fun d_2 w_10 k_2 => fa 1 s5 fun x => k_2 x w_10),
          (5, [4], fun d_2 w_10 k_2 => ld (d_2 4) w_10 fun x => k_2 x w_10),
          (7, [], fun d_2 w_10 k_2 => nck w0 fun x => k_2 x w_10),
          (8, [7], fun d_2 w_10 k_2 => fa 2 (d_2 7) fun x => k_2 x w_10),
          (9, [8, 7], fun d_2 w_10 k_2 => ld (d_2 8) w_10 fun x => k_2 x w_10),
          (10, [9, 8, 7], fun d_2 w_10 k_2 => lenM (d_2 9) w_10 fun x => k_2 x w_10),
          (11, [10, 9, 8, 7], fun d_2 w_10 k_2 => bin .add (d_2 10) (.int .i64 1) fun x => k_2 x w_10),
          (12, [3, 5, 11, 10, 1, 2, 4, 7, 8, 9], fun d_2 w_10 k_2 => mux (.int .i64) (d_2 3) (d_2 5) (d_2 11) w_10 fun w_ => k_2 undef w_)] (fun d_2 w_10 =>
        J_1 [] w_10) w_9) (
      J_1 [] w_9)) w_5) (
    ldS 11 e7 w_5 fun t54_1 =>
      st 11 t6 t54_1 w_5 fun w_11 =>
      ldS 11 t6 w_11 fun r_1 =>
      R r_1 w_11)) fun J =>
  gd t20 true (fa 3 s5 fun t22 =>
    ld t22 w_4 fun t23 =>
    bin .gtr t23 (.int .i64 1) fun t24 =>
    J [t24] w_4) (J [undef] w_4)
theorem ok_walk_walker_entry (w0 p1 s2 : Value) (w : World) (R : Value → World → Prop) (h : go_walk_walker_entry w0 p1 s2 w R) : CallsV Tryz.prog f_walk_walker_entry #[w0, p1, s2] w R :=
  calls_of_vx Tryz.func98 (by rw [show vxF Tryz.prog Tryz.f98 [w0, p1, s2] w R = go_walk_walker_entry w0 p1 s2 w R by kernel_rfl]; exact h)
theorem has_walk_walker_entry : hasB Tryz.prog f_walk_walker_entry := .mk' (fn := Tryz.f98) Tryz.func98 (by decide) rfl


end Go.Proofs.YtkpefimnggojdaaGreat.VX
