/-
  The functions of the program as predicates, printed by program (wip/tpl/Gen.lean) out of the dump; each is held against the dump by the kernel.
-/
import Derived.Test.YtkpefimnggojdaaGreatVn
import Derived.Test.YtkpefimnggojdaaGreatProg
import Derived.KernelRfl
set_option linter.all false
namespace Go.Proofs.YtkpefimnggojdaaGreat.VX
open Go
set_option maxRecDepth 20000

/-- remora/rules.Check -/
def go_rules_Check (l0 : Value) (w : World) (R : Value → World → Prop) : Prop :=
  lenV l0 fun t7 =>
  bin .gtr t7 (.int .i64 64) fun t8 =>
  cnd t8 (R (.int .i64 7) w) (
  lenV l0 fun t10 =>
    lp (fun again g z w_1 => /- 0:e5 1:t2 2:t11 -/
      bin .lss (nth g 2) t10 fun t12 =>
      cnd t12 (ia 4 l0 (nth g 2) fun t13 =>
        ldS 4 t13 w_1 fun t14 =>
        newx [(.int .i64 0), (str []), (.bool false), (.bool false)] t_api_Rule w_1 fun r4 w_2 =>
        st 4 r4 t14 w_2 fun w_3 =>
        ldS 4 r4 w_3 fun t15 =>
        callv Tryz.prog (fnv f_rules_check) [t15] w_3 fun t16 w_4 =>
        bin .neq t16 (.int .i64 0) fun t18 =>
        cnd t18 (R t16 w_4) (
        bin .add (nth g 2) (.int .i64 1) fun t20 =>
          again [t16, (nth g 1), t20] w_4)) (
      R (.int .i64 0) w_1)) [undef, (.int .i64 0), (.int .i64 0)] w)
theorem ok_rules_Check (l0 : Value) (w : World) (R : Value → World → Prop) (h : go_rules_Check l0 w R) : CallsV Tryz.prog f_rules_Check #[l0] w R :=
  calls_of_vx Tryz.func11 (by rw [show vxF Tryz.prog Tryz.f11 [l0] w R = go_rules_Check l0 w R by kernel_rfl]; exact h)
theorem has_rules_Check : hasB Tryz.prog f_rules_Check := .mk' (fn := Tryz.f11) Tryz.func11 (by decide) rfl

/-- remora/path.Sort -/
def go_path_Sort (l0 : Value) (w : World) (R : Value → World → Prop) : Prop :=
  callv Tryz.prog (fnv f_slices_Clone_S_string_string) [l0] w fun t5 w_1 =>
  callv Tryz.prog (fnv f_slices_SortStableFunc_S_string_string) [t5, (fnv f_path_Sort_d1)] w_1 fun t7 w_2 =>
  R t5 w_2
theorem ok_path_Sort (l0 : Value) (w : World) (R : Value → World → Prop) (h : go_path_Sort l0 w R) : CallsV Tryz.prog f_path_Sort #[l0] w R :=
  calls_of_vx Tryz.func36 (by rw [show vxF Tryz.prog Tryz.f36 [l0] w R = go_path_Sort l0 w R by kernel_rfl]; exact h)
theorem has_path_Sort : hasB Tryz.prog f_path_Sort := .mk' (fn := Tryz.f36) Tryz.func36 (by decide) rfl

/-- remora/rules.check -/
def go_rules_check (r0 : Value) (w : World) (R : Value → World → Prop) : Prop :=
  boxx t_api_Rule r0 w fun r1 w_1 =>
  fa 1 r1 fun t4 =>
  ld t4 w_1 fun t5 =>
  fa 0 r1 fun t7 =>
  ld t7 w_1 fun t8 =>
  callv Tryz.prog (fnv f_rules_sign) [t8] w_1 fun t9 w_2 =>
  bin .eql t9 (.int .u8 0) fun t10 =>
  cnd t10 (R (.int .i64 2) w_2) (
  bin .eql t5 (str []) fun t13 =>
    jn (fun g z w_3 => /- 0:t17 -/
      pickx t13 (.bool true) (nth g 0) fun t18 =>
      jn (fun g_1 z_1 w_4 => /- 0:t25 -/
        pickx t18 (.bool true) (nth g_1 0) fun t26 =>
        jn (fun g_2 z_2 w_5 => /- 0:t29 -/
          pickx t26 (.bool true) (nth g_2 0) fun t30 =>
          cnd t30 (R (.int .i64 5) w_5) (
          callv Tryz.prog (fnv f_glob_Check) [t5] w_5 fun t32 w_6 =>
            R t32 w_6)) fun J_2 =>
        gd t26 false (callv Tryz.prog (fnv f_strings_Contains) [t5, (str [10])] w_4 fun t29 w_7 =>
          J_2 [t29] w_7) (J_2 [undef] w_4)) fun J_1 =>
      gd t18 false (lenS t5 fun t22 =>
        bin .sub t22 (.int .i64 1) fun t23 =>
        ixS t5 t23 fun t24 =>
        bin .eql t24 (.int .u8 47) fun t25 =>
        J_1 [t25] w_3) (J_1 [undef] w_3)) fun J =>
    gd t13 false (ixS t5 (.int .i64 0) fun t16 =>
      bin .eql t16 (.int .u8 47) fun t17 =>
      J [t17] w_2) (J [undef] w_2))
theorem ok_rules_check (r0 : Value) (w : World) (R : Value → World → Prop) (h : go_rules_check r0 w R) : CallsV Tryz.prog f_rules_check #[r0] w R :=
  calls_of_vx Tryz.func39 (by rw [show vxF Tryz.prog Tryz.f39 [r0] w R = go_rules_check r0 w R by kernel_rfl]; exact h)
theorem has_rules_check : hasB Tryz.prog f_rules_check := .mk' (fn := Tryz.f39) Tryz.func39 (by decide) rfl

/-- slices.SortStableFunc[[]string,string] -/
def go_slices_SortStableFunc_S_string_string (x0 cmp1 : Value) (w : World) (R : Value → World → Prop) : Prop :=
  lenV x0 fun t6 =>
  callv Tryz.prog (fnv f_slices_stableCmpFunc_string) [x0, t6, cmp1] w fun t8 w_1 =>
  R (.tuple #[]) w_1
theorem ok_slices_SortStableFunc_S_string_string (x0 cmp1 : Value) (w : World) (R : Value → World → Prop) (h : go_slices_SortStableFunc_S_string_string x0 cmp1 w R) : CallsV Tryz.prog f_slices_SortStableFunc_S_string_string #[x0, cmp1] w R :=
  calls_of_vx Tryz.func67 (by rw [show vxF Tryz.prog Tryz.f67 [x0, cmp1] w R = go_slices_SortStableFunc_S_string_string x0 cmp1 w R by kernel_rfl]; exact h)
theorem has_slices_SortStableFunc_S_string_string : hasB Tryz.prog f_slices_SortStableFunc_S_string_string := .mk' (fn := Tryz.f67) Tryz.func67 (by decide) rfl

/-- remora/rules.sign -/
def go_rules_sign (act0 : Value) (w : World) (R : Value → World → Prop) : Prop :=
  bin .leq act0 (.int .i64 0) fun t4 =>
  jn (fun g z w_1 => /- 0:t7 -/
    pickx t4 (.bool true) (nth g 0) fun t8 =>
    cnd t8 (R (.int .u8 0) w_1) (
    bld [(.int .u8 0), (.int .u8 0), (.int .u8 0), (.int .u8 0), (.int .u8 0)] [(1, 1, (.int .u8 43)), (2, 1, (.int .u8 45)), (3, 1, (.int .u8 80)), (4, 1, (.int .u8 82))] fun t9 =>
      ixA 5 1 false t9 act0 fun t11 =>
      R t11 w_1)) fun J =>
  gd t4 false (bin .gtr act0 (.int .i64 4) fun t7 =>
    J [t7] w) (J [undef] w)
theorem ok_rules_sign (act0 : Value) (w : World) (R : Value → World → Prop) (h : go_rules_sign act0 w R) : CallsV Tryz.prog f_rules_sign #[act0] w R :=
  calls_of_vx Tryz.func70 (by rw [show vxF Tryz.prog Tryz.f70 [act0] w R = go_rules_sign act0 w R by kernel_rfl]; exact h)
theorem has_rules_sign : hasB Tryz.prog f_rules_sign := .mk' (fn := Tryz.f70) Tryz.func70 (by decide) rfl

/-- remora/glob.Check -/
def go_glob_Check (p0 : Value) (w : World) (R : Value → World → Prop) : Prop :=
  lenS p0 fun t6 =>
  bin .gtr t6 (.int .i64 100) fun t7 =>
  cnd t7 (R (.int .i64 7) w) (
  callv Tryz.prog (fnv f_glob_signs) [p0] w fun t10 w_1 =>
    ex t10 0 fun t11 =>
    ex t10 1 fun t12 =>
    un .not t12 fun t14 =>
    cnd t14 (R (.int .i64 5) w_1) (
    R (.int .i64 0) w_1))
theorem ok_glob_Check (p0 : Value) (w : World) (R : Value → World → Prop) (h : go_glob_Check p0 w R) : CallsV Tryz.prog f_glob_Check #[p0] w R :=
  calls_of_vx Tryz.func72 (by rw [show vxF Tryz.prog Tryz.f72 [p0] w R = go_glob_Check p0 w R by kernel_rfl]; exact h)
theorem has_glob_Check : hasB Tryz.prog f_glob_Check := .mk' (fn := Tryz.f72) Tryz.func72 (by decide) rfl

/-- remora/meta.Check -/
def go_meta_Check (m0 : Value) (w : World) (R : Value → World → Prop) : Prop :=
  boxx t_api_Meta m0 w fun m1 w_1 =>
  fa 0 m1 fun t5 =>
  ld t5 w_1 fun t6 =>
  callv Tryz.prog (fnv f_meta_Check_d1) [t6, (.int .i64 0), (.int .i64 4095)] w_1 fun t7 w_2 =>
  jn (fun g z w_3 => /- 0:t12 -/
    pickx t7 (nth g 0) (.bool false) fun t13 =>
    jn (fun g_1 z_1 w_4 => /- 0:t18 -/
      pickx t13 (nth g_1 0) (.bool false) fun t19 =>
      jn (fun g_2 z_2 w_5 => /- 0:t24 -/
        pickx t19 (nth g_2 0) (.bool false) fun t25 =>
        jn (fun g_3 z_3 w_6 => /- 0:t30 -/
          pickx t25 (nth g_3 0) (.bool false) fun t31 =>
          cnd t31 (R (.int .i64 0) w_6) (
          R (.int .i64 2) w_6)) fun J_3 =>
        gd t25 true (fa 4 m1 fun t28 =>
          ld t28 w_5 fun t29 =>
          callv Tryz.prog (fnv f_meta_Check_d1) [t29, (.int .i64 0), (.int .i64 2147483647)] w_5 fun t30 w_7 =>
          J_3 [t30] w_7) (J_3 [undef] w_5)) fun J_2 =>
      gd t19 true (fa 3 m1 fun t22 =>
        ld t22 w_4 fun t23 =>
        callv Tryz.prog (fnv f_meta_Check_d1) [t23, (.int .i64 0), (.int .i64 2147483647)] w_4 fun t24 w_8 =>
        J_2 [t24] w_8) (J_2 [undef] w_4)) fun J_1 =>
    gd t13 true (fa 2 m1 fun t16 =>
      ld t16 w_3 fun t17 =>
      callv Tryz.prog (fnv f_meta_Check_d1) [t17, (.int .i64 0), (.int .i64 999999999)] w_3 fun t18 w_9 =>
      J_1 [t18] w_9) (J_1 [undef] w_3)) fun J =>
  gd t7 true (fa 1 m1 fun t10 =>
    ld t10 w_2 fun t11 =>
    callv Tryz.prog (fnv f_meta_Check_d1) [t11, (.int .i64 (-1099511627776)), (.int .i64 1099511627776)] w_2 fun t12 w_10 =>
    J [t12] w_10) (J [undef] w_2)
theorem ok_meta_Check (m0 : Value) (w : World) (R : Value → World → Prop) (h : go_meta_Check m0 w R) : CallsV Tryz.prog f_meta_Check #[m0] w R :=
  calls_of_vx Tryz.func87 (by rw [show vxF Tryz.prog Tryz.f87 [m0] w R = go_meta_Check m0 w R by kernel_rfl]; exact h)
theorem has_meta_Check : hasB Tryz.prog f_meta_Check := .mk' (fn := Tryz.f87) Tryz.func87 (by decide) rfl

/-- slices.stableCmpFunc[string] -/
def go_slices_stableCmpFunc_string (data0 n1 cmp2 : Value) (w : World) (R : Value → World → Prop) : Prop :=
  lp (fun again g z w_1 => /- 0:a7 1:b8 -/
    bin .leq (nth g 1) n1 fun t13 =>
    cnd t13 (callv Tryz.prog (fnv f_slices_insertionSortCmpFunc_string) [data0, (nth g 0), (nth g 1), cmp2] w_1 fun t18 w_2 =>
      bin .add (nth g 1) (.int .i64 20) fun t22 =>
      again [(nth g 1), t22] w_2) (
    callv Tryz.prog (fnv f_slices_insertionSortCmpFunc_string) [data0, (nth g 0), n1, cmp2] w_1 fun t27 w_3 =>
      lp (fun again_1 g_1 z_1 w_4 => /- 0:a7 1:b8 2:m9 3:blockSize6 -/
        bin .lss (nth g_1 3) n1 fun t30 =>
        cnd t30 (bin .mul (.int .i64 2) (nth g_1 3) fun t32 =>
          lp (fun again_2 g_2 z_2 w_5 => /- 0:a7 1:b8 -/
            bin .leq (nth g_2 1) n1 fun t35 =>
            cnd t35 (bin .add (nth g_2 0) (nth g_1 3) fun t40 =>
              callv Tryz.prog (fnv f_slices_symMergeCmpFunc_string) [data0, (nth g_2 0), t40, (nth g_2 1), cmp2] w_5 fun t43 w_6 =>
              bin .mul (.int .i64 2) (nth g_1 3) fun t47 =>
              bin .add (nth g_2 1) t47 fun t48 =>
              again_2 [(nth g_2 1), t48] w_6) (
            bin .add (nth g_2 0) (nth g_1 3) fun t51 =>
              bin .lss t51 n1 fun t54 =>
              cnd t54 (callv Tryz.prog (fnv f_slices_symMergeCmpFunc_string) [data0, (nth g_2 0), t51, n1, cmp2] w_5 fun t60 w_7 =>
                bin .mul (nth g_1 3) (.int .i64 2) fun t62 =>
                again_1 [(nth g_2 0), (nth g_2 1), t51, t62] w_7) (
              bin .mul (nth g_1 3) (.int .i64 2) fun t62_1 =>
                again_1 [(nth g_2 0), (nth g_2 1), t51, t62_1] w_5))) [(.int .i64 0), t32] w_4) (
        R (.tuple #[]) w_4)) [(nth g 0), (nth g 1), undef, (.int .i64 20)] w_3)) [(.int .i64 0), (.int .i64 20)] w
theorem ok_slices_stableCmpFunc_string (data0 n1 cmp2 : Value) (w : World) (R : Value → World → Prop) (h : go_slices_stableCmpFunc_string data0 n1 cmp2 w R) : CallsV Tryz.prog f_slices_stableCmpFunc_string #[data0, n1, cmp2] w R :=
  calls_of_vx Tryz.func92 (by rw [show vxF Tryz.prog Tryz.f92 [data0, n1, cmp2] w R = go_slices_stableCmpFunc_string data0 n1 cmp2 w R by kernel_rfl]; exact h)
theorem has_slices_stableCmpFunc_string : hasB Tryz.prog f_slices_stableCmpFunc_string := .mk' (fn := Tryz.f92) Tryz.func92 (by decide) rfl

/-- remora/glob.signs -/
def go_glob_signs (p0 : Value) (w : World) (R : Value → World → Prop) : Prop :=
  lenS p0 fun t11 =>
  bin .gtr t11 (.int .i64 100) fun t12 =>
  cnd t12 (R (.tuple #[(.slice none 0 0), (.bool false)]) w) (
  lp (fun again g z w_1 => /- 0:t29 1:k6 2:i5 3:out4 4:t57 5:t63 -/
      lenS p0 fun t15 =>
      bin .lss (nth g 2) t15 fun t16 =>
      cnd t16 (ixS p0 (nth g 2) fun t21 =>
        bin .eql t21 (.int .u8 42) fun t30 =>
        cnd t30 (lp (fun again_1 g_1 z_1 w_2 => /- 0:i5 -/
            bin .add (nth g_1 0) (.int .i64 1) fun t33 =>
            lenS p0 fun t35 =>
            bin .lss t33 t35 fun t36 =>
            jn (fun g_2 z_2 w_3 => /- 0:t42 -/
              pickx t36 (nth g_2 0) (.bool false) fun t43 =>
              cnd t43 (bin .add (nth g_1 0) (.int .i64 1) fun t45 =>
                again_1 [t45] w_3) (
              bin .gtr (nth g_1 0) (nth g 2) fun t48 =>
                cnd t48 (bld ([(.int .i64 0)] ++ [(.int .u8 0)] ++ List.replicate 257 (.bool false)) [(0, 1, (.int .i64 1))] fun t50 =>
                  bsl t_glob_sign 1 ([(.int .i64 0)] ++ [(.int .u8 0)] ++ List.replicate 257 (.bool false)) [(0, 259, t50)] w_3 fun t51 w_4 =>
                  rn Tryz.prog (Builtin.append_ #[t_S_glob_sign, t_S_glob_sign] t_S_glob_sign ([(nth g 3), t51] : List Value).toArray) w_4 fun t52 w_5 =>
                  bin .add (nth g_1 0) (.int .i64 1) fun t18 =>
                  again [t30, (nth g 2), t18, t52, (nth g 4), (nth g 5), (nth g 6), (nth g 7), (nth g 8), (nth g 9), (nth g 10)] w_5) (
                bld ([(.int .i64 0)] ++ [(.int .u8 0)] ++ List.replicate 257 (.bool false)) [(0, 1, (.int .i64 2))] fun t54 =>
                  bsl t_glob_sign 1 ([(.int .i64 0)] ++ [(.int .u8 0)] ++ List.replicate 257 (.bool false)) [(0, 259, t54)] w_3 fun t55 w_6 =>
                  rn Tryz.prog (Builtin.append_ #[t_S_glob_sign, t_S_glob_sign] t_S_glob_sign ([(nth g 3), t55] : List Value).toArray) w_6 fun t56 w_7 =>
                  bin .add (nth g_1 0) (.int .i64 1) fun t18_1 =>
                  again [t30, (nth g 2), t18_1, t56, (nth g 4), (nth g 5), (nth g 6), (nth g 7), (nth g 8), (nth g 9), (nth g 10)] w_7))) fun J =>
            gd t36 true (bin .add (nth g_1 0) (.int .i64 1) fun t40 =>
              ixS p0 t40 fun t41 =>
              bin .eql t41 (.int .u8 42) fun t42 =>
              J [t42] w_2) (J [undef] w_2)) [(nth g 2)] w_1) (
        bin .eql t21 (.int .u8 63) fun t58 =>
          cnd t58 (bld ([(.int .i64 0)] ++ [(.int .u8 0)] ++ List.replicate 257 (.bool false)) [(0, 1, (.int .i64 3))] fun t60 =>
            bsl t_glob_sign 1 ([(.int .i64 0)] ++ [(.int .u8 0)] ++ List.replicate 257 (.bool false)) [(0, 259, t60)] w_1 fun t61 w_8 =>
            rn Tryz.prog (Builtin.append_ #[t_S_glob_sign, t_S_glob_sign] t_S_glob_sign ([(nth g 3), t61] : List Value).toArray) w_8 fun t62 w_9 =>
            bin .add (nth g 2) (.int .i64 1) fun t18_2 =>
            again [t30, (nth g 1), t18_2, t62, t58, (nth g 5), (nth g 6), (nth g 7), (nth g 8), (nth g 9), (nth g 10)] w_9) (
          bin .eql t21 (.int .u8 91) fun t64 =>
            cnd t64 (bin .add (nth g 2) (.int .i64 1) fun t68 =>
              callv Tryz.prog (fnv f_glob_classAt) [p0, t68] w_1 fun t69 w_10 =>
              ex t69 0 fun t70 =>
              ex t69 1 fun t71 =>
              ex t69 2 fun t72 =>
              newx ([(.int .i64 0)] ++ [(.int .u8 0)] ++ List.replicate 257 (.bool false)) t_glob_sign w_10 fun s7 w_11 =>
              st 259 s7 t70 w_11 fun w_12 =>
              un .not t72 fun t74 =>
              cnd t74 (R (.tuple #[(.slice none 0 0), (.bool false)]) w_12) (
              ldS 259 s7 w_12 fun t76 =>
                bsl t_glob_sign 1 ([(.int .i64 0)] ++ [(.int .u8 0)] ++ List.replicate 257 (.bool false)) [(0, 259, t76)] w_12 fun t77 w_13 =>
                rn Tryz.prog (Builtin.append_ #[t_S_glob_sign, t_S_glob_sign] t_S_glob_sign ([(nth g 3), t77] : List Value).toArray) w_13 fun t78 w_14 =>
                bin .sub t71 (.int .i64 1) fun t80 =>
                bin .add t80 (.int .i64 1) fun t18_3 =>
                again [t30, (nth g 1), t18_3, t78, t58, t64, t71, t72, (nth g 8), (nth g 9), (nth g 10)] w_14)) (
            bin .eql t21 (.int .u8 92) fun t82 =>
              cnd t82 (bin .add (nth g 2) (.int .i64 1) fun t84 =>
                lenS p0 fun t87 =>
                bin .eql t84 t87 fun t88 =>
                cnd t88 (R (.tuple #[(.slice none 0 0), (.bool false)]) w_1) (
                ixS p0 t84 fun t92 =>
                  bld ([(.int .i64 0)] ++ [(.int .u8 0)] ++ List.replicate 257 (.bool false)) [(1, 1, t92)] fun t93 =>
                  bsl t_glob_sign 1 ([(.int .i64 0)] ++ [(.int .u8 0)] ++ List.replicate 257 (.bool false)) [(0, 259, t93)] w_1 fun t94 w_15 =>
                  rn Tryz.prog (Builtin.append_ #[t_S_glob_sign, t_S_glob_sign] t_S_glob_sign ([(nth g 3), t94] : List Value).toArray) w_15 fun t95 w_16 =>
                  bin .add t84 (.int .i64 1) fun t18_4 =>
                  again [t30, (nth g 1), t18_4, t95, t58, t64, (nth g 6), (nth g 7), (nth g 8), (nth g 9), t82] w_16)) (
              ixS p0 (nth g 2) fun t25 =>
                bld ([(.int .i64 0)] ++ [(.int .u8 0)] ++ List.replicate 257 (.bool false)) [(1, 1, t25)] fun t26 =>
                bsl t_glob_sign 1 ([(.int .i64 0)] ++ [(.int .u8 0)] ++ List.replicate 257 (.bool false)) [(0, 259, t26)] w_1 fun t27 w_17 =>
                rn Tryz.prog (Builtin.append_ #[t_S_glob_sign, t_S_glob_sign] t_S_glob_sign ([(nth g 3), t27] : List Value).toArray) w_17 fun t28 w_18 =>
                bin .add (nth g 2) (.int .i64 1) fun t18_5 =>
                again [t30, (nth g 1), t18_5, t28, t58, t64, (nth g 6), (nth g 7), (nth g 8), (nth g 9), t82] w_18))))) (
      R (.tuple #[(nth g 3), (.bool true)]) w_1)) [undef, undef, (.int .i64 0), (.slice none 0 0), undef, undef, undef, undef, (.slice none 0 0), (.bool false), undef] w)
theorem ok_glob_signs (p0 : Value) (w : World) (R : Value → World → Prop) (h : go_glob_signs p0 w R) : CallsV Tryz.prog f_glob_signs #[p0] w R :=
  calls_of_vx Tryz.func95 (by rw [show vxF Tryz.prog Tryz.f95 [p0] w R = go_glob_signs p0 w R by kernel_rfl]; exact h)
theorem has_glob_signs : hasB Tryz.prog f_glob_signs := .mk' (fn := Tryz.f95) Tryz.func95 (by decide) rfl

/-- remora/rules.Hidden -/
def go_rules_Hidden (l0 p1 dir2 : Value) (w : World) (R : Value → World → Prop) : Prop :=
  callv Tryz.prog (fnv f_path_Right) [p1] w fun t8 w_1 =>
  un .not t8 fun t9 =>
  cnd t9 (R (.bool false) w_1) (
  lp (fun again g z w_2 => /- 0:t6 1:p1 2:dir2 -/
      bin .neq (nth g 1) (str []) fun t11 =>
      cnd t11 (callv Tryz.prog (fnv f_rules_Act) [l0, (nth g 1), (nth g 2), (.bool false)] w_2 fun t17 w_3 =>
        bin .eql t17 (.int .i64 2) fun t18 =>
        cnd t18 (R (.bool true) w_3) (
        callv Tryz.prog (fnv f_path_Parent) [(nth g 1)] w_3 fun t13 w_4 =>
          again [(nth g 0), t13, (.bool true)] w_4)) (
      R (.bool false) w_2)) [(.bool false), p1, dir2] w_1)
theorem ok_rules_Hidden (l0 p1 dir2 : Value) (w : World) (R : Value → World → Prop) (h : go_rules_Hidden l0 p1 dir2 w R) : CallsV Tryz.prog f_rules_Hidden #[l0, p1, dir2] w R :=
  calls_of_vx Tryz.func97 (by rw [show vxF Tryz.prog Tryz.f97 [l0, p1, dir2] w R = go_rules_Hidden l0 p1 dir2 w R by kernel_rfl]; exact h)
theorem has_rules_Hidden : hasB Tryz.prog f_rules_Hidden := .mk' (fn := Tryz.f97) Tryz.func97 (by decide) rfl

/-- remora/meta.Check$1 -/
def go_meta_Check_d1 (n0 least1 most2 : Value) (w : World) (R : Value → World → Prop) : Prop :=
  bin .geq n0 least1 fun t9 =>
  jn (fun g z w_1 => /- 0:t13 -/
    pickx t9 (nth g 0) (.bool false) fun t14 =>
    R t14 w_1) fun J =>
  gd t9 true (bin .leq n0 most2 fun t13 =>
    J [t13] w) (J [undef] w)
theorem ok_meta_Check_d1 (n0 least1 most2 : Value) (w : World) (R : Value → World → Prop) (h : go_meta_Check_d1 n0 least1 most2 w R) : CallsV Tryz.prog f_meta_Check_d1 #[n0, least1, most2] w R :=
  calls_of_vx Tryz.func107 (by rw [show vxF Tryz.prog Tryz.f107 [n0, least1, most2] w R = go_meta_Check_d1 n0 least1 most2 w R by kernel_rfl]; exact h)
theorem has_meta_Check_d1 : hasB Tryz.prog f_meta_Check_d1 := .mk' (fn := Tryz.f107) Tryz.func107 (by decide) rfl

/-- slices.insertionSortCmpFunc[string] -/
def go_slices_insertionSortCmpFunc_string (data0 a1 b2 cmp3 : Value) (w : World) (R : Value → World → Prop) : Prop :=
  bin .add a1 (.int .i64 1) fun t11 =>
  lp (fun again g z w_1 => /- 0:j9 1:i8 -/
    bin .lss (nth g 1) b2 fun t14 =>
    cnd t14 (lp (fun again_1 g_1 z_1 w_2 => /- 0:j9 -/
        drw [(2, [], fun d w_3 k => bin .gtr (nth g_1 0) a1 fun x => k x w_3),
          (4, [2], fun d w_3 k => gd (d 2) true (k cmp3 w_3) (k undef w_3)),
          (5, [2], fun d w_3 k => gd (d 2) true (k data0 w_3) (k undef w_3)),
          (6, [2], fun d w_3 k => gd (d 2) true (k (nth g_1 0) w_3) (k undef w_3)),
          (7, [5, 6, 2], fun d w_3 k => gd (d 2) true (ia 1 (d 5) (d 6) fun x => k x w_3) (k undef w_3)),
          (8, [7, 5, 6, 2], fun d w_3 k => gd (d 2) true (ld (d 7) w_3 fun x => k x w_3) (k undef w_3)),
          (9, [2], fun d w_3 k => gd (d 2) true (k data0 w_3) (k undef w_3)),
          (10, [2], fun d w_3 k => gd (d 2) true (k (nth g_1 0) w_3) (k undef w_3)),
          (11, [10, 2], fun d w_3 k => gd (d 2) true (bin .sub (d 10) (.int .i64 1) fun x => k x w_3) (k undef w_3)),
          (12, [9, 11, 2, 10], fun d w_3 k => gd (d 2) true (ia 1 (d 9) (d 11) fun x => k x w_3) (k undef w_3)),
          (13, [12, 9, 11, 2, 10], fun d w_3 k => gd (d 2) true (ld (d 12) w_3 fun x => k x w_3) (k undef w_3)),
          (14, [4, 8, 13, 2, 7, 5, 6, 12, 9, 11, 10], fun d w_3 k => gd (d 2) true (callv Tryz.prog (d 4) [(d 8), (d 13)] w_3 k) (k undef w_3)),
          (15, [14, 4, 8, 13, 2, 7, 5, 6, 12, 9, 11, 10], fun d w_3 k => gd (d 2) true (bin .lss (d 14) (.int .i64 0) fun x => k x w_3) (k undef w_3)),
          (16, [15, 2, 14, 4, 8, 13, 7, 5, 6, 12, 9, 11, 10], fun d w_3 k => pickx (d 2) (d 15) (.bool false) fun x => k x w_3)] (fun d w_3 =>
        cnd (d 16) (drw [(4, [], fun d_1 w_4 k_1 => bin .sub (nth g_1 0) (.int .i64 1) fun x => k_1 x w_4),
            (7, [], fun d_1 w_4 k_1 => bin .sub (nth g_1 0) (.int .i64 1) fun x => k_1 x w_4),
            (8, [7], fun d_1 w_4 k_1 => ia 1 data0 (d_1 7) fun x => k_1 x w_4),
            (9, [8, 7], fun d_1 w_4 k_1 => ld (d_1 8) w_4 fun x => k_1 x w_4),
            (12, [], fun d_1 w_4 k_1 => ia 1 data0 (nth g_1 0) fun x => k_1 x w_4),
            (13, [12], fun d_1 w_4 k_1 => ld (d_1 12) w_4 fun x => k_1 x w_4),
            (14, [7, 8, 9, 13, 12], fun d_1 w_4 k_1 => ia 1 data0 (nth g_1 0) fun x => k_1 x w_4),
            (15, [14, 9, 7, 8, 13, 12], fun d_1 w_4 k_1 => st 1 (d_1 14) (d_1 9) w_4 fun w_ => k_1 undef w_),
            (16, [4, 7, 8, 9, 12, 13, 14, 15], fun d_1 w_4 k_1 => ia 1 data0 (d_1 4) fun x => k_1 x w_4),
            (17, [16, 13, 15, 4, 7, 8, 9, 12, 14], fun d_1 w_4 k_1 => st 1 (d_1 16) (d_1 13) w_4 fun w_ => k_1 undef w_)] (fun d_1 w_4 =>
          bin .sub (nth g_1 0) (.int .i64 1) fun t36 =>
          again_1 [t36] w_4) w_3) (
        bin .add (nth g 1) (.int .i64 1) fun t16 =>
          again [(nth g_1 0), t16] w_3)) w_2) [(nth g 1)] w_1) (
    R (.tuple #[]) w_1)) [undef, t11] w
theorem ok_slices_insertionSortCmpFunc_string (data0 a1 b2 cmp3 : Value) (w : World) (R : Value → World → Prop) (h : go_slices_insertionSortCmpFunc_string data0 a1 b2 cmp3 w R) : CallsV Tryz.prog f_slices_insertionSortCmpFunc_string #[data0, a1, b2, cmp3] w R :=
  calls_of_vx Tryz.func111 (by rw [show vxF Tryz.prog Tryz.f111 [data0, a1, b2, cmp3] w R = go_slices_insertionSortCmpFunc_string data0 a1 b2 cmp3 w R by kernel_rfl]; exact h)
theorem has_slices_insertionSortCmpFunc_string : hasB Tryz.prog f_slices_insertionSortCmpFunc_string := .mk' (fn := Tryz.f111) Tryz.func111 (by decide) rfl

/-- slices.symMergeCmpFunc[string] -/
def go_slices_symMergeCmpFunc_string (data0 a1 m2 b3 cmp4 : Value) (w : World) (R : Value → World → Prop) : Prop :=
  bin .sub m2 a1 fun t27 =>
  bin .eql t27 (.int .i64 1) fun t28 =>
  cnd t28 (lp (fun again g z w_1 => /- 0:h12 1:i10 2:j11 -/
      bin .lss (nth g 1) (nth g 2) fun t33 =>
      cnd t33 (bin .add (nth g 1) (nth g 2) fun t36 =>
        cvI .u64 t36 fun t37 =>
        bin .shr t37 (.int .u64 1) fun t38 =>
        cvI .i64 t38 fun t39 =>
        drw [(3, [], fun d w_2 k => ia 1 data0 t39 fun x => k x w_2),
          (4, [3], fun d w_2 k => ld (d 3) w_2 fun x => k x w_2),
          (7, [], fun d w_2 k => ia 1 data0 a1 fun x => k x w_2),
          (8, [7], fun d w_2 k => ld (d 7) w_2 fun x => k x w_2),
          (9, [4, 8, 3, 7], fun d w_2 k => callv Tryz.prog cmp4 [(d 4), (d 8)] w_2 k),
          (10, [9, 4, 8, 3, 7], fun d w_2 k => bin .lss (d 9) (.int .i64 0) fun x => k x w_2)] (fun d w_2 =>
        cnd (d 10) (bin .add t39 (.int .i64 1) fun t52 =>
          again [t39, t52, (nth g 2)] w_2) (
        again [t39, (nth g 1), t39] w_2)) w_1) (
      lp (fun again_1 g_1 z_1 w_3 => /- 0:k13 -/
          bin .sub (nth g 1) (.int .i64 1) fun t57 =>
          bin .lss (nth g_1 0) t57 fun t58 =>
          cnd t58 (drw [(4, [], fun d_1 w_4 k_1 => bin .add (nth g_1 0) (.int .i64 1) fun x => k_1 x w_4),
              (7, [], fun d_1 w_4 k_1 => bin .add (nth g_1 0) (.int .i64 1) fun x => k_1 x w_4),
              (8, [7], fun d_1 w_4 k_1 => ia 1 data0 (d_1 7) fun x => k_1 x w_4),
              (9, [8, 7], fun d_1 w_4 k_1 => ld (d_1 8) w_4 fun x => k_1 x w_4),
              (12, [], fun d_1 w_4 k_1 => ia 1 data0 (nth g_1 0) fun x => k_1 x w_4),
              (13, [12], fun d_1 w_4 k_1 => ld (d_1 12) w_4 fun x => k_1 x w_4),
              (14, [7, 8, 9, 13, 12], fun d_1 w_4 k_1 => ia 1 data0 (nth g_1 0) fun x => k_1 x w_4),
              (15, [14, 9, 7, 8, 13, 12], fun d_1 w_4 k_1 => st 1 (d_1 14) (d_1 9) w_4 fun w_ => k_1 undef w_),
              (16, [4, 7, 8, 9, 12, 13, 14, 15], fun d_1 w_4 k_1 => ia 1 data0 (d_1 4) fun x => k_1 x w_4),
              (17, [16, 13, 15, 4, 7, 8, 9, 12, 14], fun d_1 w_4 k_1 => st 1 (d_1 16) (d_1 13) w_4 fun w_ => k_1 undef w_)] (fun d_1 w_4 =>
            bin .add (nth g_1 0) (.int .i64 1) fun t60 =>
            again_1 [t60] w_4) w_3) (
          R (.tuple #[]) w_3)) [a1] w_1)) [undef, m2, b3] w) (
  bin .sub b3 m2 fun t79 =>
    bin .eql t79 (.int .i64 1) fun t80 =>
    cnd t80 (lp (fun again_2 g_2 z_2 w_5 => /- 0:h16 1:i14 2:j15 -/
        bin .lss (nth g_2 1) (nth g_2 2) fun t85 =>
        cnd t85 (bin .add (nth g_2 1) (nth g_2 2) fun t88 =>
          cvI .u64 t88 fun t89 =>
          bin .shr t89 (.int .u64 1) fun t90 =>
          cvI .i64 t90 fun t91 =>
          drw [(3, [], fun d_2 w_6 k_2 => ia 1 data0 m2 fun x => k_2 x w_6),
            (4, [3], fun d_2 w_6 k_2 => ld (d_2 3) w_6 fun x => k_2 x w_6),
            (7, [], fun d_2 w_6 k_2 => ia 1 data0 t91 fun x => k_2 x w_6),
            (8, [7], fun d_2 w_6 k_2 => ld (d_2 7) w_6 fun x => k_2 x w_6),
            (9, [4, 8, 3, 7], fun d_2 w_6 k_2 => callv Tryz.prog cmp4 [(d_2 4), (d_2 8)] w_6 k_2),
            (10, [9, 4, 8, 3, 7], fun d_2 w_6 k_2 => bin .lss (d_2 9) (.int .i64 0) fun x => k_2 x w_6),
            (11, [10, 9, 4, 8, 3, 7], fun d_2 w_6 k_2 => un .not (d_2 10) fun x => k_2 x w_6)] (fun d_2 w_6 =>
          cnd (d_2 11) (bin .add t91 (.int .i64 1) fun t105 =>
            again_2 [t91, t105, (nth g_2 2)] w_6) (
          again_2 [t91, (nth g_2 1), t91] w_6)) w_5) (
        lp (fun again_3 g_3 z_3 w_7 => /- 0:k17 -/
            bin .gtr (nth g_3 0) (nth g_2 1) fun t110 =>
            cnd t110 (drw [(4, [], fun d_3 w_8 k_3 => bin .sub (nth g_3 0) (.int .i64 1) fun x => k_3 x w_8),
                (7, [], fun d_3 w_8 k_3 => bin .sub (nth g_3 0) (.int .i64 1) fun x => k_3 x w_8),
                (8, [7], fun d_3 w_8 k_3 => ia 1 data0 (d_3 7) fun x => k_3 x w_8),
                (9, [8, 7], fun d_3 w_8 k_3 => ld (d_3 8) w_8 fun x => k_3 x w_8),
                (12, [], fun d_3 w_8 k_3 => ia 1 data0 (nth g_3 0) fun x => k_3 x w_8),
                (13, [12], fun d_3 w_8 k_3 => ld (d_3 12) w_8 fun x => k_3 x w_8),
                (14, [7, 8, 9, 13, 12], fun d_3 w_8 k_3 => ia 1 data0 (nth g_3 0) fun x => k_3 x w_8),
                (15, [14, 9, 7, 8, 13, 12], fun d_3 w_8 k_3 => st 1 (d_3 14) (d_3 9) w_8 fun w_ => k_3 undef w_),
                (16, [4, 7, 8, 9, 12, 13, 14, 15], fun d_3 w_8 k_3 => ia 1 data0 (d_3 4) fun x => k_3 x w_8),
                (17, [16, 13, 15, 4, 7, 8, 9, 12, 14], fun d_3 w_8 k_3 => st 1 (d_3 16) (d_3 13) w_8 fun w_ => k_3 undef w_)] (fun d_3 w_8 =>
              bin .sub (nth g_3 0) (.int .i64 1) fun t112 =>
              again_3 [t112] w_8) w_7) (
            R (.tuple #[]) w_7)) [m2] w_5)) [undef, a1, m2] w) (
    bin .add a1 b3 fun t131 =>
      cvI .u64 t131 fun t132 =>
      bin .shr t132 (.int .u64 1) fun t133 =>
      cvI .i64 t133 fun t134 =>
      bin .add t134 m2 fun t137 =>
      jn (fun g_4 z_4 w_9 => /- 0:start20 1:r21 -/
        bin .sub t137 (.int .i64 1) fun t148 =>
        lp (fun again_4 g_5 z_5 w_10 => /- 0:c23 1:start20 2:r21 -/
          bin .lss (nth g_5 1) (nth g_5 2) fun t151 =>
          cnd t151 (bin .add (nth g_5 1) (nth g_5 2) fun t154 =>
            cvI .u64 t154 fun t155 =>
            bin .shr t155 (.int .u64 1) fun t156 =>
            cvI .i64 t156 fun t157 =>
            drw [(4, [], fun d_4 w_11 k_4 => bin .sub t148 t157 fun x => k_4 x w_11),
              (5, [4], fun d_4 w_11 k_4 => ia 1 data0 (d_4 4) fun x => k_4 x w_11),
              (6, [5, 4], fun d_4 w_11 k_4 => ld (d_4 5) w_11 fun x => k_4 x w_11),
              (9, [], fun d_4 w_11 k_4 => ia 1 data0 t157 fun x => k_4 x w_11),
              (10, [9], fun d_4 w_11 k_4 => ld (d_4 9) w_11 fun x => k_4 x w_11),
              (11, [6, 10, 5, 4, 9], fun d_4 w_11 k_4 => callv Tryz.prog cmp4 [(d_4 6), (d_4 10)] w_11 k_4),
              (12, [11, 6, 10, 5, 4, 9], fun d_4 w_11 k_4 => bin .lss (d_4 11) (.int .i64 0) fun x => k_4 x w_11),
              (13, [12, 11, 6, 10, 5, 4, 9], fun d_4 w_11 k_4 => un .not (d_4 12) fun x => k_4 x w_11)] (fun d_4 w_11 =>
            cnd (d_4 13) (bin .add t157 (.int .i64 1) fun t173 =>
              again_4 [t157, t173, (nth g_5 2)] w_11) (
            again_4 [t157, (nth g_5 1), t157] w_11)) w_10) (
          bin .sub t137 (nth g_5 1) fun t177 =>
            jn (fun g_6 z_6 w_12 => /-  -/
              jn (fun g_7 z_7 w_13 => /-  -/
                bin .lss t134 t177 fun t208 =>
                jn (fun g_8 z_8 w_14 => /- 0:t212 -/
                  pickx t208 (nth g_8 0) (.bool false) fun t213 =>
                  cnd t213 (callv Tryz.prog (fnv f_slices_symMergeCmpFunc_string) [data0, t134, t177, b3, cmp4] w_14 fun t219 w_15 =>
                    R (.tuple #[]) w_15) (
                  R (.tuple #[]) w_14)) fun J_3 =>
                gd t208 true (bin .lss t177 b3 fun t212 =>
                  J_3 [t212] w_13) (J_3 [undef] w_13)) fun J_2 =>
              bin .lss a1 (nth g_5 1) fun t194 =>
              jn (fun g_9 z_9 w_16 => /- 0:t198 -/
                pickx t194 (nth g_9 0) (.bool false) fun t199 =>
                cnd t199 (callv Tryz.prog (fnv f_slices_symMergeCmpFunc_string) [data0, a1, (nth g_5 1), t134, cmp4] w_16 fun t205 w_17 =>
                  J_2 [] w_17) (
                J_2 [] w_16)) fun J_4 =>
              gd t194 true (bin .lss (nth g_5 1) t134 fun t198 =>
                J_4 [t198] w_12) (J_4 [undef] w_12)) fun J_1 =>
            bin .lss (nth g_5 1) m2 fun t180 =>
            jn (fun g_10 z_10 w_18 => /- 0:t184 -/
              pickx t180 (nth g_10 0) (.bool false) fun t185 =>
              cnd t185 (callv Tryz.prog (fnv f_slices_rotateCmpFunc_string) [data0, (nth g_5 1), m2, t177, cmp4] w_18 fun t191 w_19 =>
                J_1 [] w_19) (
              J_1 [] w_18)) fun J_5 =>
            gd t180 true (bin .lss m2 t177 fun t184 =>
              J_5 [t184] w_10) (J_5 [undef] w_10))) [undef, (nth g_4 0), (nth g_4 1)] w_9) fun J =>
      bin .gtr m2 t134 fun t140 =>
      cnd t140 (bin .sub t137 b3 fun t143 =>
        J [t143, t134] w) (
      J [a1, m2] w)))
theorem ok_slices_symMergeCmpFunc_string (data0 a1 m2 b3 cmp4 : Value) (w : World) (R : Value → World → Prop) (h : go_slices_symMergeCmpFunc_string data0 a1 m2 b3 cmp4 w R) : CallsV Tryz.prog f_slices_symMergeCmpFunc_string #[data0, a1, m2, b3, cmp4] w R :=
  calls_of_vx Tryz.func112 (by rw [show vxF Tryz.prog Tryz.f112 [data0, a1, m2, b3, cmp4] w R = go_slices_symMergeCmpFunc_string data0 a1 m2 b3 cmp4 w R by kernel_rfl]; exact h)
theorem has_slices_symMergeCmpFunc_string : hasB Tryz.prog f_slices_symMergeCmpFunc_string := .mk' (fn := Tryz.f112) Tryz.func112 (by decide) rfl

/-- remora/glob.classAt -/
def go_glob_classAt (p0 at1 : Value) (w : World) (R : Value → World → Prop) : Prop :=
  newx ([(.int .i64 0)] ++ [(.int .u8 0)] ++ List.replicate 257 (.bool false)) t_glob_sign w fun t4 w_1 =>
  bld ([(.int .i64 0)] ++ [(.int .u8 0)] ++ List.replicate 257 (.bool false)) [(0, 1, (.int .i64 4))] fun t14 =>
  newx ([(.int .i64 0)] ++ [(.int .u8 0)] ++ List.replicate 257 (.bool false)) t_glob_sign w_1 fun s7 w_2 =>
  st 259 s7 t14 w_2 fun w_3 =>
  jn (fun g z w_4 => /- 0:at1 -/
    lp (fun again g_1 z_1 w_5 => /- 0:lo9 1:next10 2:ok11 3:t5 4:t6 5:hi12 -/
      lenS p0 fun t31 =>
      bin .lss (nth g_1 7) t31 fun t32 =>
      jn (fun g_2 z_2 w_6 => /- 0:t37 -/
        pickx t32 (nth g_2 0) (.bool false) fun t38 =>
        cnd t38 (callv Tryz.prog (fnv f_glob_member) [p0, (nth g_1 7)] w_6 fun t42 w_7 =>
          ex t42 0 fun t43 =>
          ex t42 1 fun t44 =>
          ex t42 2 fun t45 =>
          un .not t45 fun t47 =>
          cnd t47 (ldS 259 s7 w_7 fun t48 =>
            st 259 t4 t48 w_7 fun w_8 =>
            ldS 259 t4 w_8 fun r =>
            R (.tuple #[r, (.int .i64 0), (.bool false)]) w_8) (
          jn (fun g_3 z_3 w_9 => /- 0:hi12 1:next10 2:ok11 3:t5 4:t6 -/
              cvI .i64 t43 fun t85 =>
              lp (fun again_1 g_4 z_4 w_10 => /- 0:c13 -/
                cvI .i64 (nth g_3 0) fun t88 =>
                bin .leq (nth g_4 0) t88 fun t89 =>
                cnd t89 (fa 3 s7 fun t93 =>
                  iaA 256 1 t93 (nth g_4 0) fun t94 =>
                  st 1 t94 (.bool true) w_10 fun w_11 =>
                  bin .add (nth g_4 0) (.int .i64 1) fun t91 =>
                  again_1 [t91] w_11) (
                again [t43, (nth g_3 1), (nth g_3 2), (nth g_3 3), (nth g_3 4), (nth g_3 0), (nth g_4 0), (nth g_3 1)] w_10)) [t85] w_9) fun J_2 =>
            bin .add t44 (.int .i64 1) fun t51 =>
            lenS p0 fun t53 =>
            bin .lss t51 t53 fun t54 =>
            jn (fun g_5 z_5 w_12 => /- 0:t59 -/
              pickx t54 (nth g_5 0) (.bool false) fun t60 =>
              jn (fun g_6 z_6 w_13 => /- 0:t66 -/
                pickx t60 (nth g_6 0) (.bool false) fun t67 =>
                cnd t67 (bin .add t44 (.int .i64 1) fun t71 =>
                  callv Tryz.prog (fnv f_glob_member) [p0, t71] w_13 fun t72 w_14 =>
                  ex t72 0 fun t73 =>
                  ex t72 1 fun t74 =>
                  ex t72 2 fun t75 =>
                  un .not t75 fun t77 =>
                  jn (fun g_7 z_7 w_15 => /- 0:t81 -/
                    pickx t77 (.bool true) (nth g_7 0) fun t82 =>
                    cnd t82 (ldS 259 s7 w_15 fun t83 =>
                      st 259 t4 t83 w_15 fun w_16 =>
                      ldS 259 t4 w_16 fun r_1 =>
                      R (.tuple #[r_1, (.int .i64 0), (.bool false)]) w_16) (
                    J_2 [t73, t74, t75, (nth g_1 3), (nth g_1 4)] w_15)) fun J_5 =>
                  gd t77 false (bin .lss t73 t43 fun t81 =>
                    J_5 [t81] w_14) (J_5 [undef] w_14)) (
                J_2 [t43, t44, t45, (nth g_1 3), (nth g_1 4)] w_13)) fun J_4 =>
              gd t60 true (bin .add t44 (.int .i64 1) fun t64 =>
                ixS p0 t64 fun t65 =>
                bin .neq t65 (.int .u8 93) fun t66 =>
                J_4 [t66] w_12) (J_4 [undef] w_12)) fun J_3 =>
            gd t54 true (ixS p0 t44 fun t58 =>
              bin .eql t58 (.int .u8 45) fun t59 =>
              J_3 [t59] w_7) (J_3 [undef] w_7))) (
        ldS 259 s7 w_6 fun t96 =>
          bin .add (nth g_1 7) (.int .i64 1) fun t98 =>
          lenS p0 fun t101 =>
          bin .lss (nth g_1 7) t101 fun t102 =>
          jn (fun g_8 z_8 w_17 => /- 0:t106 -/
            pickx t102 (nth g_8 0) (.bool false) fun t107 =>
            st 259 t4 t96 w_17 fun w_18 =>
            ldS 259 t4 w_18 fun r_2 =>
            R (.tuple #[r_2, t98, t107]) w_18) fun J_6 =>
          gd t102 true (bin .gtr (nth g_1 7) (nth g 0) fun t106 =>
            J_6 [t106] w_6) (J_6 [undef] w_6))) fun J_1 =>
      gd t32 true (ixS p0 (nth g_1 7) fun t36 =>
        bin .neq t36 (.int .u8 93) fun t37 =>
        J_1 [t37] w_5) (J_1 [undef] w_5)) [undef, undef, undef, (.int .i64 0), (.bool false), undef, undef, (nth g 0)] w_4) fun J =>
  lenS p0 fun t17 =>
  bin .lss at1 t17 fun t18 =>
  jn (fun g_9 z_9 w_19 => /- 0:t23 -/
    pickx t18 (nth g_9 0) (.bool false) fun t24 =>
    cnd t24 (fa 2 s7 fun t25 =>
      st 1 t25 (.bool true) w_19 fun w_20 =>
      bin .add at1 (.int .i64 1) fun t27 =>
      J [t27] w_20) (
    J [at1] w_19)) fun J_7 =>
  gd t18 true (ixS p0 at1 fun t22 =>
    bin .eql t22 (.int .u8 33) fun t23 =>
    J_7 [t23] w_3) (J_7 [undef] w_3)
theorem ok_glob_classAt (p0 at1 : Value) (w : World) (R : Value → World → Prop) (h : go_glob_classAt p0 at1 w R) : CallsV Tryz.prog f_glob_classAt #[p0, at1] w R :=
  calls_of_vx Tryz.func115 (by rw [show vxF Tryz.prog Tryz.f115 [p0, at1] w R = go_glob_classAt p0 at1 w R by kernel_rfl]; exact h)
theorem has_glob_classAt : hasB Tryz.prog f_glob_classAt := .mk' (fn := Tryz.f115) Tryz.func115 (by decide) rfl

/-- remora/rules.Act -/
def go_rules_Act (l0 p1 dir2 drop3 : Value) (w : World) (R : Value → World → Prop) : Prop :=
  lenV l0 fun t12 =>
  lp (fun again g z w_1 => /- 0:t8 1:t13 -/
    bin .lss (nth g 1) t12 fun t14 =>
    cnd t14 (ia 4 l0 (nth g 1) fun t15 =>
      ldS 4 t15 w_1 fun t16 =>
      newx [(.int .i64 0), (str []), (.bool false), (.bool false)] t_api_Rule w_1 fun r10 w_2 =>
      st 4 r10 t16 w_2 fun w_3 =>
      jn (fun g_1 z_1 w_4 => /- 0:t21 -/
        pickx drop3 (.bool true) (nth g_1 0) fun t22 =>
        jn (fun g_2 z_2 w_5 => /- 0:t26 -/
          pickx t22 (.bool true) (nth g_2 0) fun t27 =>
          jn (fun g_3 z_3 w_6 => /- 0:t32 -/
            pickx t27 (nth g_3 0) (.bool false) fun t33 =>
            cnd t33 (fa 0 r10 fun t34 =>
              ld t34 w_6 fun t35 =>
              R t35 w_6) (
            bin .add (nth g 1) (.int .i64 1) fun t36 =>
              again [(nth g 0), t36] w_6)) fun J_2 =>
          gd t27 true (ldS 4 r10 w_5 fun t29 =>
            callv Tryz.prog (fnv f_rules_Matches) [t29, p1, dir2] w_5 fun t32 w_7 =>
            J_2 [t32] w_7) (J_2 [undef] w_5)) fun J_1 =>
        gd t22 false (fa 0 r10 fun t24 =>
          ld t24 w_4 fun t25 =>
          bin .eql t25 (.int .i64 2) fun t26 =>
          J_1 [t26] w_4) (J_1 [undef] w_4)) fun J =>
      gd drop3 false (fa 0 r10 fun t19 =>
        ld t19 w_3 fun t20 =>
        bin .eql t20 (.int .i64 1) fun t21 =>
        J [t21] w_3) (J [undef] w_3)) (
    R (.int .i64 0) w_1)) [(.int .i64 0), (.int .i64 0)] w
theorem ok_rules_Act (l0 p1 dir2 drop3 : Value) (w : World) (R : Value → World → Prop) (h : go_rules_Act l0 p1 dir2 drop3 w R) : CallsV Tryz.prog f_rules_Act #[l0, p1, dir2, drop3] w R :=
  calls_of_vx Tryz.func116 (by rw [show vxF Tryz.prog Tryz.f116 [l0, p1, dir2, drop3] w R = go_rules_Act l0 p1 dir2 drop3 w R by kernel_rfl]; exact h)
theorem has_rules_Act : hasB Tryz.prog f_rules_Act := .mk' (fn := Tryz.f116) Tryz.func116 (by decide) rfl

/-- slices.rotateCmpFunc[string] -/
def go_slices_rotateCmpFunc_string (data0 a1 m2 b3 cmp4 : Value) (w : World) (R : Value → World → Prop) : Prop :=
  bin .sub m2 a1 fun t14 =>
  bin .sub b3 m2 fun t17 =>
  lp (fun again g z w_1 => /- 0:i10 1:j11 -/
    bin .neq (nth g 0) (nth g 1) fun t20 =>
    cnd t20 (bin .gtr (nth g 0) (nth g 1) fun t23 =>
      cnd t23 (bin .sub m2 (nth g 0) fun t27 =>
        callv Tryz.prog (fnv f_slices_swapRangeCmpFunc_string) [data0, t27, m2, (nth g 1), cmp4] w_1 fun t31 w_2 =>
        bin .sub (nth g 0) (nth g 1) fun t34 =>
        again [t34, (nth g 1)] w_2) (
      bin .sub m2 (nth g 0) fun t38 =>
        bin .add m2 (nth g 1) fun t41 =>
        bin .sub t41 (nth g 0) fun t43 =>
        callv Tryz.prog (fnv f_slices_swapRangeCmpFunc_string) [data0, t38, t43, (nth g 0), cmp4] w_1 fun t46 w_3 =>
        bin .sub (nth g 1) (nth g 0) fun t49 =>
        again [(nth g 0), t49] w_3)) (
    bin .sub m2 (nth g 0) fun t53 =>
      callv Tryz.prog (fnv f_slices_swapRangeCmpFunc_string) [data0, t53, m2, (nth g 0), cmp4] w_1 fun t57 w_4 =>
      R (.tuple #[]) w_4)) [t14, t17] w
theorem ok_slices_rotateCmpFunc_string (data0 a1 m2 b3 cmp4 : Value) (w : World) (R : Value → World → Prop) (h : go_slices_rotateCmpFunc_string data0 a1 m2 b3 cmp4 w R) : CallsV Tryz.prog f_slices_rotateCmpFunc_string #[data0, a1, m2, b3, cmp4] w R :=
  calls_of_vx Tryz.func123 (by rw [show vxF Tryz.prog Tryz.f123 [data0, a1, m2, b3, cmp4] w R = go_slices_rotateCmpFunc_string data0 a1 m2 b3 cmp4 w R by kernel_rfl]; exact h)
theorem has_slices_rotateCmpFunc_string : hasB Tryz.prog f_slices_rotateCmpFunc_string := .mk' (fn := Tryz.f123) Tryz.func123 (by decide) rfl

/-- remora/glob.member -/
def go_glob_member (p0 at1 : Value) (w : World) (R : Value → World → Prop) : Prop :=
  jn (fun g z w_1 => /- 0:at1 -/
    lenS p0 fun t21 =>
    bin .geq (nth g 0) t21 fun t22 =>
    cnd t22 (R (.tuple #[(.int .u8 0), (.int .i64 0), (.bool false)]) w_1) (
    ixS p0 (nth g 0) fun t25 =>
      bin .add (nth g 0) (.int .i64 1) fun t27 =>
      R (.tuple #[t25, t27, (.bool true)]) w_1)) fun J =>
  lenS p0 fun t9 =>
  bin .lss at1 t9 fun t10 =>
  jn (fun g_1 z_1 w_2 => /- 0:t15 -/
    pickx t10 (nth g_1 0) (.bool false) fun t16 =>
    cnd t16 (bin .add at1 (.int .i64 1) fun t18 =>
      J [t18] w_2) (
    J [at1] w_2)) fun J_1 =>
  gd t10 true (ixS p0 at1 fun t14 =>
    bin .eql t14 (.int .u8 92) fun t15 =>
    J_1 [t15] w) (J_1 [undef] w)
theorem ok_glob_member (p0 at1 : Value) (w : World) (R : Value → World → Prop) (h : go_glob_member p0 at1 w R) : CallsV Tryz.prog f_glob_member #[p0, at1] w R :=
  calls_of_vx Tryz.func127 (by rw [show vxF Tryz.prog Tryz.f127 [p0, at1] w R = go_glob_member p0 at1 w R by kernel_rfl]; exact h)
theorem has_glob_member : hasB Tryz.prog f_glob_member := .mk' (fn := Tryz.f127) Tryz.func127 (by decide) rfl

/-- remora/rules.Matches -/
def go_rules_Matches (r0 p1 dir2 : Value) (w : World) (R : Value → World → Prop) : Prop :=
  boxx t_api_Rule r0 w fun r3 w_1 =>
  ldS 4 r3 w_1 fun t7 =>
  callv Tryz.prog (fnv f_rules_check) [t7] w_1 fun t8 w_2 =>
  bin .neq t8 (.int .i64 0) fun t9 =>
  jn (fun g z w_3 => /- 0:t12 -/
    pickx t9 (.bool true) (nth g 0) fun t13 =>
    jn (fun g_1 z_1 w_4 => /- 0:t17 -/
      pickx t13 (.bool true) (nth g_1 0) fun t18 =>
      jn (fun g_2 z_2 w_5 => /- 0:t22 -/
        jn (fun g_3 z_3 w_6 => /- 0:t24 -/
          jn (fun g_4 z_4 w_7 => /- 0:t25 -/
            pickx t18 (.bool true) (nth g_4 0) fun t26 =>
            cnd t26 (R (.bool false) w_7) (
            fa 3 r3 fun t27 =>
              ld t27 w_7 fun t28 =>
              jn (fun g_5 z_5 w_8 => /- 0:t32 -/
                pickx t28 (.bool true) (nth g_5 0) fun t33 =>
                cnd t33 (fa 1 r3 fun t34 =>
                  ld t34 w_8 fun t35 =>
                  callv Tryz.prog (fnv f_glob_Match) [t35, p1] w_8 fun t37 w_9 =>
                  R t37 w_9) (
                drw [(0, [], fun d w_10 k => fa 1 r3 fun x => k x w_10),
                    (1, [0], fun d w_10 k => ld (d 0) w_10 fun x => k x w_10),
                    (3, [], fun d w_10 k => callv Tryz.prog (fnv f_path_Base) [p1] w_10 k),
                    (4, [1, 3, 0], fun d w_10 k => callv Tryz.prog (fnv f_glob_Match) [(d 1), (d 3)] w_10 k)] (fun d w_10 =>
                  R (d 4) w_10) w_8)) fun J_5 =>
              gd t28 false (fa 1 r3 fun t30 =>
                ld t30 w_7 fun t31 =>
                callv Tryz.prog (fnv f_strings_Contains) [t31, (str [47])] w_7 fun t32 w_11 =>
                J_5 [t32] w_11) (J_5 [undef] w_7))) fun J_4 =>
          gd t18 false (pickx (nth g_2 0) (nth g_3 0) (.bool false) fun t25 =>
            J_4 [t25] w_6) (J_4 [undef] w_6)) fun J_3 =>
        gd (nth g_2 0) true (un .not dir2 fun t24 =>
          J_3 [t24] w_5) (J_3 [undef] w_5)) fun J_2 =>
      gd t18 false (fa 2 r3 fun t20 =>
        ld t20 w_4 fun t21 =>
        J_2 [t21] w_4) (J_2 [undef] w_4)) fun J_1 =>
    gd t13 false (callv Tryz.prog (fnv f_path_Right) [p1] w_3 fun t16 w_12 =>
      un .not t16 fun t17 =>
      J_1 [t17] w_12) (J_1 [undef] w_3)) fun J =>
  gd t9 false (bin .eql p1 (str []) fun t12 =>
    J [t12] w_2) (J [undef] w_2)
theorem ok_rules_Matches (r0 p1 dir2 : Value) (w : World) (R : Value → World → Prop) (h : go_rules_Matches r0 p1 dir2 w R) : CallsV Tryz.prog f_rules_Matches #[r0, p1, dir2] w R :=
  calls_of_vx Tryz.func128 (by rw [show vxF Tryz.prog Tryz.f128 [r0, p1, dir2] w R = go_rules_Matches r0 p1 dir2 w R by kernel_rfl]; exact h)
theorem has_rules_Matches : hasB Tryz.prog f_rules_Matches := .mk' (fn := Tryz.f128) Tryz.func128 (by decide) rfl

/-- slices.swapRangeCmpFunc[string] -/
def go_slices_swapRangeCmpFunc_string (data0 a1 b2 n3 cmp4 : Value) (w : World) (R : Value → World → Prop) : Prop :=
  lp (fun again g z w_1 => /- 0:i10 -/
    bin .lss (nth g 0) n3 fun t13 =>
    cnd t13 (drw [(3, [], fun d w_2 k => bin .add a1 (nth g 0) fun x => k x w_2),
        (7, [], fun d w_2 k => bin .add b2 (nth g 0) fun x => k x w_2),
        (11, [], fun d w_2 k => bin .add b2 (nth g 0) fun x => k x w_2),
        (12, [11], fun d w_2 k => ia 1 data0 (d 11) fun x => k x w_2),
        (13, [12, 11], fun d w_2 k => ld (d 12) w_2 fun x => k x w_2),
        (17, [], fun d w_2 k => bin .add a1 (nth g 0) fun x => k x w_2),
        (18, [17], fun d w_2 k => ia 1 data0 (d 17) fun x => k x w_2),
        (19, [18, 17], fun d w_2 k => ld (d 18) w_2 fun x => k x w_2),
        (20, [3, 11, 12, 13, 19, 18, 17], fun d w_2 k => ia 1 data0 (d 3) fun x => k x w_2),
        (21, [20, 13, 3, 11, 12, 19, 18, 17], fun d w_2 k => st 1 (d 20) (d 13) w_2 fun w_ => k undef w_),
        (22, [7, 3, 11, 12, 13, 17, 18, 19, 20, 21], fun d w_2 k => ia 1 data0 (d 7) fun x => k x w_2),
        (23, [22, 19, 21, 3, 7, 11, 12, 13, 17, 18, 20], fun d w_2 k => st 1 (d 22) (d 19) w_2 fun w_ => k undef w_)] (fun d w_2 =>
      bin .add (nth g 0) (.int .i64 1) fun t15 =>
      again [t15] w_2) w_1) (
    R (.tuple #[]) w_1)) [(.int .i64 0)] w
theorem ok_slices_swapRangeCmpFunc_string (data0 a1 b2 n3 cmp4 : Value) (w : World) (R : Value → World → Prop) (h : go_slices_swapRangeCmpFunc_string data0 a1 b2 n3 cmp4 w R) : CallsV Tryz.prog f_slices_swapRangeCmpFunc_string #[data0, a1, b2, n3, cmp4] w R :=
  calls_of_vx Tryz.func142 (by rw [show vxF Tryz.prog Tryz.f142 [data0, a1, b2, n3, cmp4] w R = go_slices_swapRangeCmpFunc_string data0 a1 b2 n3 cmp4 w R by kernel_rfl]; exact h)
theorem has_slices_swapRangeCmpFunc_string : hasB Tryz.prog f_slices_swapRangeCmpFunc_string := .mk' (fn := Tryz.f142) Tryz.func142 (by decide) rfl

/-- remora/glob.Match -/
def go_glob_Match (p0 s1 : Value) (w : World) (R : Value → World → Prop) : Prop :=
  callv Tryz.prog (fnv f_glob_signs) [p0] w fun t13 w_1 =>
  ex t13 0 fun t14 =>
  ex t13 1 fun t15 =>
  un .not t15 fun t17 =>
  cnd t17 (R (.bool false) w_1) (
  lenV t14 fun t19 =>
    bin .add t19 (.int .i64 1) fun t20 =>
    mks t_bool [(.bool false)] 1 t20 t20 w_1 fun t21 w_2 =>
    ia 1 t21 (.int .i64 0) fun t23 =>
    st 1 t23 (.bool true) w_2 fun w_3 =>
    callv Tryz.prog (fnv f_glob_empty) [t14, t21] w_3 fun t26 w_4 =>
    lenS s1 fun t28 =>
    lp (fun again g z w_5 => /- 0:i8 1:next9 2:k10 3:at7 4:t29 -/
      bin .lss (nth g 4) t28 fun t30 =>
      cnd t30 (lenV t14 fun t33 =>
        bin .add t33 (.int .i64 1) fun t34 =>
        mks t_bool [(.bool false)] 1 t34 t34 w_5 fun t35 w_6 =>
        lenV t14 fun t37 =>
        lp (fun again_1 g_1 z_1 w_7 => /- 0:k10 1:t38 -/
          bin .lss (nth g_1 1) t37 fun t39 =>
          cnd t39 (drw [(2, [], fun d w_8 k => ia 1 (nth g 3) (nth g_1 1) fun x => k x w_8),
              (3, [2], fun d w_8 k => ld (d 2) w_8 fun x => k x w_8),
              (4, [3, 2], fun d w_8 k => un .not (d 3) fun x => k x w_8),
              (6, [4, 3, 2], fun d w_8 k => gd (d 4) false (k t14 w_8) (k undef w_8)),
              (7, [4, 3, 2], fun d w_8 k => gd (d 4) false (k (nth g_1 1) w_8) (k undef w_8)),
              (8, [6, 7, 4, 3, 2], fun d w_8 k => gd (d 4) false (ia 259 (d 6) (d 7) fun x => k x w_8) (k undef w_8)),
              (9, [4, 3, 2], fun d w_8 k => gd (d 4) false (k s1 w_8) (k undef w_8)),
              (10, [4, 3, 2], fun d w_8 k => gd (d 4) false (k (nth g 4) w_8) (k undef w_8)),
              (11, [9, 10, 4, 3, 2], fun d w_8 k => gd (d 4) false (ixS (d 9) (d 10) fun x => k x w_8) (k undef w_8)),
              (12, [8, 11, 6, 7, 4, 3, 2, 9, 10], fun d w_8 k => gd (d 4) false (callv Tryz.prog (fnv f_glob_sign_takes) [(d 8), (d 11)] w_8 k) (k undef w_8)),
              (13, [12, 8, 11, 6, 7, 4, 3, 2, 9, 10], fun d w_8 k => gd (d 4) false (un .not (d 12) fun x => k x w_8) (k undef w_8)),
              (14, [13, 4, 3, 2, 12, 8, 11, 6, 7, 9, 10], fun d w_8 k => pickx (d 4) (.bool true) (d 13) fun x => k x w_8)] (fun d w_8 =>
            cnd (d 14) (bin .add (nth g_1 1) (.int .i64 1) fun t77 =>
              again_1 [(nth g_1 1), t77] w_8) (
            ia 259 t14 (nth g_1 1) fun t58 =>
              fa 0 t58 fun t59 =>
              ld t59 w_8 fun t60 =>
              bin .eql t60 (.int .i64 1) fun t61 =>
              jn (fun g_2 z_2 w_9 => /- 0:t68 -/
                pickx t61 (.bool true) (nth g_2 0) fun t69 =>
                cnd t69 (ia 1 t35 (nth g_1 1) fun t72 =>
                  st 1 t72 (.bool true) w_9 fun w_10 =>
                  bin .add (nth g_1 1) (.int .i64 1) fun t77_1 =>
                  again_1 [(nth g_1 1), t77_1] w_10) (
                bin .add (nth g_1 1) (.int .i64 1) fun t75 =>
                  ia 1 t35 t75 fun t76 =>
                  st 1 t76 (.bool true) w_9 fun w_11 =>
                  bin .add (nth g_1 1) (.int .i64 1) fun t77_2 =>
                  again_1 [(nth g_1 1), t77_2] w_11)) fun J =>
              gd t61 false (ia 259 t14 (nth g_1 1) fun t65 =>
                fa 0 t65 fun t66 =>
                ld t66 w_8 fun t67 =>
                bin .eql t67 (.int .i64 2) fun t68 =>
                J [t68] w_8) (J [undef] w_8))) w_7) (
          callv Tryz.prog (fnv f_glob_empty) [t14, t35] w_7 fun t81 w_12 =>
            bin .add (nth g 4) (.int .i64 1) fun t82 =>
            again [(nth g 4), t35, (nth g_1 0), t35, t82] w_12)) [(nth g 2), (.int .i64 0)] w_6) (
      lenV t14 fun t85 =>
        ia 1 (nth g 3) t85 fun t86 =>
        ld t86 w_5 fun t87 =>
        R t87 w_5)) [undef, undef, undef, t21, (.int .i64 0)] w_4)
theorem ok_glob_Match (p0 s1 : Value) (w : World) (R : Value → World → Prop) (h : go_glob_Match p0 s1 w R) : CallsV Tryz.prog f_glob_Match #[p0, s1] w R :=
  calls_of_vx Tryz.func144 (by rw [show vxF Tryz.prog Tryz.f144 [p0, s1] w R = go_glob_Match p0 s1 w R by kernel_rfl]; exact h)
theorem has_glob_Match : hasB Tryz.prog f_glob_Match := .mk' (fn := Tryz.f144) Tryz.func144 (by decide) rfl

/-- remora/glob.empty -/
def go_glob_empty (l0 at1 : Value) (w : World) (R : Value → World → Prop) : Prop :=
  lenV l0 fun t6 =>
  lp (fun again g z w_1 => /- 0:k4 1:t7 -/
    bin .lss (nth g 1) t6 fun t8 =>
    cnd t8 (ia 1 at1 (nth g 1) fun t12 =>
      ld t12 w_1 fun t13 =>
      jn (fun g_1 z_1 w_2 => /- 0:t21 -/
        jn (fun g_2 z_2 w_3 => /- 0:t27 -/
          jn (fun g_3 z_3 w_4 => /- 0:t28 -/
            pickx t13 (nth g_3 0) (.bool false) fun t29 =>
            cnd t29 (bin .add (nth g 1) (.int .i64 1) fun t32 =>
              ia 1 at1 t32 fun t33 =>
              st 1 t33 (.bool true) w_4 fun w_5 =>
              bin .add (nth g 1) (.int .i64 1) fun t34 =>
              again [(nth g 1), t34] w_5) (
            bin .add (nth g 1) (.int .i64 1) fun t34_1 =>
              again [(nth g 1), t34_1] w_4)) fun J_2 =>
          gd t13 true (pickx (nth g_1 0) (.bool true) (nth g_2 0) fun t28 =>
            J_2 [t28] w_3) (J_2 [undef] w_3)) fun J_1 =>
        gd (nth g_1 0) false (ia 259 l0 (nth g 1) fun t24 =>
          fa 0 t24 fun t25 =>
          ld t25 w_2 fun t26 =>
          bin .eql t26 (.int .i64 2) fun t27 =>
          J_1 [t27] w_2) (J_1 [undef] w_2)) fun J =>
      gd t13 true (ia 259 l0 (nth g 1) fun t17 =>
        fa 0 t17 fun t18 =>
        ld t18 w_1 fun t19 =>
        bin .eql t19 (.int .i64 1) fun t20 =>
        J [t20] w_1) (J [undef] w_1)) (
    R (.tuple #[]) w_1)) [undef, (.int .i64 0)] w
theorem ok_glob_empty (l0 at1 : Value) (w : World) (R : Value → World → Prop) (h : go_glob_empty l0 at1 w R) : CallsV Tryz.prog f_glob_empty #[l0, at1] w R :=
  calls_of_vx Tryz.func150 (by rw [show vxF Tryz.prog Tryz.f150 [l0, at1] w R = go_glob_empty l0 at1 w R by kernel_rfl]; exact h)
theorem has_glob_empty : hasB Tryz.prog f_glob_empty := .mk' (fn := Tryz.f150) Tryz.func150 (by decide) rfl

/-- (*remora/glob.sign).takes -/
def go_glob_sign_takes (s0 c1 : Value) (w : World) (R : Value → World → Prop) : Prop :=
  nck s0 fun t6 =>
  fa 0 t6 fun t7 =>
  ld t7 w fun t8 =>
  bin .eql t8 (.int .i64 0) fun t10 =>
  cnd t10 (nck s0 fun t13 =>
    fa 1 t13 fun t14 =>
    ld t14 w fun t15 =>
    bin .eql c1 t15 fun t16 =>
    R t16 w) (
  bin .eql t8 (.int .i64 1) fun t18 =>
    cnd t18 (R (.bool true) w) (
    bin .eql t8 (.int .i64 4) fun t20 =>
      cnd t20 (drw [(1, [], fun d w_1 k => bin .neq c1 (.int .u8 47) fun x => k x w_1),
          (3, [1], fun d w_1 k => gd (d 1) true (k s0 w_1) (k undef w_1)),
          (4, [1], fun d w_1 k => gd (d 1) true (k c1 w_1) (k undef w_1)),
          (5, [3, 1], fun d w_1 k => gd (d 1) true (nck (d 3) fun x => k x w_1) (k undef w_1)),
          (6, [5, 3, 1], fun d w_1 k => gd (d 1) true (fa 3 (d 5) fun x => k x w_1) (k undef w_1)),
          (7, [6, 4, 5, 3, 1], fun d w_1 k => gd (d 1) true (iaA 256 1 (d 6) (d 4) fun x => k x w_1) (k undef w_1)),
          (8, [7, 6, 4, 5, 3, 1], fun d w_1 k => gd (d 1) true (ld (d 7) w_1 fun x => k x w_1) (k undef w_1)),
          (9, [1], fun d w_1 k => gd (d 1) true (k s0 w_1) (k undef w_1)),
          (10, [9, 1], fun d w_1 k => gd (d 1) true (nck (d 9) fun x => k x w_1) (k undef w_1)),
          (11, [10, 9, 1], fun d w_1 k => gd (d 1) true (fa 2 (d 10) fun x => k x w_1) (k undef w_1)),
          (12, [11, 10, 9, 1], fun d w_1 k => gd (d 1) true (ld (d 11) w_1 fun x => k x w_1) (k undef w_1)),
          (13, [8, 12, 7, 6, 4, 5, 3, 1, 11, 10, 9], fun d w_1 k => gd (d 1) true (binB .neq (d 8) (d 12) fun x => k x w_1) (k undef w_1)),
          (14, [13, 1, 8, 12, 7, 6, 4, 5, 3, 11, 10, 9], fun d w_1 k => pickx (d 1) (d 13) (.bool false) fun x => k x w_1)] (fun d w_1 =>
        R (d 14) w_1) w) (
      bin .neq c1 (.int .u8 47) fun t37 =>
        R t37 w)))
theorem ok_glob_sign_takes (s0 c1 : Value) (w : World) (R : Value → World → Prop) (h : go_glob_sign_takes s0 c1 w R) : CallsV Tryz.prog f_glob_sign_takes #[s0, c1] w R :=
  calls_of_vx Tryz.func151 (by rw [show vxF Tryz.prog Tryz.f151 [s0, c1] w R = go_glob_sign_takes s0 c1 w R by kernel_rfl]; exact h)
theorem has_glob_sign_takes : hasB Tryz.prog f_glob_sign_takes := .mk' (fn := Tryz.f151) Tryz.func151 (by decide) rfl

/-- slices.Clone[[]string,string] -/
def go_slices_Clone_S_string_string (s0 : Value) (w : World) (R : Value → World → Prop) : Prop :=
  binL .eql s0 (.slice none 0 0) fun t4 =>
  cnd t4 (R (.slice none 0 0) w) (
  bsl t_string 0 [] [] w fun t5 w_1 =>
    rn Tryz.prog (Builtin.append_ #[t_S_string, t_S_string] t_S_string ([t5, s0] : List Value).toArray) w_1 fun t7 w_2 =>
    R t7 w_2)
theorem ok_slices_Clone_S_string_string (s0 : Value) (w : World) (R : Value → World → Prop) (h : go_slices_Clone_S_string_string s0 w R) : CallsV Tryz.prog f_slices_Clone_S_string_string #[s0] w R :=
  calls_of_vx Tryz.func66 (by rw [show vxF Tryz.prog Tryz.f66 [s0] w R = go_slices_Clone_S_string_string s0 w R by kernel_rfl]; exact h)
theorem has_slices_Clone_S_string_string : hasB Tryz.prog f_slices_Clone_S_string_string := .mk' (fn := Tryz.f66) Tryz.func66 (by decide) rfl

/-- sort.Strings -/
def go_sort_Strings (x0 : Value) (w : World) (R : Value → World → Prop) : Prop :=
  callv Tryz.prog (fnv f_slices_Sort_S_string_string) [x0] w fun t3 w_1 =>
  R (.tuple #[]) w_1
theorem ok_sort_Strings (x0 : Value) (w : World) (R : Value → World → Prop) (h : go_sort_Strings x0 w R) : CallsV Tryz.prog f_sort_Strings #[x0] w R :=
  calls_of_vx Tryz.func91 (by rw [show vxF Tryz.prog Tryz.f91 [x0] w R = go_sort_Strings x0 w R by kernel_rfl]; exact h)
theorem has_sort_Strings : hasB Tryz.prog f_sort_Strings := .mk' (fn := Tryz.f91) Tryz.func91 (by decide) rfl

/-- strings.Contains -/
def go_strings_Contains (s0 substr1 : Value) (w : World) (R : Value → World → Prop) : Prop :=
  callv Tryz.prog (fnv f_strings_Index) [s0, substr1] w fun t7 w_1 =>
  bin .geq t7 (.int .i64 0) fun t8 =>
  R t8 w_1
theorem ok_strings_Contains (s0 substr1 : Value) (w : World) (R : Value → World → Prop) (h : go_strings_Contains s0 substr1 w R) : CallsV Tryz.prog f_strings_Contains #[s0, substr1] w R :=
  calls_of_vx Tryz.func71 (by rw [show vxF Tryz.prog Tryz.f71 [s0, substr1] w R = go_strings_Contains s0 substr1 w R by kernel_rfl]; exact h)
theorem has_strings_Contains : hasB Tryz.prog f_strings_Contains := .mk' (fn := Tryz.f71) Tryz.func71 (by decide) rfl

/-- bytes.Clone -/
def go_bytes_Clone (b0 : Value) (w : World) (R : Value → World → Prop) : Prop :=
  binL .eql b0 (.slice none 0 0) fun t4 =>
  cnd t4 (R (.slice none 0 0) w) (
  bsl t_uint8 0 [] [] w fun t5 w_1 =>
    rn Tryz.prog (Builtin.append_ #[t_S_uint8, t_S_uint8] t_S_uint8 ([t5, b0] : List Value).toArray) w_1 fun t7 w_2 =>
    R t7 w_2)
theorem ok_bytes_Clone (b0 : Value) (w : World) (R : Value → World → Prop) (h : go_bytes_Clone b0 w R) : CallsV Tryz.prog f_bytes_Clone #[b0] w R :=
  calls_of_vx Tryz.func55 (by rw [show vxF Tryz.prog Tryz.f55 [b0] w R = go_bytes_Clone b0 w R by kernel_rfl]; exact h)
theorem has_bytes_Clone : hasB Tryz.prog f_bytes_Clone := .mk' (fn := Tryz.f55) Tryz.func55 (by decide) rfl


end Go.Proofs.YtkpefimnggojdaaGreat.VX
