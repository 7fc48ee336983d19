/-
  The functions of the program as predicates, printed by program (wip/tpl/Gen.lean) out of the dump; each is held against the dump by the kernel.
-/
import Derived.Test.YtkpefimnggojdaaGreatVn
import Derived.Test.YtkpefimnggojdaaGreatProg
import Derived.KernelRfl
set_option linter.all false
namespace Go.Proofs.YtkpefimnggojdaaGreat.VX
open Go
set_option maxRecDepth 20000

/-- remora/path.Split -/
def go_path_Split (p0 : Value) (w : World) (R : Value → World → Prop) : Prop :=
  bin .eql p0 (str []) fun t8 =>
  cnd t8 (R (.slice none 0 0) w) (
  rgS p0 w fun t10 w_1 =>
    lp (fun again g z w_2 => /- 0:i5 1:c6 2:out3 3:from4 -/
      nxS t10 w_2 fun t11 w_3 =>
      ex t11 0 fun t12 =>
      cnd t12 (ex t11 1 fun t13 =>
        ex t11 2 fun t14 =>
        bin .eql t14 (.int .i32 47) fun t16 =>
        cnd t16 (slS p0 (some (nth g 3)) (some t13) fun t21 =>
          bsl t_string 1 [(str [])] [(0, 1, t21)] w_3 fun t22 w_4 =>
          rn Tryz.prog (Builtin.append_ #[t_S_string, t_S_string] t_S_string ([(nth g 2), t22] : List Value).toArray) w_4 fun t23 w_5 =>
          bin .add t13 (.int .i64 1) fun t25 =>
          again [t13, t14, t23, t25] w_5) (
        again [t13, t14, (nth g 2), (nth g 3)] w_3)) (
      slS p0 (some (nth g 3)) none fun t29 =>
        bsl t_string 1 [(str [])] [(0, 1, t29)] w_3 fun t30 w_6 =>
        rn Tryz.prog (Builtin.append_ #[t_S_string, t_S_string] t_S_string ([(nth g 2), t30] : List Value).toArray) w_6 fun t31 w_7 =>
        R t31 w_7)) [undef, undef, (.slice none 0 0), (.int .i64 0)] w_1)
theorem ok_path_Split (p0 : Value) (w : World) (R : Value → World → Prop) (h : go_path_Split p0 w R) : CallsV Tryz.prog f_path_Split #[p0] w R :=
  calls_of_vx Tryz.func37 (by rw [show vxF Tryz.prog Tryz.f37 [p0] w R = go_path_Split p0 w R by kernel_rfl]; exact h)
theorem has_path_Split : hasB Tryz.prog f_path_Split := .mk' (fn := Tryz.f37) Tryz.func37 (by decide) rfl

/-- remora/path.Parent -/
def go_path_Parent (p0 : Value) (w : World) (R : Value → World → Prop) : Prop :=
  callv Tryz.prog (fnv f_strings_LastIndexByte) [p0, (.int .u8 47)] w fun t5 w_1 =>
  maxx t5 (.int .i64 0) fun t6 =>
  slS p0 none (some t6) fun t7 =>
  R t7 w_1
theorem ok_path_Parent (p0 : Value) (w : World) (R : Value → World → Prop) (h : go_path_Parent p0 w R) : CallsV Tryz.prog f_path_Parent #[p0] w R :=
  calls_of_vx Tryz.func76 (by rw [show vxF Tryz.prog Tryz.f76 [p0] w R = go_path_Parent p0 w R by kernel_rfl]; exact h)
theorem has_path_Parent : hasB Tryz.prog f_path_Parent := .mk' (fn := Tryz.f76) Tryz.func76 (by decide) rfl

/-- remora/path.Base -/
def go_path_Base (p0 : Value) (w : World) (R : Value → World → Prop) : Prop :=
  callv Tryz.prog (fnv f_strings_LastIndexByte) [p0, (.int .u8 47)] w fun t5 w_1 =>
  bin .add t5 (.int .i64 1) fun t6 =>
  slS p0 (some t6) none fun t7 =>
  R t7 w_1
theorem ok_path_Base (p0 : Value) (w : World) (R : Value → World → Prop) (h : go_path_Base p0 w R) : CallsV Tryz.prog f_path_Base #[p0] w R :=
  calls_of_vx Tryz.func61 (by rw [show vxF Tryz.prog Tryz.f61 [p0] w R = go_path_Base p0 w R by kernel_rfl]; exact h)
theorem has_path_Base : hasB Tryz.prog f_path_Base := .mk' (fn := Tryz.f61) Tryz.func61 (by decide) rfl

/-- remora/path.part -/
def go_path_part (s0 : Value) (w : World) (R : Value → World → Prop) : Prop :=
  bin .neq s0 (str []) fun t4 =>
  jn (fun g z w_1 => /- 0:t8 -/
    pickx t4 (nth g 0) (.bool false) fun t9 =>
    jn (fun g_1 z_1 w_2 => /- 0:t12 -/
      pickx t9 (nth g_1 0) (.bool false) fun t13 =>
      jn (fun g_2 z_2 w_3 => /- 0:t16 -/
        pickx t13 (nth g_2 0) (.bool false) fun t17 =>
        jn (fun g_3 z_3 w_4 => /- 0:t21 -/
          pickx t17 (nth g_3 0) (.bool false) fun t22 =>
          R t22 w_4) fun J_3 =>
        gd t17 true (callv Tryz.prog (fnv f_strings_IndexByte) [s0, (.int .u8 0)] w_3 fun t20 w_5 =>
          bin .lss t20 (.int .i64 0) fun t21 =>
          J_3 [t21] w_5) (J_3 [undef] w_3)) fun J_2 =>
      gd t13 true (bin .neq s0 (str [46, 46]) fun t16 =>
        J_2 [t16] w_2) (J_2 [undef] w_2)) fun J_1 =>
    gd t9 true (bin .neq s0 (str [46]) fun t12 =>
      J_1 [t12] w_1) (J_1 [undef] w_1)) fun J =>
  gd t4 true (lenS s0 fun t7 =>
    bin .leq t7 (.int .i64 48) fun t8 =>
    J [t8] w) (J [undef] w)
theorem ok_path_part (s0 : Value) (w : World) (R : Value → World → Prop) (h : go_path_part s0 w R) : CallsV Tryz.prog f_path_part #[s0] w R :=
  calls_of_vx Tryz.func79 (by rw [show vxF Tryz.prog Tryz.f79 [s0] w R = go_path_part s0 w R by kernel_rfl]; exact h)
theorem has_path_part : hasB Tryz.prog f_path_part := .mk' (fn := Tryz.f79) Tryz.func79 (by decide) rfl

/-- remora/path.Right -/
def go_path_Right (p0 : Value) (w : World) (R : Value → World → Prop) : Prop :=
  callv Tryz.prog (fnv f_path_Split) [p0] w fun t7 w_1 =>
  lenV t7 fun t9 =>
  lp (fun again g z w_2 => /- 0:s5 1:t2 2:t10 -/
    bin .lss (nth g 2) t9 fun t11 =>
    cnd t11 (ia 1 t7 (nth g 2) fun t12 =>
      ld t12 w_2 fun t13 =>
      callv Tryz.prog (fnv f_path_part) [t13] w_2 fun t15 w_3 =>
      un .not t15 fun t16 =>
      cnd t16 (R (.bool false) w_3) (
      bin .add (nth g 2) (.int .i64 1) fun t17 =>
        again [t13, (nth g 1), t17] w_3)) (
    lenV t7 fun t19 =>
      bin .leq t19 (.int .i64 12) fun t20 =>
      jn (fun g_1 z_1 w_4 => /- 0:t24 -/
        pickx t20 (nth g_1 0) (.bool false) fun t25 =>
        R t25 w_4) fun J =>
      gd t20 true (lenS p0 fun t23 =>
        bin .leq t23 (.int .i64 200) fun t24 =>
        J [t24] w_2) (J [undef] w_2))) [undef, (.bool false), (.int .i64 0)] w_1
theorem ok_path_Right (p0 : Value) (w : World) (R : Value → World → Prop) (h : go_path_Right p0 w R) : CallsV Tryz.prog f_path_Right #[p0] w R :=
  calls_of_vx Tryz.func44 (by rw [show vxF Tryz.prog Tryz.f44 [p0] w R = go_path_Right p0 w R by kernel_rfl]; exact h)
theorem has_path_Right : hasB Tryz.prog f_path_Right := .mk' (fn := Tryz.f44) Tryz.func44 (by decide) rfl

/-- remora/path.Under -/
def go_path_Under (p0 top1 : Value) (w : World) (R : Value → World → Prop) : Prop :=
  callv Tryz.prog (fnv f_path_Split) [p0] w fun t8 w_1 =>
  callv Tryz.prog (fnv f_path_Split) [top1] w_1 fun t10 w_2 =>
  lenV t8 fun t12 =>
  lenV t10 fun t14 =>
  bin .geq t12 t14 fun t15 =>
  jn (fun g z w_3 => /- 0:t22 -/
    pickx t15 (nth g 0) (.bool false) fun t23 =>
    R t23 w_3) fun J =>
  gd t15 true (lenV t10 fun t19 =>
    slV 1 t8 none (some t19) none fun t20 =>
    callv Tryz.prog (fnv f_slices_Equal_S_string_string) [t20, t10] w_2 fun t22 w_4 =>
    J [t22] w_4) (J [undef] w_2)
theorem ok_path_Under (p0 top1 : Value) (w : World) (R : Value → World → Prop) (h : go_path_Under p0 top1 w R) : CallsV Tryz.prog f_path_Under #[p0, top1] w R :=
  calls_of_vx Tryz.func10 (by rw [show vxF Tryz.prog Tryz.f10 [p0, top1] w R = go_path_Under p0 top1 w R by kernel_rfl]; exact h)
theorem has_path_Under : hasB Tryz.prog f_path_Under := .mk' (fn := Tryz.f10) Tryz.func10 (by decide) rfl

/-- cmp.Compare[string] -/
def go_cmp_Compare_string (x0 y1 : Value) (w : World) (R : Value → World → Prop) : Prop :=
  callv Tryz.prog (fnv f_cmp_isNaN_string) [x0] w fun t8 w_1 =>
  callv Tryz.prog (fnv f_cmp_isNaN_string) [y1] w_1 fun t10 w_2 =>
  cnd t8 (cnd t10 (R (.int .i64 0) w_2) (
    R (.int .i64 (-1)) w_2)) (
  cnd t10 (R (.int .i64 1) w_2) (
    bin .lss x0 y1 fun t16 =>
      cnd t16 (R (.int .i64 (-1)) w_2) (
      bin .gtr x0 y1 fun t19 =>
        cnd t19 (R (.int .i64 1) w_2) (
        R (.int .i64 0) w_2))))
theorem ok_cmp_Compare_string (x0 y1 : Value) (w : World) (R : Value → World → Prop) (h : go_cmp_Compare_string x0 y1 w R) : CallsV Tryz.prog f_cmp_Compare_string #[x0, y1] w R :=
  calls_of_vx Tryz.func93 (by rw [show vxF Tryz.prog Tryz.f93 [x0, y1] w R = go_cmp_Compare_string x0 y1 w R by kernel_rfl]; exact h)
theorem has_cmp_Compare_string : hasB Tryz.prog f_cmp_Compare_string := .mk' (fn := Tryz.f93) Tryz.func93 (by decide) rfl

/-- cmp.isNaN[string] -/
def go_cmp_isNaN_string (x0 : Value) (w : World) (R : Value → World → Prop) : Prop :=
  bin .neq x0 x0 fun t5 =>
  R t5 w
theorem ok_cmp_isNaN_string (x0 : Value) (w : World) (R : Value → World → Prop) (h : go_cmp_isNaN_string x0 w R) : CallsV Tryz.prog f_cmp_isNaN_string #[x0] w R :=
  calls_of_vx Tryz.func113 (by rw [show vxF Tryz.prog Tryz.f113 [x0] w R = go_cmp_isNaN_string x0 w R by kernel_rfl]; exact h)
theorem has_cmp_isNaN_string : hasB Tryz.prog f_cmp_isNaN_string := .mk' (fn := Tryz.f113) Tryz.func113 (by decide) rfl

/-- slices.Compare[[]string,string] -/
def go_slices_Compare_S_string_string (s10 s21 : Value) (w : World) (R : Value → World → Prop) : Prop :=
  lenV s10 fun t10 =>
  lp (fun again g z w_1 => /- 0:i5 1:v16 2:t4 3:v27 4:c8 5:t11 -/
    bin .lss (nth g 5) t10 fun t12 =>
    cnd t12 (ia 1 s10 (nth g 5) fun t14 =>
      ld t14 w_1 fun t15 =>
      lenV s21 fun t18 =>
      bin .geq (nth g 5) t18 fun t19 =>
      cnd t19 (R (.int .i64 1) w_1) (
      ia 1 s21 (nth g 5) fun t22 =>
        ld t22 w_1 fun t23 =>
        callv Tryz.prog (fnv f_cmp_Compare_string) [t15, t23] w_1 fun t26 w_2 =>
        bin .neq t26 (.int .i64 0) fun t28 =>
        cnd t28 (R t26 w_2) (
        bin .add (nth g 5) (.int .i64 1) fun t30 =>
          again [(nth g 5), t15, (nth g 2), t23, t26, t30] w_2))) (
    lenV s10 fun t32 =>
      lenV s21 fun t34 =>
      bin .lss t32 t34 fun t35 =>
      cnd t35 (R (.int .i64 (-1)) w_1) (
      R (.int .i64 0) w_1))) [undef, undef, (.int .i64 0), undef, undef, (.int .i64 0)] w
theorem ok_slices_Compare_S_string_string (s10 s21 : Value) (w : World) (R : Value → World → Prop) (h : go_slices_Compare_S_string_string s10 s21 w R) : CallsV Tryz.prog f_slices_Compare_S_string_string #[s10, s21] w R :=
  calls_of_vx Tryz.func69 (by rw [show vxF Tryz.prog Tryz.f69 [s10, s21] w R = go_slices_Compare_S_string_string s10 s21 w R by kernel_rfl]; exact h)
theorem has_slices_Compare_S_string_string : hasB Tryz.prog f_slices_Compare_S_string_string := .mk' (fn := Tryz.f69) Tryz.func69 (by decide) rfl

/-- remora/path.Sort$1 -/
def go_path_Sort_d1 (a0 b1 : Value) (w : World) (R : Value → World → Prop) : Prop :=
  callv Tryz.prog (fnv f_path_Split) [a0] w fun t6 w_1 =>
  callv Tryz.prog (fnv f_path_Split) [b1] w_1 fun t8 w_2 =>
  callv Tryz.prog (fnv f_slices_Compare_S_string_string) [t6, t8] w_2 fun t9 w_3 =>
  R t9 w_3
theorem ok_path_Sort_d1 (a0 b1 : Value) (w : World) (R : Value → World → Prop) (h : go_path_Sort_d1 a0 b1 w R) : CallsV Tryz.prog f_path_Sort_d1 #[a0, b1] w R :=
  calls_of_vx Tryz.func68 (by rw [show vxF Tryz.prog Tryz.f68 [a0, b1] w R = go_path_Sort_d1 a0 b1 w R by kernel_rfl]; exact h)
theorem has_path_Sort_d1 : hasB Tryz.prog f_path_Sort_d1 := .mk' (fn := Tryz.f68) Tryz.func68 (by decide) rfl

/-- internal/bytealg.LastIndexByteString -/
def go_internal_bytealg_LastIndexByteString (s0 c1 : Value) (w : World) (R : Value → World → Prop) : Prop :=
  lenS s0 fun t7 =>
  bin .sub t7 (.int .i64 1) fun t8 =>
  lp (fun again g z w_1 => /- 0:t4 1:i5 -/
    bin .geq (nth g 1) (.int .i64 0) fun t10 =>
    cnd t10 (ixS s0 (nth g 1) fun t15 =>
      bin .eql t15 c1 fun t17 =>
      cnd t17 (R (nth g 1) w_1) (
      bin .sub (nth g 1) (.int .i64 1) fun t12 =>
        again [(nth g 0), t12] w_1)) (
    R (.int .i64 (-1)) w_1)) [(.int .i64 0), t8] w
theorem ok_internal_bytealg_LastIndexByteString (s0 c1 : Value) (w : World) (R : Value → World → Prop) (h : go_internal_bytealg_LastIndexByteString s0 c1 w R) : CallsV Tryz.prog f_internal_bytealg_LastIndexByteString #[s0, c1] w R :=
  calls_of_vx Tryz.func108 (by rw [show vxF Tryz.prog Tryz.f108 [s0, c1] w R = go_internal_bytealg_LastIndexByteString s0 c1 w R by kernel_rfl]; exact h)
theorem has_internal_bytealg_LastIndexByteString : hasB Tryz.prog f_internal_bytealg_LastIndexByteString := .mk' (fn := Tryz.f108) Tryz.func108 (by decide) rfl

/-- strings.LastIndexByte -/
def go_strings_LastIndexByte (s0 c1 : Value) (w : World) (R : Value → World → Prop) : Prop :=
  callv Tryz.prog (fnv f_internal_bytealg_LastIndexByteString) [s0, c1] w fun t7 w_1 =>
  R t7 w_1
theorem ok_strings_LastIndexByte (s0 c1 : Value) (w : World) (R : Value → World → Prop) (h : go_strings_LastIndexByte s0 c1 w R) : CallsV Tryz.prog f_strings_LastIndexByte #[s0, c1] w R :=
  calls_of_vx Tryz.func89 (by rw [show vxF Tryz.prog Tryz.f89 [s0, c1] w R = go_strings_LastIndexByte s0 c1 w R by kernel_rfl]; exact h)
theorem has_strings_LastIndexByte : hasB Tryz.prog f_strings_LastIndexByte := .mk' (fn := Tryz.f89) Tryz.func89 (by decide) rfl

/-- strings.IndexByte -/
def go_strings_IndexByte (s0 c1 : Value) (w : World) (R : Value → World → Prop) : Prop :=
  callv Tryz.prog (fnv f_internal_stringslite_IndexByte) [s0, c1] w fun t7 w_1 =>
  R t7 w_1
theorem ok_strings_IndexByte (s0 c1 : Value) (w : World) (R : Value → World → Prop) (h : go_strings_IndexByte s0 c1 w R) : CallsV Tryz.prog f_strings_IndexByte #[s0, c1] w R :=
  calls_of_vx Tryz.func102 (by rw [show vxF Tryz.prog Tryz.f102 [s0, c1] w R = go_strings_IndexByte s0 c1 w R by kernel_rfl]; exact h)
theorem has_strings_IndexByte : hasB Tryz.prog f_strings_IndexByte := .mk' (fn := Tryz.f102) Tryz.func102 (by decide) rfl

/-- slices.Equal[[]string,string] -/
def go_slices_Equal_S_string_string (s10 s21 : Value) (w : World) (R : Value → World → Prop) : Prop :=
  lenV s10 fun t7 =>
  lenV s21 fun t9 =>
  bin .neq t7 t9 fun t10 =>
  cnd t10 (R (.bool false) w) (
  lenV s10 fun t12 =>
    lp (fun again g z w_1 => /- 0:i5 1:t4 2:t13 -/
      bin .lss (nth g 2) t12 fun t14 =>
      cnd t14 (drw [(2, [], fun d w_2 k => ia 1 s10 (nth g 2) fun x => k x w_2),
          (3, [2], fun d w_2 k => ld (d 2) w_2 fun x => k x w_2),
          (6, [], fun d w_2 k => ia 1 s21 (nth g 2) fun x => k x w_2),
          (7, [6], fun d w_2 k => ld (d 6) w_2 fun x => k x w_2),
          (8, [3, 7, 2, 6], fun d w_2 k => bin .neq (d 3) (d 7) fun x => k x w_2)] (fun d w_2 =>
        cnd (d 8) (R (.bool false) w_2) (
        bin .add (nth g 2) (.int .i64 1) fun t25 =>
          again [(nth g 2), (nth g 1), t25] w_2)) w_1) (
      R (.bool true) w_1)) [undef, (.bool false), (.int .i64 0)] w)
theorem ok_slices_Equal_S_string_string (s10 s21 : Value) (w : World) (R : Value → World → Prop) (h : go_slices_Equal_S_string_string s10 s21 w R) : CallsV Tryz.prog f_slices_Equal_S_string_string #[s10, s21] w R :=
  calls_of_vx Tryz.func38 (by rw [show vxF Tryz.prog Tryz.f38 [s10, s21] w R = go_slices_Equal_S_string_string s10 s21 w R by kernel_rfl]; exact h)
theorem has_slices_Equal_S_string_string : hasB Tryz.prog f_slices_Equal_S_string_string := .mk' (fn := Tryz.f38) Tryz.func38 (by decide) rfl


end Go.Proofs.YtkpefimnggojdaaGreat.VX
