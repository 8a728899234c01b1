/- The shallow programs of functions, printed by a program; each equation is checked by the kernel. -/
import Derived.Test.YtimominjaikblaaDoorSplExec
import Derived.Test.YtimominjaikblaaDoorProg
import Derived.KernelRfl
namespace SplA
open Go.Proofs.YtimominjaikblaaDoor.Spl Go Go.Proofs
set_option maxRecDepth 100000
set_option linter.unusedVariables false
abbrev fn_law04_RcCodes : Nat := 3
abbrev fn_law04_RcFinds : Nat := 4
abbrev fn_law04_RcBack : Nat := 5
abbrev fn_law04_awake : Nat := 9
abbrev fn_ref04_Some : Nat := 10
abbrev fn_rc_Coder_Code : Nat := 11
abbrev fn_ref04_Coder_Code : Nat := 12
abbrev fn_rc_Coder_End : Nat := 13
abbrev fn_ref04_Coder_End : Nat := 14
abbrev fn_rc_New : Nat := 15
abbrev fn_ref04_New : Nat := 16
abbrev fn_rc_Decoder_Place : Nat := 17
abbrev fn_ref04_Decoder_Place : Nat := 18
abbrev fn_rc_Decoder_Take : Nat := 19
abbrev fn_ref04_Decoder_Take : Nat := 20
abbrev fn_rc_right : Nat := 32
abbrev fn_rc_narrowed_narrow : Nat := 33
abbrev fn_rc_Coder_carry : Nat := 34
abbrev fn_rc_narrowed_small : Nat := 35
abbrev fn_rc_Coder_tell : Nat := 36
abbrev fn_ref04_Right : Nat := 37
abbrev fn_ref04_narrow : Nat := 38
abbrev fn_ref04_carried : Nat := 39
abbrev fn_strings_Builder_WriteString : Nat := 40
abbrev fn_strings_Builder_String : Nat := 41
abbrev fn_strings_Builder_WriteByte : Nat := 42
abbrev fn_strings_TrimRight : Nat := 43
abbrev fn_rc_Decoder_next : Nat := 44
abbrev fn_ref04_Decoder_next : Nat := 45
abbrev fn_rc_narrowed_now : Nat := 46
abbrev fn_rc_Coder_settle : Nat := 57
abbrev fn_strings_Builder_copyCheck : Nat := 58
abbrev fn_strings_trimRightByte : Nat := 59
abbrev fn_strings_makeASCIISet : Nat := 60
abbrev fn_strings_trimRightASCII : Nat := 61
abbrev fn_strings_trimRightUnicode : Nat := 62
abbrev fn_internal_abi_NoEscape : Nat := 75
abbrev T_int : Nat := 3
abbrev T_uint8 : Nat := 5
abbrev T_3_int : Nat := 23
abbrev T_strings_Builder : Nat := 32
abbrev T_rc_Coder : Nat := 34
abbrev T_ref04_Coder : Nat := 38
abbrev T_ref04_Part : Nat := 40
abbrev T_rc_Decoder : Nat := 55
abbrev T_ref04_Decoder : Nat := 89
abbrev T_strings_asciiSet : Nat := 105
/-! strings.trimRightByte -/
noncomputable def strings_trimRightByte_j0 (call : Nat → List AV → M AV) (n : Nat) (rec : List AV → M AV) (x0_1 x1_1 x9_1 x10_1 x11_1 x12_1 x13_1 x14_1 x15_1 x16 : AV) : M AV :=
  mc x16
    (lp (aLenStr x0_1) fun v19 =>
lp (aBin .sub [] v19 (.int .i64 1)) fun v20 =>
lp (aSliceStr x0_1 none (some v20)) fun v21 =>
rec [v21, x1_1, x9_1, x10_1, x11_1, x12_1, x13_1, x14_1, x15_1])
    (ret x0_1)
noncomputable def strings_trimRightByte_l0 (call : Nat → List AV → M AV) (n : Nat) (rec : List AV → M AV) (x0 x1 x9 x10 x11 x12 x13 x14 x15 : AV) : M AV :=
  lp (aLenStr x0) fun v6 =>
  lp (aBin .gtr [] v6 (.int .i64 0)) fun v7 =>
  mc v7
    (lp (aLenStr x0) fun v11 =>
    lp (aBin .sub [] v11 (.int .i64 1)) fun v12 =>
    lp (aIdxStr x0 v12) fun v13 =>
    lp (aBin .eql [6] v13 x1) fun v15 =>
    strings_trimRightByte_j0 call n rec x0 x1 x0 x0 v11 v12 v13 x1 v15 v15)
    (strings_trimRightByte_j0 call n rec x0 x1 (.tup []) (.tup []) (.tup []) (.tup []) (.tup []) (.tup []) (.tup []) (.bool false))
noncomputable def strings_trimRightByte (call : Nat → List AV → M AV) (n : Nat) (a0 a1 : AV) : M AV :=
  loopN (fun r l => strings_trimRightByte_l0 call n r (l.getD 0 .undef) (l.getD 1 .undef) (l.getD 2 .undef) (l.getD 3 .undef) (l.getD 4 .undef) (l.getD 5 .undef) (l.getD 6 .undef) (l.getD 7 .undef) (l.getD 8 .undef)) n [a0, a1, .undef, .undef, .undef, .undef, .undef, .undef, .undef]
theorem strings_trimRightByte_eq {ext : Ext} (h : ext fn_strings_trimRightByte = none) (n : Nat) (a0 a1 : AV) : fcall Tryd.prog ext (n + 1) fn_strings_trimRightByte [a0, a1] = strings_trimRightByte (fcall Tryd.prog ext n) n a0 a1 := by
  unfold fcall; rw [h]; kernel_rfl

/-! (*strings.Builder).copyCheck -/
noncomputable def strings_Builder_copyCheck (call : Nat → List AV → M AV) (n : Nat) (a0 : AV) : M AV :=
  lp (aNil a0) fun v3 =>
  lp (aOff 0 v3) fun v4 =>
  bnd (load none v4) fun v5 =>
  lp (aBin .eql [3] v5 .nilptr) fun v6 =>
  mc v6
    (bnd (toUnsafe a0) fun v9 =>
    bnd (call fn_internal_abi_NoEscape [v9]) fun v10 =>
    bnd (fromUnsafe Tryd.prog.cellsOf (fun ty o => rowAt Tryd.prog (sameLayout Tryd.prog Tryd.prog.depth · T_strings_Builder) Tryd.prog.depth ty 1 o 1) v10) fun v11 =>
    lp (aNil a0) fun v12 =>
    lp (aOff 0 v12) fun v13 =>
    bnd (store none v13 v11) fun u =>
    ret (.tup []))
    (lp (aNil a0) fun v15 =>
    lp (aOff 0 v15) fun v16 =>
    bnd (load none v16) fun v17 =>
    lp (aBin .neq [3] v17 a0) fun v19 =>
    mc v19
      (fail /- code refuse -/)
      (ret (.tup [])))
theorem strings_Builder_copyCheck_eq {ext : Ext} (h : ext fn_strings_Builder_copyCheck = none) (n : Nat) (a0 : AV) : fcall Tryd.prog ext (n + 1) fn_strings_Builder_copyCheck [a0] = strings_Builder_copyCheck (fcall Tryd.prog ext n) n a0 := by
  unfold fcall; rw [h]; kernel_rfl

/-! (*splicer/rc.Coder).settle -/
noncomputable def rc_Coder_settle_l0 (call : Nat → List AV → M AV) (n : Nat) (rec : List AV → M AV) (x0_1 x1_1 : AV) : M AV :=
  lp (aNil x0_1) fun v22 =>
  lp (aOff 6 v22) fun v23 =>
  bnd (load none v23) fun v24 =>
  lp (aBin .gtr [] v24 (.int .i64 0)) fun v25 =>
  mc v25
    (lp (aNil x0_1) fun v34 =>
  lp (aOff 2 v34) fun v35 =>
  lp (aBin .add [] (.int .i64 255) x1_1) fun v37 =>
  lp (aInt .u8 v37) fun v38 =>
  bnd (call fn_strings_Builder_WriteByte [v35, v38]) fun v39 =>
  lp (aNil x0_1) fun v27 =>
  lp (aOff 6 v27) fun v28 =>
  bnd (load none v28) fun v29 =>
  lp (aBin .sub [] v29 (.int .i64 1)) fun v30 =>
  lp (aNil x0_1) fun v31 =>
  lp (aOff 6 v31) fun v32 =>
  bnd (store none v32 v30) fun u =>
  rec [x0_1, x1_1])
    (lp (aNil x0_1) fun v41 =>
lp (aOff 5 v41) fun v42 =>
bnd (store none v42 (.int .i64 0)) fun u_1 =>
ret (.tup []))
noncomputable def rc_Coder_settle_j0 (call : Nat → List AV → M AV) (n : Nat) (x0 x1 : AV) : M AV :=
  loopN (fun r l => rc_Coder_settle_l0 call n r (l.getD 0 .undef) (l.getD 1 .undef)) n [x0, x1]
noncomputable def rc_Coder_settle (call : Nat → List AV → M AV) (n : Nat) (a0 a1 : AV) : M AV :=
  lp (aNil a0) fun v5 =>
  lp (aOff 5 v5) fun v6 =>
  bnd (load none v6) fun v7 =>
  lp (aBin .gtr [] v7 (.int .i64 0)) fun v8 =>
  mc v8
    (lp (aNil a0) fun v10 =>
    lp (aOff 2 v10) fun v11 =>
    lp (aNil a0) fun v13 =>
    lp (aOff 5 v13) fun v14 =>
    bnd (load none v14) fun v15 =>
    lp (aBin .sub [] v15 (.int .i64 1)) fun v16 =>
    lp (aBin .add [] v16 a1) fun v18 =>
    lp (aInt .u8 v18) fun v19 =>
    snap fun _ =>
    bnd (call fn_strings_Builder_WriteByte [v11, v19]) fun v20 =>
    snap fun _ =>
    rc_Coder_settle_j0 call n a0 a1)
    (rc_Coder_settle_j0 call n a0 a1)
theorem rc_Coder_settle_eq {ext : Ext} (h : ext fn_rc_Coder_settle = none) (n : Nat) (a0 a1 : AV) : fcall Tryd.prog ext (n + 1) fn_rc_Coder_settle [a0, a1] = rc_Coder_settle (fcall Tryd.prog ext n) n a0 a1 := by
  unfold fcall; rw [h]; kernel_rfl

/-! (*splicer/rc.narrowed).now -/
noncomputable def rc_narrowed_now_j0 (call : Nat → List AV → M AV) (n : Nat) (x0 : AV) : M AV :=
  lp (aNil x0) fun v15 =>
  lp (aOff 1 v15) fun v16 =>
  bnd (load none v16) fun v17 =>
  ret v17
noncomputable def rc_narrowed_now (call : Nat → List AV → M AV) (n : Nat) (a0 : AV) : M AV :=
  lp (aNil a0) fun v4 =>
  lp (aOff 0 v4) fun v5 =>
  bnd (load none v5) fun v6 =>
  lp (aUn .not v6) fun v7 =>
  mc v7
    (lp (aNil a0) fun v10 =>
    lp (aOff 0 v10) fun v11 =>
    bnd (store none v11 (.bool true)) fun u =>
    lp (aNil a0) fun v12 =>
    lp (aOff 1 v12) fun v13 =>
    bnd (store none v13 (.int .u64 4294967295)) fun u_1 =>
    rc_narrowed_now_j0 call n a0)
    (rc_narrowed_now_j0 call n a0)
theorem rc_narrowed_now_eq {ext : Ext} (h : ext fn_rc_narrowed_now = none) (n : Nat) (a0 : AV) : fcall Tryd.prog ext (n + 1) fn_rc_narrowed_now [a0] = rc_narrowed_now (fcall Tryd.prog ext n) n a0 := by
  unfold fcall; rw [h]; kernel_rfl

/-! (*splicer/splicerref04.Decoder).next -/
noncomputable def ref04_Decoder_next (call : Nat → List AV → M AV) (n : Nat) (a0 : AV) : M AV :=
  lp (aNil a0) fun v5 =>
  lp (aOff 1 v5) fun v6 =>
  bnd (load none v6) fun v7 =>
  lp (aBin .add [] v7 (.int .i64 1)) fun v8 =>
  lp (aNil a0) fun v9 =>
  lp (aOff 1 v9) fun v10 =>
  bnd (store none v10 v8) fun u =>
  lp (aNil a0) fun v12 =>
  lp (aOff 1 v12) fun v13 =>
  bnd (load none v13) fun v14 =>
  lp (aNil a0) fun v16 =>
  lp (aOff 0 v16) fun v17 =>
  bnd (load none v17) fun v18 =>
  lp (aLenStr v18) fun v19 =>
  lp (aBin .gtr [] v14 v19) fun v20 =>
  mc v20
    (ret (.int .i64 0))
    (lp (aNil a0) fun v22 =>
  lp (aOff 0 v22) fun v23 =>
  bnd (load none v23) fun v24 =>
  lp (aNil a0) fun v26 =>
  lp (aOff 1 v26) fun v27 =>
  bnd (load none v27) fun v28 =>
  lp (aBin .sub [] v28 (.int .i64 1)) fun v29 =>
  lp (aIdxStr v24 v29) fun v30 =>
  lp (aInt .i64 v30) fun v31 =>
  ret v31)
theorem ref04_Decoder_next_eq {ext : Ext} (h : ext fn_ref04_Decoder_next = none) (n : Nat) (a0 : AV) : fcall Tryd.prog ext (n + 1) fn_ref04_Decoder_next [a0] = ref04_Decoder_next (fcall Tryd.prog ext n) n a0 := by
  unfold fcall; rw [h]; kernel_rfl

/-! (*splicer/rc.Decoder).next -/
noncomputable def rc_Decoder_next (call : Nat → List AV → M AV) (n : Nat) (a0 : AV) : M AV :=
  lp (aNil a0) fun v5 =>
  lp (aOff 2 v5) fun v6 =>
  bnd (load none v6) fun v7 =>
  lp (aBin .eql [7] v7 (.str .empty)) fun v8 =>
  mc v8
    (ret (.int .u64 0))
    (lp (aNil a0) fun v10 =>
  lp (aOff 2 v10) fun v11 =>
  bnd (load none v11) fun v12 =>
  lp (aIdxStr v12 (.int .i64 0)) fun v13 =>
  lp (aNil a0) fun v16 =>
  lp (aOff 2 v16) fun v17 =>
  bnd (load none v17) fun v18 =>
  lp (aSliceStr v18 (some (.int .i64 1)) none) fun v19 =>
  lp (aNil a0) fun v20 =>
  lp (aOff 2 v20) fun v21 =>
  bnd (store none v21 v19) fun u =>
  lp (aInt .u64 v13) fun v23 =>
  ret v23)
theorem rc_Decoder_next_eq {ext : Ext} (h : ext fn_rc_Decoder_next = none) (n : Nat) (a0 : AV) : fcall Tryd.prog ext (n + 1) fn_rc_Decoder_next [a0] = rc_Decoder_next (fcall Tryd.prog ext n) n a0 := by
  unfold fcall; rw [h]; kernel_rfl

/-! strings.TrimRight -/
noncomputable def strings_TrimRight_j1 (call : Nat → List AV → M AV) (n : Nat) (x0_1 x1_1 x21 : AV) : M AV :=
  mc x21
    (lp (aIdxStr x1_1 (.int .i64 0)) fun v24 =>
    bnd (call fn_strings_trimRightByte [x0_1, v24]) fun v25 =>
    ret v25)
    (bnd (call fn_strings_makeASCIISet [x1_1]) fun v28 =>
lp (aExt 0 v28) fun v29 =>
lp (aExt 1 v28) fun v30 =>
bnd (alloc T_strings_asciiSet [.bool false, .bool false, .bool false, .bool false, .bool false, .bool false, .bool false, .bool false, .bool false, .bool false, .bool false, .bool false, .bool false, .bool false, .bool false, .bool false, .bool false, .bool false, .bool false, .bool false, .bool false, .bool false, .bool false, .bool false, .bool false, .bool false, .bool false, .bool false, .bool false, .bool false, .bool false, .bool false, .bool false, .bool false, .bool false, .bool false, .bool false, .bool false, .bool false, .bool false, .bool false, .bool false, .bool false, .bool false, .bool false, .bool false, .bool false, .bool false, .bool false, .bool false, .bool false, .bool false, .bool false, .bool false, .bool false, .bool false, .bool false, .bool false, .bool false, .bool false, .bool false, .bool false, .bool false, .bool false, .bool false, .bool false, .bool false, .bool false, .bool false, .bool false, .bool false, .bool false, .bool false, .bool false, .bool false, .bool false, .bool false, .bool false, .bool false, .bool false, .bool false, .bool false, .bool false, .bool false, .bool false, .bool false, .bool false, .bool false, .bool false, .bool false, .bool false, .bool false, .bool false, .bool false, .bool false, .bool false, .bool false, .bool false, .bool false, .bool false, .bool false, .bool false, .bool false, .bool false, .bool false, .bool false, .bool false, .bool false, .bool false, .bool false, .bool false, .bool false, .bool false, .bool false, .bool false, .bool false, .bool false, .bool false, .bool false, .bool false, .bool false, .bool false, .bool false, .bool false, .bool false, .bool false, .bool false, .bool false, .bool false, .bool false, .bool false, .bool false, .bool false, .bool false, .bool false, .bool false, .bool false, .bool false, .bool false, .bool false, .bool false, .bool false, .bool false, .bool false, .bool false, .bool false, .bool false, .bool false, .bool false, .bool false, .bool false, .bool false, .bool false, .bool false, .bool false, .bool false, .bool false, .bool false, .bool false, .bool false, .bool false, .bool false, .bool false, .bool false, .bool false, .bool false, .bool false, .bool false, .bool false, .bool false, .bool false, .bool false, .bool false, .bool false, .bool false, .bool false, .bool false, .bool false, .bool false, .bool false, .bool false, .bool false, .bool false, .bool false, .bool false, .bool false, .bool false, .bool false, .bool false, .bool false, .bool false, .bool false, .bool false, .bool false, .bool false, .bool false, .bool false, .bool false, .bool false, .bool false, .bool false, .bool false, .bool false, .bool false, .bool false, .bool false, .bool false, .bool false, .bool false, .bool false, .bool false, .bool false, .bool false, .bool false, .bool false, .bool false, .bool false, .bool false, .bool false, .bool false, .bool false, .bool false, .bool false, .bool false, .bool false, .bool false, .bool false, .bool false, .bool false, .bool false, .bool false, .bool false, .bool false, .bool false, .bool false, .bool false, .bool false, .bool false, .bool false, .bool false, .bool false, .bool false, .bool false, .bool false, .bool false, .bool false, .bool false, .bool false, .bool false, .bool false, .bool false, .bool false, .bool false, .bool false, .bool false, .bool false]) fun v5 =>
bnd (store (some 256) v5 v29) fun u =>
mc v30
  (bnd (call fn_strings_trimRightASCII [x0_1, v5]) fun v33 =>
  ret v33)
  (bnd (call fn_strings_trimRightUnicode [x0_1, x1_1]) fun v36 =>
ret v36))
noncomputable def strings_TrimRight_j0 (call : Nat → List AV → M AV) (n : Nat) (x0 x1 x12 : AV) : M AV :=
  mc x12
    (ret x0)
    (lp (aLenStr x1) fun v15 =>
lp (aBin .eql [6] v15 (.int .i64 1)) fun v16 =>
mc v16
  (lp (aIdxStr x1 (.int .i64 0)) fun v19 =>
  lp (aBin .lss [] v19 (.int .u8 128)) fun v20 =>
  strings_TrimRight_j1 call n x0 x1 v20)
  (strings_TrimRight_j1 call n x0 x1 (.bool false)))
noncomputable def strings_TrimRight (call : Nat → List AV → M AV) (n : Nat) (a0 a1 : AV) : M AV :=
  lp (aBin .eql [7] a0 (.str .empty)) fun v8 =>
  mc v8
    (strings_TrimRight_j0 call n a0 a1 (.bool true))
    (lp (aBin .eql [7] a1 (.str .empty)) fun v11 =>
    strings_TrimRight_j0 call n a0 a1 v11)
theorem strings_TrimRight_eq {ext : Ext} (h : ext fn_strings_TrimRight = none) (n : Nat) (a0 a1 : AV) : fcall Tryd.prog ext (n + 1) fn_strings_TrimRight [a0, a1] = strings_TrimRight (fcall Tryd.prog ext n) n a0 a1 := by
  unfold fcall; rw [h]; kernel_rfl

/-! (*strings.Builder).WriteByte -/
noncomputable def strings_Builder_WriteByte (call : Nat → List AV → M AV) (n : Nat) (a0 a1 : AV) : M AV :=
  bnd (call fn_strings_Builder_copyCheck [a0]) fun v6 =>
  lp (aNil a0) fun v9 =>
  lp (aOff 1 v9) fun v10 =>
  bnd (load none v10) fun v11 =>
  lp (aFill (fun i => some (i * 1, 1)) [.int .u8 0] [(0, a1)]) fun cs =>
  bnd (allocS T_uint8 1 1 cs) fun v13 =>
  bnd (append T_uint8 1 1 v11 v13) fun v14 =>
  lp (aNil a0) fun v15 =>
  lp (aOff 1 v15) fun v16 =>
  bnd (store none v16 v14) fun u =>
  ret .nilface
theorem strings_Builder_WriteByte_eq {ext : Ext} (h : ext fn_strings_Builder_WriteByte = none) (n : Nat) (a0 a1 : AV) : fcall Tryd.prog ext (n + 1) fn_strings_Builder_WriteByte [a0, a1] = strings_Builder_WriteByte (fcall Tryd.prog ext n) n a0 a1 := by
  unfold fcall; rw [h]; kernel_rfl

/-! (*strings.Builder).String -/
noncomputable def strings_Builder_String (call : Nat → List AV → M AV) (n : Nat) (a0 : AV) : M AV :=
  lp (aNil a0) fun v4 =>
  lp (aOff 1 v4) fun v5 =>
  bnd (load none v5) fun v6 =>
  snap fun m =>
  bnd (sliceData v6) fun v7 =>
  snap fun _ =>
  lp (aNil a0) fun v9 =>
  lp (aOff 1 v9) fun v10 =>
  bnd (load none v10) fun v11 =>
  same none v10 v11 m <|
  lp (aLenS v11) fun v12 =>
  snap fun _ =>
  bnd (unsafeStr T_uint8 v7 v12) fun v13 =>
  snap fun _ =>
  ret v13
theorem strings_Builder_String_eq {ext : Ext} (h : ext fn_strings_Builder_String = none) (n : Nat) (a0 : AV) : fcall Tryd.prog ext (n + 1) fn_strings_Builder_String [a0] = strings_Builder_String (fcall Tryd.prog ext n) n a0 := by
  unfold fcall; rw [h]; kernel_rfl

/-! (*strings.Builder).WriteString -/
noncomputable def strings_Builder_WriteString (call : Nat → List AV → M AV) (n : Nat) (a0 a1 : AV) : M AV :=
  bnd (call fn_strings_Builder_copyCheck [a0]) fun v7 =>
  lp (aNil a0) fun v10 =>
  lp (aOff 1 v10) fun v11 =>
  bnd (load none v11) fun v12 =>
  bnd (append T_uint8 1 1 v12 a1) fun v14 =>
  lp (aNil a0) fun v15 =>
  lp (aOff 1 v15) fun v16 =>
  bnd (store none v16 v14) fun u =>
  lp (aLenStr a1) fun v18 =>
  ret (.tup [v18, .nilface])
theorem strings_Builder_WriteString_eq {ext : Ext} (h : ext fn_strings_Builder_WriteString = none) (n : Nat) (a0 a1 : AV) : fcall Tryd.prog ext (n + 1) fn_strings_Builder_WriteString [a0, a1] = strings_Builder_WriteString (fcall Tryd.prog ext n) n a0 a1 := by
  unfold fcall; rw [h]; kernel_rfl

/-! splicer/splicerref04.carried -/
noncomputable def ref04_carried_l0 (call : Nat → List AV → M AV) (n : Nat) (rec : List AV → M AV) (x3 x4 : AV) : M AV :=
  lp (aBin .geq [] x4 (.int .i64 0)) fun v12 =>
  mc v12
    (lp (aIdxS 1 x3 x4) fun v17 =>
  bnd (load none v17) fun v18 =>
  lp (aBin .lss [] v18 (.int .i64 255)) fun v19 =>
  mc v19
    (lp (aIdxS 1 x3 x4) fun v24 =>
    bnd (load none v24) fun v25 =>
    lp (aBin .add [] v25 (.int .i64 1)) fun v26 =>
    lp (aIdxS 1 x3 x4) fun v27 =>
    bnd (store none v27 v26) fun u =>
    ret x3)
    (lp (aIdxS 1 x3 x4) fun v31 =>
  bnd (store none v31 (.int .i64 0)) fun u_1 =>
  lp (aBin .sub [] x4 (.int .i64 1)) fun v14 =>
  rec [x3, v14]))
    (ret x3)
noncomputable def ref04_carried (call : Nat → List AV → M AV) (n : Nat) (a0 : AV) : M AV :=
  bnd (append T_int 1 8 .nilslice a0) fun v7 =>
  lp (aLenS v7) fun v9 =>
  lp (aBin .sub [] v9 (.int .i64 1)) fun v10 =>
  loopN (fun r l => ref04_carried_l0 call n r (l.getD 0 .undef) (l.getD 1 .undef)) n [v7, v10]
theorem ref04_carried_eq {ext : Ext} (h : ext fn_ref04_carried = none) (n : Nat) (a0 : AV) : fcall Tryd.prog ext (n + 1) fn_ref04_carried [a0] = ref04_carried (fcall Tryd.prog ext n) n a0 := by
  unfold fcall; rw [h]; kernel_rfl

/-! splicer/splicerref04.narrow -/
noncomputable def ref04_narrow (call : Nat → List AV → M AV) (n : Nat) (a0 a1 a2 a3 : AV) : M AV :=
  lp (aBin .quo [] a0 a3) fun v12 =>
  lp (aBin .eql [6] a2 a3) fun v15 =>
  mc v15
    (lp (aBin .mul [] v12 a1) fun v19 =>
    lp (aBin .sub [] a0 v19) fun v20 =>
    ret v20)
    (lp (aBin .sub [] a2 a1) fun v24 =>
  lp (aBin .mul [] v12 v24) fun v25 =>
  ret v25)
theorem ref04_narrow_eq {ext : Ext} (h : ext fn_ref04_narrow = none) (n : Nat) (a0 a1 a2 a3 : AV) : fcall Tryd.prog ext (n + 1) fn_ref04_narrow [a0, a1, a2, a3] = ref04_narrow (fcall Tryd.prog ext n) n a0 a1 a2 a3 := by
  unfold fcall; rw [h]; kernel_rfl

/-! splicer/splicerref04.Right -/
noncomputable def ref04_Right_j0 (call : Nat → List AV → M AV) (n : Nat) (x6 : AV) : M AV :=
  ret x6
noncomputable def ref04_Right (call : Nat → List AV → M AV) (n : Nat) (a0 a1 a2 : AV) : M AV :=
  lp (aBin .geq [] a2 (.int .i64 1)) fun v8 =>
  mc v8
    (lp (aBin .leq [] a2 (.int .i64 65536)) fun v11 =>
    mc v11
      (lp (aBin .geq [] a0 (.int .i64 0)) fun v15 =>
      mc v15
        (lp (aBin .lss [] a0 a1) fun v20 =>
        mc v20
          (lp (aBin .leq [] a1 a2) fun v25 =>
          ref04_Right_j0 call n v25)
          (ref04_Right_j0 call n (.bool false)))
        (ref04_Right_j0 call n (.bool false)))
      (ref04_Right_j0 call n (.bool false)))
    (ref04_Right_j0 call n (.bool false))
theorem ref04_Right_eq {ext : Ext} (h : ext fn_ref04_Right = none) (n : Nat) (a0 a1 a2 : AV) : fcall Tryd.prog ext (n + 1) fn_ref04_Right [a0, a1, a2] = ref04_Right (fcall Tryd.prog ext n) n a0 a1 a2 := by
  unfold fcall; rw [h]; kernel_rfl

/-! (*splicer/rc.Coder).tell -/
noncomputable def rc_Coder_tell (call : Nat → List AV → M AV) (n : Nat) (a0 a1 : AV) : M AV :=
  lp (aBin .eql [6] a1 (.int .i64 255)) fun v5 =>
  mc v5
    (lp (aNil a0) fun v7 =>
    lp (aOff 6 v7) fun v8 =>
    bnd (load none v8) fun v9 =>
    lp (aBin .add [] v9 (.int .i64 1)) fun v10 =>
    lp (aNil a0) fun v11 =>
    lp (aOff 6 v11) fun v12 =>
    bnd (store none v12 v10) fun u =>
    ret (.tup []))
    (bnd (call fn_rc_Coder_settle [a0, (.int .i64 0)]) fun v14 =>
  lp (aBin .add [] a1 (.int .i64 1)) fun v17 =>
  lp (aNil a0) fun v18 =>
  lp (aOff 5 v18) fun v19 =>
  bnd (store none v19 v17) fun u_1 =>
  ret (.tup []))
theorem rc_Coder_tell_eq {ext : Ext} (h : ext fn_rc_Coder_tell = none) (n : Nat) (a0 a1 : AV) : fcall Tryd.prog ext (n + 1) fn_rc_Coder_tell [a0, a1] = rc_Coder_tell (fcall Tryd.prog ext n) n a0 a1 := by
  unfold fcall; rw [h]; kernel_rfl

/-! (*splicer/rc.narrowed).small -/
noncomputable def rc_narrowed_small (call : Nat → List AV → M AV) (n : Nat) (a0 : AV) : M AV :=
  lp (aNil a0) fun v4 =>
  lp (aOff 1 v4) fun v5 =>
  bnd (load none v5) fun v6 =>
  lp (aBin .geq [] v6 (.int .u64 16777216)) fun v7 =>
  mc v7
    (ret (.bool false))
    (lp (aNil a0) fun v9 =>
  lp (aOff 1 v9) fun v10 =>
  bnd (load none v10) fun v11 =>
  lp (aBin .shl [] v11 (.int .u64 8)) fun v12 =>
  lp (aNil a0) fun v13 =>
  lp (aOff 1 v13) fun v14 =>
  bnd (store none v14 v12) fun u =>
  ret (.bool true))
theorem rc_narrowed_small_eq {ext : Ext} (h : ext fn_rc_narrowed_small = none) (n : Nat) (a0 : AV) : fcall Tryd.prog ext (n + 1) fn_rc_narrowed_small [a0] = rc_narrowed_small (fcall Tryd.prog ext n) n a0 := by
  unfold fcall; rw [h]; kernel_rfl

/-! (*splicer/rc.Coder).carry -/
noncomputable def rc_Coder_carry (call : Nat → List AV → M AV) (n : Nat) (a0 : AV) : M AV :=
  bnd (call fn_rc_Coder_settle [a0, (.int .i64 1)]) fun v3 =>
  ret (.tup [])
theorem rc_Coder_carry_eq {ext : Ext} (h : ext fn_rc_Coder_carry = none) (n : Nat) (a0 : AV) : fcall Tryd.prog ext (n + 1) fn_rc_Coder_carry [a0] = rc_Coder_carry (fcall Tryd.prog ext n) n a0 := by
  unfold fcall; rw [h]; kernel_rfl

/-! (*splicer/rc.narrowed).narrow -/
noncomputable def rc_narrowed_narrow_j0 (call : Nat → List AV → M AV) (n : Nat) (x10 : AV) : M AV :=
  ret x10
noncomputable def rc_narrowed_narrow (call : Nat → List AV → M AV) (n : Nat) (a0 a1 a2 a3 : AV) : M AV :=
  bnd (call fn_rc_narrowed_now [a0]) fun v12 =>
  lp (aInt .u64 a3) fun v14 =>
  lp (aBin .quo [] v12 v14) fun v15 =>
  lp (aInt .u64 a1) fun v18 =>
  lp (aBin .mul [] v15 v18) fun v19 =>
  lp (aBin .eql [6] a2 a3) fun v22 =>
  mc v22
    (lp (aNil a0) fun v24 =>
    lp (aOff 1 v24) fun v25 =>
    bnd (load none v25) fun v26 =>
    lp (aBin .sub [] v26 v19) fun v28 =>
    lp (aNil a0) fun v29 =>
    lp (aOff 1 v29) fun v30 =>
    bnd (store none v30 v28) fun u =>
    rc_narrowed_narrow_j0 call n v19)
    (lp (aBin .sub [] a2 a1) fun v35 =>
    lp (aInt .u64 v35) fun v36 =>
    lp (aBin .mul [] v15 v36) fun v37 =>
    lp (aNil a0) fun v38 =>
    lp (aOff 1 v38) fun v39 =>
    bnd (store none v39 v37) fun u_1 =>
    rc_narrowed_narrow_j0 call n v19)
theorem rc_narrowed_narrow_eq {ext : Ext} (h : ext fn_rc_narrowed_narrow = none) (n : Nat) (a0 a1 a2 a3 : AV) : fcall Tryd.prog ext (n + 1) fn_rc_narrowed_narrow [a0, a1, a2, a3] = rc_narrowed_narrow (fcall Tryd.prog ext n) n a0 a1 a2 a3 := by
  unfold fcall; rw [h]; kernel_rfl

/-! splicer/rc.right -/
noncomputable def rc_right_j0 (call : Nat → List AV → M AV) (n : Nat) (x6 : AV) : M AV :=
  ret x6
noncomputable def rc_right (call : Nat → List AV → M AV) (n : Nat) (a0 a1 a2 : AV) : M AV :=
  lp (aBin .leq [] (.int .i64 0) a0) fun v8 =>
  mc v8
    (lp (aBin .lss [] a0 a1) fun v12 =>
    mc v12
      (lp (aBin .leq [] a1 a2) fun v17 =>
      mc v17
        (lp (aBin .leq [] a2 (.int .i64 65536)) fun v21 =>
        rc_right_j0 call n v21)
        (rc_right_j0 call n (.bool false)))
      (rc_right_j0 call n (.bool false)))
    (rc_right_j0 call n (.bool false))
theorem rc_right_eq {ext : Ext} (h : ext fn_rc_right = none) (n : Nat) (a0 a1 a2 : AV) : fcall Tryd.prog ext (n + 1) fn_rc_right [a0, a1, a2] = rc_right (fcall Tryd.prog ext n) n a0 a1 a2 := by
  unfold fcall; rw [h]; kernel_rfl

/-! (*splicer/splicerref04.Decoder).Take -/
noncomputable def ref04_Decoder_Take_l0 (call : Nat → List AV → M AV) (n : Nat) (rec : List AV → M AV) (x0_2 : AV) : M AV :=
  lp (aNil x0_2) fun v66 =>
  lp (aOff 3 v66) fun v67 =>
  bnd (load none v67) fun v68 =>
  lp (aBin .lss [] v68 (.int .i64 16777216)) fun v69 =>
  mc v69
    (lp (aNil x0_2) fun v72 =>
  lp (aOff 2 v72) fun v73 =>
  bnd (load none v73) fun v74 =>
  lp (aBin .mul [] v74 (.int .i64 256)) fun v75 =>
  snap fun _ =>
  bnd (call fn_ref04_Decoder_next [x0_2]) fun v77 =>
  snap fun m_3 =>
  same none v73 v74 m_3 <|
  lp (aBin .add [] v75 v77) fun v78 =>
  lp (aNil x0_2) fun v79 =>
  lp (aOff 2 v79) fun v80 =>
  snap fun _ =>
  bnd (store none v80 v78) fun u_4 =>
  snap fun _ =>
  lp (aNil x0_2) fun v83 =>
  lp (aOff 3 v83) fun v84 =>
  bnd (load none v84) fun v85 =>
  lp (aBin .mul [] v85 (.int .i64 256)) fun v86 =>
  lp (aNil x0_2) fun v87 =>
  lp (aOff 3 v87) fun v88 =>
  bnd (store none v88 v86) fun u_5 =>
  rec [x0_2])
    (ret (.tup []))
noncomputable def ref04_Decoder_Take_j1 (call : Nat → List AV → M AV) (n : Nat) (x0_1 : AV) : M AV :=
  loopN (fun r l => ref04_Decoder_Take_l0 call n r (l.getD 0 .undef)) n [x0_1]
noncomputable def ref04_Decoder_Take_j0 (call : Nat → List AV → M AV) (n : Nat) (x0 : AV) : M AV :=
  lp (aNil x0) fun v58 =>
  lp (aOff 2 v58) fun v59 =>
  bnd (load none v59) fun v60 =>
  lp (aBin .lss [] v60 (.int .i64 0)) fun v61 =>
  mc v61
    (lp (aNil x0) fun v63 =>
    lp (aOff 2 v63) fun v64 =>
    bnd (store none v64 (.int .i64 0)) fun u_3 =>
    ref04_Decoder_Take_j1 call n x0)
    (ref04_Decoder_Take_j1 call n x0)
noncomputable def ref04_Decoder_Take (call : Nat → List AV → M AV) (n : Nat) (a0 a1 a2 a3 : AV) : M AV :=
  bnd (call fn_ref04_Right [a1, a2, a3]) fun v11 =>
  lp (aUn .not v11) fun v12 =>
  mc v12
    (ret (.tup []))
    (lp (aNil a0) fun v15 =>
  lp (aOff 2 v15) fun v16 =>
  bnd (load none v16) fun v17 =>
  lp (aNil a0) fun v19 =>
  lp (aOff 3 v19) fun v20 =>
  bnd (load none v20) fun v21 =>
  lp (aBin .quo [] v21 a3) fun v23 =>
  lp (aBin .mul [] v23 a1) fun v25 =>
  lp (aBin .sub [] v17 v25) fun v26 =>
  lp (aNil a0) fun v27 =>
  lp (aOff 2 v27) fun v28 =>
  snap fun _ =>
  bnd (store none v28 v26) fun u =>
  snap fun _ =>
  lp (aNil a0) fun v31 =>
  lp (aOff 3 v31) fun v32 =>
  bnd (load none v32) fun v33 =>
  bnd (call fn_ref04_narrow [v33, a1, a2, a3]) fun v37 =>
  lp (aNil a0) fun v38 =>
  lp (aOff 3 v38) fun v39 =>
  bnd (store none v39 v37) fun u_1 =>
  lp (aNil a0) fun v41 =>
  lp (aOff 2 v41) fun v42 =>
  bnd (load none v42) fun v43 =>
  lp (aNil a0) fun v45 =>
  lp (aOff 3 v45) fun v46 =>
  bnd (load none v46) fun v47 =>
  lp (aBin .geq [] v43 v47) fun v48 =>
  mc v48
    (lp (aNil a0) fun v51 =>
    lp (aOff 3 v51) fun v52 =>
    bnd (load none v52) fun v53 =>
    lp (aBin .sub [] v53 (.int .i64 1)) fun v54 =>
    lp (aNil a0) fun v55 =>
    lp (aOff 2 v55) fun v56 =>
    bnd (store none v56 v54) fun u_2 =>
    ref04_Decoder_Take_j0 call n a0)
    (ref04_Decoder_Take_j0 call n a0))
theorem ref04_Decoder_Take_eq {ext : Ext} (h : ext fn_ref04_Decoder_Take = none) (n : Nat) (a0 a1 a2 a3 : AV) : fcall Tryd.prog ext (n + 1) fn_ref04_Decoder_Take [a0, a1, a2, a3] = ref04_Decoder_Take (fcall Tryd.prog ext n) n a0 a1 a2 a3 := by
  unfold fcall; rw [h]; kernel_rfl

/-! (*splicer/rc.Decoder).Take -/
noncomputable def rc_Decoder_Take_l0 (call : Nat → List AV → M AV) (n : Nat) (rec : List AV → M AV) (x0_1 : AV) : M AV :=
  lp (aNil x0_1) fun v54 =>
  lp (aOff 0 v54) fun v55 =>
  bnd (call fn_rc_narrowed_small [v55]) fun v56 =>
  mc v56
    (lp (aNil x0_1) fun v59 =>
  lp (aOff 3 v59) fun v60 =>
  bnd (load none v60) fun v61 =>
  lp (aBin .shl [] v61 (.int .u64 8)) fun v62 =>
  snap fun _ =>
  bnd (call fn_rc_Decoder_next [x0_1]) fun v64 =>
  snap fun m_3 =>
  same none v60 v61 m_3 <|
  lp (aBin .or [] v62 v64) fun v65 =>
  lp (aNil x0_1) fun v66 =>
  lp (aOff 3 v66) fun v67 =>
  snap fun _ =>
  bnd (store none v67 v65) fun u_1 =>
  snap fun _ =>
  rec [x0_1])
    (ret (.tup []))
noncomputable def rc_Decoder_Take_j0 (call : Nat → List AV → M AV) (n : Nat) (x0 x1 x2 x3 x24 : AV) : M AV :=
  mc x24
    (ret (.tup []))
    (lp (aNil x0) fun v26 =>
lp (aOff 0 v26) fun v27 =>
bnd (call fn_rc_narrowed_narrow [v27, x1, x2, x3]) fun v31 =>
lp (aNil x0) fun v34 =>
lp (aOff 3 v34) fun v35 =>
bnd (load none v35) fun v36 =>
lp (aNil x0) fun v38 =>
lp (aOff 3 v38) fun v39 =>
bnd (load none v39) fun v40 =>
lp (aFold aMin2 v40 [v31]) fun v42 =>
lp (aBin .sub [] v36 v42) fun v43 =>
lp (aNil x0) fun v45 =>
lp (aOff 0 v45) fun v46 =>
lp (aOff 1 v46) fun v47 =>
bnd (load none v47) fun v48 =>
lp (aBin .sub [] v48 (.int .u64 1)) fun v49 =>
lp (aFold aMin2 v43 [v49]) fun v50 =>
lp (aNil x0) fun v51 =>
lp (aOff 3 v51) fun v52 =>
snap fun _ =>
bnd (store none v52 v50) fun u =>
snap fun _ =>
loopN (fun r l => rc_Decoder_Take_l0 call n r (l.getD 0 .undef)) n [x0])
noncomputable def rc_Decoder_Take (call : Nat → List AV → M AV) (n : Nat) (a0 a1 a2 a3 : AV) : M AV :=
  lp (aBin .eql [3] a0 .nilptr) fun v10 =>
  mc v10
    (rc_Decoder_Take_j0 call n a0 a1 a2 a3 (.bool true))
    (lp (aNil a0) fun v13 =>
    lp (aOff 4 v13) fun v14 =>
    bnd (load none v14) fun v15 =>
    lp (aUn .not v15) fun v16 =>
    mc v16
      (rc_Decoder_Take_j0 call n a0 a1 a2 a3 (.bool true))
      (bnd (call fn_rc_right [a1, a2, a3]) fun v22 =>
      lp (aUn .not v22) fun v23 =>
      rc_Decoder_Take_j0 call n a0 a1 a2 a3 v23))
theorem rc_Decoder_Take_eq {ext : Ext} (h : ext fn_rc_Decoder_Take = none) (n : Nat) (a0 a1 a2 a3 : AV) : fcall Tryd.prog ext (n + 1) fn_rc_Decoder_Take [a0, a1, a2, a3] = rc_Decoder_Take (fcall Tryd.prog ext n) n a0 a1 a2 a3 := by
  unfold fcall; rw [h]; kernel_rfl

/-! (*splicer/splicerref04.Decoder).Place -/
noncomputable def ref04_Decoder_Place_j0 (call : Nat → List AV → M AV) (n : Nat) (x0 x1 x10 : AV) : M AV :=
  mc x10
    (ret (.int .i64 0))
    (lp (aBin .sub [] x1 (.int .i64 1)) fun v12 =>
lp (aNil x0) fun v14 =>
lp (aOff 2 v14) fun v15 =>
bnd (load none v15) fun v16 =>
lp (aNil x0) fun v18 =>
lp (aOff 3 v18) fun v19 =>
bnd (load none v19) fun v20 =>
lp (aBin .quo [] v20 x1) fun v22 =>
lp (aBin .quo [] v16 v22) fun v23 =>
lp (aFold aMin2 v12 [v23]) fun v24 =>
ret v24)
noncomputable def ref04_Decoder_Place (call : Nat → List AV → M AV) (n : Nat) (a0 a1 : AV) : M AV :=
  lp (aBin .lss [] a1 (.int .i64 1)) fun v6 =>
  mc v6
    (ref04_Decoder_Place_j0 call n a0 a1 (.bool true))
    (lp (aBin .gtr [] a1 (.int .i64 65536)) fun v9 =>
    ref04_Decoder_Place_j0 call n a0 a1 v9)
theorem ref04_Decoder_Place_eq {ext : Ext} (h : ext fn_ref04_Decoder_Place = none) (n : Nat) (a0 a1 : AV) : fcall Tryd.prog ext (n + 1) fn_ref04_Decoder_Place [a0, a1] = ref04_Decoder_Place (fcall Tryd.prog ext n) n a0 a1 := by
  unfold fcall; rw [h]; kernel_rfl

/-! (*splicer/rc.Decoder).Place -/
noncomputable def rc_Decoder_Place_j0 (call : Nat → List AV → M AV) (n : Nat) (x0 x1 x19 : AV) : M AV :=
  mc x19
    (ret (.int .i64 0))
    (lp (aBin .sub [] x1 (.int .i64 1)) fun v21 =>
lp (aNil x0) fun v23 =>
lp (aOff 3 v23) fun v24 =>
bnd (load none v24) fun v25 =>
lp (aNil x0) fun v27 =>
lp (aOff 0 v27) fun v28 =>
snap fun _ =>
bnd (call fn_rc_narrowed_now [v28]) fun v29 =>
snap fun m_1 =>
same none v24 v25 m_1 <|
lp (aInt .u64 x1) fun v31 =>
lp (aBin .quo [] v29 v31) fun v32 =>
lp (aBin .quo [] v25 v32) fun v33 =>
lp (aInt .i64 v33) fun v34 =>
lp (aFold aMin2 v21 [v34]) fun v35 =>
ret v35)
noncomputable def rc_Decoder_Place (call : Nat → List AV → M AV) (n : Nat) (a0 a1 : AV) : M AV :=
  lp (aBin .eql [3] a0 .nilptr) fun v6 =>
  mc v6
    (rc_Decoder_Place_j0 call n a0 a1 (.bool true))
    (lp (aNil a0) fun v9 =>
    lp (aOff 4 v9) fun v10 =>
    bnd (load none v10) fun v11 =>
    lp (aUn .not v11) fun v12 =>
    mc v12
      (rc_Decoder_Place_j0 call n a0 a1 (.bool true))
      (bnd (call fn_rc_right [(.int .i64 0), a1, a1]) fun v17 =>
      lp (aUn .not v17) fun v18 =>
      rc_Decoder_Place_j0 call n a0 a1 v18))
theorem rc_Decoder_Place_eq {ext : Ext} (h : ext fn_rc_Decoder_Place = none) (n : Nat) (a0 a1 : AV) : fcall Tryd.prog ext (n + 1) fn_rc_Decoder_Place [a0, a1] = rc_Decoder_Place (fcall Tryd.prog ext n) n a0 a1 := by
  unfold fcall; rw [h]; kernel_rfl

/-! splicer/splicerref04.New -/
noncomputable def ref04_New_l0 (call : Nat → List AV → M AV) (n : Nat) (rec : List AV → M AV) (x3 x4 : AV) : M AV :=
  lp (aBin .lss [] x4 (.int .i64 4)) fun v9 =>
  mc v9
    (lp (aNil x3) fun v14 =>
  lp (aOff 2 v14) fun v15 =>
  bnd (load none v15) fun v16 =>
  lp (aBin .mul [] v16 (.int .i64 256)) fun v17 =>
  snap fun _ =>
  bnd (call fn_ref04_Decoder_next [x3]) fun v19 =>
  snap fun m_1 =>
  same none v15 v16 m_1 <|
  lp (aBin .add [] v17 v19) fun v20 =>
  lp (aNil x3) fun v21 =>
  lp (aOff 2 v21) fun v22 =>
  snap fun _ =>
  bnd (store none v22 v20) fun u =>
  snap fun _ =>
  lp (aBin .add [] x4 (.int .i64 1)) fun v11 =>
  rec [x3, v11])
    (ret x3)
noncomputable def ref04_New (call : Nat → List AV → M AV) (n : Nat) (a0 : AV) : M AV :=
  lp ((aFill (fun i => [(0, 1), (1, 1), (2, 1), (3, 1)][i]?) [.str .empty, .int .i64 0, .int .i64 0, .int .i64 0] [(0, a0), (3, (.int .i64 4294967295))]).map .agg) fun v6 =>
  bnd (box T_ref04_Decoder v6) fun v7 =>
  loopN (fun r l => ref04_New_l0 call n r (l.getD 0 .undef) (l.getD 1 .undef)) n [v7, (.int .i64 0)]
theorem ref04_New_eq {ext : Ext} (h : ext fn_ref04_New = none) (n : Nat) (a0 : AV) : fcall Tryd.prog ext (n + 1) fn_ref04_New [a0] = ref04_New (fcall Tryd.prog ext n) n a0 := by
  unfold fcall; rw [h]; kernel_rfl

/-! splicer/rc.New -/
noncomputable def rc_New_l0 (call : Nat → List AV → M AV) (n : Nat) (rec : List AV → M AV) (x3 x7 : AV) : M AV :=
  lp (aBin .lss [] x7 (.int .i64 4)) fun v8 =>
  mc v8
    (lp (aNil x3) fun v11 =>
  lp (aOff 3 v11) fun v12 =>
  bnd (load none v12) fun v13 =>
  lp (aBin .shl [] v13 (.int .u64 8)) fun v14 =>
  snap fun _ =>
  bnd (call fn_rc_Decoder_next [x3]) fun v16 =>
  snap fun m_1 =>
  same none v12 v13 m_1 <|
  lp (aBin .or [] v14 v16) fun v17 =>
  lp (aNil x3) fun v18 =>
  lp (aOff 3 v18) fun v19 =>
  snap fun _ =>
  bnd (store none v19 v17) fun u =>
  snap fun _ =>
  lp (aBin .add [] x7 (.int .i64 1)) fun v20 =>
  rec [x3, v20])
    (ret x3)
noncomputable def rc_New (call : Nat → List AV → M AV) (n : Nat) (a0 : AV) : M AV :=
  lp ((aFill (fun i => [(0, 2), (2, 1), (3, 1), (4, 1)][i]?) [.bool false, .int .u64 0, .str .empty, .int .u64 0, .bool false] [(1, a0), (3, (.bool true))]).map .agg) fun v5 =>
  bnd (box T_rc_Decoder v5) fun v6 =>
  loopN (fun r l => rc_New_l0 call n r (l.getD 0 .undef) (l.getD 1 .undef)) n [v6, (.int .i64 0)]
theorem rc_New_eq {ext : Ext} (h : ext fn_rc_New = none) (n : Nat) (a0 : AV) : fcall Tryd.prog ext (n + 1) fn_rc_New [a0] = rc_New (fcall Tryd.prog ext n) n a0 := by
  unfold fcall; rw [h]; kernel_rfl

/-! (*splicer/splicerref04.Coder).End -/
noncomputable def ref04_Coder_End_j0 (call : Nat → List AV → M AV) (n : Nat) (rec_2 : List AV → M AV) (x3_3 x47_3 x48_3 x49_3 x50_3 x51_3 x52_3 x53 : AV) : M AV :=
  mc x53
    (lp (aLenStr x3_3) fun v56 =>
lp (aBin .sub [] v56 (.int .i64 1)) fun v57 =>
lp (aSliceStr x3_3 none (some v57)) fun v58 =>
rec_2 [v58, x47_3, x48_3, x49_3, x50_3, x51_3, x52_3])
    (ret x3_3)
noncomputable def ref04_Coder_End_l2 (call : Nat → List AV → M AV) (n : Nat) (rec_2 : List AV → M AV) (x3_2 x47_2 x48_2 x49_2 x50_2 x51_2 x52_2 : AV) : M AV :=
  lp (aLenStr x3_2) fun v44 =>
  lp (aBin .gtr [] v44 (.int .i64 0)) fun v45 =>
  mc v45
    (lp (aLenStr x3_2) fun v49 =>
    lp (aBin .sub [] v49 (.int .i64 1)) fun v50 =>
    lp (aIdxStr x3_2 v50) fun v51 =>
    lp (aBin .eql [6] v51 (.int .u8 0)) fun v52 =>
    ref04_Coder_End_j0 call n rec_2 x3_2 x3_2 x3_2 v49 v50 v51 v52 v52)
    (ref04_Coder_End_j0 call n rec_2 x3_2 (.tup []) (.tup []) (.tup []) (.tup []) (.tup []) (.tup []) (.bool false))
noncomputable def ref04_Coder_End_l1 (call : Nat → List AV → M AV) (n : Nat) (rec_1 : List AV → M AV) (x0_1 x3_1 x5 x47_1 x48_1 x49_1 x50_1 x51_1 x52_1 : AV) : M AV :=
  lp (aBin .geq [] x5 (.int .i64 0)) fun v28 =>
  mc v28
    (lp (aNil x0_1) fun v33 =>
  lp (aOff 1 v33) fun v34 =>
  bnd (load none v34) fun v35 =>
  lp (aBin .shr [] v35 x5) fun v37 =>
  lp (aBin .and [] v37 (.int .i64 255)) fun v38 =>
  lp (aInt .u8 v38) fun v39 =>
  lp (aFill (fun i => some (i * 1, 1)) [.int .u8 0] [(0, v39)]) fun cs_1 =>
  bnd (allocS T_uint8 1 1 cs_1) fun v40 =>
  bnd (ofBytes v40) fun v41 =>
  lp (aBin .add [] x3_1 v41) fun v42 =>
  lp (aBin .sub [] x5 (.int .i64 8)) fun v30 =>
  rec_1 [x0_1, v42, v30, x47_1, x48_1, x49_1, x50_1, x51_1, x52_1])
    (loopN (fun r l => ref04_Coder_End_l2 call n r (l.getD 0 .undef) (l.getD 1 .undef) (l.getD 2 .undef) (l.getD 3 .undef) (l.getD 4 .undef) (l.getD 5 .undef) (l.getD 6 .undef)) n [x3_1, x47_1, x48_1, x49_1, x50_1, x51_1, x52_1])
noncomputable def ref04_Coder_End_l0 (call : Nat → List AV → M AV) (n : Nat) (rec : List AV → M AV) (x0 x3 x4 x47 x48 x49 x50 x51 x52 : AV) : M AV :=
  lp (aNil x0) fun v8 =>
  lp (aOff 0 v8) fun v9 =>
  bnd (load none v9) fun v10 =>
  lp (aLenS v10) fun v11 =>
  lp (aBin .lss [] x4 v11) fun v12 =>
  mc v12
    (lp (aNil x0) fun v17 =>
  lp (aOff 0 v17) fun v18 =>
  bnd (load none v18) fun v19 =>
  lp (aIdxS 1 v19 x4) fun v21 =>
  bnd (load none v21) fun v22 =>
  lp (aInt .u8 v22) fun v23 =>
  lp (aFill (fun i => some (i * 1, 1)) [.int .u8 0] [(0, v23)]) fun cs =>
  bnd (allocS T_uint8 1 1 cs) fun v24 =>
  bnd (ofBytes v24) fun v25 =>
  lp (aBin .add [] x3 v25) fun v26 =>
  lp (aBin .add [] x4 (.int .i64 1)) fun v14 =>
  rec [x0, v26, v14, x47, x48, x49, x50, x51, x52])
    (loopN (fun r l => ref04_Coder_End_l1 call n r (l.getD 0 .undef) (l.getD 1 .undef) (l.getD 2 .undef) (l.getD 3 .undef) (l.getD 4 .undef) (l.getD 5 .undef) (l.getD 6 .undef) (l.getD 7 .undef) (l.getD 8 .undef)) n [x0, x3, (.int .i64 24), x47, x48, x49, x50, x51, x52])
noncomputable def ref04_Coder_End (call : Nat → List AV → M AV) (n : Nat) (a0 : AV) : M AV :=
  loopN (fun r l => ref04_Coder_End_l0 call n r (l.getD 0 .undef) (l.getD 1 .undef) (l.getD 2 .undef) (l.getD 3 .undef) (l.getD 4 .undef) (l.getD 5 .undef) (l.getD 6 .undef) (l.getD 7 .undef) (l.getD 8 .undef)) n [a0, (.str .empty), (.int .i64 0), .undef, .undef, .undef, .undef, .undef, .undef]
theorem ref04_Coder_End_eq {ext : Ext} (h : ext fn_ref04_Coder_End = none) (n : Nat) (a0 : AV) : fcall Tryd.prog ext (n + 1) fn_ref04_Coder_End [a0] = ref04_Coder_End (fcall Tryd.prog ext n) n a0 := by
  unfold fcall; rw [h]; kernel_rfl

/-! (*splicer/rc.Coder).End -/
noncomputable def rc_Coder_End_l1 (call : Nat → List AV → M AV) (n : Nat) (rec_1 : List AV → M AV) (x0_2 x3_2 x4 : AV) : M AV :=
  lp (aBin .geq [] x4 (.int .i64 0)) fun v33 =>
  mc v33
    (lp (aNil x0_2) fun v37 =>
  lp (aOff 4 v37) fun v38 =>
  bnd (load none v38) fun v39 =>
  lp (aBin .shr [] v39 x4) fun v41 =>
  lp (aInt .u8 v41) fun v42 =>
  bnd (call fn_strings_Builder_WriteByte [x3_2, v42]) fun v43 =>
  lp (aBin .sub [] x4 (.int .i64 8)) fun v35 =>
  rec_1 [x0_2, x3_2, v35])
    (bnd (call fn_strings_Builder_String [x3_2]) fun v44 =>
bnd (call fn_strings_TrimRight [v44, (.str ⟨#[0]⟩)]) fun v45 =>
ret v45)
noncomputable def rc_Coder_End_l0 (call : Nat → List AV → M AV) (n : Nat) (rec : List AV → M AV) (x0_1 x3_1 x27 x28 : AV) : M AV :=
  lp (aBin .lss [] x28 x27) fun v29 =>
  mc v29
    (bnd (call fn_strings_Builder_WriteByte [x3_1, (.int .u8 255)]) fun v30 =>
  lp (aBin .add [] x28 (.int .i64 1)) fun v31 =>
  rec [x0_1, x3_1, x27, v31])
    (loopN (fun r l => rc_Coder_End_l1 call n r (l.getD 0 .undef) (l.getD 1 .undef) (l.getD 2 .undef)) n [x0_1, x3_1, (.int .i64 24)])
noncomputable def rc_Coder_End_j0 (call : Nat → List AV → M AV) (n : Nat) (x0 x3 : AV) : M AV :=
  lp (aNil x0) fun v25 =>
  lp (aOff 6 v25) fun v26 =>
  bnd (load none v26) fun v27 =>
  loopN (fun r l => rc_Coder_End_l0 call n r (l.getD 0 .undef) (l.getD 1 .undef) (l.getD 2 .undef) (l.getD 3 .undef)) n [x0, x3, v27, (.int .i64 0)]
noncomputable def rc_Coder_End (call : Nat → List AV → M AV) (n : Nat) (a0 : AV) : M AV :=
  lp (aBin .eql [3] a0 .nilptr) fun v6 =>
  mc v6
    (ret (.str .empty))
    (bnd (alloc T_strings_Builder [.nilptr, .nilslice]) fun v3 =>
  lp (aNil a0) fun v8 =>
  lp (aOff 2 v8) fun v9 =>
  bnd (call fn_strings_Builder_String [v9]) fun v10 =>
  bnd (call fn_strings_Builder_WriteString [v3, v10]) fun v11 =>
  lp (aNil a0) fun v13 =>
  lp (aOff 5 v13) fun v14 =>
  bnd (load none v14) fun v15 =>
  lp (aBin .gtr [] v15 (.int .i64 0)) fun v16 =>
  mc v16
    (lp (aNil a0) fun v18 =>
    lp (aOff 5 v18) fun v19 =>
    bnd (load none v19) fun v20 =>
    lp (aBin .sub [] v20 (.int .i64 1)) fun v21 =>
    lp (aInt .u8 v21) fun v22 =>
    bnd (call fn_strings_Builder_WriteByte [v3, v22]) fun v23 =>
    rc_Coder_End_j0 call n a0 v3)
    (rc_Coder_End_j0 call n a0 v3))
theorem rc_Coder_End_eq {ext : Ext} (h : ext fn_rc_Coder_End = none) (n : Nat) (a0 : AV) : fcall Tryd.prog ext (n + 1) fn_rc_Coder_End [a0] = rc_Coder_End (fcall Tryd.prog ext n) n a0 := by
  unfold fcall; rw [h]; kernel_rfl

/-! (*splicer/splicerref04.Coder).Code -/
noncomputable def ref04_Coder_Code_l0 (call : Nat → List AV → M AV) (n : Nat) (rec : List AV → M AV) (x0_1 x8_1 : AV) : M AV :=
  lp (aBin .lss [] x8_1 (.int .i64 16777216)) fun v59 =>
  mc v59
    (lp (aNil x0_1) fun v62 =>
  lp (aOff 0 v62) fun v63 =>
  bnd (load none v63) fun v64 =>
  lp (aNil x0_1) fun v66 =>
  lp (aOff 1 v66) fun v67 =>
  bnd (load none v67) fun v68 =>
  lp (aBin .quo [] v68 (.int .i64 16777216)) fun v69 =>
  snap fun _ =>
  lp (aFill (fun i => some (i * 1, 1)) [.int .i64 0] [(0, v69)]) fun cs =>
  bnd (allocS T_int 1 1 cs) fun v70 =>
  snap fun m_3 =>
  same none v63 v64 m_3 <|
  snap fun _ =>
  bnd (append T_int 1 8 v64 v70) fun v71 =>
  snap fun _ =>
  lp (aNil x0_1) fun v72 =>
  lp (aOff 0 v72) fun v73 =>
  snap fun _ =>
  bnd (store none v73 v71) fun u_3 =>
  snap fun _ =>
  lp (aNil x0_1) fun v76 =>
  lp (aOff 1 v76) fun v77 =>
  bnd (load none v77) fun v78 =>
  lp (aBin .rem [] v78 (.int .i64 16777216)) fun v79 =>
  lp (aBin .mul [] v79 (.int .i64 256)) fun v80 =>
  lp (aNil x0_1) fun v81 =>
  lp (aOff 1 v81) fun v82 =>
  bnd (store none v82 v80) fun u_4 =>
  lp (aBin .mul [] x8_1 (.int .i64 256)) fun v84 =>
  rec [x0_1, v84])
    (lp (aBin .sub [] (.int .i64 4294967295) x8_1) fun v87 =>
lp (aNil x0_1) fun v88 =>
lp (aOff 2 v88) fun v89 =>
bnd (store none v89 v87) fun u_5 =>
ret (.tup []))
noncomputable def ref04_Coder_Code_j0 (call : Nat → List AV → M AV) (n : Nat) (x0 x8 : AV) : M AV :=
  loopN (fun r l => ref04_Coder_Code_l0 call n r (l.getD 0 .undef) (l.getD 1 .undef)) n [x0, x8]
noncomputable def ref04_Coder_Code (call : Nat → List AV → M AV) (n : Nat) (a0 a1 a2 a3 : AV) : M AV :=
  bnd (call fn_ref04_Right [a1, a2, a3]) fun v12 =>
  lp (aUn .not v12) fun v13 =>
  mc v13
    (ret (.tup []))
    (lp (aNil a0) fun v15 =>
  lp (aOff 2 v15) fun v16 =>
  bnd (load none v16) fun v17 =>
  lp (aBin .sub [] (.int .i64 4294967295) v17) fun v18 =>
  lp (aNil a0) fun v21 =>
  lp (aOff 1 v21) fun v22 =>
  bnd (load none v22) fun v23 =>
  lp (aBin .quo [] v18 a3) fun v26 =>
  lp (aBin .mul [] v26 a1) fun v28 =>
  lp (aBin .add [] v23 v28) fun v29 =>
  lp (aNil a0) fun v30 =>
  lp (aOff 1 v30) fun v31 =>
  snap fun _ =>
  bnd (store none v31 v29) fun u =>
  snap fun _ =>
  bnd (call fn_ref04_narrow [v18, a1, a2, a3]) fun v36 =>
  lp (aNil a0) fun v38 =>
  lp (aOff 1 v38) fun v39 =>
  bnd (load none v39) fun v40 =>
  lp (aBin .geq [] v40 (.int .i64 4294967296)) fun v41 =>
  mc v41
    (lp (aNil a0) fun v44 =>
    lp (aOff 1 v44) fun v45 =>
    bnd (load none v45) fun v46 =>
    lp (aBin .sub [] v46 (.int .i64 4294967296)) fun v47 =>
    lp (aNil a0) fun v48 =>
    lp (aOff 1 v48) fun v49 =>
    bnd (store none v49 v47) fun u_1 =>
    lp (aNil a0) fun v52 =>
    lp (aOff 0 v52) fun v53 =>
    bnd (load none v53) fun v54 =>
    bnd (call fn_ref04_carried [v54]) fun v55 =>
    lp (aNil a0) fun v56 =>
    lp (aOff 0 v56) fun v57 =>
    bnd (store none v57 v55) fun u_2 =>
    ref04_Coder_Code_j0 call n a0 v36)
    (ref04_Coder_Code_j0 call n a0 v36))
theorem ref04_Coder_Code_eq {ext : Ext} (h : ext fn_ref04_Coder_Code = none) (n : Nat) (a0 a1 a2 a3 : AV) : fcall Tryd.prog ext (n + 1) fn_ref04_Coder_Code [a0, a1, a2, a3] = ref04_Coder_Code (fcall Tryd.prog ext n) n a0 a1 a2 a3 := by
  unfold fcall; rw [h]; kernel_rfl

/-! (*splicer/rc.Coder).Code -/
noncomputable def rc_Coder_Code_l0 (call : Nat → List AV → M AV) (n : Nat) (rec : List AV → M AV) (x0_2 : AV) : M AV :=
  lp (aNil x0_2) fun v46 =>
  lp (aOff 0 v46) fun v47 =>
  bnd (call fn_rc_narrowed_small [v47]) fun v48 =>
  mc v48
    (lp (aNil x0_2) fun v51 =>
  lp (aOff 4 v51) fun v52 =>
  bnd (load none v52) fun v53 =>
  lp (aBin .shr [] v53 (.int .u64 24)) fun v54 =>
  lp (aInt .i64 v54) fun v55 =>
  bnd (call fn_rc_Coder_tell [x0_2, v55]) fun v56 =>
  lp (aNil x0_2) fun v59 =>
  lp (aOff 4 v59) fun v60 =>
  bnd (load none v60) fun v61 =>
  lp (aBin .shl [] v61 (.int .u64 8)) fun v62 =>
  lp (aBin .and [] v62 (.int .u64 4294967295)) fun v63 =>
  lp (aNil x0_2) fun v64 =>
  lp (aOff 4 v64) fun v65 =>
  bnd (store none v65 v63) fun u_2 =>
  rec [x0_2])
    (ret (.tup []))
noncomputable def rc_Coder_Code_j1 (call : Nat → List AV → M AV) (n : Nat) (x0_1 : AV) : M AV :=
  loopN (fun r l => rc_Coder_Code_l0 call n r (l.getD 0 .undef)) n [x0_1]
noncomputable def rc_Coder_Code_j0 (call : Nat → List AV → M AV) (n : Nat) (x0 x1 x2 x3 x16 : AV) : M AV :=
  mc x16
    (ret (.tup []))
    (lp (aNil x0) fun v18 =>
lp (aOff 4 v18) fun v19 =>
bnd (load none v19) fun v20 =>
lp (aNil x0) fun v22 =>
lp (aOff 0 v22) fun v23 =>
snap fun _ =>
bnd (call fn_rc_narrowed_narrow [v23, x1, x2, x3]) fun v27 =>
snap fun m_1 =>
same none v19 v20 m_1 <|
lp (aBin .add [] v20 v27) fun v28 =>
lp (aNil x0) fun v29 =>
lp (aOff 4 v29) fun v30 =>
snap fun _ =>
bnd (store none v30 v28) fun u =>
snap fun _ =>
lp (aNil x0) fun v32 =>
lp (aOff 4 v32) fun v33 =>
bnd (load none v33) fun v34 =>
lp (aBin .gtr [] v34 (.int .u64 4294967295)) fun v35 =>
mc v35
  (lp (aNil x0) fun v37 =>
  lp (aOff 4 v37) fun v38 =>
  bnd (load none v38) fun v39 =>
  lp (aBin .sub [] v39 (.int .u64 4294967296)) fun v40 =>
  lp (aNil x0) fun v41 =>
  lp (aOff 4 v41) fun v42 =>
  bnd (store none v42 v40) fun u_1 =>
  bnd (call fn_rc_Coder_carry [x0]) fun v44 =>
  rc_Coder_Code_j1 call n x0)
  (rc_Coder_Code_j1 call n x0))
noncomputable def rc_Coder_Code (call : Nat → List AV → M AV) (n : Nat) (a0 a1 a2 a3 : AV) : M AV :=
  lp (aBin .eql [3] a0 .nilptr) fun v9 =>
  mc v9
    (rc_Coder_Code_j0 call n a0 a1 a2 a3 (.bool true))
    (bnd (call fn_rc_right [a1, a2, a3]) fun v14 =>
    lp (aUn .not v14) fun v15 =>
    rc_Coder_Code_j0 call n a0 a1 a2 a3 v15)
theorem rc_Coder_Code_eq {ext : Ext} (h : ext fn_rc_Coder_Code = none) (n : Nat) (a0 a1 a2 a3 : AV) : fcall Tryd.prog ext (n + 1) fn_rc_Coder_Code [a0, a1, a2, a3] = rc_Coder_Code (fcall Tryd.prog ext n) n a0 a1 a2 a3 := by
  unfold fcall; rw [h]; kernel_rfl

/-! splicer/splicerref04.Some -/
noncomputable def ref04_Some (call : Nat → List AV → M AV) (n : Nat) (a0 a1 a2 : AV) : M AV :=
  bnd (alloc T_ref04_Part [.int .i64 0, .int .i64 0, .int .i64 0]) fun v6 =>
  lp (aInt .i64 a2) fun v10 =>
  lp (aBin .add [] (.int .i64 1) v10) fun v11 =>
  lp (aInt .i64 a0) fun v13 =>
  lp (aBin .rem [] v13 v11) fun v15 =>
  lp (aBin .add [] v15 (.int .i64 1)) fun v18 =>
  lp (aInt .i64 a1) fun v20 =>
  lp (aBin .sub [] v11 v15) fun v23 =>
  lp (aBin .rem [] v20 v23) fun v24 =>
  lp (aBin .add [] v18 v24) fun v25 =>
  lp ((aFill (fun i => [(0, 1), (1, 1), (2, 1)][i]?) [.int .i64 0, .int .i64 0, .int .i64 0] [(0, v15), (1, v25), (2, v11)]).map .agg) fun v27 =>
  bnd (store (some 3) v6 v27) fun u =>
  bnd (load (some 3) v6) fun r =>
  ret r
theorem ref04_Some_eq {ext : Ext} (h : ext fn_ref04_Some = none) (n : Nat) (a0 a1 a2 : AV) : fcall Tryd.prog ext (n + 1) fn_ref04_Some [a0, a1, a2] = ref04_Some (fcall Tryd.prog ext n) n a0 a1 a2 := by
  unfold fcall; rw [h]; kernel_rfl

/-! splicer/splicerlaw04.awake -/
noncomputable def law04_awake_j0 (call : Nat → List AV → M AV) (n : Nat) (x0 : AV) : M AV :=
  ret x0
noncomputable def law04_awake (call : Nat → List AV → M AV) (n : Nat) : M AV :=
  lp ((aFill (fun i => [(0, 2), (2, 2), (4, 1), (5, 1), (6, 1)][i]?) [.bool false, .int .u64 0, .nilptr, .nilslice, .int .u64 0, .int .i64 0, .int .i64 0] []).map .agg) fun v4 =>
  bnd (box T_rc_Coder v4) fun v5 =>
  bnd (call fn_rc_Coder_End [v5]) fun v7 =>
  bnd (call fn_rc_Coder_Code [v5, (.int .i64 1), (.int .i64 2), (.int .i64 2)]) fun v9 =>
  bnd (call fn_rc_Coder_End [v5]) fun v11 =>
  bnd (call fn_rc_New [v11]) fun v12 =>
  lp (aBin .eql [7] v7 (.str .empty)) fun v14 =>
  mc v14
    (bnd (call fn_rc_Coder_End [v5]) fun v17 =>
    lp (aBin .eql [7] v17 (.str ⟨#[127, 255, 255, 255]⟩)) fun v18 =>
    mc v18
      (bnd (call fn_rc_Decoder_Place [v12, (.int .i64 2)]) fun v22 =>
      lp (aBin .eql [6] v22 (.int .i64 1)) fun v23 =>
      mc v23
        (bnd (call fn_rc_Decoder_Place [v12, (.int .i64 0)]) fun v27 =>
        lp (aBin .eql [6] v27 (.int .i64 0)) fun v28 =>
        law04_awake_j0 call n v28)
        (law04_awake_j0 call n (.bool false)))
      (law04_awake_j0 call n (.bool false)))
    (law04_awake_j0 call n (.bool false))
theorem law04_awake_eq {ext : Ext} (h : ext fn_law04_awake = none) (n : Nat) : fcall Tryd.prog ext (n + 1) fn_law04_awake [] = law04_awake (fcall Tryd.prog ext n) n := by
  unfold fcall; rw [h]; kernel_rfl

/-! splicer/splicerlaw04.RcBack -/
noncomputable def law04_RcBack_j0 (call : Nat → List AV → M AV) (n : Nat) (rec_1 : List AV → M AV) (x0_2 x6_1 x7_1 x8 x80_2 x81_2 x82_2 x83_2 x84 : AV) : M AV :=
  mc x84
    (ret (.bool false))
    (lp (aOff 0 x8) fun v86 =>
bnd (load none v86) fun v87 =>
lp (aOff 1 x8) fun v88 =>
bnd (load none v88) fun v89 =>
lp (aOff 2 x8) fun v90 =>
bnd (load none v90) fun v91 =>
bnd (call fn_rc_Decoder_Take [x6_1, v87, v89, v91]) fun v92 =>
lp (aBin .add [] x7_1 (.int .i64 1)) fun v54 =>
rec_1 [x0_2, x6_1, v54, x80_2, x81_2, x82_2, x83_2])
noncomputable def law04_RcBack_l1 (call : Nat → List AV → M AV) (n : Nat) (rec_1 : List AV → M AV) (x0_1 x6 x7 x80_1 x81_1 x82_1 x83_1 : AV) : M AV :=
  lp (aLenS x0_1) fun v51 =>
  lp (aBin .lss [] x7 v51) fun v52 =>
  mc v52
    (lp (aIdxS 3 x0_1 x7) fun v57 =>
  lp (aIdxA 3 1 v57 (.int .i64 0)) fun v58 =>
  bnd (load none v58) fun v59 =>
  lp (aIdxS 3 x0_1 x7) fun v62 =>
  lp (aIdxA 3 1 v62 (.int .i64 1)) fun v63 =>
  bnd (load none v63) fun v64 =>
  lp (aIdxS 3 x0_1 x7) fun v67 =>
  lp (aIdxA 3 1 v67 (.int .i64 2)) fun v68 =>
  bnd (load none v68) fun v69 =>
  snap fun _ =>
  bnd (call fn_ref04_Some [v59, v64, v69]) fun v70 =>
  snap fun _ =>
  snap fun _ =>
  bnd (alloc T_ref04_Part [.int .i64 0, .int .i64 0, .int .i64 0]) fun v8 =>
  snap fun m_9 =>
  same none v68 v69 m_9 <|
  same none v63 v64 m_9 <|
  same none v58 v59 m_9 <|
  snap fun _ =>
  bnd (store (some 3) v8 v70) fun u_1 =>
  snap fun _ =>
  lp (aOff 2 v8) fun v72 =>
  bnd (load none v72) fun v73 =>
  bnd (call fn_rc_Decoder_Place [x6, v73]) fun v74 =>
  lp (aOff 0 v8) fun v76 =>
  bnd (load none v76) fun v77 =>
  lp (aBin .lss [] v74 v77) fun v78 =>
  mc v78
    (law04_RcBack_j0 call n rec_1 x0_1 x6 x7 v8 (.tup []) (.tup []) (.tup []) (.tup []) (.bool true))
    (lp (aOff 1 v8) fun v81 =>
    bnd (load none v81) fun v82 =>
    lp (aBin .geq [] v74 v82) fun v83 =>
    law04_RcBack_j0 call n rec_1 x0_1 x6 x7 v8 v74 v81 v82 v83 v83))
    (bnd (call fn_law04_awake []) fun v93 =>
ret v93)
noncomputable def law04_RcBack_l0 (call : Nat → List AV → M AV) (n : Nat) (rec : List AV → M AV) (x0 x3 x4 x80 x81 x82 x83 : AV) : M AV :=
  lp (aLenS x0) fun v18 =>
  lp (aBin .lss [] x4 v18) fun v19 =>
  mc v19
    (lp (aIdxS 3 x0 x4) fun v24 =>
  lp (aIdxA 3 1 v24 (.int .i64 0)) fun v25 =>
  bnd (load none v25) fun v26 =>
  lp (aIdxS 3 x0 x4) fun v29 =>
  lp (aIdxA 3 1 v29 (.int .i64 1)) fun v30 =>
  bnd (load none v30) fun v31 =>
  lp (aIdxS 3 x0 x4) fun v34 =>
  lp (aIdxA 3 1 v34 (.int .i64 2)) fun v35 =>
  bnd (load none v35) fun v36 =>
  snap fun _ =>
  bnd (call fn_ref04_Some [v26, v31, v36]) fun v37 =>
  snap fun _ =>
  snap fun _ =>
  bnd (alloc T_ref04_Part [.int .i64 0, .int .i64 0, .int .i64 0]) fun v5 =>
  snap fun m_3 =>
  same none v35 v36 m_3 <|
  same none v30 v31 m_3 <|
  same none v25 v26 m_3 <|
  snap fun _ =>
  bnd (store (some 3) v5 v37) fun u =>
  snap fun _ =>
  lp (aOff 0 v5) fun v39 =>
  bnd (load none v39) fun v40 =>
  lp (aOff 1 v5) fun v41 =>
  bnd (load none v41) fun v42 =>
  lp (aOff 2 v5) fun v43 =>
  bnd (load none v43) fun v44 =>
  bnd (call fn_rc_Coder_Code [x3, v40, v42, v44]) fun v45 =>
  lp (aBin .add [] x4 (.int .i64 1)) fun v21 =>
  rec [x0, x3, v21, x80, x81, x82, x83])
    (bnd (call fn_rc_Coder_End [x3]) fun v47 =>
bnd (call fn_rc_New [v47]) fun v48 =>
loopN (fun r l => law04_RcBack_l1 call n r (l.getD 0 .undef) (l.getD 1 .undef) (l.getD 2 .undef) (l.getD 3 .undef) (l.getD 4 .undef) (l.getD 5 .undef) (l.getD 6 .undef)) n [x0, v48, (.int .i64 0), x80, x81, x82, x83])
noncomputable def law04_RcBack (call : Nat → List AV → M AV) (n : Nat) (a0 : AV) : M AV :=
  lp (aLenS a0) fun v11 =>
  lp (aBin .gtr [] v11 (.int .i64 60)) fun v12 =>
  mc v12
    (bnd (call fn_law04_awake []) fun v13 =>
    ret v13)
    (lp ((aFill (fun i => [(0, 2), (2, 2), (4, 1), (5, 1), (6, 1)][i]?) [.bool false, .int .u64 0, .nilptr, .nilslice, .int .u64 0, .int .i64 0, .int .i64 0] []).map .agg) fun v14 =>
  bnd (box T_rc_Coder v14) fun v15 =>
  loopN (fun r l => law04_RcBack_l0 call n r (l.getD 0 .undef) (l.getD 1 .undef) (l.getD 2 .undef) (l.getD 3 .undef) (l.getD 4 .undef) (l.getD 5 .undef) (l.getD 6 .undef)) n [a0, v15, (.int .i64 0), .undef, .undef, .undef, .undef])
theorem law04_RcBack_eq {ext : Ext} (h : ext fn_law04_RcBack = none) (n : Nat) (a0 : AV) : fcall Tryd.prog ext (n + 1) fn_law04_RcBack [a0] = law04_RcBack (fcall Tryd.prog ext n) n a0 := by
  unfold fcall; rw [h]; kernel_rfl

/-! splicer/splicerlaw04.RcFinds -/
noncomputable def law04_RcFinds_j2 (call : Nat → List AV → M AV) (n : Nat) (x6 : AV) : M AV :=
  ret x6
noncomputable def law04_RcFinds_j1 (call : Nat → List AV → M AV) (n : Nat) (rec : List AV → M AV) (x1_2 x2_2 x7_1 x8_1 x9_1 x10 x56_1 x57_1 x58_1 x59_1 x60_1 x61_1 x62_1 x63 x88_1 : AV) : M AV :=
  mc x63
    (ret (.bool false))
    (lp (aOff 0 x10) fun v65 =>
bnd (load none v65) fun v66 =>
lp (aOff 1 x10) fun v67 =>
bnd (load none v67) fun v68 =>
lp (aOff 2 x10) fun v69 =>
bnd (load none v69) fun v70 =>
bnd (call fn_rc_Decoder_Take [x7_1, v66, v68, v70]) fun v71 =>
lp (aOff 0 x10) fun v73 =>
bnd (load none v73) fun v74 =>
lp (aOff 1 x10) fun v75 =>
bnd (load none v75) fun v76 =>
lp (aOff 2 x10) fun v77 =>
bnd (load none v77) fun v78 =>
bnd (call fn_ref04_Decoder_Take [x8_1, v74, v76, v78]) fun v79 =>
lp (aBin .add [] x9_1 (.int .i64 1)) fun v29 =>
rec [x1_2, x2_2, x7_1, x8_1, v29, x56_1, x57_1, x58_1, x59_1, x60_1, x61_1, x62_1, x88_1])
noncomputable def law04_RcFinds_l0 (call : Nat → List AV → M AV) (n : Nat) (rec : List AV → M AV) (x1_1 x2_1 x7 x8 x9 x56 x57 x58 x59 x60 x61 x62 x88 : AV) : M AV :=
  lp (aLenS x1_1) fun v26 =>
  lp (aBin .lss [] x9 v26) fun v27 =>
  mc v27
    (lp (aIdxS 3 x1_1 x9) fun v32 =>
  lp (aIdxA 3 1 v32 (.int .i64 0)) fun v33 =>
  bnd (load none v33) fun v34 =>
  lp (aIdxS 3 x1_1 x9) fun v37 =>
  lp (aIdxA 3 1 v37 (.int .i64 1)) fun v38 =>
  bnd (load none v38) fun v39 =>
  lp (aIdxS 3 x1_1 x9) fun v42 =>
  lp (aIdxA 3 1 v42 (.int .i64 2)) fun v43 =>
  bnd (load none v43) fun v44 =>
  snap fun _ =>
  bnd (call fn_ref04_Some [v34, v39, v44]) fun v45 =>
  snap fun _ =>
  snap fun _ =>
  bnd (alloc T_ref04_Part [.int .i64 0, .int .i64 0, .int .i64 0]) fun v10 =>
  snap fun m_3 =>
  same none v43 v44 m_3 <|
  same none v38 v39 m_3 <|
  same none v33 v34 m_3 <|
  snap fun _ =>
  bnd (store (some 3) v10 v45) fun u =>
  snap fun _ =>
  lp (aOff 2 v10) fun v47 =>
  bnd (load none v47) fun v48 =>
  snap fun m_6 =>
  bnd (call fn_rc_Decoder_Place [x7, v48]) fun v49 =>
  snap fun _ =>
  lp (aOff 2 v10) fun v51 =>
  bnd (load none v51) fun v52 =>
  same none v51 v52 m_6 <|
  snap fun _ =>
  bnd (call fn_ref04_Decoder_Place [x8, v52]) fun v53 =>
  snap fun _ =>
  lp (aBin .neq [6] v49 v53) fun v54 =>
  mc v54
    (law04_RcFinds_j1 call n rec x1_1 x2_1 x7 x8 x9 v10 (.tup []) (.tup []) (.tup []) (.tup []) (.tup []) (.tup []) (.tup []) (.bool true) x88)
    (snap fun _ =>
    bnd (call fn_rc_Decoder_Place [x7, x2_1]) fun v58 =>
    snap fun _ =>
    snap fun _ =>
    bnd (call fn_ref04_Decoder_Place [x8, x2_1]) fun v61 =>
    snap fun _ =>
    lp (aBin .neq [6] v58 v61) fun v62 =>
    law04_RcFinds_j1 call n rec x1_1 x2_1 x7 x8 x9 v10 x7 x2_1 v58 x8 x2_1 v61 v62 v62 x88))
    (bnd (call fn_rc_Decoder_Place [x7, x2_1]) fun v82 =>
bnd (call fn_ref04_Decoder_Place [x8, x2_1]) fun v85 =>
lp (aBin .eql [6] v82 v85) fun v86 =>
mc v86
  (bnd (call fn_law04_awake []) fun v88 =>
  law04_RcFinds_j2 call n v88)
  (law04_RcFinds_j2 call n (.bool false)))
noncomputable def law04_RcFinds_j0 (call : Nat → List AV → M AV) (n : Nat) (x0 x1 x2 x18 : AV) : M AV :=
  mc x18
    (bnd (call fn_law04_awake []) fun v19 =>
    ret v19)
    (bnd (call fn_rc_New [x0]) fun v21 =>
bnd (call fn_ref04_New [x0]) fun v23 =>
loopN (fun r l => law04_RcFinds_l0 call n r (l.getD 0 .undef) (l.getD 1 .undef) (l.getD 2 .undef) (l.getD 3 .undef) (l.getD 4 .undef) (l.getD 5 .undef) (l.getD 6 .undef) (l.getD 7 .undef) (l.getD 8 .undef) (l.getD 9 .undef) (l.getD 10 .undef) (l.getD 11 .undef) (l.getD 12 .undef)) n [x1, x2, v21, v23, (.int .i64 0), .undef, .undef, .undef, .undef, .undef, .undef, .undef, .undef])
noncomputable def law04_RcFinds (call : Nat → List AV → M AV) (n : Nat) (a0 a1 a2 : AV) : M AV :=
  lp (aLenStr a0) fun v12 =>
  lp (aBin .gtr [] v12 (.int .i64 200)) fun v13 =>
  mc v13
    (law04_RcFinds_j0 call n a0 a1 a2 (.bool true))
    (lp (aLenS a1) fun v16 =>
    lp (aBin .gtr [] v16 (.int .i64 60)) fun v17 =>
    law04_RcFinds_j0 call n a0 a1 a2 v17)
theorem law04_RcFinds_eq {ext : Ext} (h : ext fn_law04_RcFinds = none) (n : Nat) (a0 a1 a2 : AV) : fcall Tryd.prog ext (n + 1) fn_law04_RcFinds [a0, a1, a2] = law04_RcFinds (fcall Tryd.prog ext n) n a0 a1 a2 := by
  unfold fcall; rw [h]; kernel_rfl

/-! splicer/splicerlaw04.RcCodes -/
noncomputable def law04_RcCodes_j1 (call : Nat → List AV → M AV) (n : Nat) (x4 : AV) : M AV :=
  ret x4
noncomputable def law04_RcCodes_j0 (call : Nat → List AV → M AV) (n : Nat) (rec : List AV → M AV) (x0_1 x3_1 x5_1 x6_1 x7_1 x85_1 : AV) : M AV :=
  bnd (call fn_rc_Coder_End [x5_1]) fun v75 =>
  bnd (call fn_ref04_Coder_End [x6_1]) fun v77 =>
  lp (aBin .neq [7] v75 v77) fun v78 =>
  mc v78
    (ret (.bool false))
    (lp (aBin .add [] x7_1 (.int .i64 1)) fun v22 =>
rec [x0_1, x3_1, x5_1, x6_1, v22, x85_1])
noncomputable def law04_RcCodes_l0 (call : Nat → List AV → M AV) (n : Nat) (rec : List AV → M AV) (x0 x3 x5 x6 x7 x85 : AV) : M AV :=
  lp (aLenS x0) fun v19 =>
  lp (aBin .lss [] x7 v19) fun v20 =>
  mc v20
    (lp (aIdxS 3 x0 x7) fun v25 =>
  lp (aIdxA 3 1 v25 (.int .i64 0)) fun v26 =>
  bnd (load none v26) fun v27 =>
  lp (aIdxS 3 x0 x7) fun v30 =>
  lp (aIdxA 3 1 v30 (.int .i64 1)) fun v31 =>
  bnd (load none v31) fun v32 =>
  lp (aIdxS 3 x0 x7) fun v35 =>
  lp (aIdxA 3 1 v35 (.int .i64 2)) fun v36 =>
  bnd (load none v36) fun v37 =>
  snap fun _ =>
  bnd (call fn_ref04_Some [v27, v32, v37]) fun v38 =>
  snap fun _ =>
  snap fun _ =>
  bnd (alloc T_ref04_Part [.int .i64 0, .int .i64 0, .int .i64 0]) fun v8 =>
  snap fun m_3 =>
  same none v36 v37 m_3 <|
  same none v31 v32 m_3 <|
  same none v26 v27 m_3 <|
  snap fun _ =>
  bnd (store (some 3) v8 v38) fun u =>
  snap fun _ =>
  lp (aOff 0 v8) fun v40 =>
  bnd (load none v40) fun v41 =>
  lp (aOff 1 v8) fun v42 =>
  bnd (load none v42) fun v43 =>
  lp (aOff 2 v8) fun v44 =>
  bnd (load none v44) fun v45 =>
  bnd (call fn_rc_Coder_Code [x5, v41, v43, v45]) fun v46 =>
  lp (aOff 0 v8) fun v48 =>
  bnd (load none v48) fun v49 =>
  lp (aOff 1 v8) fun v50 =>
  bnd (load none v50) fun v51 =>
  lp (aOff 2 v8) fun v52 =>
  bnd (load none v52) fun v53 =>
  bnd (call fn_ref04_Coder_Code [x6, v49, v51, v53]) fun v54 =>
  lp (aBin .rem [] x7 (.int .i64 7)) fun v56 =>
  lp (aBin .eql [6] v56 (.int .i64 3)) fun v57 =>
  mc v57
    (lp (aIdxA 3 1 x3 (.int .i64 0)) fun v59 =>
    bnd (load none v59) fun v60 =>
    lp (aIdxA 3 1 x3 (.int .i64 1)) fun v61 =>
    bnd (load none v61) fun v62 =>
    lp (aIdxA 3 1 x3 (.int .i64 2)) fun v63 =>
    bnd (load none v63) fun v64 =>
    bnd (call fn_rc_Coder_Code [x5, v60, v62, v64]) fun v65 =>
    lp (aIdxA 3 1 x3 (.int .i64 0)) fun v67 =>
    bnd (load none v67) fun v68 =>
    lp (aIdxA 3 1 x3 (.int .i64 1)) fun v69 =>
    bnd (load none v69) fun v70 =>
    lp (aIdxA 3 1 x3 (.int .i64 2)) fun v71 =>
    bnd (load none v71) fun v72 =>
    bnd (call fn_ref04_Coder_Code [x6, v68, v70, v72]) fun v73 =>
    law04_RcCodes_j0 call n rec x0 x3 x5 x6 x7 x85)
    (law04_RcCodes_j0 call n rec x0 x3 x5 x6 x7 x85))
    (bnd (call fn_rc_Coder_End [x5]) fun v80 =>
bnd (call fn_ref04_Coder_End [x6]) fun v82 =>
lp (aBin .eql [7] v80 v82) fun v83 =>
mc v83
  (bnd (call fn_law04_awake []) fun v85 =>
  law04_RcCodes_j1 call n v85)
  (law04_RcCodes_j1 call n (.bool false)))
noncomputable def law04_RcCodes (call : Nat → List AV → M AV) (n : Nat) (a0 a1 : AV) : M AV :=
  bnd (box T_3_int a1) fun v3 =>
  lp (aLenS a0) fun v10 =>
  lp (aBin .gtr [] v10 (.int .i64 60)) fun v11 =>
  mc v11
    (bnd (call fn_law04_awake []) fun v12 =>
    ret v12)
    (lp ((aFill (fun i => [(0, 2), (2, 2), (4, 1), (5, 1), (6, 1)][i]?) [.bool false, .int .u64 0, .nilptr, .nilslice, .int .u64 0, .int .i64 0, .int .i64 0] []).map .agg) fun v13 =>
  bnd (box T_rc_Coder v13) fun v14 =>
  lp ((aFill (fun i => [(0, 1), (1, 1), (2, 1)][i]?) [.nilslice, .int .i64 0, .int .i64 0] []).map .agg) fun v15 =>
  bnd (box T_ref04_Coder v15) fun v16 =>
  loopN (fun r l => law04_RcCodes_l0 call n r (l.getD 0 .undef) (l.getD 1 .undef) (l.getD 2 .undef) (l.getD 3 .undef) (l.getD 4 .undef) (l.getD 5 .undef)) n [a0, v3, v14, v16, (.int .i64 0), .undef])
theorem law04_RcCodes_eq {ext : Ext} (h : ext fn_law04_RcCodes = none) (n : Nat) (a0 a1 : AV) : fcall Tryd.prog ext (n + 1) fn_law04_RcCodes [a0, a1] = law04_RcCodes (fcall Tryd.prog ext n) n a0 a1 := by
  unfold fcall; rw [h]; kernel_rfl

end SplA
