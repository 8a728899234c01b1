/- The shallow programs of functions, printed by a program; each equation is checked by the kernel. -/
import Derived.Test.YtimominjaikblabDoorSplExec
import Derived.Test.YtimominjaikblabDoorProg
import Derived.KernelRfl
namespace SplA
open Go.Proofs.YtimominjaikblabDoor.Spl Go Go.Proofs
set_option maxRecDepth 100000
set_option linter.unusedVariables false
abbrev fn_law05_SymPuts : Nat := 3
abbrev fn_law05_SymGets : Nat := 4
abbrev fn_law05_SymBack : Nat := 5
abbrev fn_law05_awake : Nat := 9
abbrev fn_law05_put : Nat := 10
abbrev fn_ref05_Put : Nat := 11
abbrev fn_rc_Coder_End : Nat := 12
abbrev fn_ref04_Coder_End : Nat := 13
abbrev fn_rc_New : Nat := 14
abbrev fn_ref04_New : Nat := 15
abbrev fn_sym_GetBits : Nat := 16
abbrev fn_ref05_GetBits : Nat := 17
abbrev fn_sym_GetBelow : Nat := 18
abbrev fn_ref05_GetBelow : Nat := 19
abbrev fn_sym_GetDelta : Nat := 20
abbrev fn_ref05_GetDelta : Nat := 21
abbrev fn_rc_Decoder_Place : Nat := 22
abbrev fn_ref04_Decoder_Place : Nat := 23
abbrev fn_sym_PutDelta : Nat := 36
abbrev fn_sym_PutBelow : Nat := 37
abbrev fn_sym_PutBits : Nat := 38
abbrev fn_ref05_PutBits : Nat := 39
abbrev fn_ref05_PutBelow : Nat := 40
abbrev fn_ref05_PutDelta : Nat := 41
abbrev fn_strings_Builder_WriteString : Nat := 42
abbrev fn_strings_Builder_String : Nat := 43
abbrev fn_strings_Builder_WriteByte : Nat := 44
abbrev fn_strings_TrimRight : Nat := 45
abbrev fn_rc_Decoder_next : Nat := 46
abbrev fn_ref04_Decoder_next : Nat := 47
abbrev fn_sym_get : Nat := 48
abbrev fn_ref04_Decoder_Take : Nat := 49
abbrev fn_sym_parted : Nat := 50
abbrev fn_ref05_shift : Nat := 51
abbrev fn_sym_ends : Nat := 52
abbrev fn_rc_Decoder_Take : Nat := 53
abbrev fn_sym_begins : Nat := 54
abbrev fn_ref05_small : Nat := 55
abbrev fn_rc_right : Nat := 56
abbrev fn_rc_narrowed_now : Nat := 57
abbrev fn_sym_rank : Nat := 77
abbrev fn_rc_Coder_Code : Nat := 78
abbrev fn_sym_put : Nat := 79
abbrev fn_ref04_Coder_Code : Nat := 80
abbrev fn_strings_Builder_copyCheck : Nat := 81
abbrev fn_strings_trimRightByte : Nat := 82
abbrev fn_strings_makeASCIISet : Nat := 83
abbrev fn_strings_trimRightASCII : Nat := 84
abbrev fn_strings_trimRightUnicode : Nat := 85
abbrev fn_ref04_Right : Nat := 86
abbrev fn_ref04_narrow : Nat := 87
abbrev fn_rc_narrowed_narrow : Nat := 88
abbrev fn_rc_narrowed_small : Nat := 89
abbrev fn_rc_Coder_carry : Nat := 94
abbrev fn_rc_Coder_tell : Nat := 95
abbrev fn_ref04_carried : Nat := 96
abbrev fn_internal_abi_NoEscape : Nat := 97
abbrev fn_rc_Coder_settle : Nat := 106
abbrev T_int : Nat := 3
abbrev T_uint8 : Nat := 5
abbrev T_strings_Builder : Nat := 31
abbrev T_rc_Coder : Nat := 33
abbrev T_ref04_Coder : Nat := 37
abbrev T_ref05_Item : Nat := 40
abbrev T_rc_Decoder : Nat := 84
abbrev T_ref04_Decoder : Nat := 88
abbrev T_8_int : Nat := 93
abbrev T_strings_asciiSet : Nat := 120
/-! (*splicer/rc.Coder).settle -/
noncomputable def rc_Coder_settle_l0 (call : Nat → List AV → M AV) (n : Nat) (rec : List AV → M AV) (x0_1 x1_1 : AV) : M AV :=
  lp (aNil x0_1) fun v22 =>
  lp (aOff 6 v22) fun v23 =>
  bnd (load none v23) fun v24 =>
  lp (aBin .gtr [] v24 (.int .i64 0)) fun v25 =>
  mc v25
    (lp (aNil x0_1) fun v34 =>
  lp (aOff 2 v34) fun v35 =>
  lp (aBin .add [] (.int .i64 255) x1_1) fun v37 =>
  lp (aInt .u8 v37) fun v38 =>
  bnd (call fn_strings_Builder_WriteByte [v35, v38]) fun v39 =>
  lp (aNil x0_1) fun v27 =>
  lp (aOff 6 v27) fun v28 =>
  bnd (load none v28) fun v29 =>
  lp (aBin .sub [] v29 (.int .i64 1)) fun v30 =>
  lp (aNil x0_1) fun v31 =>
  lp (aOff 6 v31) fun v32 =>
  bnd (store none v32 v30) fun u =>
  rec [x0_1, x1_1])
    (lp (aNil x0_1) fun v41 =>
lp (aOff 5 v41) fun v42 =>
bnd (store none v42 (.int .i64 0)) fun u_1 =>
ret (.tup []))
noncomputable def rc_Coder_settle_j0 (call : Nat → List AV → M AV) (n : Nat) (x0 x1 : AV) : M AV :=
  loopN (fun r l => rc_Coder_settle_l0 call n r (l.getD 0 .undef) (l.getD 1 .undef)) n [x0, x1]
noncomputable def rc_Coder_settle (call : Nat → List AV → M AV) (n : Nat) (a0 a1 : AV) : M AV :=
  lp (aNil a0) fun v5 =>
  lp (aOff 5 v5) fun v6 =>
  bnd (load none v6) fun v7 =>
  lp (aBin .gtr [] v7 (.int .i64 0)) fun v8 =>
  mc v8
    (lp (aNil a0) fun v10 =>
    lp (aOff 2 v10) fun v11 =>
    lp (aNil a0) fun v13 =>
    lp (aOff 5 v13) fun v14 =>
    bnd (load none v14) fun v15 =>
    lp (aBin .sub [] v15 (.int .i64 1)) fun v16 =>
    lp (aBin .add [] v16 a1) fun v18 =>
    lp (aInt .u8 v18) fun v19 =>
    snap fun _ =>
    bnd (call fn_strings_Builder_WriteByte [v11, v19]) fun v20 =>
    snap fun _ =>
    rc_Coder_settle_j0 call n a0 a1)
    (rc_Coder_settle_j0 call n a0 a1)
theorem rc_Coder_settle_eq {ext : Ext} (h : ext fn_rc_Coder_settle = none) (n : Nat) (a0 a1 : AV) : fcall Tryd.prog ext (n + 1) fn_rc_Coder_settle [a0, a1] = rc_Coder_settle (fcall Tryd.prog ext n) n a0 a1 := by
  unfold fcall; rw [h]; kernel_rfl

/-! splicer/splicerref04.carried -/
noncomputable def ref04_carried_l0 (call : Nat → List AV → M AV) (n : Nat) (rec : List AV → M AV) (x3 x4 : AV) : M AV :=
  lp (aBin .geq [] x4 (.int .i64 0)) fun v12 =>
  mc v12
    (lp (aIdxS 1 x3 x4) fun v17 =>
  bnd (load none v17) fun v18 =>
  lp (aBin .lss [] v18 (.int .i64 255)) fun v19 =>
  mc v19
    (lp (aIdxS 1 x3 x4) fun v24 =>
    bnd (load none v24) fun v25 =>
    lp (aBin .add [] v25 (.int .i64 1)) fun v26 =>
    lp (aIdxS 1 x3 x4) fun v27 =>
    bnd (store none v27 v26) fun u =>
    ret x3)
    (lp (aIdxS 1 x3 x4) fun v31 =>
  bnd (store none v31 (.int .i64 0)) fun u_1 =>
  lp (aBin .sub [] x4 (.int .i64 1)) fun v14 =>
  rec [x3, v14]))
    (ret x3)
noncomputable def ref04_carried (call : Nat → List AV → M AV) (n : Nat) (a0 : AV) : M AV :=
  bnd (append T_int 1 8 .nilslice a0) fun v7 =>
  lp (aLenS v7) fun v9 =>
  lp (aBin .sub [] v9 (.int .i64 1)) fun v10 =>
  loopN (fun r l => ref04_carried_l0 call n r (l.getD 0 .undef) (l.getD 1 .undef)) n [v7, v10]
theorem ref04_carried_eq {ext : Ext} (h : ext fn_ref04_carried = none) (n : Nat) (a0 : AV) : fcall Tryd.prog ext (n + 1) fn_ref04_carried [a0] = ref04_carried (fcall Tryd.prog ext n) n a0 := by
  unfold fcall; rw [h]; kernel_rfl

/-! (*splicer/rc.Coder).tell -/
noncomputable def rc_Coder_tell (call : Nat → List AV → M AV) (n : Nat) (a0 a1 : AV) : M AV :=
  lp (aBin .eql [6] a1 (.int .i64 255)) fun v5 =>
  mc v5
    (lp (aNil a0) fun v7 =>
    lp (aOff 6 v7) fun v8 =>
    bnd (load none v8) fun v9 =>
    lp (aBin .add [] v9 (.int .i64 1)) fun v10 =>
    lp (aNil a0) fun v11 =>
    lp (aOff 6 v11) fun v12 =>
    bnd (store none v12 v10) fun u =>
    ret (.tup []))
    (bnd (call fn_rc_Coder_settle [a0, (.int .i64 0)]) fun v14 =>
  lp (aBin .add [] a1 (.int .i64 1)) fun v17 =>
  lp (aNil a0) fun v18 =>
  lp (aOff 5 v18) fun v19 =>
  bnd (store none v19 v17) fun u_1 =>
  ret (.tup []))
theorem rc_Coder_tell_eq {ext : Ext} (h : ext fn_rc_Coder_tell = none) (n : Nat) (a0 a1 : AV) : fcall Tryd.prog ext (n + 1) fn_rc_Coder_tell [a0, a1] = rc_Coder_tell (fcall Tryd.prog ext n) n a0 a1 := by
  unfold fcall; rw [h]; kernel_rfl

/-! (*splicer/rc.Coder).carry -/
noncomputable def rc_Coder_carry (call : Nat → List AV → M AV) (n : Nat) (a0 : AV) : M AV :=
  bnd (call fn_rc_Coder_settle [a0, (.int .i64 1)]) fun v3 =>
  ret (.tup [])
theorem rc_Coder_carry_eq {ext : Ext} (h : ext fn_rc_Coder_carry = none) (n : Nat) (a0 : AV) : fcall Tryd.prog ext (n + 1) fn_rc_Coder_carry [a0] = rc_Coder_carry (fcall Tryd.prog ext n) n a0 := by
  unfold fcall; rw [h]; kernel_rfl

/-! (*splicer/rc.narrowed).small -/
noncomputable def rc_narrowed_small (call : Nat → List AV → M AV) (n : Nat) (a0 : AV) : M AV :=
  lp (aNil a0) fun v4 =>
  lp (aOff 1 v4) fun v5 =>
  bnd (load none v5) fun v6 =>
  lp (aBin .geq [] v6 (.int .u64 16777216)) fun v7 =>
  mc v7
    (ret (.bool false))
    (lp (aNil a0) fun v9 =>
  lp (aOff 1 v9) fun v10 =>
  bnd (load none v10) fun v11 =>
  lp (aBin .shl [] v11 (.int .u64 8)) fun v12 =>
  lp (aNil a0) fun v13 =>
  lp (aOff 1 v13) fun v14 =>
  bnd (store none v14 v12) fun u =>
  ret (.bool true))
theorem rc_narrowed_small_eq {ext : Ext} (h : ext fn_rc_narrowed_small = none) (n : Nat) (a0 : AV) : fcall Tryd.prog ext (n + 1) fn_rc_narrowed_small [a0] = rc_narrowed_small (fcall Tryd.prog ext n) n a0 := by
  unfold fcall; rw [h]; kernel_rfl

/-! (*splicer/rc.narrowed).narrow -/
noncomputable def rc_narrowed_narrow_j0 (call : Nat → List AV → M AV) (n : Nat) (x10 : AV) : M AV :=
  ret x10
noncomputable def rc_narrowed_narrow (call : Nat → List AV → M AV) (n : Nat) (a0 a1 a2 a3 : AV) : M AV :=
  bnd (call fn_rc_narrowed_now [a0]) fun v12 =>
  lp (aInt .u64 a3) fun v14 =>
  lp (aBin .quo [] v12 v14) fun v15 =>
  lp (aInt .u64 a1) fun v18 =>
  lp (aBin .mul [] v15 v18) fun v19 =>
  lp (aBin .eql [6] a2 a3) fun v22 =>
  mc v22
    (lp (aNil a0) fun v24 =>
    lp (aOff 1 v24) fun v25 =>
    bnd (load none v25) fun v26 =>
    lp (aBin .sub [] v26 v19) fun v28 =>
    lp (aNil a0) fun v29 =>
    lp (aOff 1 v29) fun v30 =>
    bnd (store none v30 v28) fun u =>
    rc_narrowed_narrow_j0 call n v19)
    (lp (aBin .sub [] a2 a1) fun v35 =>
    lp (aInt .u64 v35) fun v36 =>
    lp (aBin .mul [] v15 v36) fun v37 =>
    lp (aNil a0) fun v38 =>
    lp (aOff 1 v38) fun v39 =>
    bnd (store none v39 v37) fun u_1 =>
    rc_narrowed_narrow_j0 call n v19)
theorem rc_narrowed_narrow_eq {ext : Ext} (h : ext fn_rc_narrowed_narrow = none) (n : Nat) (a0 a1 a2 a3 : AV) : fcall Tryd.prog ext (n + 1) fn_rc_narrowed_narrow [a0, a1, a2, a3] = rc_narrowed_narrow (fcall Tryd.prog ext n) n a0 a1 a2 a3 := by
  unfold fcall; rw [h]; kernel_rfl

/-! splicer/splicerref04.narrow -/
noncomputable def ref04_narrow (call : Nat → List AV → M AV) (n : Nat) (a0 a1 a2 a3 : AV) : M AV :=
  lp (aBin .quo [] a0 a3) fun v12 =>
  lp (aBin .eql [6] a2 a3) fun v15 =>
  mc v15
    (lp (aBin .mul [] v12 a1) fun v19 =>
    lp (aBin .sub [] a0 v19) fun v20 =>
    ret v20)
    (lp (aBin .sub [] a2 a1) fun v24 =>
  lp (aBin .mul [] v12 v24) fun v25 =>
  ret v25)
theorem ref04_narrow_eq {ext : Ext} (h : ext fn_ref04_narrow = none) (n : Nat) (a0 a1 a2 a3 : AV) : fcall Tryd.prog ext (n + 1) fn_ref04_narrow [a0, a1, a2, a3] = ref04_narrow (fcall Tryd.prog ext n) n a0 a1 a2 a3 := by
  unfold fcall; rw [h]; kernel_rfl

/-! splicer/splicerref04.Right -/
noncomputable def ref04_Right_j0 (call : Nat → List AV → M AV) (n : Nat) (x6 : AV) : M AV :=
  ret x6
noncomputable def ref04_Right (call : Nat → List AV → M AV) (n : Nat) (a0 a1 a2 : AV) : M AV :=
  lp (aBin .geq [] a2 (.int .i64 1)) fun v8 =>
  mc v8
    (lp (aBin .leq [] a2 (.int .i64 65536)) fun v11 =>
    mc v11
      (lp (aBin .geq [] a0 (.int .i64 0)) fun v15 =>
      mc v15
        (lp (aBin .lss [] a0 a1) fun v20 =>
        mc v20
          (lp (aBin .leq [] a1 a2) fun v25 =>
          ref04_Right_j0 call n v25)
          (ref04_Right_j0 call n (.bool false)))
        (ref04_Right_j0 call n (.bool false)))
      (ref04_Right_j0 call n (.bool false)))
    (ref04_Right_j0 call n (.bool false))
theorem ref04_Right_eq {ext : Ext} (h : ext fn_ref04_Right = none) (n : Nat) (a0 a1 a2 : AV) : fcall Tryd.prog ext (n + 1) fn_ref04_Right [a0, a1, a2] = ref04_Right (fcall Tryd.prog ext n) n a0 a1 a2 := by
  unfold fcall; rw [h]; kernel_rfl

/-! strings.trimRightByte -/
noncomputable def strings_trimRightByte_j0 (call : Nat → List AV → M AV) (n : Nat) (rec : List AV → M AV) (x0_1 x1_1 x9_1 x10_1 x11_1 x12_1 x13_1 x14_1 x15_1 x16 : AV) : M AV :=
  mc x16
    (lp (aLenStr x0_1) fun v19 =>
lp (aBin .sub [] v19 (.int .i64 1)) fun v20 =>
lp (aSliceStr x0_1 none (some v20)) fun v21 =>
rec [v21, x1_1, x9_1, x10_1, x11_1, x12_1, x13_1, x14_1, x15_1])
    (ret x0_1)
noncomputable def strings_trimRightByte_l0 (call : Nat → List AV → M AV) (n : Nat) (rec : List AV → M AV) (x0 x1 x9 x10 x11 x12 x13 x14 x15 : AV) : M AV :=
  lp (aLenStr x0) fun v6 =>
  lp (aBin .gtr [] v6 (.int .i64 0)) fun v7 =>
  mc v7
    (lp (aLenStr x0) fun v11 =>
    lp (aBin .sub [] v11 (.int .i64 1)) fun v12 =>
    lp (aIdxStr x0 v12) fun v13 =>
    lp (aBin .eql [6] v13 x1) fun v15 =>
    strings_trimRightByte_j0 call n rec x0 x1 x0 x0 v11 v12 v13 x1 v15 v15)
    (strings_trimRightByte_j0 call n rec x0 x1 (.tup []) (.tup []) (.tup []) (.tup []) (.tup []) (.tup []) (.tup []) (.bool false))
noncomputable def strings_trimRightByte (call : Nat → List AV → M AV) (n : Nat) (a0 a1 : AV) : M AV :=
  loopN (fun r l => strings_trimRightByte_l0 call n r (l.getD 0 .undef) (l.getD 1 .undef) (l.getD 2 .undef) (l.getD 3 .undef) (l.getD 4 .undef) (l.getD 5 .undef) (l.getD 6 .undef) (l.getD 7 .undef) (l.getD 8 .undef)) n [a0, a1, .undef, .undef, .undef, .undef, .undef, .undef, .undef]
theorem strings_trimRightByte_eq {ext : Ext} (h : ext fn_strings_trimRightByte = none) (n : Nat) (a0 a1 : AV) : fcall Tryd.prog ext (n + 1) fn_strings_trimRightByte [a0, a1] = strings_trimRightByte (fcall Tryd.prog ext n) n a0 a1 := by
  unfold fcall; rw [h]; kernel_rfl

/-! (*strings.Builder).copyCheck -/
noncomputable def strings_Builder_copyCheck (call : Nat → List AV → M AV) (n : Nat) (a0 : AV) : M AV :=
  lp (aNil a0) fun v3 =>
  lp (aOff 0 v3) fun v4 =>
  bnd (load none v4) fun v5 =>
  lp (aBin .eql [3] v5 .nilptr) fun v6 =>
  mc v6
    (bnd (toUnsafe a0) fun v9 =>
    bnd (call fn_internal_abi_NoEscape [v9]) fun v10 =>
    bnd (fromUnsafe Tryd.prog.cellsOf (fun ty o => rowAt Tryd.prog (sameLayout Tryd.prog Tryd.prog.depth · T_strings_Builder) Tryd.prog.depth ty 1 o 1) v10) fun v11 =>
    lp (aNil a0) fun v12 =>
    lp (aOff 0 v12) fun v13 =>
    bnd (store none v13 v11) fun u =>
    ret (.tup []))
    (lp (aNil a0) fun v15 =>
    lp (aOff 0 v15) fun v16 =>
    bnd (load none v16) fun v17 =>
    lp (aBin .neq [3] v17 a0) fun v19 =>
    mc v19
      (fail /- code refuse -/)
      (ret (.tup [])))
theorem strings_Builder_copyCheck_eq {ext : Ext} (h : ext fn_strings_Builder_copyCheck = none) (n : Nat) (a0 : AV) : fcall Tryd.prog ext (n + 1) fn_strings_Builder_copyCheck [a0] = strings_Builder_copyCheck (fcall Tryd.prog ext n) n a0 := by
  unfold fcall; rw [h]; kernel_rfl

/-! (*splicer/splicerref04.Coder).Code -/
noncomputable def ref04_Coder_Code_l0 (call : Nat → List AV → M AV) (n : Nat) (rec : List AV → M AV) (x0_1 x8_1 : AV) : M AV :=
  lp (aBin .lss [] x8_1 (.int .i64 16777216)) fun v59 =>
  mc v59
    (lp (aNil x0_1) fun v62 =>
  lp (aOff 0 v62) fun v63 =>
  bnd (load none v63) fun v64 =>
  lp (aNil x0_1) fun v66 =>
  lp (aOff 1 v66) fun v67 =>
  bnd (load none v67) fun v68 =>
  lp (aBin .quo [] v68 (.int .i64 16777216)) fun v69 =>
  snap fun _ =>
  lp (aFill (fun i => some (i * 1, 1)) [.int .i64 0] [(0, v69)]) fun cs =>
  bnd (allocS T_int 1 1 cs) fun v70 =>
  snap fun m_3 =>
  same none v63 v64 m_3 <|
  snap fun _ =>
  bnd (append T_int 1 8 v64 v70) fun v71 =>
  snap fun _ =>
  lp (aNil x0_1) fun v72 =>
  lp (aOff 0 v72) fun v73 =>
  snap fun _ =>
  bnd (store none v73 v71) fun u_3 =>
  snap fun _ =>
  lp (aNil x0_1) fun v76 =>
  lp (aOff 1 v76) fun v77 =>
  bnd (load none v77) fun v78 =>
  lp (aBin .rem [] v78 (.int .i64 16777216)) fun v79 =>
  lp (aBin .mul [] v79 (.int .i64 256)) fun v80 =>
  lp (aNil x0_1) fun v81 =>
  lp (aOff 1 v81) fun v82 =>
  bnd (store none v82 v80) fun u_4 =>
  lp (aBin .mul [] x8_1 (.int .i64 256)) fun v84 =>
  rec [x0_1, v84])
    (lp (aBin .sub [] (.int .i64 4294967295) x8_1) fun v87 =>
lp (aNil x0_1) fun v88 =>
lp (aOff 2 v88) fun v89 =>
bnd (store none v89 v87) fun u_5 =>
ret (.tup []))
noncomputable def ref04_Coder_Code_j0 (call : Nat → List AV → M AV) (n : Nat) (x0 x8 : AV) : M AV :=
  loopN (fun r l => ref04_Coder_Code_l0 call n r (l.getD 0 .undef) (l.getD 1 .undef)) n [x0, x8]
noncomputable def ref04_Coder_Code (call : Nat → List AV → M AV) (n : Nat) (a0 a1 a2 a3 : AV) : M AV :=
  bnd (call fn_ref04_Right [a1, a2, a3]) fun v12 =>
  lp (aUn .not v12) fun v13 =>
  mc v13
    (ret (.tup []))
    (lp (aNil a0) fun v15 =>
  lp (aOff 2 v15) fun v16 =>
  bnd (load none v16) fun v17 =>
  lp (aBin .sub [] (.int .i64 4294967295) v17) fun v18 =>
  lp (aNil a0) fun v21 =>
  lp (aOff 1 v21) fun v22 =>
  bnd (load none v22) fun v23 =>
  lp (aBin .quo [] v18 a3) fun v26 =>
  lp (aBin .mul [] v26 a1) fun v28 =>
  lp (aBin .add [] v23 v28) fun v29 =>
  lp (aNil a0) fun v30 =>
  lp (aOff 1 v30) fun v31 =>
  snap fun _ =>
  bnd (store none v31 v29) fun u =>
  snap fun _ =>
  bnd (call fn_ref04_narrow [v18, a1, a2, a3]) fun v36 =>
  lp (aNil a0) fun v38 =>
  lp (aOff 1 v38) fun v39 =>
  bnd (load none v39) fun v40 =>
  lp (aBin .geq [] v40 (.int .i64 4294967296)) fun v41 =>
  mc v41
    (lp (aNil a0) fun v44 =>
    lp (aOff 1 v44) fun v45 =>
    bnd (load none v45) fun v46 =>
    lp (aBin .sub [] v46 (.int .i64 4294967296)) fun v47 =>
    lp (aNil a0) fun v48 =>
    lp (aOff 1 v48) fun v49 =>
    bnd (store none v49 v47) fun u_1 =>
    lp (aNil a0) fun v52 =>
    lp (aOff 0 v52) fun v53 =>
    bnd (load none v53) fun v54 =>
    bnd (call fn_ref04_carried [v54]) fun v55 =>
    lp (aNil a0) fun v56 =>
    lp (aOff 0 v56) fun v57 =>
    bnd (store none v57 v55) fun u_2 =>
    ref04_Coder_Code_j0 call n a0 v36)
    (ref04_Coder_Code_j0 call n a0 v36))
theorem ref04_Coder_Code_eq {ext : Ext} (h : ext fn_ref04_Coder_Code = none) (n : Nat) (a0 a1 a2 a3 : AV) : fcall Tryd.prog ext (n + 1) fn_ref04_Coder_Code [a0, a1, a2, a3] = ref04_Coder_Code (fcall Tryd.prog ext n) n a0 a1 a2 a3 := by
  unfold fcall; rw [h]; kernel_rfl

/-! splicer/sym.put -/
noncomputable def sym_put (call : Nat → List AV → M AV) (n : Nat) (a0 a1 a2 : AV) : M AV :=
  lp (aBin .add [] a1 (.int .i64 1)) fun v9 =>
  bnd (call fn_rc_Coder_Code [a0, a1, v9, a2]) fun v11 =>
  ret (.tup [])
theorem sym_put_eq {ext : Ext} (h : ext fn_sym_put = none) (n : Nat) (a0 a1 a2 : AV) : fcall Tryd.prog ext (n + 1) fn_sym_put [a0, a1, a2] = sym_put (fcall Tryd.prog ext n) n a0 a1 a2 := by
  unfold fcall; rw [h]; kernel_rfl

/-! (*splicer/rc.Coder).Code -/
noncomputable def rc_Coder_Code_l0 (call : Nat → List AV → M AV) (n : Nat) (rec : List AV → M AV) (x0_2 : AV) : M AV :=
  lp (aNil x0_2) fun v46 =>
  lp (aOff 0 v46) fun v47 =>
  bnd (call fn_rc_narrowed_small [v47]) fun v48 =>
  mc v48
    (lp (aNil x0_2) fun v51 =>
  lp (aOff 4 v51) fun v52 =>
  bnd (load none v52) fun v53 =>
  lp (aBin .shr [] v53 (.int .u64 24)) fun v54 =>
  lp (aInt .i64 v54) fun v55 =>
  bnd (call fn_rc_Coder_tell [x0_2, v55]) fun v56 =>
  lp (aNil x0_2) fun v59 =>
  lp (aOff 4 v59) fun v60 =>
  bnd (load none v60) fun v61 =>
  lp (aBin .shl [] v61 (.int .u64 8)) fun v62 =>
  lp (aBin .and [] v62 (.int .u64 4294967295)) fun v63 =>
  lp (aNil x0_2) fun v64 =>
  lp (aOff 4 v64) fun v65 =>
  bnd (store none v65 v63) fun u_2 =>
  rec [x0_2])
    (ret (.tup []))
noncomputable def rc_Coder_Code_j1 (call : Nat → List AV → M AV) (n : Nat) (x0_1 : AV) : M AV :=
  loopN (fun r l => rc_Coder_Code_l0 call n r (l.getD 0 .undef)) n [x0_1]
noncomputable def rc_Coder_Code_j0 (call : Nat → List AV → M AV) (n : Nat) (x0 x1 x2 x3 x16 : AV) : M AV :=
  mc x16
    (ret (.tup []))
    (lp (aNil x0) fun v18 =>
lp (aOff 4 v18) fun v19 =>
bnd (load none v19) fun v20 =>
lp (aNil x0) fun v22 =>
lp (aOff 0 v22) fun v23 =>
snap fun _ =>
bnd (call fn_rc_narrowed_narrow [v23, x1, x2, x3]) fun v27 =>
snap fun m_1 =>
same none v19 v20 m_1 <|
lp (aBin .add [] v20 v27) fun v28 =>
lp (aNil x0) fun v29 =>
lp (aOff 4 v29) fun v30 =>
snap fun _ =>
bnd (store none v30 v28) fun u =>
snap fun _ =>
lp (aNil x0) fun v32 =>
lp (aOff 4 v32) fun v33 =>
bnd (load none v33) fun v34 =>
lp (aBin .gtr [] v34 (.int .u64 4294967295)) fun v35 =>
mc v35
  (lp (aNil x0) fun v37 =>
  lp (aOff 4 v37) fun v38 =>
  bnd (load none v38) fun v39 =>
  lp (aBin .sub [] v39 (.int .u64 4294967296)) fun v40 =>
  lp (aNil x0) fun v41 =>
  lp (aOff 4 v41) fun v42 =>
  bnd (store none v42 v40) fun u_1 =>
  bnd (call fn_rc_Coder_carry [x0]) fun v44 =>
  rc_Coder_Code_j1 call n x0)
  (rc_Coder_Code_j1 call n x0))
noncomputable def rc_Coder_Code (call : Nat → List AV → M AV) (n : Nat) (a0 a1 a2 a3 : AV) : M AV :=
  lp (aBin .eql [3] a0 .nilptr) fun v9 =>
  mc v9
    (rc_Coder_Code_j0 call n a0 a1 a2 a3 (.bool true))
    (bnd (call fn_rc_right [a1, a2, a3]) fun v14 =>
    lp (aUn .not v14) fun v15 =>
    rc_Coder_Code_j0 call n a0 a1 a2 a3 v15)
theorem rc_Coder_Code_eq {ext : Ext} (h : ext fn_rc_Coder_Code = none) (n : Nat) (a0 a1 a2 a3 : AV) : fcall Tryd.prog ext (n + 1) fn_rc_Coder_Code [a0, a1, a2, a3] = rc_Coder_Code (fcall Tryd.prog ext n) n a0 a1 a2 a3 := by
  unfold fcall; rw [h]; kernel_rfl

/-! splicer/sym.rank -/
noncomputable def sym_rank_j0 (call : Nat → List AV → M AV) (n : Nat) (x0 x3 : AV) : M AV :=
  mc x3
    (ret (.int .i64 7))
    (lp (aBin .gtr [] x0 (.int .i64 0)) fun v12 =>
    mc v12
      (lp (aBin .mul [] (.int .i64 2) x0) fun v14 =>
      ret v14)
      (lp (aBin .lss [] x0 (.int .i64 0)) fun v17 =>
      mc v17
        (lp (aBin .mul [] (.int .i64 (-2)) x0) fun v19 =>
        lp (aBin .sub [] v19 (.int .i64 1)) fun v20 =>
        ret v20)
        (ret (.int .i64 0))))
noncomputable def sym_rank (call : Nat → List AV → M AV) (n : Nat) (a0 : AV) : M AV :=
  lp (aBin .lss [] a0 (.int .i64 (-3))) fun v5 =>
  mc v5
    (sym_rank_j0 call n a0 (.bool true))
    (lp (aBin .gtr [] a0 (.int .i64 3)) fun v8 =>
    sym_rank_j0 call n a0 v8)
theorem sym_rank_eq {ext : Ext} (h : ext fn_sym_rank = none) (n : Nat) (a0 : AV) : fcall Tryd.prog ext (n + 1) fn_sym_rank [a0] = sym_rank (fcall Tryd.prog ext n) n a0 := by
  unfold fcall; rw [h]; kernel_rfl

/-! (*splicer/rc.narrowed).now -/
noncomputable def rc_narrowed_now_j0 (call : Nat → List AV → M AV) (n : Nat) (x0 : AV) : M AV :=
  lp (aNil x0) fun v15 =>
  lp (aOff 1 v15) fun v16 =>
  bnd (load none v16) fun v17 =>
  ret v17
noncomputable def rc_narrowed_now (call : Nat → List AV → M AV) (n : Nat) (a0 : AV) : M AV :=
  lp (aNil a0) fun v4 =>
  lp (aOff 0 v4) fun v5 =>
  bnd (load none v5) fun v6 =>
  lp (aUn .not v6) fun v7 =>
  mc v7
    (lp (aNil a0) fun v10 =>
    lp (aOff 0 v10) fun v11 =>
    bnd (store none v11 (.bool true)) fun u =>
    lp (aNil a0) fun v12 =>
    lp (aOff 1 v12) fun v13 =>
    bnd (store none v13 (.int .u64 4294967295)) fun u_1 =>
    rc_narrowed_now_j0 call n a0)
    (rc_narrowed_now_j0 call n a0)
theorem rc_narrowed_now_eq {ext : Ext} (h : ext fn_rc_narrowed_now = none) (n : Nat) (a0 : AV) : fcall Tryd.prog ext (n + 1) fn_rc_narrowed_now [a0] = rc_narrowed_now (fcall Tryd.prog ext n) n a0 := by
  unfold fcall; rw [h]; kernel_rfl

/-! splicer/rc.right -/
noncomputable def rc_right_j0 (call : Nat → List AV → M AV) (n : Nat) (x6 : AV) : M AV :=
  ret x6
noncomputable def rc_right (call : Nat → List AV → M AV) (n : Nat) (a0 a1 a2 : AV) : M AV :=
  lp (aBin .leq [] (.int .i64 0) a0) fun v8 =>
  mc v8
    (lp (aBin .lss [] a0 a1) fun v12 =>
    mc v12
      (lp (aBin .leq [] a1 a2) fun v17 =>
      mc v17
        (lp (aBin .leq [] a2 (.int .i64 65536)) fun v21 =>
        rc_right_j0 call n v21)
        (rc_right_j0 call n (.bool false)))
      (rc_right_j0 call n (.bool false)))
    (rc_right_j0 call n (.bool false))
theorem rc_right_eq {ext : Ext} (h : ext fn_rc_right = none) (n : Nat) (a0 a1 a2 : AV) : fcall Tryd.prog ext (n + 1) fn_rc_right [a0, a1, a2] = rc_right (fcall Tryd.prog ext n) n a0 a1 a2 := by
  unfold fcall; rw [h]; kernel_rfl

/-! splicer/splicerref05.small -/
noncomputable def ref05_small (call : Nat → List AV → M AV) (n : Nat) (a0 : AV) : M AV :=
  lp (aBin .eql [6] a0 (.int .i64 0)) fun v6 =>
  mc v6
    (ret (.tup [(.int .i64 0), (.int .i64 24)]))
    (lp (aBin .eql [6] a0 (.int .i64 (-1))) fun v8 =>
    mc v8
      (ret (.tup [(.int .i64 24), (.int .i64 32)]))
      (lp (aBin .eql [6] a0 (.int .i64 1)) fun v10 =>
      mc v10
        (ret (.tup [(.int .i64 32), (.int .i64 40)]))
        (lp (aBin .eql [6] a0 (.int .i64 (-2))) fun v12 =>
        mc v12
          (ret (.tup [(.int .i64 40), (.int .i64 45)]))
          (lp (aBin .eql [6] a0 (.int .i64 2)) fun v14 =>
          mc v14
            (ret (.tup [(.int .i64 45), (.int .i64 50)]))
            (lp (aBin .eql [6] a0 (.int .i64 (-3))) fun v16 =>
            mc v16
              (ret (.tup [(.int .i64 50), (.int .i64 53)]))
              (lp (aBin .eql [6] a0 (.int .i64 3)) fun v18 =>
              mc v18
                (ret (.tup [(.int .i64 53), (.int .i64 56)]))
                (ret (.tup [(.int .i64 56), (.int .i64 64)]))))))))
theorem ref05_small_eq {ext : Ext} (h : ext fn_ref05_small = none) (n : Nat) (a0 : AV) : fcall Tryd.prog ext (n + 1) fn_ref05_small [a0] = ref05_small (fcall Tryd.prog ext n) n a0 := by
  unfold fcall; rw [h]; kernel_rfl

/-! splicer/sym.begins -/
noncomputable def sym_begins (call : Nat → List AV → M AV) (n : Nat) (a0 a1 : AV) : M AV :=
  bnd (box T_8_int a0) fun v2 =>
  lp (aBin .eql [6] a1 (.int .i64 0)) fun v6 =>
  mc v6
    (ret (.int .i64 0))
    (lp (aBin .sub [] a1 (.int .i64 1)) fun v8 =>
  lp (aIdxA 8 1 v2 v8) fun v9 =>
  bnd (load none v9) fun v10 =>
  ret v10)
theorem sym_begins_eq {ext : Ext} (h : ext fn_sym_begins = none) (n : Nat) (a0 a1 : AV) : fcall Tryd.prog ext (n + 1) fn_sym_begins [a0, a1] = sym_begins (fcall Tryd.prog ext n) n a0 a1 := by
  unfold fcall; rw [h]; kernel_rfl

/-! (*splicer/rc.Decoder).Take -/
noncomputable def rc_Decoder_Take_l0 (call : Nat → List AV → M AV) (n : Nat) (rec : List AV → M AV) (x0_1 : AV) : M AV :=
  lp (aNil x0_1) fun v54 =>
  lp (aOff 0 v54) fun v55 =>
  bnd (call fn_rc_narrowed_small [v55]) fun v56 =>
  mc v56
    (lp (aNil x0_1) fun v59 =>
  lp (aOff 3 v59) fun v60 =>
  bnd (load none v60) fun v61 =>
  lp (aBin .shl [] v61 (.int .u64 8)) fun v62 =>
  snap fun _ =>
  bnd (call fn_rc_Decoder_next [x0_1]) fun v64 =>
  snap fun m_3 =>
  same none v60 v61 m_3 <|
  lp (aBin .or [] v62 v64) fun v65 =>
  lp (aNil x0_1) fun v66 =>
  lp (aOff 3 v66) fun v67 =>
  snap fun _ =>
  bnd (store none v67 v65) fun u_1 =>
  snap fun _ =>
  rec [x0_1])
    (ret (.tup []))
noncomputable def rc_Decoder_Take_j0 (call : Nat → List AV → M AV) (n : Nat) (x0 x1 x2 x3 x24 : AV) : M AV :=
  mc x24
    (ret (.tup []))
    (lp (aNil x0) fun v26 =>
lp (aOff 0 v26) fun v27 =>
bnd (call fn_rc_narrowed_narrow [v27, x1, x2, x3]) fun v31 =>
lp (aNil x0) fun v34 =>
lp (aOff 3 v34) fun v35 =>
bnd (load none v35) fun v36 =>
lp (aNil x0) fun v38 =>
lp (aOff 3 v38) fun v39 =>
bnd (load none v39) fun v40 =>
lp (aFold aMin2 v40 [v31]) fun v42 =>
lp (aBin .sub [] v36 v42) fun v43 =>
lp (aNil x0) fun v45 =>
lp (aOff 0 v45) fun v46 =>
lp (aOff 1 v46) fun v47 =>
bnd (load none v47) fun v48 =>
lp (aBin .sub [] v48 (.int .u64 1)) fun v49 =>
lp (aFold aMin2 v43 [v49]) fun v50 =>
lp (aNil x0) fun v51 =>
lp (aOff 3 v51) fun v52 =>
snap fun _ =>
bnd (store none v52 v50) fun u =>
snap fun _ =>
loopN (fun r l => rc_Decoder_Take_l0 call n r (l.getD 0 .undef)) n [x0])
noncomputable def rc_Decoder_Take (call : Nat → List AV → M AV) (n : Nat) (a0 a1 a2 a3 : AV) : M AV :=
  lp (aBin .eql [3] a0 .nilptr) fun v10 =>
  mc v10
    (rc_Decoder_Take_j0 call n a0 a1 a2 a3 (.bool true))
    (lp (aNil a0) fun v13 =>
    lp (aOff 4 v13) fun v14 =>
    bnd (load none v14) fun v15 =>
    lp (aUn .not v15) fun v16 =>
    mc v16
      (rc_Decoder_Take_j0 call n a0 a1 a2 a3 (.bool true))
      (bnd (call fn_rc_right [a1, a2, a3]) fun v22 =>
      lp (aUn .not v22) fun v23 =>
      rc_Decoder_Take_j0 call n a0 a1 a2 a3 v23))
theorem rc_Decoder_Take_eq {ext : Ext} (h : ext fn_rc_Decoder_Take = none) (n : Nat) (a0 a1 a2 a3 : AV) : fcall Tryd.prog ext (n + 1) fn_rc_Decoder_Take [a0, a1, a2, a3] = rc_Decoder_Take (fcall Tryd.prog ext n) n a0 a1 a2 a3 := by
  unfold fcall; rw [h]; kernel_rfl

/-! splicer/sym.ends -/
noncomputable def sym_ends (call : Nat → List AV → M AV) (n : Nat) : M AV :=
  bnd (alloc T_8_int [.int .i64 0, .int .i64 0, .int .i64 0, .int .i64 0, .int .i64 0, .int .i64 0, .int .i64 0, .int .i64 0]) fun v0 =>
  lp ((aFill (fun i => some (i * 1, 1)) [.int .i64 0, .int .i64 0, .int .i64 0, .int .i64 0, .int .i64 0, .int .i64 0, .int .i64 0, .int .i64 0] [(0, (.int .i64 24)), (1, (.int .i64 32)), (2, (.int .i64 40)), (3, (.int .i64 45)), (4, (.int .i64 50)), (5, (.int .i64 53)), (6, (.int .i64 56)), (7, (.int .i64 64))]).map .agg) fun v1 =>
  bnd (store (some 8) v0 v1) fun u =>
  bnd (load (some 8) v0) fun r =>
  ret r
theorem sym_ends_eq {ext : Ext} (h : ext fn_sym_ends = none) (n : Nat) : fcall Tryd.prog ext (n + 1) fn_sym_ends [] = sym_ends (fcall Tryd.prog ext n) n := by
  unfold fcall; rw [h]; kernel_rfl

/-! splicer/splicerref05.shift -/
noncomputable def ref05_shift_l0 (call : Nat → List AV → M AV) (n : Nat) (rec : List AV → M AV) (x0 x3 : AV) : M AV :=
  lp (aBin .sub [] x0 (.int .i64 1)) fun v5 =>
  lp (aBin .shr [] v5 x3) fun v7 =>
  lp (aBin .geq [] v7 (.int .i64 4096)) fun v8 =>
  mc v8
    (lp (aBin .add [] x3 (.int .i64 8)) fun v10 =>
  rec [x0, v10])
    (ret x3)
noncomputable def ref05_shift (call : Nat → List AV → M AV) (n : Nat) (a0 : AV) : M AV :=
  loopN (fun r l => ref05_shift_l0 call n r (l.getD 0 .undef) (l.getD 1 .undef)) n [a0, (.int .i64 0)]
theorem ref05_shift_eq {ext : Ext} (h : ext fn_ref05_shift = none) (n : Nat) (a0 : AV) : fcall Tryd.prog ext (n + 1) fn_ref05_shift [a0] = ref05_shift (fcall Tryd.prog ext n) n a0 := by
  unfold fcall; rw [h]; kernel_rfl

/-! splicer/sym.parted -/
noncomputable def sym_parted_l0 (call : Nat → List AV → M AV) (n : Nat) (rec : List AV → M AV) (x0 x4 : AV) : M AV :=
  lp (aBin .sub [] x0 (.int .i64 1)) fun v6 =>
  lp (aBin .shr [] v6 x4) fun v8 =>
  lp (aBin .geq [] v8 (.int .i64 4096)) fun v9 =>
  mc v9
    (lp (aBin .add [] x4 (.int .i64 8)) fun v11 =>
  rec [x0, v11])
    (lp (aBin .sub [] x0 (.int .i64 1)) fun v14 =>
lp (aBin .shr [] v14 x4) fun v16 =>
lp (aBin .add [] v16 (.int .i64 1)) fun v17 =>
ret (.tup [x4, v17]))
noncomputable def sym_parted (call : Nat → List AV → M AV) (n : Nat) (a0 : AV) : M AV :=
  loopN (fun r l => sym_parted_l0 call n r (l.getD 0 .undef) (l.getD 1 .undef)) n [a0, (.int .i64 0)]
theorem sym_parted_eq {ext : Ext} (h : ext fn_sym_parted = none) (n : Nat) (a0 : AV) : fcall Tryd.prog ext (n + 1) fn_sym_parted [a0] = sym_parted (fcall Tryd.prog ext n) n a0 := by
  unfold fcall; rw [h]; kernel_rfl

/-! (*splicer/splicerref04.Decoder).Take -/
noncomputable def ref04_Decoder_Take_l0 (call : Nat → List AV → M AV) (n : Nat) (rec : List AV → M AV) (x0_2 : AV) : M AV :=
  lp (aNil x0_2) fun v66 =>
  lp (aOff 3 v66) fun v67 =>
  bnd (load none v67) fun v68 =>
  lp (aBin .lss [] v68 (.int .i64 16777216)) fun v69 =>
  mc v69
    (lp (aNil x0_2) fun v72 =>
  lp (aOff 2 v72) fun v73 =>
  bnd (load none v73) fun v74 =>
  lp (aBin .mul [] v74 (.int .i64 256)) fun v75 =>
  snap fun _ =>
  bnd (call fn_ref04_Decoder_next [x0_2]) fun v77 =>
  snap fun m_3 =>
  same none v73 v74 m_3 <|
  lp (aBin .add [] v75 v77) fun v78 =>
  lp (aNil x0_2) fun v79 =>
  lp (aOff 2 v79) fun v80 =>
  snap fun _ =>
  bnd (store none v80 v78) fun u_4 =>
  snap fun _ =>
  lp (aNil x0_2) fun v83 =>
  lp (aOff 3 v83) fun v84 =>
  bnd (load none v84) fun v85 =>
  lp (aBin .mul [] v85 (.int .i64 256)) fun v86 =>
  lp (aNil x0_2) fun v87 =>
  lp (aOff 3 v87) fun v88 =>
  bnd (store none v88 v86) fun u_5 =>
  rec [x0_2])
    (ret (.tup []))
noncomputable def ref04_Decoder_Take_j1 (call : Nat → List AV → M AV) (n : Nat) (x0_1 : AV) : M AV :=
  loopN (fun r l => ref04_Decoder_Take_l0 call n r (l.getD 0 .undef)) n [x0_1]
noncomputable def ref04_Decoder_Take_j0 (call : Nat → List AV → M AV) (n : Nat) (x0 : AV) : M AV :=
  lp (aNil x0) fun v58 =>
  lp (aOff 2 v58) fun v59 =>
  bnd (load none v59) fun v60 =>
  lp (aBin .lss [] v60 (.int .i64 0)) fun v61 =>
  mc v61
    (lp (aNil x0) fun v63 =>
    lp (aOff 2 v63) fun v64 =>
    bnd (store none v64 (.int .i64 0)) fun u_3 =>
    ref04_Decoder_Take_j1 call n x0)
    (ref04_Decoder_Take_j1 call n x0)
noncomputable def ref04_Decoder_Take (call : Nat → List AV → M AV) (n : Nat) (a0 a1 a2 a3 : AV) : M AV :=
  bnd (call fn_ref04_Right [a1, a2, a3]) fun v11 =>
  lp (aUn .not v11) fun v12 =>
  mc v12
    (ret (.tup []))
    (lp (aNil a0) fun v15 =>
  lp (aOff 2 v15) fun v16 =>
  bnd (load none v16) fun v17 =>
  lp (aNil a0) fun v19 =>
  lp (aOff 3 v19) fun v20 =>
  bnd (load none v20) fun v21 =>
  lp (aBin .quo [] v21 a3) fun v23 =>
  lp (aBin .mul [] v23 a1) fun v25 =>
  lp (aBin .sub [] v17 v25) fun v26 =>
  lp (aNil a0) fun v27 =>
  lp (aOff 2 v27) fun v28 =>
  snap fun _ =>
  bnd (store none v28 v26) fun u =>
  snap fun _ =>
  lp (aNil a0) fun v31 =>
  lp (aOff 3 v31) fun v32 =>
  bnd (load none v32) fun v33 =>
  bnd (call fn_ref04_narrow [v33, a1, a2, a3]) fun v37 =>
  lp (aNil a0) fun v38 =>
  lp (aOff 3 v38) fun v39 =>
  bnd (store none v39 v37) fun u_1 =>
  lp (aNil a0) fun v41 =>
  lp (aOff 2 v41) fun v42 =>
  bnd (load none v42) fun v43 =>
  lp (aNil a0) fun v45 =>
  lp (aOff 3 v45) fun v46 =>
  bnd (load none v46) fun v47 =>
  lp (aBin .geq [] v43 v47) fun v48 =>
  mc v48
    (lp (aNil a0) fun v51 =>
    lp (aOff 3 v51) fun v52 =>
    bnd (load none v52) fun v53 =>
    lp (aBin .sub [] v53 (.int .i64 1)) fun v54 =>
    lp (aNil a0) fun v55 =>
    lp (aOff 2 v55) fun v56 =>
    bnd (store none v56 v54) fun u_2 =>
    ref04_Decoder_Take_j0 call n a0)
    (ref04_Decoder_Take_j0 call n a0))
theorem ref04_Decoder_Take_eq {ext : Ext} (h : ext fn_ref04_Decoder_Take = none) (n : Nat) (a0 a1 a2 a3 : AV) : fcall Tryd.prog ext (n + 1) fn_ref04_Decoder_Take [a0, a1, a2, a3] = ref04_Decoder_Take (fcall Tryd.prog ext n) n a0 a1 a2 a3 := by
  unfold fcall; rw [h]; kernel_rfl

/-! splicer/sym.get -/
noncomputable def sym_get (call : Nat → List AV → M AV) (n : Nat) (a0 a1 : AV) : M AV :=
  bnd (call fn_rc_Decoder_Place [a0, a1]) fun v8 =>
  lp (aBin .add [] v8 (.int .i64 1)) fun v12 =>
  bnd (call fn_rc_Decoder_Take [a0, v8, v12, a1]) fun v14 =>
  ret v8
theorem sym_get_eq {ext : Ext} (h : ext fn_sym_get = none) (n : Nat) (a0 a1 : AV) : fcall Tryd.prog ext (n + 1) fn_sym_get [a0, a1] = sym_get (fcall Tryd.prog ext n) n a0 a1 := by
  unfold fcall; rw [h]; kernel_rfl

/-! (*splicer/splicerref04.Decoder).next -/
noncomputable def ref04_Decoder_next (call : Nat → List AV → M AV) (n : Nat) (a0 : AV) : M AV :=
  lp (aNil a0) fun v5 =>
  lp (aOff 1 v5) fun v6 =>
  bnd (load none v6) fun v7 =>
  lp (aBin .add [] v7 (.int .i64 1)) fun v8 =>
  lp (aNil a0) fun v9 =>
  lp (aOff 1 v9) fun v10 =>
  bnd (store none v10 v8) fun u =>
  lp (aNil a0) fun v12 =>
  lp (aOff 1 v12) fun v13 =>
  bnd (load none v13) fun v14 =>
  lp (aNil a0) fun v16 =>
  lp (aOff 0 v16) fun v17 =>
  bnd (load none v17) fun v18 =>
  lp (aLenStr v18) fun v19 =>
  lp (aBin .gtr [] v14 v19) fun v20 =>
  mc v20
    (ret (.int .i64 0))
    (lp (aNil a0) fun v22 =>
  lp (aOff 0 v22) fun v23 =>
  bnd (load none v23) fun v24 =>
  lp (aNil a0) fun v26 =>
  lp (aOff 1 v26) fun v27 =>
  bnd (load none v27) fun v28 =>
  lp (aBin .sub [] v28 (.int .i64 1)) fun v29 =>
  lp (aIdxStr v24 v29) fun v30 =>
  lp (aInt .i64 v30) fun v31 =>
  ret v31)
theorem ref04_Decoder_next_eq {ext : Ext} (h : ext fn_ref04_Decoder_next = none) (n : Nat) (a0 : AV) : fcall Tryd.prog ext (n + 1) fn_ref04_Decoder_next [a0] = ref04_Decoder_next (fcall Tryd.prog ext n) n a0 := by
  unfold fcall; rw [h]; kernel_rfl

/-! (*splicer/rc.Decoder).next -/
noncomputable def rc_Decoder_next (call : Nat → List AV → M AV) (n : Nat) (a0 : AV) : M AV :=
  lp (aNil a0) fun v5 =>
  lp (aOff 2 v5) fun v6 =>
  bnd (load none v6) fun v7 =>
  lp (aBin .eql [7] v7 (.str .empty)) fun v8 =>
  mc v8
    (ret (.int .u64 0))
    (lp (aNil a0) fun v10 =>
  lp (aOff 2 v10) fun v11 =>
  bnd (load none v11) fun v12 =>
  lp (aIdxStr v12 (.int .i64 0)) fun v13 =>
  lp (aNil a0) fun v16 =>
  lp (aOff 2 v16) fun v17 =>
  bnd (load none v17) fun v18 =>
  lp (aSliceStr v18 (some (.int .i64 1)) none) fun v19 =>
  lp (aNil a0) fun v20 =>
  lp (aOff 2 v20) fun v21 =>
  bnd (store none v21 v19) fun u =>
  lp (aInt .u64 v13) fun v23 =>
  ret v23)
theorem rc_Decoder_next_eq {ext : Ext} (h : ext fn_rc_Decoder_next = none) (n : Nat) (a0 : AV) : fcall Tryd.prog ext (n + 1) fn_rc_Decoder_next [a0] = rc_Decoder_next (fcall Tryd.prog ext n) n a0 := by
  unfold fcall; rw [h]; kernel_rfl

/-! strings.TrimRight -/
noncomputable def strings_TrimRight_j1 (call : Nat → List AV → M AV) (n : Nat) (x0_1 x1_1 x21 : AV) : M AV :=
  mc x21
    (lp (aIdxStr x1_1 (.int .i64 0)) fun v24 =>
    bnd (call fn_strings_trimRightByte [x0_1, v24]) fun v25 =>
    ret v25)
    (bnd (call fn_strings_makeASCIISet [x1_1]) fun v28 =>
lp (aExt 0 v28) fun v29 =>
lp (aExt 1 v28) fun v30 =>
bnd (alloc T_strings_asciiSet [.bool false, .bool false, .bool false, .bool false, .bool false, .bool false, .bool false, .bool false, .bool false, .bool false, .bool false, .bool false, .bool false, .bool false, .bool false, .bool false, .bool false, .bool false, .bool false, .bool false, .bool false, .bool false, .bool false, .bool false, .bool false, .bool false, .bool false, .bool false, .bool false, .bool false, .bool false, .bool false, .bool false, .bool false, .bool false, .bool false, .bool false, .bool false, .bool false, .bool false, .bool false, .bool false, .bool false, .bool false, .bool false, .bool false, .bool false, .bool false, .bool false, .bool false, .bool false, .bool false, .bool false, .bool false, .bool false, .bool false, .bool false, .bool false, .bool false, .bool false, .bool false, .bool false, .bool false, .bool false, .bool false, .bool false, .bool false, .bool false, .bool false, .bool false, .bool false, .bool false, .bool false, .bool false, .bool false, .bool false, .bool false, .bool false, .bool false, .bool false, .bool false, .bool false, .bool false, .bool false, .bool false, .bool false, .bool false, .bool false, .bool false, .bool false, .bool false, .bool false, .bool false, .bool false, .bool false, .bool false, .bool false, .bool false, .bool false, .bool false, .bool false, .bool false, .bool false, .bool false, .bool false, .bool false, .bool false, .bool false, .bool false, .bool false, .bool false, .bool false, .bool false, .bool false, .bool false, .bool false, .bool false, .bool false, .bool false, .bool false, .bool false, .bool false, .bool false, .bool false, .bool false, .bool false, .bool false, .bool false, .bool false, .bool false, .bool false, .bool false, .bool false, .bool false, .bool false, .bool false, .bool false, .bool false, .bool false, .bool false, .bool false, .bool false, .bool false, .bool false, .bool false, .bool false, .bool false, .bool false, .bool false, .bool false, .bool false, .bool false, .bool false, .bool false, .bool false, .bool false, .bool false, .bool false, .bool false, .bool false, .bool false, .bool false, .bool false, .bool false, .bool false, .bool false, .bool false, .bool false, .bool false, .bool false, .bool false, .bool false, .bool false, .bool false, .bool false, .bool false, .bool false, .bool false, .bool false, .bool false, .bool false, .bool false, .bool false, .bool false, .bool false, .bool false, .bool false, .bool false, .bool false, .bool false, .bool false, .bool false, .bool false, .bool false, .bool false, .bool false, .bool false, .bool false, .bool false, .bool false, .bool false, .bool false, .bool false, .bool false, .bool false, .bool false, .bool false, .bool false, .bool false, .bool false, .bool false, .bool false, .bool false, .bool false, .bool false, .bool false, .bool false, .bool false, .bool false, .bool false, .bool false, .bool false, .bool false, .bool false, .bool false, .bool false, .bool false, .bool false, .bool false, .bool false, .bool false, .bool false, .bool false, .bool false, .bool false, .bool false, .bool false, .bool false, .bool false, .bool false, .bool false, .bool false, .bool false, .bool false, .bool false, .bool false, .bool false, .bool false, .bool false, .bool false, .bool false, .bool false, .bool false, .bool false, .bool false, .bool false]) fun v5 =>
bnd (store (some 256) v5 v29) fun u =>
mc v30
  (bnd (call fn_strings_trimRightASCII [x0_1, v5]) fun v33 =>
  ret v33)
  (bnd (call fn_strings_trimRightUnicode [x0_1, x1_1]) fun v36 =>
ret v36))
noncomputable def strings_TrimRight_j0 (call : Nat → List AV → M AV) (n : Nat) (x0 x1 x12 : AV) : M AV :=
  mc x12
    (ret x0)
    (lp (aLenStr x1) fun v15 =>
lp (aBin .eql [6] v15 (.int .i64 1)) fun v16 =>
mc v16
  (lp (aIdxStr x1 (.int .i64 0)) fun v19 =>
  lp (aBin .lss [] v19 (.int .u8 128)) fun v20 =>
  strings_TrimRight_j1 call n x0 x1 v20)
  (strings_TrimRight_j1 call n x0 x1 (.bool false)))
noncomputable def strings_TrimRight (call : Nat → List AV → M AV) (n : Nat) (a0 a1 : AV) : M AV :=
  lp (aBin .eql [7] a0 (.str .empty)) fun v8 =>
  mc v8
    (strings_TrimRight_j0 call n a0 a1 (.bool true))
    (lp (aBin .eql [7] a1 (.str .empty)) fun v11 =>
    strings_TrimRight_j0 call n a0 a1 v11)
theorem strings_TrimRight_eq {ext : Ext} (h : ext fn_strings_TrimRight = none) (n : Nat) (a0 a1 : AV) : fcall Tryd.prog ext (n + 1) fn_strings_TrimRight [a0, a1] = strings_TrimRight (fcall Tryd.prog ext n) n a0 a1 := by
  unfold fcall; rw [h]; kernel_rfl

/-! (*strings.Builder).WriteByte -/
noncomputable def strings_Builder_WriteByte (call : Nat → List AV → M AV) (n : Nat) (a0 a1 : AV) : M AV :=
  bnd (call fn_strings_Builder_copyCheck [a0]) fun v6 =>
  lp (aNil a0) fun v9 =>
  lp (aOff 1 v9) fun v10 =>
  bnd (load none v10) fun v11 =>
  lp (aFill (fun i => some (i * 1, 1)) [.int .u8 0] [(0, a1)]) fun cs =>
  bnd (allocS T_uint8 1 1 cs) fun v13 =>
  bnd (append T_uint8 1 1 v11 v13) fun v14 =>
  lp (aNil a0) fun v15 =>
  lp (aOff 1 v15) fun v16 =>
  bnd (store none v16 v14) fun u =>
  ret .nilface
theorem strings_Builder_WriteByte_eq {ext : Ext} (h : ext fn_strings_Builder_WriteByte = none) (n : Nat) (a0 a1 : AV) : fcall Tryd.prog ext (n + 1) fn_strings_Builder_WriteByte [a0, a1] = strings_Builder_WriteByte (fcall Tryd.prog ext n) n a0 a1 := by
  unfold fcall; rw [h]; kernel_rfl

/-! (*strings.Builder).String -/
noncomputable def strings_Builder_String (call : Nat → List AV → M AV) (n : Nat) (a0 : AV) : M AV :=
  lp (aNil a0) fun v4 =>
  lp (aOff 1 v4) fun v5 =>
  bnd (load none v5) fun v6 =>
  snap fun m =>
  bnd (sliceData v6) fun v7 =>
  snap fun _ =>
  lp (aNil a0) fun v9 =>
  lp (aOff 1 v9) fun v10 =>
  bnd (load none v10) fun v11 =>
  same none v10 v11 m <|
  lp (aLenS v11) fun v12 =>
  snap fun _ =>
  bnd (unsafeStr T_uint8 v7 v12) fun v13 =>
  snap fun _ =>
  ret v13
theorem strings_Builder_String_eq {ext : Ext} (h : ext fn_strings_Builder_String = none) (n : Nat) (a0 : AV) : fcall Tryd.prog ext (n + 1) fn_strings_Builder_String [a0] = strings_Builder_String (fcall Tryd.prog ext n) n a0 := by
  unfold fcall; rw [h]; kernel_rfl

/-! (*strings.Builder).WriteString -/
noncomputable def strings_Builder_WriteString (call : Nat → List AV → M AV) (n : Nat) (a0 a1 : AV) : M AV :=
  bnd (call fn_strings_Builder_copyCheck [a0]) fun v7 =>
  lp (aNil a0) fun v10 =>
  lp (aOff 1 v10) fun v11 =>
  bnd (load none v11) fun v12 =>
  bnd (append T_uint8 1 1 v12 a1) fun v14 =>
  lp (aNil a0) fun v15 =>
  lp (aOff 1 v15) fun v16 =>
  bnd (store none v16 v14) fun u =>
  lp (aLenStr a1) fun v18 =>
  ret (.tup [v18, .nilface])
theorem strings_Builder_WriteString_eq {ext : Ext} (h : ext fn_strings_Builder_WriteString = none) (n : Nat) (a0 a1 : AV) : fcall Tryd.prog ext (n + 1) fn_strings_Builder_WriteString [a0, a1] = strings_Builder_WriteString (fcall Tryd.prog ext n) n a0 a1 := by
  unfold fcall; rw [h]; kernel_rfl

/-! splicer/splicerref05.PutDelta -/
noncomputable def ref05_PutDelta_j2 (call : Nat → List AV → M AV) (n : Nat) (x4_1 : AV) : M AV :=
  ret x4_1
noncomputable def ref05_PutDelta_j1 (call : Nat → List AV → M AV) (n : Nat) (x4 : AV) : M AV :=
  ret x4
noncomputable def ref05_PutDelta_j0 (call : Nat → List AV → M AV) (n : Nat) (x0 x1 x12 : AV) : M AV :=
  mc x12
    (ret (.bool false))
    (bnd (call fn_ref05_small [x1]) fun v15 =>
lp (aExt 0 v15) fun v16 =>
lp (aExt 1 v15) fun v17 =>
bnd (call fn_ref04_Coder_Code [x0, v16, v17, (.int .i64 64)]) fun v21 =>
lp (aBin .lss [] v16 (.int .i64 56)) fun v23 =>
mc v23
  (ret (.bool true))
  (lp (aBin .gtr [] x1 (.int .i64 0)) fun v25 =>
mc v25
  (bnd (call fn_ref05_PutBits [x0, (.int .i64 1), (.int .i64 1)]) fun v27 =>
  mc v27
    (lp (aBin .sub [] x1 (.int .i64 4)) fun v31 =>
    bnd (call fn_ref05_PutBelow [x0, v31, (.int .i64 64)]) fun v32 =>
    ref05_PutDelta_j1 call n v32)
    (ref05_PutDelta_j1 call n (.bool false)))
  (bnd (call fn_ref05_PutBits [x0, (.int .i64 0), (.int .i64 1)]) fun v35 =>
mc v35
  (lp (aUn .neg x1) fun v39 =>
  lp (aBin .sub [] v39 (.int .i64 4)) fun v40 =>
  bnd (call fn_ref05_PutBelow [x0, v40, (.int .i64 64)]) fun v41 =>
  ref05_PutDelta_j2 call n v41)
  (ref05_PutDelta_j2 call n (.bool false)))))
noncomputable def ref05_PutDelta (call : Nat → List AV → M AV) (n : Nat) (a0 a1 : AV) : M AV :=
  lp (aBin .lss [] a1 (.int .i64 (-67))) fun v8 =>
  mc v8
    (ref05_PutDelta_j0 call n a0 a1 (.bool true))
    (lp (aBin .gtr [] a1 (.int .i64 67)) fun v11 =>
    ref05_PutDelta_j0 call n a0 a1 v11)
theorem ref05_PutDelta_eq {ext : Ext} (h : ext fn_ref05_PutDelta = none) (n : Nat) (a0 a1 : AV) : fcall Tryd.prog ext (n + 1) fn_ref05_PutDelta [a0, a1] = ref05_PutDelta (fcall Tryd.prog ext n) n a0 a1 := by
  unfold fcall; rw [h]; kernel_rfl

/-! splicer/splicerref05.PutBelow -/
noncomputable def ref05_PutBelow_j0 (call : Nat → List AV → M AV) (n : Nat) (x0 x1 x2 x22 : AV) : M AV :=
  mc x22
    (ret (.bool false))
    (bnd (call fn_ref05_shift [x2]) fun v24 =>
lp (aBin .shr [] x1 v24) fun v28 =>
lp (aBin .shr [] x1 v24) fun v31 =>
lp (aBin .add [] v31 (.int .i64 1)) fun v32 =>
lp (aBin .sub [] x2 (.int .i64 1)) fun v34 =>
lp (aBin .shr [] v34 v24) fun v36 =>
lp (aBin .add [] v36 (.int .i64 1)) fun v37 =>
snap fun _ =>
bnd (call fn_ref04_Coder_Code [x0, v28, v32, v37]) fun v38 =>
snap fun _ =>
lp (aBin .shl [] (.int .i64 1) v24) fun v42 =>
lp (aBin .rem [] x1 v42) fun v43 =>
bnd (call fn_ref05_PutBits [x0, v43, v24]) fun v45 =>
ret v45)
noncomputable def ref05_PutBelow (call : Nat → List AV → M AV) (n : Nat) (a0 a1 a2 : AV) : M AV :=
  lp (aBin .lss [] a2 (.int .i64 1)) fun v9 =>
  mc v9
    (ref05_PutBelow_j0 call n a0 a1 a2 (.bool true))
    (lp (aBin .gtr [] a2 (.int .i64 2147483648)) fun v12 =>
    mc v12
      (ref05_PutBelow_j0 call n a0 a1 a2 (.bool true))
      (lp (aBin .lss [] a1 (.int .i64 0)) fun v16 =>
      mc v16
        (ref05_PutBelow_j0 call n a0 a1 a2 (.bool true))
        (lp (aBin .geq [] a1 a2) fun v21 =>
        ref05_PutBelow_j0 call n a0 a1 a2 v21)))
theorem ref05_PutBelow_eq {ext : Ext} (h : ext fn_ref05_PutBelow = none) (n : Nat) (a0 a1 a2 : AV) : fcall Tryd.prog ext (n + 1) fn_ref05_PutBelow [a0, a1, a2] = ref05_PutBelow (fcall Tryd.prog ext n) n a0 a1 a2 := by
  unfold fcall; rw [h]; kernel_rfl

/-! splicer/splicerref05.PutBits -/
noncomputable def ref05_PutBits_j1 (call : Nat → List AV → M AV) (n : Nat) : M AV :=
  ret (.bool true)
noncomputable def ref05_PutBits_l0 (call : Nat → List AV → M AV) (n : Nat) (rec : List AV → M AV) (x0_1 x1_1 x7 : AV) : M AV :=
  lp (aBin .gtr [] x7 (.int .i64 8)) fun v28 =>
  mc v28
    (lp (aBin .sub [] x7 (.int .i64 8)) fun v30 =>
  lp (aBin .shr [] x1_1 v30) fun v33 =>
  lp (aBin .and [] v33 (.int .i64 255)) fun v34 =>
  lp (aBin .add [] v34 (.int .i64 1)) fun v38 =>
  bnd (call fn_ref04_Coder_Code [x0_1, v34, v38, (.int .i64 256)]) fun v39 =>
  rec [x0_1, x1_1, v30])
    (lp (aBin .gtr [] x7 (.int .i64 0)) fun v41 =>
mc v41
  (lp (aBin .shl [] (.int .i64 1) x7) fun v44 =>
  lp (aBin .rem [] x1_1 v44) fun v45 =>
  lp (aBin .add [] v45 (.int .i64 1)) fun v49 =>
  lp (aBin .shl [] (.int .i64 1) x7) fun v51 =>
  bnd (call fn_ref04_Coder_Code [x0_1, v45, v49, v51]) fun v52 =>
  ref05_PutBits_j1 call n)
  (ref05_PutBits_j1 call n))
noncomputable def ref05_PutBits_j0 (call : Nat → List AV → M AV) (n : Nat) (x0 x1 x2 x25 : AV) : M AV :=
  mc x25
    (ret (.bool false))
    (loopN (fun r l => ref05_PutBits_l0 call n r (l.getD 0 .undef) (l.getD 1 .undef) (l.getD 2 .undef)) n [x0, x1, x2])
noncomputable def ref05_PutBits (call : Nat → List AV → M AV) (n : Nat) (a0 a1 a2 : AV) : M AV :=
  lp (aBin .lss [] a2 (.int .i64 0)) fun v11 =>
  mc v11
    (ref05_PutBits_j0 call n a0 a1 a2 (.bool true))
    (lp (aBin .gtr [] a2 (.int .i64 31)) fun v14 =>
    mc v14
      (ref05_PutBits_j0 call n a0 a1 a2 (.bool true))
      (lp (aBin .lss [] a1 (.int .i64 0)) fun v18 =>
      mc v18
        (ref05_PutBits_j0 call n a0 a1 a2 (.bool true))
        (lp (aBin .shl [] (.int .i64 1) a2) fun v23 =>
        lp (aBin .geq [] a1 v23) fun v24 =>
        ref05_PutBits_j0 call n a0 a1 a2 v24)))
theorem ref05_PutBits_eq {ext : Ext} (h : ext fn_ref05_PutBits = none) (n : Nat) (a0 a1 a2 : AV) : fcall Tryd.prog ext (n + 1) fn_ref05_PutBits [a0, a1, a2] = ref05_PutBits (fcall Tryd.prog ext n) n a0 a1 a2 := by
  unfold fcall; rw [h]; kernel_rfl

/-! splicer/sym.PutBits -/
noncomputable def sym_PutBits_j1 (call : Nat → List AV → M AV) (n : Nat) : M AV :=
  ret (.bool true)
noncomputable def sym_PutBits_l0 (call : Nat → List AV → M AV) (n : Nat) (rec : List AV → M AV) (x0_1 x1_1 x2_1 : AV) : M AV :=
  lp (aBin .gtr [] x2_1 (.int .i64 8)) fun v24 =>
  mc v24
    (lp (aBin .sub [] x2_1 (.int .i64 8)) fun v30 =>
  lp (aBin .shr [] x1_1 v30) fun v31 =>
  lp (aBin .and [] v31 (.int .i64 255)) fun v32 =>
  bnd (call fn_sym_put [x0_1, v32, (.int .i64 256)]) fun v33 =>
  lp (aBin .sub [] x2_1 (.int .i64 8)) fun v26 =>
  rec [x0_1, x1_1, v26])
    (lp (aBin .gtr [] x2_1 (.int .i64 0)) fun v35 =>
mc v35
  (lp (aBin .shl [] (.int .i64 1) x2_1) fun v39 =>
  lp (aBin .sub [] v39 (.int .i64 1)) fun v40 =>
  lp (aBin .and [] x1_1 v40) fun v41 =>
  lp (aBin .shl [] (.int .i64 1) x2_1) fun v43 =>
  snap fun _ =>
  bnd (call fn_sym_put [x0_1, v41, v43]) fun v44 =>
  snap fun _ =>
  sym_PutBits_j1 call n)
  (sym_PutBits_j1 call n))
noncomputable def sym_PutBits_j0 (call : Nat → List AV → M AV) (n : Nat) (x0 x1 x2 x22 : AV) : M AV :=
  mc x22
    (ret (.bool false))
    (loopN (fun r l => sym_PutBits_l0 call n r (l.getD 0 .undef) (l.getD 1 .undef) (l.getD 2 .undef)) n [x0, x1, x2])
noncomputable def sym_PutBits (call : Nat → List AV → M AV) (n : Nat) (a0 a1 a2 : AV) : M AV :=
  lp (aBin .lss [] a2 (.int .i64 0)) fun v8 =>
  mc v8
    (sym_PutBits_j0 call n a0 a1 a2 (.bool true))
    (lp (aBin .gtr [] a2 (.int .i64 31)) fun v11 =>
    mc v11
      (sym_PutBits_j0 call n a0 a1 a2 (.bool true))
      (lp (aBin .lss [] a1 (.int .i64 0)) fun v15 =>
      mc v15
        (sym_PutBits_j0 call n a0 a1 a2 (.bool true))
        (lp (aBin .shr [] a1 a2) fun v20 =>
        lp (aBin .gtr [] v20 (.int .i64 0)) fun v21 =>
        sym_PutBits_j0 call n a0 a1 a2 v21)))
theorem sym_PutBits_eq {ext : Ext} (h : ext fn_sym_PutBits = none) (n : Nat) (a0 a1 a2 : AV) : fcall Tryd.prog ext (n + 1) fn_sym_PutBits [a0, a1, a2] = sym_PutBits (fcall Tryd.prog ext n) n a0 a1 a2 := by
  unfold fcall; rw [h]; kernel_rfl

/-! splicer/sym.PutBelow -/
noncomputable def sym_PutBelow_j0 (call : Nat → List AV → M AV) (n : Nat) (x0 x1 x2 x23 : AV) : M AV :=
  mc x23
    (ret (.bool false))
    (bnd (call fn_sym_parted [x2]) fun v26 =>
lp (aExt 0 v26) fun v27 =>
lp (aExt 1 v26) fun v28 =>
lp (aBin .shr [] x1 v27) fun v32 =>
bnd (call fn_sym_put [x0, v32, v28]) fun v34 =>
lp (aBin .shl [] (.int .i64 1) v27) fun v38 =>
lp (aBin .sub [] v38 (.int .i64 1)) fun v39 =>
lp (aBin .and [] x1 v39) fun v40 =>
bnd (call fn_sym_PutBits [x0, v40, v27]) fun v42 =>
ret v42)
noncomputable def sym_PutBelow (call : Nat → List AV → M AV) (n : Nat) (a0 a1 a2 : AV) : M AV :=
  lp (aBin .lss [] a2 (.int .i64 1)) fun v10 =>
  mc v10
    (sym_PutBelow_j0 call n a0 a1 a2 (.bool true))
    (lp (aBin .gtr [] a2 (.int .i64 2147483648)) fun v13 =>
    mc v13
      (sym_PutBelow_j0 call n a0 a1 a2 (.bool true))
      (lp (aBin .lss [] a1 (.int .i64 0)) fun v17 =>
      mc v17
        (sym_PutBelow_j0 call n a0 a1 a2 (.bool true))
        (lp (aBin .geq [] a1 a2) fun v22 =>
        sym_PutBelow_j0 call n a0 a1 a2 v22)))
theorem sym_PutBelow_eq {ext : Ext} (h : ext fn_sym_PutBelow = none) (n : Nat) (a0 a1 a2 : AV) : fcall Tryd.prog ext (n + 1) fn_sym_PutBelow [a0, a1, a2] = sym_PutBelow (fcall Tryd.prog ext n) n a0 a1 a2 := by
  unfold fcall; rw [h]; kernel_rfl

/-! splicer/sym.PutDelta -/
noncomputable def sym_PutDelta_j2 (call : Nat → List AV → M AV) (n : Nat) (x4_1 : AV) : M AV :=
  ret x4_1
noncomputable def sym_PutDelta_j1 (call : Nat → List AV → M AV) (n : Nat) (x4 : AV) : M AV :=
  ret x4
noncomputable def sym_PutDelta_j0 (call : Nat → List AV → M AV) (n : Nat) (x0 x1 x12 : AV) : M AV :=
  mc x12
    (ret (.bool false))
    (bnd (call fn_sym_ends []) fun v13 =>
bnd (call fn_sym_rank [x1]) fun v15 =>
bnd (alloc T_8_int [.int .i64 0, .int .i64 0, .int .i64 0, .int .i64 0, .int .i64 0, .int .i64 0, .int .i64 0, .int .i64 0]) fun v5 =>
bnd (store (some 8) v5 v13) fun u =>
bnd (load (some 8) v5) fun v17 =>
snap fun m =>
bnd (call fn_sym_begins [v17, v15]) fun v19 =>
snap fun _ =>
lp (aIdxA 8 1 v5 v15) fun v21 =>
bnd (load none v21) fun v22 =>
same none v21 v22 m <|
snap fun _ =>
bnd (call fn_rc_Coder_Code [x0, v19, v22, (.int .i64 64)]) fun v23 =>
snap fun _ =>
lp (aBin .leq [] v15 (.int .i64 6)) fun v26 =>
mc v26
  (ret (.bool true))
  (lp (aBin .gtr [] x1 (.int .i64 0)) fun v29 =>
  mc v29
    (bnd (call fn_sym_PutBits [x0, (.int .i64 1), (.int .i64 1)]) fun v31 =>
    mc v31
      (lp (aBin .sub [] x1 (.int .i64 3)) fun v35 =>
      lp (aBin .sub [] v35 (.int .i64 1)) fun v36 =>
      bnd (call fn_sym_PutBelow [x0, v36, (.int .i64 64)]) fun v37 =>
      sym_PutDelta_j1 call n v37)
      (sym_PutDelta_j1 call n (.bool false)))
    (bnd (call fn_sym_PutBits [x0, (.int .i64 0), (.int .i64 1)]) fun v40 =>
mc v40
  (lp (aUn .neg x1) fun v44 =>
  lp (aBin .sub [] v44 (.int .i64 3)) fun v45 =>
  lp (aBin .sub [] v45 (.int .i64 1)) fun v46 =>
  bnd (call fn_sym_PutBelow [x0, v46, (.int .i64 64)]) fun v47 =>
  sym_PutDelta_j2 call n v47)
  (sym_PutDelta_j2 call n (.bool false)))))
noncomputable def sym_PutDelta (call : Nat → List AV → M AV) (n : Nat) (a0 a1 : AV) : M AV :=
  lp (aBin .leq [] a1 (.int .i64 (-68))) fun v8 =>
  mc v8
    (sym_PutDelta_j0 call n a0 a1 (.bool true))
    (lp (aBin .geq [] a1 (.int .i64 68)) fun v11 =>
    sym_PutDelta_j0 call n a0 a1 v11)
theorem sym_PutDelta_eq {ext : Ext} (h : ext fn_sym_PutDelta = none) (n : Nat) (a0 a1 : AV) : fcall Tryd.prog ext (n + 1) fn_sym_PutDelta [a0, a1] = sym_PutDelta (fcall Tryd.prog ext n) n a0 a1 := by
  unfold fcall; rw [h]; kernel_rfl

/-! (*splicer/splicerref04.Decoder).Place -/
noncomputable def ref04_Decoder_Place_j0 (call : Nat → List AV → M AV) (n : Nat) (x0 x1 x10 : AV) : M AV :=
  mc x10
    (ret (.int .i64 0))
    (lp (aBin .sub [] x1 (.int .i64 1)) fun v12 =>
lp (aNil x0) fun v14 =>
lp (aOff 2 v14) fun v15 =>
bnd (load none v15) fun v16 =>
lp (aNil x0) fun v18 =>
lp (aOff 3 v18) fun v19 =>
bnd (load none v19) fun v20 =>
lp (aBin .quo [] v20 x1) fun v22 =>
lp (aBin .quo [] v16 v22) fun v23 =>
lp (aFold aMin2 v12 [v23]) fun v24 =>
ret v24)
noncomputable def ref04_Decoder_Place (call : Nat → List AV → M AV) (n : Nat) (a0 a1 : AV) : M AV :=
  lp (aBin .lss [] a1 (.int .i64 1)) fun v6 =>
  mc v6
    (ref04_Decoder_Place_j0 call n a0 a1 (.bool true))
    (lp (aBin .gtr [] a1 (.int .i64 65536)) fun v9 =>
    ref04_Decoder_Place_j0 call n a0 a1 v9)
theorem ref04_Decoder_Place_eq {ext : Ext} (h : ext fn_ref04_Decoder_Place = none) (n : Nat) (a0 a1 : AV) : fcall Tryd.prog ext (n + 1) fn_ref04_Decoder_Place [a0, a1] = ref04_Decoder_Place (fcall Tryd.prog ext n) n a0 a1 := by
  unfold fcall; rw [h]; kernel_rfl

/-! (*splicer/rc.Decoder).Place -/
noncomputable def rc_Decoder_Place_j0 (call : Nat → List AV → M AV) (n : Nat) (x0 x1 x19 : AV) : M AV :=
  mc x19
    (ret (.int .i64 0))
    (lp (aBin .sub [] x1 (.int .i64 1)) fun v21 =>
lp (aNil x0) fun v23 =>
lp (aOff 3 v23) fun v24 =>
bnd (load none v24) fun v25 =>
lp (aNil x0) fun v27 =>
lp (aOff 0 v27) fun v28 =>
snap fun _ =>
bnd (call fn_rc_narrowed_now [v28]) fun v29 =>
snap fun m_1 =>
same none v24 v25 m_1 <|
lp (aInt .u64 x1) fun v31 =>
lp (aBin .quo [] v29 v31) fun v32 =>
lp (aBin .quo [] v25 v32) fun v33 =>
lp (aInt .i64 v33) fun v34 =>
lp (aFold aMin2 v21 [v34]) fun v35 =>
ret v35)
noncomputable def rc_Decoder_Place (call : Nat → List AV → M AV) (n : Nat) (a0 a1 : AV) : M AV :=
  lp (aBin .eql [3] a0 .nilptr) fun v6 =>
  mc v6
    (rc_Decoder_Place_j0 call n a0 a1 (.bool true))
    (lp (aNil a0) fun v9 =>
    lp (aOff 4 v9) fun v10 =>
    bnd (load none v10) fun v11 =>
    lp (aUn .not v11) fun v12 =>
    mc v12
      (rc_Decoder_Place_j0 call n a0 a1 (.bool true))
      (bnd (call fn_rc_right [(.int .i64 0), a1, a1]) fun v17 =>
      lp (aUn .not v17) fun v18 =>
      rc_Decoder_Place_j0 call n a0 a1 v18))
theorem rc_Decoder_Place_eq {ext : Ext} (h : ext fn_rc_Decoder_Place = none) (n : Nat) (a0 a1 : AV) : fcall Tryd.prog ext (n + 1) fn_rc_Decoder_Place [a0, a1] = rc_Decoder_Place (fcall Tryd.prog ext n) n a0 a1 := by
  unfold fcall; rw [h]; kernel_rfl

/-! splicer/splicerref05.GetDelta -/
noncomputable def ref05_GetDelta_j0 (call : Nat → List AV → M AV) (n : Nat) (rec : List AV → M AV) (x0_1 x3_1 x4_1 x5 x6 x25_1 x26_1 x27_1 x28 : AV) : M AV :=
  mc x28
    (bnd (call fn_ref04_Decoder_Take [x0_1, x5, x6, (.int .i64 64)]) fun v32 =>
    ret x4_1)
    (lp (aBin .add [] x4_1 (.int .i64 1)) fun v15 =>
rec [x0_1, x3_1, v15, x25_1, x26_1, x27_1])
noncomputable def ref05_GetDelta_l0 (call : Nat → List AV → M AV) (n : Nat) (rec : List AV → M AV) (x0 x3 x4 x25 x26 x27 : AV) : M AV :=
  lp (aBin .leq [] x4 (.int .i64 3)) fun v13 =>
  mc v13
    (bnd (call fn_ref05_small [x4]) fun v18 =>
  lp (aExt 0 v18) fun v19 =>
  lp (aExt 1 v18) fun v20 =>
  lp (aBin .geq [] x3 v19) fun v23 =>
  mc v23
    (lp (aBin .lss [] x3 v20) fun v27 =>
    ref05_GetDelta_j0 call n rec x0 x3 x4 v19 v20 x3 v20 v27 v27)
    (ref05_GetDelta_j0 call n rec x0 x3 x4 v19 v20 (.tup []) (.tup []) (.tup []) (.bool false)))
    (bnd (call fn_ref04_Decoder_Take [x0, (.int .i64 56), (.int .i64 64), (.int .i64 64)]) fun v35 =>
bnd (call fn_ref05_GetBits [x0, (.int .i64 1)]) fun v37 =>
bnd (call fn_ref05_GetBelow [x0, (.int .i64 64)]) fun v40 =>
lp (aExt 0 v40) fun v41 =>
lp (aExt 1 v40) fun v42 =>
lp (aBin .eql [6] v37 (.int .i64 1)) fun v44 =>
mc v44
  (lp (aBin .add [] v41 (.int .i64 4)) fun v46 =>
  ret v46)
  (lp (aUn .neg v41) fun v48 =>
lp (aBin .sub [] v48 (.int .i64 4)) fun v49 =>
ret v49))
noncomputable def ref05_GetDelta (call : Nat → List AV → M AV) (n : Nat) (a0 : AV) : M AV :=
  bnd (call fn_ref04_Decoder_Place [a0, (.int .i64 64)]) fun v11 =>
  loopN (fun r l => ref05_GetDelta_l0 call n r (l.getD 0 .undef) (l.getD 1 .undef) (l.getD 2 .undef) (l.getD 3 .undef) (l.getD 4 .undef) (l.getD 5 .undef)) n [a0, v11, (.int .i64 (-3)), .undef, .undef, .undef]
theorem ref05_GetDelta_eq {ext : Ext} (h : ext fn_ref05_GetDelta = none) (n : Nat) (a0 : AV) : fcall Tryd.prog ext (n + 1) fn_ref05_GetDelta [a0] = ref05_GetDelta (fcall Tryd.prog ext n) n a0 := by
  unfold fcall; rw [h]; kernel_rfl

/-! splicer/sym.GetDelta -/
noncomputable def sym_GetDelta_l0 (call : Nat → List AV → M AV) (n : Nat) (rec : List AV → M AV) (x0 x3 x4 x5 : AV) : M AV :=
  lp (aIdxA 8 1 x3 x4) fun v14 =>
  bnd (load none v14) fun v15 =>
  lp (aBin .leq [] v15 x5) fun v17 =>
  mc v17
    (lp (aBin .add [] x4 (.int .i64 1)) fun v19 =>
  rec [x0, x3, v19, x5])
    (bnd (load (some 8) x3) fun v21 =>
snap fun m =>
bnd (call fn_sym_begins [v21, x4]) fun v23 =>
snap fun _ =>
lp (aIdxA 8 1 x3 x4) fun v25 =>
bnd (load none v25) fun v26 =>
same none v25 v26 m <|
snap fun _ =>
bnd (call fn_rc_Decoder_Take [x0, v23, v26, (.int .i64 64)]) fun v27 =>
snap fun _ =>
lp (aBin .leq [] x4 (.int .i64 6)) fun v29 =>
mc v29
  (lp (aBin .add [] x4 (.int .i64 1)) fun v31 =>
  lp (aBin .quo [] v31 (.int .i64 2)) fun v32 =>
  lp (aBin .rem [] x4 (.int .i64 2)) fun v34 =>
  lp (aBin .eql [6] v34 (.int .i64 1)) fun v35 =>
  mc v35
    (lp (aUn .neg v32) fun v37 =>
    ret v37)
    (ret v32))
  (bnd (call fn_sym_GetBits [x0, (.int .i64 1)]) fun v40 =>
lp (aBin .eql [6] v40 (.int .i64 1)) fun v41 =>
bnd (call fn_sym_GetBelow [x0, (.int .i64 64)]) fun v44 =>
lp (aExt 0 v44) fun v45 =>
lp (aExt 1 v44) fun v46 =>
lp (aBin .add [] v45 (.int .i64 4)) fun v48 =>
mc v41
  (ret v48)
  (lp (aUn .neg v48) fun v52 =>
ret v52)))
noncomputable def sym_GetDelta (call : Nat → List AV → M AV) (n : Nat) (a0 : AV) : M AV :=
  bnd (call fn_sym_ends []) fun v10 =>
  bnd (alloc T_8_int [.int .i64 0, .int .i64 0, .int .i64 0, .int .i64 0, .int .i64 0, .int .i64 0, .int .i64 0, .int .i64 0]) fun v3 =>
  bnd (store (some 8) v3 v10) fun u =>
  bnd (call fn_rc_Decoder_Place [a0, (.int .i64 64)]) fun v12 =>
  loopN (fun r l => sym_GetDelta_l0 call n r (l.getD 0 .undef) (l.getD 1 .undef) (l.getD 2 .undef) (l.getD 3 .undef)) n [a0, v3, (.int .i64 0), v12]
theorem sym_GetDelta_eq {ext : Ext} (h : ext fn_sym_GetDelta = none) (n : Nat) (a0 : AV) : fcall Tryd.prog ext (n + 1) fn_sym_GetDelta [a0] = sym_GetDelta (fcall Tryd.prog ext n) n a0 := by
  unfold fcall; rw [h]; kernel_rfl

/-! splicer/splicerref05.GetBelow -/
noncomputable def ref05_GetBelow_j0 (call : Nat → List AV → M AV) (n : Nat) (x0 x1 x15 : AV) : M AV :=
  mc x15
    (ret (.tup [(.int .i64 0), (.bool false)]))
    (bnd (call fn_ref05_shift [x1]) fun v17 =>
lp (aBin .sub [] x1 (.int .i64 1)) fun v19 =>
lp (aBin .shr [] v19 v17) fun v21 =>
lp (aBin .add [] v21 (.int .i64 1)) fun v22 =>
bnd (call fn_ref04_Decoder_Place [x0, v22]) fun v25 =>
lp (aBin .add [] v25 (.int .i64 1)) fun v29 =>
bnd (call fn_ref04_Decoder_Take [x0, v25, v29, v22]) fun v31 =>
lp (aBin .shl [] v25 v17) fun v34 =>
snap fun _ =>
bnd (call fn_ref05_GetBits [x0, v17]) fun v37 =>
snap fun _ =>
lp (aBin .or [] v34 v37) fun v38 =>
lp (aBin .geq [] v38 x1) fun v41 =>
mc v41
  (ret (.tup [(.int .i64 0), (.bool false)]))
  (ret (.tup [v38, (.bool true)])))
noncomputable def ref05_GetBelow (call : Nat → List AV → M AV) (n : Nat) (a0 a1 : AV) : M AV :=
  lp (aBin .lss [] a1 (.int .i64 1)) fun v11 =>
  mc v11
    (ref05_GetBelow_j0 call n a0 a1 (.bool true))
    (lp (aBin .gtr [] a1 (.int .i64 2147483648)) fun v14 =>
    ref05_GetBelow_j0 call n a0 a1 v14)
theorem ref05_GetBelow_eq {ext : Ext} (h : ext fn_ref05_GetBelow = none) (n : Nat) (a0 a1 : AV) : fcall Tryd.prog ext (n + 1) fn_ref05_GetBelow [a0, a1] = ref05_GetBelow (fcall Tryd.prog ext n) n a0 a1 := by
  unfold fcall; rw [h]; kernel_rfl

/-! splicer/sym.GetBelow -/
noncomputable def sym_GetBelow_j0 (call : Nat → List AV → M AV) (n : Nat) (x0 x1 x14 : AV) : M AV :=
  mc x14
    (ret (.tup [(.int .i64 0), (.bool false)]))
    (bnd (call fn_sym_parted [x1]) fun v17 =>
lp (aExt 0 v17) fun v18 =>
lp (aExt 1 v17) fun v19 =>
bnd (call fn_sym_get [x0, v19]) fun v22 =>
lp (aBin .shl [] v22 v18) fun v24 =>
bnd (call fn_sym_GetBits [x0, v18]) fun v28 =>
lp (aBin .or [] v24 v28) fun v29 =>
lp (aBin .geq [] v29 x1) fun v32 =>
mc v32
  (ret (.tup [(.int .i64 0), (.bool false)]))
  (ret (.tup [v29, (.bool true)])))
noncomputable def sym_GetBelow (call : Nat → List AV → M AV) (n : Nat) (a0 a1 : AV) : M AV :=
  lp (aBin .lss [] a1 (.int .i64 1)) fun v10 =>
  mc v10
    (sym_GetBelow_j0 call n a0 a1 (.bool true))
    (lp (aBin .gtr [] a1 (.int .i64 2147483648)) fun v13 =>
    sym_GetBelow_j0 call n a0 a1 v13)
theorem sym_GetBelow_eq {ext : Ext} (h : ext fn_sym_GetBelow = none) (n : Nat) (a0 a1 : AV) : fcall Tryd.prog ext (n + 1) fn_sym_GetBelow [a0, a1] = sym_GetBelow (fcall Tryd.prog ext n) n a0 a1 := by
  unfold fcall; rw [h]; kernel_rfl

/-! splicer/splicerref05.GetBits -/
noncomputable def ref05_GetBits_l0 (call : Nat → List AV → M AV) (n : Nat) (rec : List AV → M AV) (x0_1 x5 x6 : AV) : M AV :=
  lp (aBin .gtr [] x6 (.int .i64 0)) fun v17 =>
  mc v17
    (lp (aFold aMin2 x6 [(.int .i64 8)]) fun v19 =>
  lp (aBin .shl [] (.int .i64 1) v19) fun v22 =>
  bnd (call fn_ref04_Decoder_Place [x0_1, v22]) fun v23 =>
  lp (aBin .add [] v23 (.int .i64 1)) fun v27 =>
  lp (aBin .shl [] (.int .i64 1) v19) fun v29 =>
  bnd (call fn_ref04_Decoder_Take [x0_1, v23, v27, v29]) fun v30 =>
  lp (aBin .shl [] x5 v19) fun v33 =>
  lp (aBin .or [] v33 v23) fun v35 =>
  lp (aBin .sub [] x6 v19) fun v38 =>
  rec [x0_1, v35, v38])
    (ret x5)
noncomputable def ref05_GetBits_j0 (call : Nat → List AV → M AV) (n : Nat) (x0 x1 x14 : AV) : M AV :=
  mc x14
    (ret (.int .i64 0))
    (loopN (fun r l => ref05_GetBits_l0 call n r (l.getD 0 .undef) (l.getD 1 .undef) (l.getD 2 .undef)) n [x0, (.int .i64 0), x1])
noncomputable def ref05_GetBits (call : Nat → List AV → M AV) (n : Nat) (a0 a1 : AV) : M AV :=
  lp (aBin .lss [] a1 (.int .i64 0)) fun v10 =>
  mc v10
    (ref05_GetBits_j0 call n a0 a1 (.bool true))
    (lp (aBin .gtr [] a1 (.int .i64 31)) fun v13 =>
    ref05_GetBits_j0 call n a0 a1 v13)
theorem ref05_GetBits_eq {ext : Ext} (h : ext fn_ref05_GetBits = none) (n : Nat) (a0 a1 : AV) : fcall Tryd.prog ext (n + 1) fn_ref05_GetBits [a0, a1] = ref05_GetBits (fcall Tryd.prog ext n) n a0 a1 := by
  unfold fcall; rw [h]; kernel_rfl

/-! splicer/sym.GetBits -/
noncomputable def sym_GetBits_j1 (call : Nat → List AV → M AV) (n : Nat) (x5_1 : AV) : M AV :=
  ret x5_1
noncomputable def sym_GetBits_l0 (call : Nat → List AV → M AV) (n : Nat) (rec : List AV → M AV) (x0_1 x1_1 x5 : AV) : M AV :=
  lp (aBin .gtr [] x1_1 (.int .i64 8)) fun v13 =>
  mc v13
    (lp (aBin .shl [] x5 (.int .u64 8)) fun v17 =>
  bnd (call fn_sym_get [x0_1, (.int .i64 256)]) fun v19 =>
  lp (aBin .or [] v17 v19) fun v20 =>
  lp (aBin .sub [] x1_1 (.int .i64 8)) fun v15 =>
  rec [x0_1, v15, v20])
    (lp (aBin .gtr [] x1_1 (.int .i64 0)) fun v22 =>
mc v22
  (lp (aBin .shl [] x5 x1_1) fun v25 =>
  lp (aBin .shl [] (.int .i64 1) x1_1) fun v28 =>
  snap fun _ =>
  bnd (call fn_sym_get [x0_1, v28]) fun v29 =>
  snap fun _ =>
  lp (aBin .or [] v25 v29) fun v30 =>
  sym_GetBits_j1 call n v30)
  (sym_GetBits_j1 call n x5))
noncomputable def sym_GetBits_j0 (call : Nat → List AV → M AV) (n : Nat) (x0 x1 x11 : AV) : M AV :=
  mc x11
    (ret (.int .i64 0))
    (loopN (fun r l => sym_GetBits_l0 call n r (l.getD 0 .undef) (l.getD 1 .undef) (l.getD 2 .undef)) n [x0, x1, (.int .i64 0)])
noncomputable def sym_GetBits (call : Nat → List AV → M AV) (n : Nat) (a0 a1 : AV) : M AV :=
  lp (aBin .lss [] a1 (.int .i64 0)) fun v7 =>
  mc v7
    (sym_GetBits_j0 call n a0 a1 (.bool true))
    (lp (aBin .gtr [] a1 (.int .i64 31)) fun v10 =>
    sym_GetBits_j0 call n a0 a1 v10)
theorem sym_GetBits_eq {ext : Ext} (h : ext fn_sym_GetBits = none) (n : Nat) (a0 a1 : AV) : fcall Tryd.prog ext (n + 1) fn_sym_GetBits [a0, a1] = sym_GetBits (fcall Tryd.prog ext n) n a0 a1 := by
  unfold fcall; rw [h]; kernel_rfl

/-! splicer/splicerref04.New -/
noncomputable def ref04_New_l0 (call : Nat → List AV → M AV) (n : Nat) (rec : List AV → M AV) (x3 x4 : AV) : M AV :=
  lp (aBin .lss [] x4 (.int .i64 4)) fun v9 =>
  mc v9
    (lp (aNil x3) fun v14 =>
  lp (aOff 2 v14) fun v15 =>
  bnd (load none v15) fun v16 =>
  lp (aBin .mul [] v16 (.int .i64 256)) fun v17 =>
  snap fun _ =>
  bnd (call fn_ref04_Decoder_next [x3]) fun v19 =>
  snap fun m_1 =>
  same none v15 v16 m_1 <|
  lp (aBin .add [] v17 v19) fun v20 =>
  lp (aNil x3) fun v21 =>
  lp (aOff 2 v21) fun v22 =>
  snap fun _ =>
  bnd (store none v22 v20) fun u =>
  snap fun _ =>
  lp (aBin .add [] x4 (.int .i64 1)) fun v11 =>
  rec [x3, v11])
    (ret x3)
noncomputable def ref04_New (call : Nat → List AV → M AV) (n : Nat) (a0 : AV) : M AV :=
  lp ((aFill (fun i => [(0, 1), (1, 1), (2, 1), (3, 1)][i]?) [.str .empty, .int .i64 0, .int .i64 0, .int .i64 0] [(0, a0), (3, (.int .i64 4294967295))]).map .agg) fun v6 =>
  bnd (box T_ref04_Decoder v6) fun v7 =>
  loopN (fun r l => ref04_New_l0 call n r (l.getD 0 .undef) (l.getD 1 .undef)) n [v7, (.int .i64 0)]
theorem ref04_New_eq {ext : Ext} (h : ext fn_ref04_New = none) (n : Nat) (a0 : AV) : fcall Tryd.prog ext (n + 1) fn_ref04_New [a0] = ref04_New (fcall Tryd.prog ext n) n a0 := by
  unfold fcall; rw [h]; kernel_rfl

/-! splicer/rc.New -/
noncomputable def rc_New_l0 (call : Nat → List AV → M AV) (n : Nat) (rec : List AV → M AV) (x3 x7 : AV) : M AV :=
  lp (aBin .lss [] x7 (.int .i64 4)) fun v8 =>
  mc v8
    (lp (aNil x3) fun v11 =>
  lp (aOff 3 v11) fun v12 =>
  bnd (load none v12) fun v13 =>
  lp (aBin .shl [] v13 (.int .u64 8)) fun v14 =>
  snap fun _ =>
  bnd (call fn_rc_Decoder_next [x3]) fun v16 =>
  snap fun m_1 =>
  same none v12 v13 m_1 <|
  lp (aBin .or [] v14 v16) fun v17 =>
  lp (aNil x3) fun v18 =>
  lp (aOff 3 v18) fun v19 =>
  snap fun _ =>
  bnd (store none v19 v17) fun u =>
  snap fun _ =>
  lp (aBin .add [] x7 (.int .i64 1)) fun v20 =>
  rec [x3, v20])
    (ret x3)
noncomputable def rc_New (call : Nat → List AV → M AV) (n : Nat) (a0 : AV) : M AV :=
  lp ((aFill (fun i => [(0, 2), (2, 1), (3, 1), (4, 1)][i]?) [.bool false, .int .u64 0, .str .empty, .int .u64 0, .bool false] [(1, a0), (3, (.bool true))]).map .agg) fun v5 =>
  bnd (box T_rc_Decoder v5) fun v6 =>
  loopN (fun r l => rc_New_l0 call n r (l.getD 0 .undef) (l.getD 1 .undef)) n [v6, (.int .i64 0)]
theorem rc_New_eq {ext : Ext} (h : ext fn_rc_New = none) (n : Nat) (a0 : AV) : fcall Tryd.prog ext (n + 1) fn_rc_New [a0] = rc_New (fcall Tryd.prog ext n) n a0 := by
  unfold fcall; rw [h]; kernel_rfl

/-! (*splicer/splicerref04.Coder).End -/
noncomputable def ref04_Coder_End_j0 (call : Nat → List AV → M AV) (n : Nat) (rec_2 : List AV → M AV) (x3_3 x47_3 x48_3 x49_3 x50_3 x51_3 x52_3 x53 : AV) : M AV :=
  mc x53
    (lp (aLenStr x3_3) fun v56 =>
lp (aBin .sub [] v56 (.int .i64 1)) fun v57 =>
lp (aSliceStr x3_3 none (some v57)) fun v58 =>
rec_2 [v58, x47_3, x48_3, x49_3, x50_3, x51_3, x52_3])
    (ret x3_3)
noncomputable def ref04_Coder_End_l2 (call : Nat → List AV → M AV) (n : Nat) (rec_2 : List AV → M AV) (x3_2 x47_2 x48_2 x49_2 x50_2 x51_2 x52_2 : AV) : M AV :=
  lp (aLenStr x3_2) fun v44 =>
  lp (aBin .gtr [] v44 (.int .i64 0)) fun v45 =>
  mc v45
    (lp (aLenStr x3_2) fun v49 =>
    lp (aBin .sub [] v49 (.int .i64 1)) fun v50 =>
    lp (aIdxStr x3_2 v50) fun v51 =>
    lp (aBin .eql [6] v51 (.int .u8 0)) fun v52 =>
    ref04_Coder_End_j0 call n rec_2 x3_2 x3_2 x3_2 v49 v50 v51 v52 v52)
    (ref04_Coder_End_j0 call n rec_2 x3_2 (.tup []) (.tup []) (.tup []) (.tup []) (.tup []) (.tup []) (.bool false))
noncomputable def ref04_Coder_End_l1 (call : Nat → List AV → M AV) (n : Nat) (rec_1 : List AV → M AV) (x0_1 x3_1 x5 x47_1 x48_1 x49_1 x50_1 x51_1 x52_1 : AV) : M AV :=
  lp (aBin .geq [] x5 (.int .i64 0)) fun v28 =>
  mc v28
    (lp (aNil x0_1) fun v33 =>
  lp (aOff 1 v33) fun v34 =>
  bnd (load none v34) fun v35 =>
  lp (aBin .shr [] v35 x5) fun v37 =>
  lp (aBin .and [] v37 (.int .i64 255)) fun v38 =>
  lp (aInt .u8 v38) fun v39 =>
  lp (aFill (fun i => some (i * 1, 1)) [.int .u8 0] [(0, v39)]) fun cs_1 =>
  bnd (allocS T_uint8 1 1 cs_1) fun v40 =>
  bnd (ofBytes v40) fun v41 =>
  lp (aBin .add [] x3_1 v41) fun v42 =>
  lp (aBin .sub [] x5 (.int .i64 8)) fun v30 =>
  rec_1 [x0_1, v42, v30, x47_1, x48_1, x49_1, x50_1, x51_1, x52_1])
    (loopN (fun r l => ref04_Coder_End_l2 call n r (l.getD 0 .undef) (l.getD 1 .undef) (l.getD 2 .undef) (l.getD 3 .undef) (l.getD 4 .undef) (l.getD 5 .undef) (l.getD 6 .undef)) n [x3_1, x47_1, x48_1, x49_1, x50_1, x51_1, x52_1])
noncomputable def ref04_Coder_End_l0 (call : Nat → List AV → M AV) (n : Nat) (rec : List AV → M AV) (x0 x3 x4 x47 x48 x49 x50 x51 x52 : AV) : M AV :=
  lp (aNil x0) fun v8 =>
  lp (aOff 0 v8) fun v9 =>
  bnd (load none v9) fun v10 =>
  lp (aLenS v10) fun v11 =>
  lp (aBin .lss [] x4 v11) fun v12 =>
  mc v12
    (lp (aNil x0) fun v17 =>
  lp (aOff 0 v17) fun v18 =>
  bnd (load none v18) fun v19 =>
  lp (aIdxS 1 v19 x4) fun v21 =>
  bnd (load none v21) fun v22 =>
  lp (aInt .u8 v22) fun v23 =>
  lp (aFill (fun i => some (i * 1, 1)) [.int .u8 0] [(0, v23)]) fun cs =>
  bnd (allocS T_uint8 1 1 cs) fun v24 =>
  bnd (ofBytes v24) fun v25 =>
  lp (aBin .add [] x3 v25) fun v26 =>
  lp (aBin .add [] x4 (.int .i64 1)) fun v14 =>
  rec [x0, v26, v14, x47, x48, x49, x50, x51, x52])
    (loopN (fun r l => ref04_Coder_End_l1 call n r (l.getD 0 .undef) (l.getD 1 .undef) (l.getD 2 .undef) (l.getD 3 .undef) (l.getD 4 .undef) (l.getD 5 .undef) (l.getD 6 .undef) (l.getD 7 .undef) (l.getD 8 .undef)) n [x0, x3, (.int .i64 24), x47, x48, x49, x50, x51, x52])
noncomputable def ref04_Coder_End (call : Nat → List AV → M AV) (n : Nat) (a0 : AV) : M AV :=
  loopN (fun r l => ref04_Coder_End_l0 call n r (l.getD 0 .undef) (l.getD 1 .undef) (l.getD 2 .undef) (l.getD 3 .undef) (l.getD 4 .undef) (l.getD 5 .undef) (l.getD 6 .undef) (l.getD 7 .undef) (l.getD 8 .undef)) n [a0, (.str .empty), (.int .i64 0), .undef, .undef, .undef, .undef, .undef, .undef]
theorem ref04_Coder_End_eq {ext : Ext} (h : ext fn_ref04_Coder_End = none) (n : Nat) (a0 : AV) : fcall Tryd.prog ext (n + 1) fn_ref04_Coder_End [a0] = ref04_Coder_End (fcall Tryd.prog ext n) n a0 := by
  unfold fcall; rw [h]; kernel_rfl

/-! (*splicer/rc.Coder).End -/
noncomputable def rc_Coder_End_l1 (call : Nat → List AV → M AV) (n : Nat) (rec_1 : List AV → M AV) (x0_2 x3_2 x4 : AV) : M AV :=
  lp (aBin .geq [] x4 (.int .i64 0)) fun v33 =>
  mc v33
    (lp (aNil x0_2) fun v37 =>
  lp (aOff 4 v37) fun v38 =>
  bnd (load none v38) fun v39 =>
  lp (aBin .shr [] v39 x4) fun v41 =>
  lp (aInt .u8 v41) fun v42 =>
  bnd (call fn_strings_Builder_WriteByte [x3_2, v42]) fun v43 =>
  lp (aBin .sub [] x4 (.int .i64 8)) fun v35 =>
  rec_1 [x0_2, x3_2, v35])
    (bnd (call fn_strings_Builder_String [x3_2]) fun v44 =>
bnd (call fn_strings_TrimRight [v44, (.str ⟨#[0]⟩)]) fun v45 =>
ret v45)
noncomputable def rc_Coder_End_l0 (call : Nat → List AV → M AV) (n : Nat) (rec : List AV → M AV) (x0_1 x3_1 x27 x28 : AV) : M AV :=
  lp (aBin .lss [] x28 x27) fun v29 =>
  mc v29
    (bnd (call fn_strings_Builder_WriteByte [x3_1, (.int .u8 255)]) fun v30 =>
  lp (aBin .add [] x28 (.int .i64 1)) fun v31 =>
  rec [x0_1, x3_1, x27, v31])
    (loopN (fun r l => rc_Coder_End_l1 call n r (l.getD 0 .undef) (l.getD 1 .undef) (l.getD 2 .undef)) n [x0_1, x3_1, (.int .i64 24)])
noncomputable def rc_Coder_End_j0 (call : Nat → List AV → M AV) (n : Nat) (x0 x3 : AV) : M AV :=
  lp (aNil x0) fun v25 =>
  lp (aOff 6 v25) fun v26 =>
  bnd (load none v26) fun v27 =>
  loopN (fun r l => rc_Coder_End_l0 call n r (l.getD 0 .undef) (l.getD 1 .undef) (l.getD 2 .undef) (l.getD 3 .undef)) n [x0, x3, v27, (.int .i64 0)]
noncomputable def rc_Coder_End (call : Nat → List AV → M AV) (n : Nat) (a0 : AV) : M AV :=
  lp (aBin .eql [3] a0 .nilptr) fun v6 =>
  mc v6
    (ret (.str .empty))
    (bnd (alloc T_strings_Builder [.nilptr, .nilslice]) fun v3 =>
  lp (aNil a0) fun v8 =>
  lp (aOff 2 v8) fun v9 =>
  bnd (call fn_strings_Builder_String [v9]) fun v10 =>
  bnd (call fn_strings_Builder_WriteString [v3, v10]) fun v11 =>
  lp (aNil a0) fun v13 =>
  lp (aOff 5 v13) fun v14 =>
  bnd (load none v14) fun v15 =>
  lp (aBin .gtr [] v15 (.int .i64 0)) fun v16 =>
  mc v16
    (lp (aNil a0) fun v18 =>
    lp (aOff 5 v18) fun v19 =>
    bnd (load none v19) fun v20 =>
    lp (aBin .sub [] v20 (.int .i64 1)) fun v21 =>
    lp (aInt .u8 v21) fun v22 =>
    bnd (call fn_strings_Builder_WriteByte [v3, v22]) fun v23 =>
    rc_Coder_End_j0 call n a0 v3)
    (rc_Coder_End_j0 call n a0 v3))
theorem rc_Coder_End_eq {ext : Ext} (h : ext fn_rc_Coder_End = none) (n : Nat) (a0 : AV) : fcall Tryd.prog ext (n + 1) fn_rc_Coder_End [a0] = rc_Coder_End (fcall Tryd.prog ext n) n a0 := by
  unfold fcall; rw [h]; kernel_rfl

/-! splicer/splicerref05.Put -/
noncomputable def ref05_Put (call : Nat → List AV → M AV) (n : Nat) (a0 a1 : AV) : M AV :=
  bnd (box T_ref05_Item a1) fun v3 =>
  lp (aOff 0 v3) fun v5 =>
  bnd (load none v5) fun v6 =>
  lp (aBin .eql [6] v6 (.int .i64 0)) fun v8 =>
  mc v8
    (lp (aOff 1 v3) fun v10 =>
    bnd (load none v10) fun v11 =>
    lp (aOff 2 v3) fun v12 =>
    bnd (load none v12) fun v13 =>
    bnd (call fn_ref05_PutBits [a0, v11, v13]) fun v14 =>
    ret v14)
    (lp (aBin .eql [6] v6 (.int .i64 1)) fun v16 =>
    mc v16
      (lp (aOff 1 v3) fun v18 =>
      bnd (load none v18) fun v19 =>
      lp (aOff 2 v3) fun v20 =>
      bnd (load none v20) fun v21 =>
      bnd (call fn_ref05_PutBelow [a0, v19, v21]) fun v22 =>
      ret v22)
      (lp (aOff 1 v3) fun v24 =>
  bnd (load none v24) fun v25 =>
  bnd (call fn_ref05_PutDelta [a0, v25]) fun v26 =>
  ret v26))
theorem ref05_Put_eq {ext : Ext} (h : ext fn_ref05_Put = none) (n : Nat) (a0 a1 : AV) : fcall Tryd.prog ext (n + 1) fn_ref05_Put [a0, a1] = ref05_Put (fcall Tryd.prog ext n) n a0 a1 := by
  unfold fcall; rw [h]; kernel_rfl

/-! splicer/splicerlaw05.put -/
noncomputable def law05_put (call : Nat → List AV → M AV) (n : Nat) (a0 a1 : AV) : M AV :=
  bnd (box T_ref05_Item a1) fun v3 =>
  lp (aOff 0 v3) fun v5 =>
  bnd (load none v5) fun v6 =>
  lp (aBin .eql [6] v6 (.int .i64 0)) fun v8 =>
  mc v8
    (lp (aOff 1 v3) fun v10 =>
    bnd (load none v10) fun v11 =>
    lp (aOff 2 v3) fun v12 =>
    bnd (load none v12) fun v13 =>
    bnd (call fn_sym_PutBits [a0, v11, v13]) fun v14 =>
    ret v14)
    (lp (aBin .eql [6] v6 (.int .i64 1)) fun v16 =>
    mc v16
      (lp (aOff 1 v3) fun v18 =>
      bnd (load none v18) fun v19 =>
      lp (aOff 2 v3) fun v20 =>
      bnd (load none v20) fun v21 =>
      bnd (call fn_sym_PutBelow [a0, v19, v21]) fun v22 =>
      ret v22)
      (lp (aOff 1 v3) fun v24 =>
  bnd (load none v24) fun v25 =>
  bnd (call fn_sym_PutDelta [a0, v25]) fun v26 =>
  ret v26))
theorem law05_put_eq {ext : Ext} (h : ext fn_law05_put = none) (n : Nat) (a0 a1 : AV) : fcall Tryd.prog ext (n + 1) fn_law05_put [a0, a1] = law05_put (fcall Tryd.prog ext n) n a0 a1 := by
  unfold fcall; rw [h]; kernel_rfl

/-! splicer/splicerlaw05.awake -/
noncomputable def law05_awake_j2 (call : Nat → List AV → M AV) (n : Nat) (x0 : AV) : M AV :=
  ret x0
noncomputable def law05_awake_j1 (call : Nat → List AV → M AV) (n : Nat) (x1_1 x2_1 x3_1 x4_1 x5 : AV) : M AV :=
  bnd (call fn_rc_Coder_End [x1_1]) fun v29 =>
  bnd (call fn_rc_New [v29]) fun v30 =>
  lp (aBin .eql [3] v30 .nilptr) fun v32 =>
  mc v32
    (ret (.bool false))
    (bnd (call fn_sym_GetDelta [v30]) fun v34 =>
  bnd (call fn_sym_GetBelow [v30, (.int .i64 100000)]) fun v37 =>
  lp (aExt 0 v37) fun v38 =>
  lp (aExt 1 v37) fun v39 =>
  mc x2_1
    (lp (aBin .eql [7] x3_1 (.str .empty)) fun v43 =>
    mc v43
      (lp (aUn .not x4_1) fun v47 =>
      mc v47
        (mc x5
          (lp (aBin .eql [6] v34 (.int .i64 0)) fun v54 =>
          mc v54
            (mc v39
              (lp (aBin .eql [6] v38 (.int .i64 70000)) fun v61 =>
              mc v61
                (bnd (call fn_sym_GetDelta [v30]) fun v65 =>
                lp (aBin .eql [6] v65 (.int .i64 (-9))) fun v66 =>
                law05_awake_j2 call n v66)
                (law05_awake_j2 call n (.bool false)))
              (law05_awake_j2 call n (.bool false)))
            (law05_awake_j2 call n (.bool false)))
          (law05_awake_j2 call n (.bool false)))
        (law05_awake_j2 call n (.bool false)))
      (law05_awake_j2 call n (.bool false)))
    (law05_awake_j2 call n (.bool false)))
noncomputable def law05_awake_j0 (call : Nat → List AV → M AV) (n : Nat) (x1 x2 x3 x4 : AV) : M AV :=
  bnd (call fn_sym_PutBelow [x1, (.int .i64 70000), (.int .i64 100000)]) fun v23 =>
  mc v23
    (bnd (call fn_sym_PutDelta [x1, (.int .i64 (-9))]) fun v26 =>
    law05_awake_j1 call n x1 x2 x3 x4 v26)
    (law05_awake_j1 call n x1 x2 x3 x4 (.bool false))
noncomputable def law05_awake (call : Nat → List AV → M AV) (n : Nat) : M AV :=
  lp ((aFill (fun i => [(0, 2), (2, 2), (4, 1), (5, 1), (6, 1)][i]?) [.bool false, .int .u64 0, .nilptr, .nilslice, .int .u64 0, .int .i64 0, .int .i64 0] []).map .agg) fun v10 =>
  bnd (box T_rc_Coder v10) fun v11 =>
  bnd (call fn_sym_PutDelta [v11, (.int .i64 0)]) fun v13 =>
  bnd (call fn_rc_Coder_End [v11]) fun v15 =>
  bnd (call fn_sym_PutDelta [v11, (.int .i64 (-70))]) fun v17 =>
  mc v17
    (law05_awake_j0 call n v11 v13 v15 (.bool true))
    (bnd (call fn_sym_PutBelow [v11, (.int .i64 5), (.int .i64 5)]) fun v20 =>
    law05_awake_j0 call n v11 v13 v15 v20)
theorem law05_awake_eq {ext : Ext} (h : ext fn_law05_awake = none) (n : Nat) : fcall Tryd.prog ext (n + 1) fn_law05_awake [] = law05_awake (fcall Tryd.prog ext n) n := by
  unfold fcall; rw [h]; kernel_rfl

/-! splicer/splicerlaw05.SymBack -/
noncomputable def law05_SymBack_j2 (call : Nat → List AV → M AV) (n : Nat) (rec_1 : List AV → M AV) (x4_4 x6_2 x7_2 x79_4 x80_4 x81_4 x82_4 : AV) : M AV :=
  lp (aBin .add [] x7_2 (.int .i64 1)) fun v46 =>
  rec_1 [x4_4, x6_2, v46, x79_4, x80_4, x81_4, x82_4]
noncomputable def law05_SymBack_j1 (call : Nat → List AV → M AV) (n : Nat) (rec_1 : List AV → M AV) (x4_3 x6_1 x7_1 x79_3 x80_3 x81_3 x82_3 x83 : AV) : M AV :=
  mc x83
    (ret (.bool false))
    (law05_SymBack_j2 call n rec_1 x4_3 x6_1 x7_1 x79_3 x80_3 x81_3 x82_3)
noncomputable def law05_SymBack_l1 (call : Nat → List AV → M AV) (n : Nat) (rec_1 : List AV → M AV) (x4_2 x6 x7 x79_2 x80_2 x81_2 x82_2 : AV) : M AV :=
  lp (aLenS x4_2) fun v43 =>
  lp (aBin .lss [] x7 v43) fun v44 =>
  mc v44
    (lp (aIdxS 3 x4_2 x7) fun v49 =>
  bnd (load (some 3) v49) fun v50 =>
  bnd (alloc T_ref05_Item [.int .i64 0, .int .i64 0, .int .i64 0]) fun v8 =>
  bnd (store (some 3) v8 v50) fun u =>
  lp (aOff 0 v8) fun v51 =>
  bnd (load none v51) fun v52 =>
  lp (aBin .eql [6] v52 (.int .i64 0)) fun v59 =>
  mc v59
    (lp (aOff 2 v8) fun v61 =>
    bnd (load none v61) fun v62 =>
    snap fun m =>
    bnd (call fn_sym_GetBits [x6, v62]) fun v63 =>
    snap fun _ =>
    lp (aOff 1 v8) fun v64 =>
    bnd (load none v64) fun v65 =>
    same none v64 v65 m <|
    lp (aBin .neq [6] v63 v65) fun v66 =>
    mc v66
      (ret (.bool false))
      (law05_SymBack_j2 call n rec_1 x4_2 x6 x7 x79_2 x80_2 x81_2 x82_2))
    (lp (aBin .eql [6] v52 (.int .i64 1)) fun v68 =>
    mc v68
      (lp (aOff 2 v8) fun v71 =>
      bnd (load none v71) fun v72 =>
      bnd (call fn_sym_GetBelow [x6, v72]) fun v73 =>
      lp (aExt 0 v73) fun v74 =>
      lp (aExt 1 v73) fun v75 =>
      lp (aUn .not v75) fun v77 =>
      mc v77
        (law05_SymBack_j1 call n rec_1 x4_2 x6 x7 (.tup []) (.tup []) (.tup []) (.tup []) (.bool true))
        (lp (aOff 1 v8) fun v80 =>
        bnd (load none v80) fun v81 =>
        lp (aBin .neq [6] v74 v81) fun v82 =>
        law05_SymBack_j1 call n rec_1 x4_2 x6 x7 v74 v80 v81 v82 v82))
      (snap fun m_2 =>
      bnd (call fn_sym_GetDelta [x6]) fun v54 =>
      snap fun _ =>
      lp (aOff 1 v8) fun v55 =>
      bnd (load none v55) fun v56 =>
      same none v55 v56 m_2 <|
      lp (aBin .neq [6] v54 v56) fun v57 =>
      mc v57
        (ret (.bool false))
        (law05_SymBack_j2 call n rec_1 x4_2 x6 x7 x79_2 x80_2 x81_2 x82_2))))
    (bnd (call fn_law05_awake []) fun v84 =>
ret v84)
noncomputable def law05_SymBack_j0 (call : Nat → List AV → M AV) (n : Nat) (rec : List AV → M AV) (x0_1 x3_1 x4_1 x5_1 x79_1 x80_1 x81_1 x82_1 : AV) : M AV :=
  lp (aBin .add [] x5_1 (.int .i64 1)) fun v22 =>
  rec [x0_1, x3_1, x4_1, v22, x79_1, x80_1, x81_1, x82_1]
noncomputable def law05_SymBack_l0 (call : Nat → List AV → M AV) (n : Nat) (rec : List AV → M AV) (x0 x3 x4 x5 x79 x80 x81 x82 : AV) : M AV :=
  lp (aLenS x0) fun v19 =>
  lp (aBin .lss [] x5 v19) fun v20 =>
  mc v20
    (lp (aIdxS 3 x0 x5) fun v26 =>
  bnd (load (some 3) v26) fun v27 =>
  bnd (call fn_law05_put [x3, v27]) fun v28 =>
  mc v28
    (lp (aIdxS 3 x0 x5) fun v32 =>
    bnd (load (some 3) v32) fun v33 =>
    lp (aFill (fun i => some (i * 3, 3)) [.int .i64 0, .int .i64 0, .int .i64 0] [(0, v33)]) fun cs =>
    bnd (allocS T_ref05_Item 3 1 cs) fun v34 =>
    bnd (append T_ref05_Item 3 24 x4 v34) fun v35 =>
    law05_SymBack_j0 call n rec x0 x3 v35 x5 x79 x80 x81 x82)
    (law05_SymBack_j0 call n rec x0 x3 x4 x5 x79 x80 x81 x82))
    (bnd (call fn_rc_Coder_End [x3]) fun v37 =>
bnd (call fn_rc_New [v37]) fun v38 =>
lp (aBin .eql [3] v38 .nilptr) fun v40 =>
mc v40
  (ret (.bool false))
  (loopN (fun r l => law05_SymBack_l1 call n r (l.getD 0 .undef) (l.getD 1 .undef) (l.getD 2 .undef) (l.getD 3 .undef) (l.getD 4 .undef) (l.getD 5 .undef) (l.getD 6 .undef)) n [x4, v38, (.int .i64 0), x79, x80, x81, x82]))
noncomputable def law05_SymBack (call : Nat → List AV → M AV) (n : Nat) (a0 : AV) : M AV :=
  lp (aLenS a0) fun v12 =>
  lp (aBin .gtr [] v12 (.int .i64 40)) fun v13 =>
  mc v13
    (bnd (call fn_law05_awake []) fun v14 =>
    ret v14)
    (lp ((aFill (fun i => [(0, 2), (2, 2), (4, 1), (5, 1), (6, 1)][i]?) [.bool false, .int .u64 0, .nilptr, .nilslice, .int .u64 0, .int .i64 0, .int .i64 0] []).map .agg) fun v15 =>
  bnd (box T_rc_Coder v15) fun v16 =>
  loopN (fun r l => law05_SymBack_l0 call n r (l.getD 0 .undef) (l.getD 1 .undef) (l.getD 2 .undef) (l.getD 3 .undef) (l.getD 4 .undef) (l.getD 5 .undef) (l.getD 6 .undef) (l.getD 7 .undef)) n [a0, v16, .nilslice, (.int .i64 0), .undef, .undef, .undef, .undef])
theorem law05_SymBack_eq {ext : Ext} (h : ext fn_law05_SymBack = none) (n : Nat) (a0 : AV) : fcall Tryd.prog ext (n + 1) fn_law05_SymBack [a0] = law05_SymBack (fcall Tryd.prog ext n) n a0 := by
  unfold fcall; rw [h]; kernel_rfl

/-! splicer/splicerlaw05.SymGets -/
noncomputable def law05_SymGets_j3 (call : Nat → List AV → M AV) (n : Nat) (x4 : AV) : M AV :=
  ret x4
noncomputable def law05_SymGets_j2 (call : Nat → List AV → M AV) (n : Nat) (rec : List AV → M AV) (x1_3 x5_2 x6_2 x7_2 x86_2 x87_2 x88_2 x96_2 : AV) : M AV :=
  lp (aBin .add [] x7_2 (.int .i64 1)) fun v32 =>
  rec [x1_3, x5_2, x6_2, v32, x86_2, x87_2, x88_2, x96_2]
noncomputable def law05_SymGets_j1 (call : Nat → List AV → M AV) (n : Nat) (rec : List AV → M AV) (x1_2 x5_1 x6_1 x7_1 x86_1 x87_1 x88_1 x89 x96_1 : AV) : M AV :=
  mc x89
    (ret (.bool false))
    (law05_SymGets_j2 call n rec x1_2 x5_1 x6_1 x7_1 x86_1 x87_1 x88_1 x96_1)
noncomputable def law05_SymGets_l0 (call : Nat → List AV → M AV) (n : Nat) (rec : List AV → M AV) (x1_1 x5 x6 x7 x86 x87 x88 x96 : AV) : M AV :=
  lp (aLenS x1_1) fun v29 =>
  lp (aBin .lss [] x7 v29) fun v30 =>
  mc v30
    (lp (aIdxS 3 x1_1 x7) fun v35 =>
  lp (aOff 0 v35) fun v36 =>
  bnd (load none v36) fun v37 =>
  lp (aBin .eql [6] v37 (.int .i64 0)) fun v44 =>
  mc v44
    (lp (aIdxS 3 x1_1 x7) fun v48 =>
    lp (aOff 2 v48) fun v49 =>
    bnd (load none v49) fun v50 =>
    snap fun m =>
    bnd (call fn_sym_GetBits [x5, v50]) fun v51 =>
    snap fun _ =>
    lp (aIdxS 3 x1_1 x7) fun v55 =>
    lp (aOff 2 v55) fun v56 =>
    bnd (load none v56) fun v57 =>
    same none v56 v57 m <|
    snap fun _ =>
    bnd (call fn_ref05_GetBits [x6, v57]) fun v58 =>
    snap fun _ =>
    lp (aBin .neq [6] v51 v58) fun v59 =>
    mc v59
      (ret (.bool false))
      (law05_SymGets_j2 call n rec x1_1 x5 x6 x7 x86 x87 x88 x96))
    (lp (aBin .eql [6] v37 (.int .i64 1)) fun v61 =>
    mc v61
      (lp (aIdxS 3 x1_1 x7) fun v66 =>
      lp (aOff 2 v66) fun v67 =>
      bnd (load none v67) fun v68 =>
      bnd (call fn_sym_GetBelow [x5, v68]) fun v69 =>
      lp (aExt 0 v69) fun v70 =>
      lp (aExt 1 v69) fun v71 =>
      lp (aIdxS 3 x1_1 x7) fun v76 =>
      lp (aOff 2 v76) fun v77 =>
      bnd (load none v77) fun v78 =>
      bnd (call fn_ref05_GetBelow [x6, v78]) fun v79 =>
      lp (aExt 0 v79) fun v80 =>
      lp (aExt 1 v79) fun v81 =>
      lp (aBin .neq [6] v70 v80) fun v84 =>
      mc v84
        (law05_SymGets_j1 call n rec x1_1 x5 x6 x7 (.tup []) (.tup []) (.tup []) (.bool true) x96)
        (lp (aBin .neq [1] v71 v81) fun v88 =>
        law05_SymGets_j1 call n rec x1_1 x5 x6 x7 v71 v81 v88 v88 x96))
      (bnd (call fn_sym_GetDelta [x5]) fun v39 =>
      bnd (call fn_ref05_GetDelta [x6]) fun v41 =>
      lp (aBin .neq [6] v39 v41) fun v42 =>
      mc v42
        (ret (.bool false))
        (law05_SymGets_j2 call n rec x1_1 x5 x6 x7 x86 x87 x88 x96))))
    (bnd (call fn_rc_Decoder_Place [x5, (.int .i64 256)]) fun v91 =>
bnd (call fn_ref04_Decoder_Place [x6, (.int .i64 256)]) fun v93 =>
lp (aBin .eql [6] v91 v93) fun v94 =>
mc v94
  (bnd (call fn_law05_awake []) fun v96 =>
  law05_SymGets_j3 call n v96)
  (law05_SymGets_j3 call n (.bool false)))
noncomputable def law05_SymGets_j0 (call : Nat → List AV → M AV) (n : Nat) (x0 x1 x19 : AV) : M AV :=
  mc x19
    (bnd (call fn_law05_awake []) fun v20 =>
    ret v20)
    (bnd (call fn_rc_New [x0]) fun v22 =>
bnd (call fn_ref04_New [x0]) fun v24 =>
lp (aBin .eql [3] v22 .nilptr) fun v26 =>
mc v26
  (ret (.bool false))
  (loopN (fun r l => law05_SymGets_l0 call n r (l.getD 0 .undef) (l.getD 1 .undef) (l.getD 2 .undef) (l.getD 3 .undef) (l.getD 4 .undef) (l.getD 5 .undef) (l.getD 6 .undef) (l.getD 7 .undef)) n [x1, v22, v24, (.int .i64 0), .undef, .undef, .undef, .undef]))
noncomputable def law05_SymGets (call : Nat → List AV → M AV) (n : Nat) (a0 a1 : AV) : M AV :=
  lp (aLenStr a0) fun v13 =>
  lp (aBin .gtr [] v13 (.int .i64 200)) fun v14 =>
  mc v14
    (law05_SymGets_j0 call n a0 a1 (.bool true))
    (lp (aLenS a1) fun v17 =>
    lp (aBin .gtr [] v17 (.int .i64 40)) fun v18 =>
    law05_SymGets_j0 call n a0 a1 v18)
theorem law05_SymGets_eq {ext : Ext} (h : ext fn_law05_SymGets = none) (n : Nat) (a0 a1 : AV) : fcall Tryd.prog ext (n + 1) fn_law05_SymGets [a0, a1] = law05_SymGets (fcall Tryd.prog ext n) n a0 a1 := by
  unfold fcall; rw [h]; kernel_rfl

/-! splicer/splicerlaw05.SymPuts -/
noncomputable def law05_SymPuts_j0 (call : Nat → List AV → M AV) (n : Nat) (x2 : AV) : M AV :=
  ret x2
noncomputable def law05_SymPuts_l0 (call : Nat → List AV → M AV) (n : Nat) (rec : List AV → M AV) (x0 x3 x4 x5 x39 : AV) : M AV :=
  lp (aLenS x0) fun v16 =>
  lp (aBin .lss [] x5 v16) fun v17 =>
  mc v17
    (lp (aIdxS 3 x0 x5) fun v23 =>
  bnd (load (some 3) v23) fun v24 =>
  snap fun m =>
  bnd (call fn_law05_put [x3, v24]) fun v25 =>
  snap fun _ =>
  lp (aIdxS 3 x0 x5) fun v29 =>
  bnd (load (some 3) v29) fun v30 =>
  same (some 3) v29 v30 m <|
  snap fun _ =>
  bnd (call fn_ref05_Put [x4, v30]) fun v31 =>
  snap fun _ =>
  lp (aBin .neq [1] v25 v31) fun v32 =>
  mc v32
    (ret (.bool false))
    (lp (aBin .add [] x5 (.int .i64 1)) fun v19 =>
  rec [x0, x3, x4, v19, x39]))
    (bnd (call fn_rc_Coder_End [x3]) fun v34 =>
bnd (call fn_ref04_Coder_End [x4]) fun v36 =>
lp (aBin .eql [7] v34 v36) fun v37 =>
mc v37
  (bnd (call fn_law05_awake []) fun v39 =>
  law05_SymPuts_j0 call n v39)
  (law05_SymPuts_j0 call n (.bool false)))
noncomputable def law05_SymPuts (call : Nat → List AV → M AV) (n : Nat) (a0 : AV) : M AV :=
  lp (aLenS a0) fun v7 =>
  lp (aBin .gtr [] v7 (.int .i64 40)) fun v8 =>
  mc v8
    (bnd (call fn_law05_awake []) fun v9 =>
    ret v9)
    (lp ((aFill (fun i => [(0, 2), (2, 2), (4, 1), (5, 1), (6, 1)][i]?) [.bool false, .int .u64 0, .nilptr, .nilslice, .int .u64 0, .int .i64 0, .int .i64 0] []).map .agg) fun v10 =>
  bnd (box T_rc_Coder v10) fun v11 =>
  lp ((aFill (fun i => [(0, 1), (1, 1), (2, 1)][i]?) [.nilslice, .int .i64 0, .int .i64 0] []).map .agg) fun v12 =>
  bnd (box T_ref04_Coder v12) fun v13 =>
  loopN (fun r l => law05_SymPuts_l0 call n r (l.getD 0 .undef) (l.getD 1 .undef) (l.getD 2 .undef) (l.getD 3 .undef) (l.getD 4 .undef)) n [a0, v11, v13, (.int .i64 0), .undef])
theorem law05_SymPuts_eq {ext : Ext} (h : ext fn_law05_SymPuts = none) (n : Nat) (a0 : AV) : fcall Tryd.prog ext (n + 1) fn_law05_SymPuts [a0] = law05_SymPuts (fcall Tryd.prog ext n) n a0 := by
  unfold fcall; rw [h]; kernel_rfl

end SplA
