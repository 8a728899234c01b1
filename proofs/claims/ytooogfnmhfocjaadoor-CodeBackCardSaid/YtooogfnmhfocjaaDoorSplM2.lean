/- Texts of the abstract machine and of the walks, part 2. -/
import Derived.Test.YtooogfnmhfocjaaDoorSplM1
import Derived.Test.YtooogfnmhfocjaaDoorProg
import Derived.KernelRfl

/- The shallow programs of functions, printed by a program; each equation is checked by the kernel. -/
namespace SplA
open Go.Proofs.YtooogfnmhfocjaaDoor.Spl Go Go.Proofs
set_option maxRecDepth 100000
set_option linter.unusedVariables false
abbrev fn_law22_CodeBack : Nat := 3
abbrev fn_ref20_Few : Nat := 4
abbrev fn_law22_few : Nat := 5
abbrev fn_law22_awake : Nat := 6
abbrev fn_code_Put : Nat := 7
abbrev fn_code_Get : Nat := 8
abbrev fn_ref20_Same : Nat := 9
abbrev fn_ref20_Fit : Nat := 10
abbrev fn_ref20_Silent : Nat := 11
abbrev fn_code_ahead : Nat := 12
abbrev fn_frame_Fit : Nat := 13
abbrev fn_code_writer_flag : Nat := 14
abbrev fn_sym_PutBelow : Nat := 15
abbrev fn_frame_Rows : Nat := 16
abbrev fn_code_writer_channel : Nat := 17
abbrev fn_energy_Deltas : Nat := 18
abbrev fn_rc_Coder_End : Nat := 19
abbrev fn_rc_New : Nat := 20
abbrev fn_code_reader_frame : Nat := 21
abbrev fn_ref20_Alike : Nat := 22
abbrev fn_ref20_Band : Nat := 23
abbrev fn_ref13_Width : Nat := 24
abbrev fn_energy_Right : Nat := 25
abbrev fn_frame_fits : Nat := 26
abbrev fn_sym_PutBits : Nat := 27
abbrev fn_sym_parted : Nat := 28
abbrev fn_sym_put : Nat := 29
abbrev fn_frame_mapped_api_Chan_sl_int : Nat := 30
abbrev fn_frame_Rows_c1 : Nat := 31
abbrev fn_frame_mapped_api_Band_int : Nat := 32
abbrev fn_frame_Rows_c1_c1 : Nat := 33
abbrev fn_sym_PutDelta : Nat := 34
abbrev fn_layout_Width : Nat := 35
abbrev fn_alloc_Band : Nat := 36
abbrev fn_pvq_Index : Nat := 37
abbrev fn_pvq_Count : Nat := 38
abbrev fn_energy_expects : Nat := 39
abbrev fn_strings_Builder_WriteString : Nat := 40
abbrev fn_strings_Builder_String : Nat := 41
abbrev fn_strings_Builder_WriteByte : Nat := 42
abbrev fn_strings_TrimRight : Nat := 43
abbrev fn_rc_Decoder_next : Nat := 44
abbrev fn_code_reader_flag : Nat := 45
abbrev fn_code_reader_below : Nat := 46
abbrev fn_code_reader_channel : Nat := 47
abbrev fn_code_reader_row : Nat := 48
abbrev fn_ref01_Same : Nat := 49
abbrev fn_ref16_Size : Nat := 50
abbrev fn_ref15_Band : Nat := 51
abbrev fn_pvq_Size : Nat := 52
abbrev fn_rc_Coder_Code : Nat := 53
abbrev fn_sym_ends : Nat := 54
abbrev fn_sym_rank : Nat := 55
abbrev fn_sym_begins : Nat := 56
abbrev fn_layout_widths : Nat := 57
abbrev fn_alloc_good : Nat := 58
abbrev fn_alloc_held_int : Nat := 59
abbrev fn_alloc_times : Nat := 60
abbrev fn_pvq_made : Nat := 61
abbrev fn_num_Abs : Nat := 62
abbrev fn_energy_expects_c1 : Nat := 63
abbrev fn_energy_expects_c2 : Nat := 64
abbrev fn_strings_Builder_copyCheck : Nat := 65
abbrev fn_strings_trimRightByte : Nat := 66
abbrev fn_strings_makeASCIISet : Nat := 67
abbrev fn_strings_trimRightASCII : Nat := 68
abbrev fn_strings_trimRightUnicode : Nat := 69
abbrev fn_sym_GetBits : Nat := 70
abbrev fn_sym_GetBelow : Nat := 71
abbrev fn_pvq_Vector : Nat := 72
abbrev fn_sym_GetDelta : Nat := 73
abbrev fn_energy_Row : Nat := 74
abbrev fn_ref16_far : Nat := 75
abbrev fn_rc_right : Nat := 76
abbrev fn_rc_narrowed_narrow : Nat := 77
abbrev fn_rc_Coder_carry : Nat := 78
abbrev fn_rc_narrowed_small : Nat := 79
abbrev fn_rc_Coder_tell : Nat := 80
abbrev fn_num_within : Nat := 81
abbrev fn_internal_abi_NoEscape : Nat := 82
abbrev fn_sym_get : Nat := 86
abbrev fn_pvq_first : Nat := 87
abbrev fn_rc_Decoder_Place : Nat := 88
abbrev fn_rc_Decoder_Take : Nat := 89
abbrev fn_rc_narrowed_now : Nat := 90
abbrev fn_rc_Coder_settle : Nat := 91
abbrev T_int : Nat := 3
abbrev T_uint8 : Nat := 5
abbrev T_api_Frame : Nat := 24
abbrev T_api_Chan : Nat := 39
abbrev T_sl_int : Nat := 40
abbrev T_api_Band : Nat := 42
abbrev T_strings_Builder : Nat := 52
abbrev T_code_writer : Nat := 56
abbrev T_code_reader : Nat := 68
abbrev T_rc_Decoder : Nat := 93
abbrev T_8_int : Nat := 100
abbrev T_13_int : Nat := 103
abbrev T_strings_asciiSet : Nat := 113
abbrev T_pvq_table : Nat := 128
/-! (*splicer/rc.Coder).settle -/
noncomputable def rc_Coder_settle_l0 (call : Nat → List AV → M AV) (n : Nat) (rec : List AV → M AV) (x0_1 x1_1 : AV) : M AV :=
  lp (aNil x0_1) fun v22 =>
  lp (aOff 6 v22) fun v23 =>
  bnd (load none v23) fun v24 =>
  lp (aBin .gtr [] v24 (.int .i64 0)) fun v25 =>
  mc v25
    (lp (aNil x0_1) fun v34 =>
  lp (aOff 2 v34) fun v35 =>
  lp (aBin .add [] (.int .i64 255) x1_1) fun v37 =>
  lp (aInt .u8 v37) fun v38 =>
  bnd (call fn_strings_Builder_WriteByte [v35, v38]) fun v39 =>
  lp (aNil x0_1) fun v27 =>
  lp (aOff 6 v27) fun v28 =>
  bnd (load none v28) fun v29 =>
  lp (aBin .sub [] v29 (.int .i64 1)) fun v30 =>
  lp (aNil x0_1) fun v31 =>
  lp (aOff 6 v31) fun v32 =>
  bnd (store none v32 v30) fun u =>
  rec [x0_1, x1_1])
    (lp (aNil x0_1) fun v41 =>
lp (aOff 5 v41) fun v42 =>
bnd (store none v42 (.int .i64 0)) fun u_1 =>
ret (.tup []))
noncomputable def rc_Coder_settle_j0 (call : Nat → List AV → M AV) (n : Nat) (x0 x1 : AV) : M AV :=
  loopN (fun r l => rc_Coder_settle_l0 call n r (l.getD 0 .undef) (l.getD 1 .undef)) n [x0, x1]
noncomputable def rc_Coder_settle (call : Nat → List AV → M AV) (n : Nat) (a0 a1 : AV) : M AV :=
  lp (aNil a0) fun v5 =>
  lp (aOff 5 v5) fun v6 =>
  bnd (load none v6) fun v7 =>
  lp (aBin .gtr [] v7 (.int .i64 0)) fun v8 =>
  mc v8
    (lp (aNil a0) fun v10 =>
    lp (aOff 2 v10) fun v11 =>
    lp (aNil a0) fun v13 =>
    lp (aOff 5 v13) fun v14 =>
    bnd (load none v14) fun v15 =>
    lp (aBin .sub [] v15 (.int .i64 1)) fun v16 =>
    lp (aBin .add [] v16 a1) fun v18 =>
    lp (aInt .u8 v18) fun v19 =>
    snap fun _ =>
    bnd (call fn_strings_Builder_WriteByte [v11, v19]) fun v20 =>
    snap fun _ =>
    rc_Coder_settle_j0 call n a0 a1)
    (rc_Coder_settle_j0 call n a0 a1)
theorem rc_Coder_settle_eq {ext : Ext} (h : ext fn_rc_Coder_settle = none) (n : Nat) (a0 a1 : AV) : fcall Tryd.prog ext (n + 1) fn_rc_Coder_settle [a0, a1] = rc_Coder_settle (fcall Tryd.prog ext n) n a0 a1 := by
  unfold fcall; rw [h]; kernel_rfl

/-! (*splicer/rc.narrowed).now -/
noncomputable def rc_narrowed_now_j0 (call : Nat → List AV → M AV) (n : Nat) (x0 : AV) : M AV :=
  lp (aNil x0) fun v15 =>
  lp (aOff 1 v15) fun v16 =>
  bnd (load none v16) fun v17 =>
  ret v17
noncomputable def rc_narrowed_now (call : Nat → List AV → M AV) (n : Nat) (a0 : AV) : M AV :=
  lp (aNil a0) fun v4 =>
  lp (aOff 0 v4) fun v5 =>
  bnd (load none v5) fun v6 =>
  lp (aUn .not v6) fun v7 =>
  mc v7
    (lp (aNil a0) fun v10 =>
    lp (aOff 0 v10) fun v11 =>
    bnd (store none v11 (.bool true)) fun u =>
    lp (aNil a0) fun v12 =>
    lp (aOff 1 v12) fun v13 =>
    bnd (store none v13 (.int .u64 4294967295)) fun u_1 =>
    rc_narrowed_now_j0 call n a0)
    (rc_narrowed_now_j0 call n a0)
theorem rc_narrowed_now_eq {ext : Ext} (h : ext fn_rc_narrowed_now = none) (n : Nat) (a0 : AV) : fcall Tryd.prog ext (n + 1) fn_rc_narrowed_now [a0] = rc_narrowed_now (fcall Tryd.prog ext n) n a0 := by
  unfold fcall; rw [h]; kernel_rfl

/-! (*splicer/rc.Decoder).Take -/
noncomputable def rc_Decoder_Take_l0 (call : Nat → List AV → M AV) (n : Nat) (rec : List AV → M AV) (x0_1 : AV) : M AV :=
  lp (aNil x0_1) fun v54 =>
  lp (aOff 0 v54) fun v55 =>
  bnd (call fn_rc_narrowed_small [v55]) fun v56 =>
  mc v56
    (lp (aNil x0_1) fun v59 =>
  lp (aOff 3 v59) fun v60 =>
  bnd (load none v60) fun v61 =>
  lp (aBin .shl [] v61 (.int .u64 8)) fun v62 =>
  snap fun _ =>
  bnd (call fn_rc_Decoder_next [x0_1]) fun v64 =>
  snap fun m_3 =>
  same none v60 v61 m_3 <|
  lp (aBin .or [] v62 v64) fun v65 =>
  lp (aNil x0_1) fun v66 =>
  lp (aOff 3 v66) fun v67 =>
  snap fun _ =>
  bnd (store none v67 v65) fun u_1 =>
  snap fun _ =>
  rec [x0_1])
    (ret (.tup []))
noncomputable def rc_Decoder_Take_j0 (call : Nat → List AV → M AV) (n : Nat) (x0 x1 x2 x3 x24 : AV) : M AV :=
  mc x24
    (ret (.tup []))
    (lp (aNil x0) fun v26 =>
lp (aOff 0 v26) fun v27 =>
bnd (call fn_rc_narrowed_narrow [v27, x1, x2, x3]) fun v31 =>
lp (aNil x0) fun v34 =>
lp (aOff 3 v34) fun v35 =>
bnd (load none v35) fun v36 =>
lp (aNil x0) fun v38 =>
lp (aOff 3 v38) fun v39 =>
bnd (load none v39) fun v40 =>
lp (aFold aMin2 v40 [v31]) fun v42 =>
lp (aBin .sub [] v36 v42) fun v43 =>
lp (aNil x0) fun v45 =>
lp (aOff 0 v45) fun v46 =>
lp (aOff 1 v46) fun v47 =>
bnd (load none v47) fun v48 =>
lp (aBin .sub [] v48 (.int .u64 1)) fun v49 =>
lp (aFold aMin2 v43 [v49]) fun v50 =>
lp (aNil x0) fun v51 =>
lp (aOff 3 v51) fun v52 =>
snap fun _ =>
bnd (store none v52 v50) fun u =>
snap fun _ =>
loopN (fun r l => rc_Decoder_Take_l0 call n r (l.getD 0 .undef)) n [x0])
noncomputable def rc_Decoder_Take (call : Nat → List AV → M AV) (n : Nat) (a0 a1 a2 a3 : AV) : M AV :=
  lp (aBin .eql [3] a0 .nilptr) fun v10 =>
  mc v10
    (rc_Decoder_Take_j0 call n a0 a1 a2 a3 (.bool true))
    (lp (aNil a0) fun v13 =>
    lp (aOff 4 v13) fun v14 =>
    bnd (load none v14) fun v15 =>
    lp (aUn .not v15) fun v16 =>
    mc v16
      (rc_Decoder_Take_j0 call n a0 a1 a2 a3 (.bool true))
      (bnd (call fn_rc_right [a1, a2, a3]) fun v22 =>
      lp (aUn .not v22) fun v23 =>
      rc_Decoder_Take_j0 call n a0 a1 a2 a3 v23))
theorem rc_Decoder_Take_eq {ext : Ext} (h : ext fn_rc_Decoder_Take = none) (n : Nat) (a0 a1 a2 a3 : AV) : fcall Tryd.prog ext (n + 1) fn_rc_Decoder_Take [a0, a1, a2, a3] = rc_Decoder_Take (fcall Tryd.prog ext n) n a0 a1 a2 a3 := by
  unfold fcall; rw [h]; kernel_rfl

/-! (*splicer/rc.Decoder).Place -/
noncomputable def rc_Decoder_Place_j0 (call : Nat → List AV → M AV) (n : Nat) (x0 x1 x19 : AV) : M AV :=
  mc x19
    (ret (.int .i64 0))
    (lp (aBin .sub [] x1 (.int .i64 1)) fun v21 =>
lp (aNil x0) fun v23 =>
lp (aOff 3 v23) fun v24 =>
bnd (load none v24) fun v25 =>
lp (aNil x0) fun v27 =>
lp (aOff 0 v27) fun v28 =>
snap fun _ =>
bnd (call fn_rc_narrowed_now [v28]) fun v29 =>
snap fun m_1 =>
same none v24 v25 m_1 <|
lp (aInt .u64 x1) fun v31 =>
lp (aBin .quo [] v29 v31) fun v32 =>
lp (aBin .quo [] v25 v32) fun v33 =>
lp (aInt .i64 v33) fun v34 =>
lp (aFold aMin2 v21 [v34]) fun v35 =>
ret v35)
noncomputable def rc_Decoder_Place (call : Nat → List AV → M AV) (n : Nat) (a0 a1 : AV) : M AV :=
  lp (aBin .eql [3] a0 .nilptr) fun v6 =>
  mc v6
    (rc_Decoder_Place_j0 call n a0 a1 (.bool true))
    (lp (aNil a0) fun v9 =>
    lp (aOff 4 v9) fun v10 =>
    bnd (load none v10) fun v11 =>
    lp (aUn .not v11) fun v12 =>
    mc v12
      (rc_Decoder_Place_j0 call n a0 a1 (.bool true))
      (bnd (call fn_rc_right [(.int .i64 0), a1, a1]) fun v17 =>
      lp (aUn .not v17) fun v18 =>
      rc_Decoder_Place_j0 call n a0 a1 v18))
theorem rc_Decoder_Place_eq {ext : Ext} (h : ext fn_rc_Decoder_Place = none) (n : Nat) (a0 a1 : AV) : fcall Tryd.prog ext (n + 1) fn_rc_Decoder_Place [a0, a1] = rc_Decoder_Place (fcall Tryd.prog ext n) n a0 a1 := by
  unfold fcall; rw [h]; kernel_rfl

/-! splicer/pvq.first -/
noncomputable def pvq_first_l0 (call : Nat → List AV → M AV) (n : Nat) (rec : List AV → M AV) (x0 x1 x2 x8 : AV) : M AV :=
  lp (aBin .sub [] x1 x8) fun v28 =>
  lp (aNil x0) fun v29 =>
  lp (aIdxA 25 1 v29 v28) fun v30 =>
  bnd (load none v30) fun v31 =>
  lp (aBin .mul [] (.int .i64 2) v31) fun v32 =>
  lp (aBin .geq [] x2 v32) fun v33 =>
  mc v33
    (lp (aBin .sub [] x1 x8) fun v40 =>
  lp (aNil x0) fun v41 =>
  lp (aIdxA 25 1 v41 v40) fun v42 =>
  bnd (load none v42) fun v43 =>
  lp (aBin .mul [] (.int .i64 2) v43) fun v44 =>
  lp (aBin .sub [] x2 v44) fun v45 =>
  lp (aBin .add [] x8 (.int .i64 1)) fun v35 =>
  rec [x0, x1, v45, v35])
    (lp (aBin .sub [] x1 x8) fun v50 =>
lp (aNil x0) fun v51 =>
lp (aIdxA 25 1 v51 v50) fun v52 =>
bnd (load none v52) fun v53 =>
lp (aBin .geq [] x2 v53) fun v54 =>
mc v54
  (lp (aUn .neg x8) fun v56 =>
  lp (aBin .sub [] x1 x8) fun v61 =>
  lp (aNil x0) fun v62 =>
  lp (aIdxA 25 1 v62 v61) fun v63 =>
  bnd (load none v63) fun v64 =>
  lp (aBin .sub [] x2 v64) fun v65 =>
  ret (.tup [v56, v65]))
  (ret (.tup [x8, x2])))
noncomputable def pvq_first (call : Nat → List AV → M AV) (n : Nat) (a0 a1 a2 : AV) : M AV :=
  lp (aNil a0) fun v12 =>
  lp (aIdxA 25 1 v12 a1) fun v13 =>
  bnd (load none v13) fun v14 =>
  lp (aBin .lss [] a2 v14) fun v15 =>
  mc v15
    (ret (.tup [(.int .i64 0), a2]))
    (lp (aNil a0) fun v20 =>
  lp (aIdxA 25 1 v20 a1) fun v21 =>
  bnd (load none v21) fun v22 =>
  lp (aBin .sub [] a2 v22) fun v23 =>
  loopN (fun r l => pvq_first_l0 call n r (l.getD 0 .undef) (l.getD 1 .undef) (l.getD 2 .undef) (l.getD 3 .undef)) n [a0, a1, v23, (.int .i64 1)])
theorem pvq_first_eq {ext : Ext} (h : ext fn_pvq_first = none) (n : Nat) (a0 a1 a2 : AV) : fcall Tryd.prog ext (n + 1) fn_pvq_first [a0, a1, a2] = pvq_first (fcall Tryd.prog ext n) n a0 a1 a2 := by
  unfold fcall; rw [h]; kernel_rfl

/-! splicer/sym.get -/
noncomputable def sym_get (call : Nat → List AV → M AV) (n : Nat) (a0 a1 : AV) : M AV :=
  bnd (call fn_rc_Decoder_Place [a0, a1]) fun v8 =>
  lp (aBin .add [] v8 (.int .i64 1)) fun v12 =>
  bnd (call fn_rc_Decoder_Take [a0, v8, v12, a1]) fun v14 =>
  ret v8
theorem sym_get_eq {ext : Ext} (h : ext fn_sym_get = none) (n : Nat) (a0 a1 : AV) : fcall Tryd.prog ext (n + 1) fn_sym_get [a0, a1] = sym_get (fcall Tryd.prog ext n) n a0 a1 := by
  unfold fcall; rw [h]; kernel_rfl

/-! splicer/num.within -/
noncomputable def num_within_j0 (call : Nat → List AV → M AV) (n : Nat) (rec : List AV → M AV) (x0_1 x7_1 x8_1 x9_1 x18_1 x19_1 x20_1 x21 : AV) : M AV :=
  mc x21
    (ret (.bool false))
    (lp (aBin .add [] x9_1 (.int .i64 1)) fun v22 =>
rec [x0_1, x7_1, x8_1, v22, x18_1, x19_1, x20_1])
noncomputable def num_within_l0 (call : Nat → List AV → M AV) (n : Nat) (rec : List AV → M AV) (x0 x7 x8 x9 x18 x19 x20 : AV) : M AV :=
  lp (aBin .lss [] x9 x8) fun v10 =>
  mc v10
    (lp (aIdxS 1 x7 x9) fun v11 =>
  bnd (load none v11) fun v12 =>
  lp (aUn .neg x0) fun v15 =>
  lp (aBin .lss [] v12 v15) fun v16 =>
  mc v16
    (num_within_j0 call n rec x0 x7 x8 x9 (.tup []) (.tup []) (.tup []) (.bool true))
    (lp (aBin .gtr [] v12 x0) fun v20 =>
    num_within_j0 call n rec x0 x7 x8 x9 v12 x0 v20 v20))
    (ret (.bool true))
noncomputable def num_within (call : Nat → List AV → M AV) (n : Nat) (a0 a1 : AV) : M AV :=
  lp (aLenS a1) fun v8 =>
  loopN (fun r l => num_within_l0 call n r (l.getD 0 .undef) (l.getD 1 .undef) (l.getD 2 .undef) (l.getD 3 .undef) (l.getD 4 .undef) (l.getD 5 .undef) (l.getD 6 .undef)) n [a0, a1, v8, (.int .i64 0), .undef, .undef, .undef]
theorem num_within_eq {ext : Ext} (h : ext fn_num_within = none) (n : Nat) (a0 a1 : AV) : fcall Tryd.prog ext (n + 1) fn_num_within [a0, a1] = num_within (fcall Tryd.prog ext n) n a0 a1 := by
  unfold fcall; rw [h]; kernel_rfl

/-! (*splicer/rc.Coder).tell -/
noncomputable def rc_Coder_tell (call : Nat → List AV → M AV) (n : Nat) (a0 a1 : AV) : M AV :=
  lp (aBin .eql [6] a1 (.int .i64 255)) fun v5 =>
  mc v5
    (lp (aNil a0) fun v7 =>
    lp (aOff 6 v7) fun v8 =>
    bnd (load none v8) fun v9 =>
    lp (aBin .add [] v9 (.int .i64 1)) fun v10 =>
    lp (aNil a0) fun v11 =>
    lp (aOff 6 v11) fun v12 =>
    bnd (store none v12 v10) fun u =>
    ret (.tup []))
    (bnd (call fn_rc_Coder_settle [a0, (.int .i64 0)]) fun v14 =>
  lp (aBin .add [] a1 (.int .i64 1)) fun v17 =>
  lp (aNil a0) fun v18 =>
  lp (aOff 5 v18) fun v19 =>
  bnd (store none v19 v17) fun u_1 =>
  ret (.tup []))
theorem rc_Coder_tell_eq {ext : Ext} (h : ext fn_rc_Coder_tell = none) (n : Nat) (a0 a1 : AV) : fcall Tryd.prog ext (n + 1) fn_rc_Coder_tell [a0, a1] = rc_Coder_tell (fcall Tryd.prog ext n) n a0 a1 := by
  unfold fcall; rw [h]; kernel_rfl

/-! (*splicer/rc.narrowed).small -/
noncomputable def rc_narrowed_small (call : Nat → List AV → M AV) (n : Nat) (a0 : AV) : M AV :=
  lp (aNil a0) fun v4 =>
  lp (aOff 1 v4) fun v5 =>
  bnd (load none v5) fun v6 =>
  lp (aBin .geq [] v6 (.int .u64 16777216)) fun v7 =>
  mc v7
    (ret (.bool false))
    (lp (aNil a0) fun v9 =>
  lp (aOff 1 v9) fun v10 =>
  bnd (load none v10) fun v11 =>
  lp (aBin .shl [] v11 (.int .u64 8)) fun v12 =>
  lp (aNil a0) fun v13 =>
  lp (aOff 1 v13) fun v14 =>
  bnd (store none v14 v12) fun u =>
  ret (.bool true))
theorem rc_narrowed_small_eq {ext : Ext} (h : ext fn_rc_narrowed_small = none) (n : Nat) (a0 : AV) : fcall Tryd.prog ext (n + 1) fn_rc_narrowed_small [a0] = rc_narrowed_small (fcall Tryd.prog ext n) n a0 := by
  unfold fcall; rw [h]; kernel_rfl

/-! (*splicer/rc.Coder).carry -/
noncomputable def rc_Coder_carry (call : Nat → List AV → M AV) (n : Nat) (a0 : AV) : M AV :=
  bnd (call fn_rc_Coder_settle [a0, (.int .i64 1)]) fun v3 =>
  ret (.tup [])
theorem rc_Coder_carry_eq {ext : Ext} (h : ext fn_rc_Coder_carry = none) (n : Nat) (a0 : AV) : fcall Tryd.prog ext (n + 1) fn_rc_Coder_carry [a0] = rc_Coder_carry (fcall Tryd.prog ext n) n a0 := by
  unfold fcall; rw [h]; kernel_rfl

/-! (*splicer/rc.narrowed).narrow -/
noncomputable def rc_narrowed_narrow_j0 (call : Nat → List AV → M AV) (n : Nat) (x10 : AV) : M AV :=
  ret x10
noncomputable def rc_narrowed_narrow (call : Nat → List AV → M AV) (n : Nat) (a0 a1 a2 a3 : AV) : M AV :=
  bnd (call fn_rc_narrowed_now [a0]) fun v12 =>
  lp (aInt .u64 a3) fun v14 =>
  lp (aBin .quo [] v12 v14) fun v15 =>
  lp (aInt .u64 a1) fun v18 =>
  lp (aBin .mul [] v15 v18) fun v19 =>
  lp (aBin .eql [6] a2 a3) fun v22 =>
  mc v22
    (lp (aNil a0) fun v24 =>
    lp (aOff 1 v24) fun v25 =>
    bnd (load none v25) fun v26 =>
    lp (aBin .sub [] v26 v19) fun v28 =>
    lp (aNil a0) fun v29 =>
    lp (aOff 1 v29) fun v30 =>
    bnd (store none v30 v28) fun u =>
    rc_narrowed_narrow_j0 call n v19)
    (lp (aBin .sub [] a2 a1) fun v35 =>
    lp (aInt .u64 v35) fun v36 =>
    lp (aBin .mul [] v15 v36) fun v37 =>
    lp (aNil a0) fun v38 =>
    lp (aOff 1 v38) fun v39 =>
    bnd (store none v39 v37) fun u_1 =>
    rc_narrowed_narrow_j0 call n v19)
theorem rc_narrowed_narrow_eq {ext : Ext} (h : ext fn_rc_narrowed_narrow = none) (n : Nat) (a0 a1 a2 a3 : AV) : fcall Tryd.prog ext (n + 1) fn_rc_narrowed_narrow [a0, a1, a2, a3] = rc_narrowed_narrow (fcall Tryd.prog ext n) n a0 a1 a2 a3 := by
  unfold fcall; rw [h]; kernel_rfl

/-! splicer/rc.right -/
noncomputable def rc_right_j0 (call : Nat → List AV → M AV) (n : Nat) (x6 : AV) : M AV :=
  ret x6
noncomputable def rc_right (call : Nat → List AV → M AV) (n : Nat) (a0 a1 a2 : AV) : M AV :=
  lp (aBin .leq [] (.int .i64 0) a0) fun v8 =>
  mc v8
    (lp (aBin .lss [] a0 a1) fun v12 =>
    mc v12
      (lp (aBin .leq [] a1 a2) fun v17 =>
      mc v17
        (lp (aBin .leq [] a2 (.int .i64 65536)) fun v21 =>
        rc_right_j0 call n v21)
        (rc_right_j0 call n (.bool false)))
      (rc_right_j0 call n (.bool false)))
    (rc_right_j0 call n (.bool false))
theorem rc_right_eq {ext : Ext} (h : ext fn_rc_right = none) (n : Nat) (a0 a1 a2 : AV) : fcall Tryd.prog ext (n + 1) fn_rc_right [a0, a1, a2] = rc_right (fcall Tryd.prog ext n) n a0 a1 a2 := by
  unfold fcall; rw [h]; kernel_rfl

/-! splicer/splicerref16.far -/
noncomputable def ref16_far_j0 (call : Nat → List AV → M AV) (n : Nat) (x0 x8 : AV) : M AV :=
  mc x8
    (ret (.int .i64 25))
    (lp (aUn .neg x0) fun v11 =>
lp (aFold aMax2 x0 [v11]) fun v12 =>
ret v12)
noncomputable def ref16_far (call : Nat → List AV → M AV) (n : Nat) (a0 : AV) : M AV :=
  lp (aBin .lss [] a0 (.int .i64 (-24))) fun v4 =>
  mc v4
    (ref16_far_j0 call n a0 (.bool true))
    (lp (aBin .gtr [] a0 (.int .i64 24)) fun v7 =>
    ref16_far_j0 call n a0 v7)
theorem ref16_far_eq {ext : Ext} (h : ext fn_ref16_far = none) (n : Nat) (a0 : AV) : fcall Tryd.prog ext (n + 1) fn_ref16_far [a0] = ref16_far (fcall Tryd.prog ext n) n a0 := by
  unfold fcall; rw [h]; kernel_rfl

/-! splicer/energy.Row -/
noncomputable def energy_Row_j2 (call : Nat → List AV → M AV) (n : Nat) (rec : List AV → M AV) (x8_2 x9_2 x10_2 x31_2 x32_2 x33_2 x41_2 x42_2 x57_2 x58_2 x59 : AV) : M AV :=
  mc x59
    (ret (.tup [.nilslice, (.bool false)]))
    (lp (aBin .add [] x33_2 (.int .i64 1)) fun v60 =>
rec [x8_2, x9_2, x10_2, x31_2, x32_2, v60, x41_2, x42_2, x57_2, x58_2])
noncomputable def energy_Row_j1 (call : Nat → List AV → M AV) (n : Nat) (rec : List AV → M AV) (x8_1 x9_1 x10_1 x11 x12 x31_1 x32_1 x33_1 x41_1 x42_1 x43 x57_1 x58_1 : AV) : M AV :=
  mc x43
    (ret (.tup [.nilslice, (.bool false)]))
    (callee call x8_1 [x11, x10_1] fun v47 =>
lp (aBin .add [] v47 x12) fun v49 =>
lp (aIdxS 1 x9_1 x11) fun v53 =>
bnd (store none v53 v49) fun u =>
lp (aBin .lss [] v49 (.int .i64 0)) fun v55 =>
mc v55
  (energy_Row_j2 call n rec x8_1 x9_1 v49 x31_1 x32_1 x33_1 x41_1 x42_1 (.tup []) (.tup []) (.bool true))
  (lp (aBin .gtr [] v49 (.int .i64 23)) fun v58 =>
  energy_Row_j2 call n rec x8_1 x9_1 v49 x31_1 x32_1 x33_1 x41_1 x42_1 v49 v58 v58))
noncomputable def energy_Row_l0 (call : Nat → List AV → M AV) (n : Nat) (rec : List AV → M AV) (x8 x9 x10 x31 x32 x33 x41 x42 x57 x58 : AV) : M AV :=
  lp (aBin .lss [] x33 x32) fun v34 =>
  mc v34
    (lp (aIdxS 1 x31 x33) fun v36 =>
  bnd (load none v36) fun v37 =>
  lp (aBin .lss [] v37 (.int .i64 (-67))) fun v39 =>
  mc v39
    (energy_Row_j1 call n rec x8 x9 x10 x33 v37 x31 x32 x33 (.tup []) (.tup []) (.bool true) x57 x58)
    (lp (aBin .gtr [] v37 (.int .i64 67)) fun v42 =>
    energy_Row_j1 call n rec x8 x9 x10 x33 v37 x31 x32 x33 v37 v42 v42 x57 x58))
    (ret (.tup [x9, (.bool true)]))
noncomputable def energy_Row_j0 (call : Nat → List AV → M AV) (n : Nat) (x0 x1 x2 x24 : AV) : M AV :=
  mc x24
    (ret (.tup [.nilslice, (.bool false)]))
    (bnd (call fn_energy_expects [x0, x1]) fun v27 =>
lp (aLenS x2) fun v29 =>
bnd (mkSlice T_int 1 8 [.int .i64 0] v29 v29) fun v30 =>
lp (aLenS x2) fun v32 =>
loopN (fun r l => energy_Row_l0 call n r (l.getD 0 .undef) (l.getD 1 .undef) (l.getD 2 .undef) (l.getD 3 .undef) (l.getD 4 .undef) (l.getD 5 .undef) (l.getD 6 .undef) (l.getD 7 .undef) (l.getD 8 .undef) (l.getD 9 .undef)) n [v27, v30, (.int .i64 0), x2, v32, (.int .i64 0), .undef, .undef, .undef, .undef])
noncomputable def energy_Row (call : Nat → List AV → M AV) (n : Nat) (a0 a1 a2 : AV) : M AV :=
  lp (aLenS a2) fun v14 =>
  lp (aBin .neq [6] v14 (.int .i64 13)) fun v15 =>
  mc v15
    (energy_Row_j0 call n a0 a1 a2 (.bool true))
    (lp (aUn .not a0) fun v18 =>
    mc v18
      (bnd (call fn_energy_Right [a1]) fun v21 =>
      lp (aUn .not v21) fun v22 =>
      energy_Row_j0 call n a0 a1 a2 v22)
      (energy_Row_j0 call n a0 a1 a2 (.bool false)))
theorem energy_Row_eq {ext : Ext} (h : ext fn_energy_Row = none) (n : Nat) (a0 a1 a2 : AV) : fcall Tryd.prog ext (n + 1) fn_energy_Row [a0, a1, a2] = energy_Row (fcall Tryd.prog ext n) n a0 a1 a2 := by
  unfold fcall; rw [h]; kernel_rfl

/-! splicer/sym.GetDelta -/
noncomputable def sym_GetDelta_l0 (call : Nat → List AV → M AV) (n : Nat) (rec : List AV → M AV) (x0 x3 x4 x5 : AV) : M AV :=
  lp (aIdxA 8 1 x3 x4) fun v14 =>
  bnd (load none v14) fun v15 =>
  lp (aBin .leq [] v15 x5) fun v17 =>
  mc v17
    (lp (aBin .add [] x4 (.int .i64 1)) fun v19 =>
  rec [x0, x3, v19, x5])
    (bnd (load (some 8) x3) fun v21 =>
snap fun m =>
bnd (call fn_sym_begins [v21, x4]) fun v23 =>
snap fun _ =>
lp (aIdxA 8 1 x3 x4) fun v25 =>
bnd (load none v25) fun v26 =>
same none v25 v26 m <|
snap fun _ =>
bnd (call fn_rc_Decoder_Take [x0, v23, v26, (.int .i64 64)]) fun v27 =>
snap fun _ =>
lp (aBin .leq [] x4 (.int .i64 6)) fun v29 =>
mc v29
  (lp (aBin .add [] x4 (.int .i64 1)) fun v31 =>
  lp (aBin .quo [] v31 (.int .i64 2)) fun v32 =>
  lp (aBin .rem [] x4 (.int .i64 2)) fun v34 =>
  lp (aBin .eql [6] v34 (.int .i64 1)) fun v35 =>
  mc v35
    (lp (aUn .neg v32) fun v37 =>
    ret v37)
    (ret v32))
  (bnd (call fn_sym_GetBits [x0, (.int .i64 1)]) fun v40 =>
lp (aBin .eql [6] v40 (.int .i64 1)) fun v41 =>
bnd (call fn_sym_GetBelow [x0, (.int .i64 64)]) fun v44 =>
lp (aExt 0 v44) fun v45 =>
lp (aExt 1 v44) fun v46 =>
lp (aBin .add [] v45 (.int .i64 4)) fun v48 =>
mc v41
  (ret v48)
  (lp (aUn .neg v48) fun v52 =>
ret v52)))
noncomputable def sym_GetDelta (call : Nat → List AV → M AV) (n : Nat) (a0 : AV) : M AV :=
  bnd (call fn_sym_ends []) fun v10 =>
  bnd (alloc T_8_int [.int .i64 0, .int .i64 0, .int .i64 0, .int .i64 0, .int .i64 0, .int .i64 0, .int .i64 0, .int .i64 0]) fun v3 =>
  bnd (store (some 8) v3 v10) fun u =>
  bnd (call fn_rc_Decoder_Place [a0, (.int .i64 64)]) fun v12 =>
  loopN (fun r l => sym_GetDelta_l0 call n r (l.getD 0 .undef) (l.getD 1 .undef) (l.getD 2 .undef) (l.getD 3 .undef)) n [a0, v3, (.int .i64 0), v12]
theorem sym_GetDelta_eq {ext : Ext} (h : ext fn_sym_GetDelta = none) (n : Nat) (a0 : AV) : fcall Tryd.prog ext (n + 1) fn_sym_GetDelta [a0] = sym_GetDelta (fcall Tryd.prog ext n) n a0 := by
  unfold fcall; rw [h]; kernel_rfl

/-! splicer/pvq.Vector -/
noncomputable def pvq_Vector_l0 (call : Nat → List AV → M AV) (n : Nat) (rec : List AV → M AV) (x0_1 x1_1 x2_1 x8 x9 x28 x29 : AV) : M AV :=
  lp (aBin .lss [] x29 x28) fun v30 =>
  mc v30
    (lp (aBin .sub [] x0_1 (.int .i64 1)) fun v37 =>
  lp (aBin .sub [] v37 x29) fun v39 =>
  lp (aNil x8) fun v40 =>
  lp (aIdxA 9 25 v40 v39) fun v41 =>
  bnd (call fn_pvq_first [v41, x1_1, x2_1]) fun v44 =>
  lp (aExt 0 v44) fun v45 =>
  lp (aExt 1 v44) fun v46 =>
  lp (aIdxS 1 x9 x29) fun v47 =>
  bnd (store none v47 v45) fun u =>
  lp (aIdxS 1 x9 x29) fun v51 =>
  bnd (load none v51) fun v52 =>
  bnd (call fn_num_Abs [v52]) fun v53 =>
  lp (aBin .sub [] x1_1 v53) fun v54 =>
  lp (aBin .add [] x29 (.int .i64 1)) fun v55 =>
  rec [x0_1, v54, v46, x8, x9, x28, v55])
    (ret (.tup [x9, (.bool true)]))
noncomputable def pvq_Vector_j0 (call : Nat → List AV → M AV) (n : Nat) (x0 x1 x2 x23 : AV) : M AV :=
  mc x23
    (ret (.tup [.nilslice, (.bool false)]))
    (bnd (call fn_pvq_made []) fun v24 =>
bnd (mkSlice T_int 1 8 [.int .i64 0] x0 x0) fun v26 =>
lp (aLenS v26) fun v28 =>
loopN (fun r l => pvq_Vector_l0 call n r (l.getD 0 .undef) (l.getD 1 .undef) (l.getD 2 .undef) (l.getD 3 .undef) (l.getD 4 .undef) (l.getD 5 .undef) (l.getD 6 .undef)) n [x0, x1, x2, v24, v26, v28, (.int .i64 0)])
noncomputable def pvq_Vector (call : Nat → List AV → M AV) (n : Nat) (a0 a1 a2 : AV) : M AV :=
  lp (aBin .lss [] a0 (.int .i64 1)) fun v12 =>
  mc v12
    (pvq_Vector_j0 call n a0 a1 a2 (.bool true))
    (lp (aBin .lss [] a2 (.int .i64 0)) fun v15 =>
    mc v15
      (pvq_Vector_j0 call n a0 a1 a2 (.bool true))
      (bnd (call fn_pvq_Count [a0, a1]) fun v21 =>
      lp (aBin .geq [] a2 v21) fun v22 =>
      pvq_Vector_j0 call n a0 a1 a2 v22))
theorem pvq_Vector_eq {ext : Ext} (h : ext fn_pvq_Vector = none) (n : Nat) (a0 a1 a2 : AV) : fcall Tryd.prog ext (n + 1) fn_pvq_Vector [a0, a1, a2] = pvq_Vector (fcall Tryd.prog ext n) n a0 a1 a2 := by
  unfold fcall; rw [h]; kernel_rfl

/-! splicer/sym.GetBelow -/
noncomputable def sym_GetBelow_j0 (call : Nat → List AV → M AV) (n : Nat) (x0 x1 x14 : AV) : M AV :=
  mc x14
    (ret (.tup [(.int .i64 0), (.bool false)]))
    (bnd (call fn_sym_parted [x1]) fun v17 =>
lp (aExt 0 v17) fun v18 =>
lp (aExt 1 v17) fun v19 =>
bnd (call fn_sym_get [x0, v19]) fun v22 =>
lp (aBin .shl [] v22 v18) fun v24 =>
bnd (call fn_sym_GetBits [x0, v18]) fun v28 =>
lp (aBin .or [] v24 v28) fun v29 =>
lp (aBin .geq [] v29 x1) fun v32 =>
mc v32
  (ret (.tup [(.int .i64 0), (.bool false)]))
  (ret (.tup [v29, (.bool true)])))
noncomputable def sym_GetBelow (call : Nat → List AV → M AV) (n : Nat) (a0 a1 : AV) : M AV :=
  lp (aBin .lss [] a1 (.int .i64 1)) fun v10 =>
  mc v10
    (sym_GetBelow_j0 call n a0 a1 (.bool true))
    (lp (aBin .gtr [] a1 (.int .i64 2147483648)) fun v13 =>
    sym_GetBelow_j0 call n a0 a1 v13)
theorem sym_GetBelow_eq {ext : Ext} (h : ext fn_sym_GetBelow = none) (n : Nat) (a0 a1 : AV) : fcall Tryd.prog ext (n + 1) fn_sym_GetBelow [a0, a1] = sym_GetBelow (fcall Tryd.prog ext n) n a0 a1 := by
  unfold fcall; rw [h]; kernel_rfl

/-! splicer/sym.GetBits -/
noncomputable def sym_GetBits_j1 (call : Nat → List AV → M AV) (n : Nat) (x5_1 : AV) : M AV :=
  ret x5_1
noncomputable def sym_GetBits_l0 (call : Nat → List AV → M AV) (n : Nat) (rec : List AV → M AV) (x0_1 x1_1 x5 : AV) : M AV :=
  lp (aBin .gtr [] x1_1 (.int .i64 8)) fun v13 =>
  mc v13
    (lp (aBin .shl [] x5 (.int .u64 8)) fun v17 =>
  bnd (call fn_sym_get [x0_1, (.int .i64 256)]) fun v19 =>
  lp (aBin .or [] v17 v19) fun v20 =>
  lp (aBin .sub [] x1_1 (.int .i64 8)) fun v15 =>
  rec [x0_1, v15, v20])
    (lp (aBin .gtr [] x1_1 (.int .i64 0)) fun v22 =>
mc v22
  (lp (aBin .shl [] x5 x1_1) fun v25 =>
  lp (aBin .shl [] (.int .i64 1) x1_1) fun v28 =>
  snap fun _ =>
  bnd (call fn_sym_get [x0_1, v28]) fun v29 =>
  snap fun _ =>
  lp (aBin .or [] v25 v29) fun v30 =>
  sym_GetBits_j1 call n v30)
  (sym_GetBits_j1 call n x5))
noncomputable def sym_GetBits_j0 (call : Nat → List AV → M AV) (n : Nat) (x0 x1 x11 : AV) : M AV :=
  mc x11
    (ret (.int .i64 0))
    (loopN (fun r l => sym_GetBits_l0 call n r (l.getD 0 .undef) (l.getD 1 .undef) (l.getD 2 .undef)) n [x0, x1, (.int .i64 0)])
noncomputable def sym_GetBits (call : Nat → List AV → M AV) (n : Nat) (a0 a1 : AV) : M AV :=
  lp (aBin .lss [] a1 (.int .i64 0)) fun v7 =>
  mc v7
    (sym_GetBits_j0 call n a0 a1 (.bool true))
    (lp (aBin .gtr [] a1 (.int .i64 31)) fun v10 =>
    sym_GetBits_j0 call n a0 a1 v10)
theorem sym_GetBits_eq {ext : Ext} (h : ext fn_sym_GetBits = none) (n : Nat) (a0 a1 : AV) : fcall Tryd.prog ext (n + 1) fn_sym_GetBits [a0, a1] = sym_GetBits (fcall Tryd.prog ext n) n a0 a1 := by
  unfold fcall; rw [h]; kernel_rfl

/-! strings.trimRightByte -/
noncomputable def strings_trimRightByte_j0 (call : Nat → List AV → M AV) (n : Nat) (rec : List AV → M AV) (x0_1 x1_1 x9_1 x10_1 x11_1 x12_1 x13_1 x14_1 x15_1 x16 : AV) : M AV :=
  mc x16
    (lp (aLenStr x0_1) fun v19 =>
lp (aBin .sub [] v19 (.int .i64 1)) fun v20 =>
lp (aSliceStr x0_1 none (some v20)) fun v21 =>
rec [v21, x1_1, x9_1, x10_1, x11_1, x12_1, x13_1, x14_1, x15_1])
    (ret x0_1)
noncomputable def strings_trimRightByte_l0 (call : Nat → List AV → M AV) (n : Nat) (rec : List AV → M AV) (x0 x1 x9 x10 x11 x12 x13 x14 x15 : AV) : M AV :=
  lp (aLenStr x0) fun v6 =>
  lp (aBin .gtr [] v6 (.int .i64 0)) fun v7 =>
  mc v7
    (lp (aLenStr x0) fun v11 =>
    lp (aBin .sub [] v11 (.int .i64 1)) fun v12 =>
    lp (aIdxStr x0 v12) fun v13 =>
    lp (aBin .eql [6] v13 x1) fun v15 =>
    strings_trimRightByte_j0 call n rec x0 x1 x0 x0 v11 v12 v13 x1 v15 v15)
    (strings_trimRightByte_j0 call n rec x0 x1 (.tup []) (.tup []) (.tup []) (.tup []) (.tup []) (.tup []) (.tup []) (.bool false))
noncomputable def strings_trimRightByte (call : Nat → List AV → M AV) (n : Nat) (a0 a1 : AV) : M AV :=
  loopN (fun r l => strings_trimRightByte_l0 call n r (l.getD 0 .undef) (l.getD 1 .undef) (l.getD 2 .undef) (l.getD 3 .undef) (l.getD 4 .undef) (l.getD 5 .undef) (l.getD 6 .undef) (l.getD 7 .undef) (l.getD 8 .undef)) n [a0, a1, .undef, .undef, .undef, .undef, .undef, .undef, .undef]
theorem strings_trimRightByte_eq {ext : Ext} (h : ext fn_strings_trimRightByte = none) (n : Nat) (a0 a1 : AV) : fcall Tryd.prog ext (n + 1) fn_strings_trimRightByte [a0, a1] = strings_trimRightByte (fcall Tryd.prog ext n) n a0 a1 := by
  unfold fcall; rw [h]; kernel_rfl

/-! (*strings.Builder).copyCheck -/
noncomputable def strings_Builder_copyCheck (call : Nat → List AV → M AV) (n : Nat) (a0 : AV) : M AV :=
  lp (aNil a0) fun v3 =>
  lp (aOff 0 v3) fun v4 =>
  bnd (load none v4) fun v5 =>
  lp (aBin .eql [3] v5 .nilptr) fun v6 =>
  mc v6
    (bnd (toUnsafe a0) fun v9 =>
    bnd (call fn_internal_abi_NoEscape [v9]) fun v10 =>
    bnd (fromUnsafe Tryd.prog.cellsOf (fun ty o => rowAt Tryd.prog (sameLayout Tryd.prog Tryd.prog.depth · T_strings_Builder) Tryd.prog.depth ty 1 o 1) v10) fun v11 =>
    lp (aNil a0) fun v12 =>
    lp (aOff 0 v12) fun v13 =>
    bnd (store none v13 v11) fun u =>
    ret (.tup []))
    (lp (aNil a0) fun v15 =>
    lp (aOff 0 v15) fun v16 =>
    bnd (load none v16) fun v17 =>
    lp (aBin .neq [3] v17 a0) fun v19 =>
    mc v19
      (fail /- code refuse -/)
      (ret (.tup [])))
theorem strings_Builder_copyCheck_eq {ext : Ext} (h : ext fn_strings_Builder_copyCheck = none) (n : Nat) (a0 : AV) : fcall Tryd.prog ext (n + 1) fn_strings_Builder_copyCheck [a0] = strings_Builder_copyCheck (fcall Tryd.prog ext n) n a0 := by
  unfold fcall; rw [h]; kernel_rfl

/-! splicer/energy.expects$2 -/
noncomputable def energy_expects_c2_j0 (call : Nat → List AV → M AV) (n : Nat) (x0 x1 x2 : AV) : M AV :=
  bnd (load none x2) fun v11 =>
  lp (aIdxS 1 v11 x0) fun v13 =>
  bnd (load none v13) fun v14 =>
  lp (aBin .mul [] (.int .i64 3) v14) fun v15 =>
  lp (aBin .add [] v15 x1) fun v17 =>
  lp (aBin .quo [] v17 (.int .i64 4)) fun v18 =>
  ret v18
noncomputable def energy_expects_c2 (call : Nat → List AV → M AV) (n : Nat) (a0 a1 a2 : AV) : M AV :=
  lp (aBin .eql [6] a0 (.int .i64 0)) fun v7 =>
  mc v7
    (bnd (load none a2) fun v8 =>
    lp (aIdxS 1 v8 (.int .i64 0)) fun v9 =>
    bnd (load none v9) fun v10 =>
    energy_expects_c2_j0 call n a0 v10 a2)
    (energy_expects_c2_j0 call n a0 a1 a2)
theorem energy_expects_c2_eq {ext : Ext} (h : ext fn_energy_expects_c2 = none) (n : Nat) (a0 a1 a2 : AV) : fcall Tryd.prog ext (n + 1) fn_energy_expects_c2 [a0, a1, a2] = energy_expects_c2 (fcall Tryd.prog ext n) n a0 a1 a2 := by
  unfold fcall; rw [h]; kernel_rfl

/-! splicer/energy.expects$1 -/
noncomputable def energy_expects_c1 (call : Nat → List AV → M AV) (n : Nat) (a0 a1 : AV) : M AV :=
  lp (aBin .eql [6] a0 (.int .i64 0)) fun v6 =>
  mc v6
    (ret (.int .i64 8))
    (ret a1)
theorem energy_expects_c1_eq {ext : Ext} (h : ext fn_energy_expects_c1 = none) (n : Nat) (a0 a1 : AV) : fcall Tryd.prog ext (n + 1) fn_energy_expects_c1 [a0, a1] = energy_expects_c1 (fcall Tryd.prog ext n) n a0 a1 := by
  unfold fcall; rw [h]; kernel_rfl

/-! splicer/num.Abs -/
noncomputable def num_Abs (call : Nat → List AV → M AV) (n : Nat) (a0 : AV) : M AV :=
  lp (aFill (fun i => some (i * 1, 1)) [.int .i64 0] [(0, a0)]) fun cs =>
  bnd (allocS T_int 1 1 cs) fun v5 =>
  bnd (call fn_num_within [(.int .i64 4611686018427387904), v5]) fun v6 =>
  lp (aUn .not v6) fun v7 =>
  mc v7
    (ret (.int .i64 0))
    (lp (aBin .lss [] a0 (.int .i64 0)) fun v10 =>
    mc v10
      (lp (aUn .neg a0) fun v12 =>
      ret v12)
      (ret a0))
theorem num_Abs_eq {ext : Ext} (h : ext fn_num_Abs = none) (n : Nat) (a0 : AV) : fcall Tryd.prog ext (n + 1) fn_num_Abs [a0] = num_Abs (fcall Tryd.prog ext n) n a0 := by
  unfold fcall; rw [h]; kernel_rfl

/-! splicer/pvq.made -/
noncomputable def pvq_made_l1 (call : Nat → List AV → M AV) (n : Nat) (rec : List AV → M AV) (rec_1 : List AV → M AV) (x1_1 x2 x10_1 x19 : AV) : M AV :=
  lp (aBin .lss [] x19 (.int .i64 24)) fun v20 =>
  mc v20
    (lp (aBin .add [] x2 (.int .i64 1)) fun v24 =>
  lp (aBin .add [] x19 (.int .i64 1)) fun v26 =>
  lp (aBin .add [] x19 (.int .i64 1)) fun v30 =>
  lp (aNil x1_1) fun v31 =>
  lp (aIdxA 9 25 v31 x2) fun v32 =>
  lp (aIdxA 25 1 v32 v30) fun v33 =>
  bnd (load none v33) fun v34 =>
  lp (aBin .add [] x2 (.int .i64 1)) fun v37 =>
  lp (aNil x1_1) fun v39 =>
  lp (aIdxA 9 25 v39 v37) fun v40 =>
  lp (aIdxA 25 1 v40 x19) fun v41 =>
  bnd (load none v41) fun v42 =>
  lp (aBin .add [] v34 v42) fun v43 =>
  lp (aNil x1_1) fun v47 =>
  lp (aIdxA 9 25 v47 x2) fun v48 =>
  lp (aIdxA 25 1 v48 x19) fun v49 =>
  bnd (load none v49) fun v50 =>
  lp (aBin .add [] v43 v50) fun v51 =>
  lp (aNil x1_1) fun v52 =>
  lp (aIdxA 9 25 v52 v24) fun v53 =>
  lp (aIdxA 25 1 v53 v26) fun v54 =>
  snap fun _ =>
  bnd (store none v54 v51) fun u_2 =>
  snap fun _ =>
  lp (aBin .add [] x19 (.int .i64 1)) fun v55 =>
  rec_1 [x1_1, x2, x10_1, v55])
    (lp (aBin .add [] x10_1 (.int .i64 1)) fun v56 =>
rec [x1_1, v56])
noncomputable def pvq_made_l0 (call : Nat → List AV → M AV) (n : Nat) (rec : List AV → M AV) (x1 x10 : AV) : M AV :=
  lp (aBin .lss [] x10 (.int .i64 8)) fun v11 =>
  mc v11
    (lp (aBin .add [] x10 (.int .i64 1)) fun v15 =>
  lp (aNil x1) fun v16 =>
  lp (aIdxA 9 25 v16 v15) fun v17 =>
  lp (aIdxA 25 1 v17 (.int .i64 0)) fun v18 =>
  bnd (store none v18 (.int .i64 1)) fun u_1 =>
  loopN (fun r l => pvq_made_l1 call n rec r (l.getD 0 .undef) (l.getD 1 .undef) (l.getD 2 .undef) (l.getD 3 .undef)) n [x1, x10, x10, (.int .i64 0)])
    (ret x1)
noncomputable def pvq_made (call : Nat → List AV → M AV) (n : Nat) : M AV :=
  lp ((aFill (fun i => some (i * 25, 25)) [.int .i64 0, .int .i64 0, .int .i64 0, .int .i64 0, .int .i64 0, .int .i64 0, .int .i64 0, .int .i64 0, .int .i64 0, .int .i64 0, .int .i64 0, .int .i64 0, .int .i64 0, .int .i64 0, .int .i64 0, .int .i64 0, .int .i64 0, .int .i64 0, .int .i64 0, .int .i64 0, .int .i64 0, .int .i64 0, .int .i64 0, .int .i64 0, .int .i64 0, .int .i64 0, .int .i64 0, .int .i64 0, .int .i64 0, .int .i64 0, .int .i64 0, .int .i64 0, .int .i64 0, .int .i64 0, .int .i64 0, .int .i64 0, .int .i64 0, .int .i64 0, .int .i64 0, .int .i64 0, .int .i64 0, .int .i64 0, .int .i64 0, .int .i64 0, .int .i64 0, .int .i64 0, .int .i64 0, .int .i64 0, .int .i64 0, .int .i64 0, .int .i64 0, .int .i64 0, .int .i64 0, .int .i64 0, .int .i64 0, .int .i64 0, .int .i64 0, .int .i64 0, .int .i64 0, .int .i64 0, .int .i64 0, .int .i64 0, .int .i64 0, .int .i64 0, .int .i64 0, .int .i64 0, .int .i64 0, .int .i64 0, .int .i64 0, .int .i64 0, .int .i64 0, .int .i64 0, .int .i64 0, .int .i64 0, .int .i64 0, .int .i64 0, .int .i64 0, .int .i64 0, .int .i64 0, .int .i64 0, .int .i64 0, .int .i64 0, .int .i64 0, .int .i64 0, .int .i64 0, .int .i64 0, .int .i64 0, .int .i64 0, .int .i64 0, .int .i64 0, .int .i64 0, .int .i64 0, .int .i64 0, .int .i64 0, .int .i64 0, .int .i64 0, .int .i64 0, .int .i64 0, .int .i64 0, .int .i64 0, .int .i64 0, .int .i64 0, .int .i64 0, .int .i64 0, .int .i64 0, .int .i64 0, .int .i64 0, .int .i64 0, .int .i64 0, .int .i64 0, .int .i64 0, .int .i64 0, .int .i64 0, .int .i64 0, .int .i64 0, .int .i64 0, .int .i64 0, .int .i64 0, .int .i64 0, .int .i64 0, .int .i64 0, .int .i64 0, .int .i64 0, .int .i64 0, .int .i64 0, .int .i64 0, .int .i64 0, .int .i64 0, .int .i64 0, .int .i64 0, .int .i64 0, .int .i64 0, .int .i64 0, .int .i64 0, .int .i64 0, .int .i64 0, .int .i64 0, .int .i64 0, .int .i64 0, .int .i64 0, .int .i64 0, .int .i64 0, .int .i64 0, .int .i64 0, .int .i64 0, .int .i64 0, .int .i64 0, .int .i64 0, .int .i64 0, .int .i64 0, .int .i64 0, .int .i64 0, .int .i64 0, .int .i64 0, .int .i64 0, .int .i64 0, .int .i64 0, .int .i64 0, .int .i64 0, .int .i64 0, .int .i64 0, .int .i64 0, .int .i64 0, .int .i64 0, .int .i64 0, .int .i64 0, .int .i64 0, .int .i64 0, .int .i64 0, .int .i64 0, .int .i64 0, .int .i64 0, .int .i64 0, .int .i64 0, .int .i64 0, .int .i64 0, .int .i64 0, .int .i64 0, .int .i64 0, .int .i64 0, .int .i64 0, .int .i64 0, .int .i64 0, .int .i64 0, .int .i64 0, .int .i64 0, .int .i64 0, .int .i64 0, .int .i64 0, .int .i64 0, .int .i64 0, .int .i64 0, .int .i64 0, .int .i64 0, .int .i64 0, .int .i64 0, .int .i64 0, .int .i64 0, .int .i64 0, .int .i64 0, .int .i64 0, .int .i64 0, .int .i64 0, .int .i64 0, .int .i64 0, .int .i64 0, .int .i64 0, .int .i64 0, .int .i64 0, .int .i64 0, .int .i64 0, .int .i64 0, .int .i64 0, .int .i64 0, .int .i64 0, .int .i64 0, .int .i64 0, .int .i64 0, .int .i64 0, .int .i64 0, .int .i64 0, .int .i64 0, .int .i64 0, .int .i64 0, .int .i64 0] []).map .agg) fun v4 =>
  bnd (box T_pvq_table v4) fun v5 =>
  lp (aNil v5) fun v7 =>
  lp (aIdxA 9 25 v7 (.int .i64 0)) fun v8 =>
  lp (aIdxA 25 1 v8 (.int .i64 0)) fun v9 =>
  bnd (store none v9 (.int .i64 1)) fun u =>
  loopN (fun r l => pvq_made_l0 call n r (l.getD 0 .undef) (l.getD 1 .undef)) n [v5, (.int .i64 0)]
theorem pvq_made_eq {ext : Ext} (h : ext fn_pvq_made = none) (n : Nat) : fcall Tryd.prog ext (n + 1) fn_pvq_made [] = pvq_made (fcall Tryd.prog ext n) n := by
  unfold fcall; rw [h]; kernel_rfl

/-! splicer/alloc.times -/
noncomputable def alloc_times (call : Nat → List AV → M AV) (n : Nat) (a0 : AV) : M AV :=
  lp (aBin .eql [6] a0 (.int .i64 2)) fun v5 =>
  mc v5
    (ret (.int .i64 1))
    (lp (aBin .eql [6] a0 (.int .i64 4)) fun v7 =>
    mc v7
      (ret (.int .i64 2))
      (lp (aBin .eql [6] a0 (.int .i64 8)) fun v9 =>
      mc v9
        (ret (.int .i64 3))
        (ret (.int .i64 0))))
theorem alloc_times_eq {ext : Ext} (h : ext fn_alloc_times = none) (n : Nat) (a0 : AV) : fcall Tryd.prog ext (n + 1) fn_alloc_times [a0] = alloc_times (fcall Tryd.prog ext n) n a0 := by
  unfold fcall; rw [h]; kernel_rfl

/-! splicer/alloc.held[int] -/
noncomputable def alloc_held_int (call : Nat → List AV → M AV) (n : Nat) (a0 a1 a2 : AV) : M AV :=
  lp (aFold aMin2 a2 [a0]) fun v10 =>
  lp (aFold aMax2 a1 [v10]) fun v11 =>
  ret v11
theorem alloc_held_int_eq {ext : Ext} (h : ext fn_alloc_held_int = none) (n : Nat) (a0 a1 a2 : AV) : fcall Tryd.prog ext (n + 1) fn_alloc_held_int [a0, a1, a2] = alloc_held_int (fcall Tryd.prog ext n) n a0 a1 a2 := by
  unfold fcall; rw [h]; kernel_rfl

/-! splicer/alloc.good -/
noncomputable def alloc_good (call : Nat → List AV → M AV) (n : Nat) (a0 : AV) : M AV :=
  bnd (call fn_alloc_held_int [a0, (.int .i64 0), (.int .i64 10)]) fun v4 =>
  lp (aBin .eql [6] v4 a0) fun v6 =>
  ret v6
theorem alloc_good_eq {ext : Ext} (h : ext fn_alloc_good = none) (n : Nat) (a0 : AV) : fcall Tryd.prog ext (n + 1) fn_alloc_good [a0] = alloc_good (fcall Tryd.prog ext n) n a0 := by
  unfold fcall; rw [h]; kernel_rfl

/-! splicer/layout.widths -/
noncomputable def layout_widths (call : Nat → List AV → M AV) (n : Nat) : M AV :=
  bnd (alloc T_13_int [.int .i64 0, .int .i64 0, .int .i64 0, .int .i64 0, .int .i64 0, .int .i64 0, .int .i64 0, .int .i64 0, .int .i64 0, .int .i64 0, .int .i64 0, .int .i64 0, .int .i64 0]) fun v0 =>
  lp ((aFill (fun i => some (i * 1, 1)) [.int .i64 0, .int .i64 0, .int .i64 0, .int .i64 0, .int .i64 0, .int .i64 0, .int .i64 0, .int .i64 0, .int .i64 0, .int .i64 0, .int .i64 0, .int .i64 0, .int .i64 0] [(0, (.int .i64 2)), (1, (.int .i64 2)), (2, (.int .i64 2)), (3, (.int .i64 2)), (4, (.int .i64 4)), (5, (.int .i64 4)), (6, (.int .i64 4)), (7, (.int .i64 4)), (8, (.int .i64 8)), (9, (.int .i64 8)), (10, (.int .i64 8)), (11, (.int .i64 8)), (12, (.int .i64 8))]).map .agg) fun v1 =>
  bnd (store (some 13) v0 v1) fun u =>
  bnd (load (some 13) v0) fun r =>
  ret r
theorem layout_widths_eq {ext : Ext} (h : ext fn_layout_widths = none) (n : Nat) : fcall Tryd.prog ext (n + 1) fn_layout_widths [] = layout_widths (fcall Tryd.prog ext n) n := by
  unfold fcall; rw [h]; kernel_rfl

/-! splicer/sym.begins -/
noncomputable def sym_begins (call : Nat → List AV → M AV) (n : Nat) (a0 a1 : AV) : M AV :=
  bnd (box T_8_int a0) fun v2 =>
  lp (aBin .eql [6] a1 (.int .i64 0)) fun v6 =>
  mc v6
    (ret (.int .i64 0))
    (lp (aBin .sub [] a1 (.int .i64 1)) fun v8 =>
  lp (aIdxA 8 1 v2 v8) fun v9 =>
  bnd (load none v9) fun v10 =>
  ret v10)
theorem sym_begins_eq {ext : Ext} (h : ext fn_sym_begins = none) (n : Nat) (a0 a1 : AV) : fcall Tryd.prog ext (n + 1) fn_sym_begins [a0, a1] = sym_begins (fcall Tryd.prog ext n) n a0 a1 := by
  unfold fcall; rw [h]; kernel_rfl

/-! splicer/sym.rank -/
noncomputable def sym_rank_j0 (call : Nat → List AV → M AV) (n : Nat) (x0 x3 : AV) : M AV :=
  mc x3
    (ret (.int .i64 7))
    (lp (aBin .gtr [] x0 (.int .i64 0)) fun v12 =>
    mc v12
      (lp (aBin .mul [] (.int .i64 2) x0) fun v14 =>
      ret v14)
      (lp (aBin .lss [] x0 (.int .i64 0)) fun v17 =>
      mc v17
        (lp (aBin .mul [] (.int .i64 (-2)) x0) fun v19 =>
        lp (aBin .sub [] v19 (.int .i64 1)) fun v20 =>
        ret v20)
        (ret (.int .i64 0))))
noncomputable def sym_rank (call : Nat → List AV → M AV) (n : Nat) (a0 : AV) : M AV :=
  lp (aBin .lss [] a0 (.int .i64 (-3))) fun v5 =>
  mc v5
    (sym_rank_j0 call n a0 (.bool true))
    (lp (aBin .gtr [] a0 (.int .i64 3)) fun v8 =>
    sym_rank_j0 call n a0 v8)
theorem sym_rank_eq {ext : Ext} (h : ext fn_sym_rank = none) (n : Nat) (a0 : AV) : fcall Tryd.prog ext (n + 1) fn_sym_rank [a0] = sym_rank (fcall Tryd.prog ext n) n a0 := by
  unfold fcall; rw [h]; kernel_rfl

/-! splicer/sym.ends -/
noncomputable def sym_ends (call : Nat → List AV → M AV) (n : Nat) : M AV :=
  bnd (alloc T_8_int [.int .i64 0, .int .i64 0, .int .i64 0, .int .i64 0, .int .i64 0, .int .i64 0, .int .i64 0, .int .i64 0]) fun v0 =>
  lp ((aFill (fun i => some (i * 1, 1)) [.int .i64 0, .int .i64 0, .int .i64 0, .int .i64 0, .int .i64 0, .int .i64 0, .int .i64 0, .int .i64 0] [(0, (.int .i64 24)), (1, (.int .i64 32)), (2, (.int .i64 40)), (3, (.int .i64 45)), (4, (.int .i64 50)), (5, (.int .i64 53)), (6, (.int .i64 56)), (7, (.int .i64 64))]).map .agg) fun v1 =>
  bnd (store (some 8) v0 v1) fun u =>
  bnd (load (some 8) v0) fun r =>
  ret r
theorem sym_ends_eq {ext : Ext} (h : ext fn_sym_ends = none) (n : Nat) : fcall Tryd.prog ext (n + 1) fn_sym_ends [] = sym_ends (fcall Tryd.prog ext n) n := by
  unfold fcall; rw [h]; kernel_rfl

/-! splicer/frame.Rows$1$1 -/
noncomputable def frame_Rows_c1_c1 (call : Nat → List AV → M AV) (n : Nat) (a0 : AV) : M AV :=
  bnd (box T_api_Band a0) fun v1 =>
  lp (aOff 0 v1) fun v3 =>
  bnd (load none v3) fun v4 =>
  ret v4
theorem frame_Rows_c1_c1_eq {ext : Ext} (h : ext fn_frame_Rows_c1_c1 = none) (n : Nat) (a0 : AV) : fcall Tryd.prog ext (n + 1) fn_frame_Rows_c1_c1 [a0] = frame_Rows_c1_c1 (fcall Tryd.prog ext n) n a0 := by
  unfold fcall; rw [h]; kernel_rfl

/-! splicer/frame.mapped[splicer/api.Band,int] -/
noncomputable def frame_mapped_api_Band_int_l0 (call : Nat → List AV → M AV) (n : Nat) (rec : List AV → M AV) (x1 x5 x11 x12 x13 : AV) : M AV :=
  lp (aBin .lss [] x13 x12) fun v14 =>
  mc v14
    (lp (aIdxS 3 x11 x13) fun v16 =>
  bnd (load (some 3) v16) fun v17 =>
  bnd (alloc T_api_Band [.int .i64 0, .int .i64 0, .nilslice]) fun v7 =>
  bnd (store (some 3) v7 v17) fun u =>
  bnd (load (some 3) v7) fun v21 =>
  callee call x1 [v21] fun v22 =>
  lp (aIdxS 1 x5 x13) fun v23 =>
  bnd (store none v23 v22) fun u_1 =>
  lp (aBin .add [] x13 (.int .i64 1)) fun v24 =>
  rec [x1, x5, x11, x12, v24])
    (ret x5)
noncomputable def frame_mapped_api_Band_int (call : Nat → List AV → M AV) (n : Nat) (a0 a1 : AV) : M AV :=
  lp (aLenS a0) fun v9 =>
  bnd (mkSlice T_int 1 8 [.int .i64 0] v9 v9) fun v10 =>
  lp (aLenS a0) fun v12 =>
  loopN (fun r l => frame_mapped_api_Band_int_l0 call n r (l.getD 0 .undef) (l.getD 1 .undef) (l.getD 2 .undef) (l.getD 3 .undef) (l.getD 4 .undef)) n [a1, v10, a0, v12, (.int .i64 0)]
theorem frame_mapped_api_Band_int_eq {ext : Ext} (h : ext fn_frame_mapped_api_Band_int = none) (n : Nat) (a0 a1 : AV) : fcall Tryd.prog ext (n + 1) fn_frame_mapped_api_Band_int [a0, a1] = frame_mapped_api_Band_int (fcall Tryd.prog ext n) n a0 a1 := by
  unfold fcall; rw [h]; kernel_rfl

/-! (*splicer/rc.Coder).Code -/
noncomputable def rc_Coder_Code_l0 (call : Nat → List AV → M AV) (n : Nat) (rec : List AV → M AV) (x0_2 : AV) : M AV :=
  lp (aNil x0_2) fun v46 =>
  lp (aOff 0 v46) fun v47 =>
  bnd (call fn_rc_narrowed_small [v47]) fun v48 =>
  mc v48
    (lp (aNil x0_2) fun v51 =>
  lp (aOff 4 v51) fun v52 =>
  bnd (load none v52) fun v53 =>
  lp (aBin .shr [] v53 (.int .u64 24)) fun v54 =>
  lp (aInt .i64 v54) fun v55 =>
  bnd (call fn_rc_Coder_tell [x0_2, v55]) fun v56 =>
  lp (aNil x0_2) fun v59 =>
  lp (aOff 4 v59) fun v60 =>
  bnd (load none v60) fun v61 =>
  lp (aBin .shl [] v61 (.int .u64 8)) fun v62 =>
  lp (aBin .and [] v62 (.int .u64 4294967295)) fun v63 =>
  lp (aNil x0_2) fun v64 =>
  lp (aOff 4 v64) fun v65 =>
  bnd (store none v65 v63) fun u_2 =>
  rec [x0_2])
    (ret (.tup []))
noncomputable def rc_Coder_Code_j1 (call : Nat → List AV → M AV) (n : Nat) (x0_1 : AV) : M AV :=
  loopN (fun r l => rc_Coder_Code_l0 call n r (l.getD 0 .undef)) n [x0_1]
noncomputable def rc_Coder_Code_j0 (call : Nat → List AV → M AV) (n : Nat) (x0 x1 x2 x3 x16 : AV) : M AV :=
  mc x16
    (ret (.tup []))
    (lp (aNil x0) fun v18 =>
lp (aOff 4 v18) fun v19 =>
bnd (load none v19) fun v20 =>
lp (aNil x0) fun v22 =>
lp (aOff 0 v22) fun v23 =>
snap fun _ =>
bnd (call fn_rc_narrowed_narrow [v23, x1, x2, x3]) fun v27 =>
snap fun m_1 =>
same none v19 v20 m_1 <|
lp (aBin .add [] v20 v27) fun v28 =>
lp (aNil x0) fun v29 =>
lp (aOff 4 v29) fun v30 =>
snap fun _ =>
bnd (store none v30 v28) fun u =>
snap fun _ =>
lp (aNil x0) fun v32 =>
lp (aOff 4 v32) fun v33 =>
bnd (load none v33) fun v34 =>
lp (aBin .gtr [] v34 (.int .u64 4294967295)) fun v35 =>
mc v35
  (lp (aNil x0) fun v37 =>
  lp (aOff 4 v37) fun v38 =>
  bnd (load none v38) fun v39 =>
  lp (aBin .sub [] v39 (.int .u64 4294967296)) fun v40 =>
  lp (aNil x0) fun v41 =>
  lp (aOff 4 v41) fun v42 =>
  bnd (store none v42 v40) fun u_1 =>
  bnd (call fn_rc_Coder_carry [x0]) fun v44 =>
  rc_Coder_Code_j1 call n x0)
  (rc_Coder_Code_j1 call n x0))
noncomputable def rc_Coder_Code (call : Nat → List AV → M AV) (n : Nat) (a0 a1 a2 a3 : AV) : M AV :=
  lp (aBin .eql [3] a0 .nilptr) fun v9 =>
  mc v9
    (rc_Coder_Code_j0 call n a0 a1 a2 a3 (.bool true))
    (bnd (call fn_rc_right [a1, a2, a3]) fun v14 =>
    lp (aUn .not v14) fun v15 =>
    rc_Coder_Code_j0 call n a0 a1 a2 a3 v15)
theorem rc_Coder_Code_eq {ext : Ext} (h : ext fn_rc_Coder_Code = none) (n : Nat) (a0 a1 a2 a3 : AV) : fcall Tryd.prog ext (n + 1) fn_rc_Coder_Code [a0, a1, a2, a3] = rc_Coder_Code (fcall Tryd.prog ext n) n a0 a1 a2 a3 := by
  unfold fcall; rw [h]; kernel_rfl

/-! splicer/pvq.Size -/
noncomputable def pvq_Size_j1 (call : Nat → List AV → M AV) (n : Nat) (rec : List AV → M AV) (x4_1 x6 x15_1 x16_1 x17_1 x24_1 x25_1 x26 : AV) : M AV :=
  mc x26
    (ret (.tup [(.int .i64 0), (.bool false)]))
    (bnd (call fn_num_Abs [x6]) fun v29 =>
lp (aBin .add [] x4_1 v29) fun v30 =>
lp (aBin .add [] x17_1 (.int .i64 1)) fun v31 =>
rec [v30, x15_1, x16_1, v31, x24_1, x25_1])
noncomputable def pvq_Size_l0 (call : Nat → List AV → M AV) (n : Nat) (rec : List AV → M AV) (x4 x15 x16 x17 x24 x25 : AV) : M AV :=
  lp (aBin .lss [] x17 x16) fun v18 =>
  mc v18
    (lp (aIdxS 1 x15 x17) fun v19 =>
  bnd (load none v19) fun v20 =>
  lp (aBin .lss [] v20 (.int .i64 (-24))) fun v22 =>
  mc v22
    (pvq_Size_j1 call n rec x4 v20 x15 x16 x17 (.tup []) (.tup []) (.bool true))
    (lp (aBin .gtr [] v20 (.int .i64 24)) fun v25 =>
    pvq_Size_j1 call n rec x4 v20 x15 x16 x17 v20 v25 v25))
    (lp (aBin .gtr [] x4 (.int .i64 24)) fun v33 =>
mc v33
  (ret (.tup [(.int .i64 0), (.bool false)]))
  (ret (.tup [x4, (.bool true)])))
noncomputable def pvq_Size_j0 (call : Nat → List AV → M AV) (n : Nat) (x0 x14 : AV) : M AV :=
  mc x14
    (ret (.tup [(.int .i64 0), (.bool false)]))
    (lp (aLenS x0) fun v16 =>
loopN (fun r l => pvq_Size_l0 call n r (l.getD 0 .undef) (l.getD 1 .undef) (l.getD 2 .undef) (l.getD 3 .undef) (l.getD 4 .undef) (l.getD 5 .undef)) n [(.int .i64 0), x0, v16, (.int .i64 0), .undef, .undef])
noncomputable def pvq_Size (call : Nat → List AV → M AV) (n : Nat) (a0 : AV) : M AV :=
  lp (aLenS a0) fun v8 =>
  lp (aBin .eql [6] v8 (.int .i64 0)) fun v9 =>
  mc v9
    (pvq_Size_j0 call n a0 (.bool true))
    (lp (aLenS a0) fun v12 =>
    lp (aBin .gtr [] v12 (.int .i64 8)) fun v13 =>
    pvq_Size_j0 call n a0 v13)
theorem pvq_Size_eq {ext : Ext} (h : ext fn_pvq_Size = none) (n : Nat) (a0 : AV) : fcall Tryd.prog ext (n + 1) fn_pvq_Size [a0] = pvq_Size (fcall Tryd.prog ext n) n a0 := by
  unfold fcall; rw [h]; kernel_rfl

/-! splicer/splicerref15.Band -/
noncomputable def ref15_Band_j0 (call : Nat → List AV → M AV) (n : Nat) (x0 x1 x2 x21 : AV) : M AV :=
  mc x21
    (ret (.int .i64 0))
    (lp (aBin .add [] x1 x0) fun v24 =>
lp (aBin .sub [] v24 (.int .i64 8)) fun v25 =>
lp (aFold aMin2 (.int .i64 8) [v25]) fun v26 =>
lp (aFold aMax2 (.int .i64 0) [v26]) fun v27 =>
lp (aBin .eql [6] x2 (.int .i64 2)) fun v30 =>
mc v30
  (ret v27)
  (lp (aBin .eql [6] x2 (.int .i64 4)) fun v33 =>
  mc v33
    (lp (aBin .mul [] (.int .i64 2) v27) fun v35 =>
    ret v35)
    (lp (aBin .eql [6] x2 (.int .i64 8)) fun v37 =>
    mc v37
      (lp (aBin .mul [] (.int .i64 3) v27) fun v39 =>
      ret v39)
      (ret (.int .i64 0)))))
noncomputable def ref15_Band (call : Nat → List AV → M AV) (n : Nat) (a0 a1 a2 : AV) : M AV :=
  lp (aBin .lss [] a0 (.int .i64 0)) fun v9 =>
  mc v9
    (ref15_Band_j0 call n a0 a1 a2 (.bool true))
    (lp (aBin .gtr [] a0 (.int .i64 10)) fun v12 =>
    mc v12
      (ref15_Band_j0 call n a0 a1 a2 (.bool true))
      (lp (aBin .lss [] a1 (.int .i64 1)) fun v16 =>
      mc v16
        (ref15_Band_j0 call n a0 a1 a2 (.bool true))
        (lp (aBin .gtr [] a1 (.int .i64 23)) fun v20 =>
        ref15_Band_j0 call n a0 a1 a2 v20)))
theorem ref15_Band_eq {ext : Ext} (h : ext fn_ref15_Band = none) (n : Nat) (a0 a1 a2 : AV) : fcall Tryd.prog ext (n + 1) fn_ref15_Band [a0, a1, a2] = ref15_Band (fcall Tryd.prog ext n) n a0 a1 a2 := by
  unfold fcall; rw [h]; kernel_rfl

/-! splicer/splicerref16.Size -/
noncomputable def ref16_Size_l0 (call : Nat → List AV → M AV) (n : Nat) (rec : List AV → M AV) (x0_1 x4 x5 : AV) : M AV :=
  lp (aLenS x0_1) fun v16 =>
  lp (aBin .lss [] x5 v16) fun v17 =>
  mc v17
    (lp (aIdxS 1 x0_1 x5) fun v23 =>
  bnd (load none v23) fun v24 =>
  bnd (call fn_ref16_far [v24]) fun v25 =>
  lp (aBin .add [] x4 v25) fun v26 =>
  lp (aBin .add [] x5 (.int .i64 1)) fun v19 =>
  rec [x0_1, v26, v19])
    (lp (aBin .gtr [] x4 (.int .i64 24)) fun v28 =>
mc v28
  (ret (.tup [(.int .i64 0), (.bool false)]))
  (ret (.tup [x4, (.bool true)])))
noncomputable def ref16_Size_j0 (call : Nat → List AV → M AV) (n : Nat) (x0 x13 : AV) : M AV :=
  mc x13
    (ret (.tup [(.int .i64 0), (.bool false)]))
    (loopN (fun r l => ref16_Size_l0 call n r (l.getD 0 .undef) (l.getD 1 .undef) (l.getD 2 .undef)) n [x0, (.int .i64 0), (.int .i64 0)])
noncomputable def ref16_Size (call : Nat → List AV → M AV) (n : Nat) (a0 : AV) : M AV :=
  lp (aLenS a0) fun v7 =>
  lp (aBin .lss [] v7 (.int .i64 1)) fun v8 =>
  mc v8
    (ref16_Size_j0 call n a0 (.bool true))
    (lp (aLenS a0) fun v11 =>
    lp (aBin .gtr [] v11 (.int .i64 8)) fun v12 =>
    ref16_Size_j0 call n a0 v12)
theorem ref16_Size_eq {ext : Ext} (h : ext fn_ref16_Size = none) (n : Nat) (a0 : AV) : fcall Tryd.prog ext (n + 1) fn_ref16_Size [a0] = ref16_Size (fcall Tryd.prog ext n) n a0 := by
  unfold fcall; rw [h]; kernel_rfl

/-! splicer/splicerref01.Same -/
noncomputable def ref01_Same_l0 (call : Nat → List AV → M AV) (n : Nat) (rec : List AV → M AV) (x0 x1 x5 : AV) : M AV :=
  lp (aLenS x0) fun v13 =>
  lp (aBin .lss [] x5 v13) fun v14 =>
  mc v14
    (lp (aIdxS 1 x0 x5) fun v19 =>
  bnd (load none v19) fun v20 =>
  lp (aIdxS 1 x1 x5) fun v23 =>
  bnd (load none v23) fun v24 =>
  lp (aBin .neq [6] v20 v24) fun v25 =>
  mc v25
    (ret (.bool false))
    (lp (aBin .add [] x5 (.int .i64 1)) fun v16 =>
  rec [x0, x1, v16]))
    (ret (.bool true))
noncomputable def ref01_Same (call : Nat → List AV → M AV) (n : Nat) (a0 a1 : AV) : M AV :=
  lp (aLenS a0) fun v7 =>
  lp (aLenS a1) fun v9 =>
  lp (aBin .neq [6] v7 v9) fun v10 =>
  mc v10
    (ret (.bool false))
    (loopN (fun r l => ref01_Same_l0 call n r (l.getD 0 .undef) (l.getD 1 .undef) (l.getD 2 .undef)) n [a0, a1, (.int .i64 0)])
theorem ref01_Same_eq {ext : Ext} (h : ext fn_ref01_Same = none) (n : Nat) (a0 a1 : AV) : fcall Tryd.prog ext (n + 1) fn_ref01_Same [a0, a1] = ref01_Same (fcall Tryd.prog ext n) n a0 a1 := by
  unfold fcall; rw [h]; kernel_rfl

/-! (*splicer/code.reader).row -/
noncomputable def code_reader_row_j0 (call : Nat → List AV → M AV) (n : Nat) (x9 : AV) : M AV :=
  ret x9
noncomputable def code_reader_row_l0 (call : Nat → List AV → M AV) (n : Nat) (rec : List AV → M AV) (x0 x1 x2 x7 x13 x14 x39 x40 : AV) : M AV :=
  lp (aBin .lss [] x14 x13) fun v15 =>
  mc v15
    (lp (aNil x0) fun v20 =>
  lp (aOff 0 v20) fun v21 =>
  bnd (load none v21) fun v22 =>
  bnd (call fn_sym_GetDelta [v22]) fun v23 =>
  lp (aIdxS 1 x7 x14) fun v24 =>
  bnd (store none v24 v23) fun u =>
  lp (aBin .add [] x14 (.int .i64 1)) fun v25 =>
  rec [x0, x1, x2, x7, x13, v25, x39, x40])
    (bnd (call fn_energy_Row [x1, x2, x7]) fun v30 =>
lp (aExt 0 v30) fun v31 =>
lp (aExt 1 v30) fun v32 =>
lp (aNil x0) fun v35 =>
lp (aOff 2 v35) fun v36 =>
bnd (load none v36) fun v37 =>
mc v37
  (lp (aNil x0) fun v42 =>
  lp (aOff 2 v42) fun v43 =>
  bnd (store none v43 (.bool true)) fun u_1 =>
  code_reader_row_j0 call n v31)
  (lp (aUn .not v32) fun v40 =>
  lp (aNil x0) fun v42_1 =>
  lp (aOff 2 v42_1) fun v43_1 =>
  bnd (store none v43_1 v40) fun u_2 =>
  code_reader_row_j0 call n v31))
noncomputable def code_reader_row (call : Nat → List AV → M AV) (n : Nat) (a0 a1 a2 : AV) : M AV :=
  bnd (mkSlice T_int 1 8 [.int .i64 0] (.int .i64 13) (.int .i64 13)) fun v11 =>
  lp (aLenS v11) fun v13 =>
  loopN (fun r l => code_reader_row_l0 call n r (l.getD 0 .undef) (l.getD 1 .undef) (l.getD 2 .undef) (l.getD 3 .undef) (l.getD 4 .undef) (l.getD 5 .undef) (l.getD 6 .undef) (l.getD 7 .undef)) n [a0, a1, a2, v11, v13, (.int .i64 0), .undef, .undef]
theorem code_reader_row_eq {ext : Ext} (h : ext fn_code_reader_row = none) (n : Nat) (a0 a1 a2 : AV) : fcall Tryd.prog ext (n + 1) fn_code_reader_row [a0, a1, a2] = code_reader_row (fcall Tryd.prog ext n) n a0 a1 a2 := by
  unfold fcall; rw [h]; kernel_rfl

/-! (*splicer/code.reader).channel -/
noncomputable def code_reader_channel_j1 (call : Nat → List AV → M AV) (n : Nat) (rec_1 : List AV → M AV) (x0_3 x4_3 x5_3 x8 x10 x11 x12 x43_1 x44_1 x45_1 : AV) : M AV :=
  lp (aOff 0 x5_3) fun v67 =>
  bnd (load none v67) fun v68 =>
  snap fun _ =>
  bnd (call fn_pvq_Vector [x10, x12, x11]) fun v73 =>
  snap fun m_5 =>
  same none v67 v68 m_5 <|
  lp (aExt 0 v73) fun v74 =>
  lp (aExt 1 v73) fun v75 =>
  lp (aIdxS 3 v68 x8) fun v76 =>
  lp (aOff 2 v76) fun v77 =>
  snap fun _ =>
  bnd (store none v77 v74) fun u_3 =>
  snap fun _ =>
  lp (aBin .add [] x45_1 (.int .i64 1)) fun v78 =>
rec_1 [x0_3, x4_3, x5_3, x43_1, x44_1, v78]
noncomputable def code_reader_channel_l1 (call : Nat → List AV → M AV) (n : Nat) (rec_1 : List AV → M AV) (x0_2 x4_2 x5_2 x43 x44 x45 : AV) : M AV :=
  lp (aBin .lss [] x45 x44) fun v46 =>
  mc v46
    (lp (aIdxS 1 x43 x45) fun v48 =>
  bnd (load none v48) fun v49 =>
  bnd (call fn_layout_Width [x45]) fun v51 =>
  lp (aNil x0_2) fun v53 =>
  lp (aOff 1 v53) fun v54 =>
  bnd (load none v54) fun v55 =>
  bnd (call fn_alloc_Band [v55, v49, v51]) fun v58 =>
  lp (aBin .gtr [] v58 (.int .i64 0)) fun v60 =>
  mc v60
    (bnd (call fn_pvq_Count [v51, v58]) fun v64 =>
    bnd (call fn_code_reader_below [x0_2, v64]) fun v65 =>
    code_reader_channel_j1 call n rec_1 x0_2 x4_2 x5_2 x45 v51 v65 v58 x43 x44 x45)
    (code_reader_channel_j1 call n rec_1 x0_2 x4_2 x5_2 x45 v51 (.int .i64 0) v58 x43 x44 x45))
    (bnd (load (some 1) x5_2) fun v79 =>
bnd (store (some 1) x4_2 v79) fun u_4 =>
bnd (load (some 1) x4_2) fun r =>
ret r)
noncomputable def code_reader_channel_j0 (call : Nat → List AV → M AV) (n : Nat) (rec : List AV → M AV) (x0_1 x1_1 x4_1 x5_1 x17_1 x18_1 x19_1 : AV) : M AV :=
  lp (aBin .add [] x19_1 (.int .i64 1)) fun v42 =>
  rec [x0_1, x1_1, x4_1, x5_1, x17_1, x18_1, v42]
noncomputable def code_reader_channel_l0 (call : Nat → List AV → M AV) (n : Nat) (rec : List AV → M AV) (x0 x1 x4 x5 x17 x18 x19 : AV) : M AV :=
  lp (aBin .lss [] x19 x18) fun v20 =>
  mc v20
    (lp (aIdxS 1 x17 x19) fun v22 =>
  bnd (load none v22) fun v23 =>
  lp (aOff 0 x5) fun v24 =>
  bnd (load none v24) fun v25 =>
  lp (aIdxS 3 v25 x19) fun v28 =>
  lp (aOff 0 v28) fun v29 =>
  bnd (store none v29 v23) fun u_1 =>
  lp (aBin .gtr [] v23 (.int .i64 0)) fun v31 =>
  mc v31
    (lp (aOff 0 x5) fun v32 =>
    bnd (load none v32) fun v33 =>
    lp (aNil x0) fun v36 =>
    lp (aOff 0 v36) fun v37 =>
    bnd (load none v37) fun v38 =>
    snap fun _ =>
    bnd (call fn_sym_GetBits [v38, (.int .i64 2)]) fun v39 =>
    snap fun m_1 =>
    same none v32 v33 m_1 <|
    lp (aIdxS 3 v33 x19) fun v40 =>
    lp (aOff 1 v40) fun v41 =>
    snap fun _ =>
    bnd (store none v41 v39) fun u_2 =>
    snap fun _ =>
    code_reader_channel_j0 call n rec x0 x1 x4 x5 x17 x18 x19)
    (code_reader_channel_j0 call n rec x0 x1 x4 x5 x17 x18 x19))
    (lp (aLenS x1) fun v44 =>
loopN (fun r l => code_reader_channel_l1 call n r (l.getD 0 .undef) (l.getD 1 .undef) (l.getD 2 .undef) (l.getD 3 .undef) (l.getD 4 .undef) (l.getD 5 .undef)) n [x0, x4, x5, x1, v44, (.int .i64 0)])
noncomputable def code_reader_channel (call : Nat → List AV → M AV) (n : Nat) (a0 a1 : AV) : M AV :=
  bnd (alloc T_api_Chan [.nilslice]) fun v4 =>
  lp (aLenS a1) fun v14 =>
  bnd (mkSlice T_api_Band 3 40 [.int .i64 0, .int .i64 0, .nilslice] v14 v14) fun v15 =>
  lp ((aFill (fun i => [(0, 1)][i]?) [.nilslice] [(0, v15)]).map .agg) fun v16 =>
  bnd (alloc T_api_Chan [.nilslice]) fun v5 =>
  bnd (store (some 1) v5 v16) fun u =>
  lp (aLenS a1) fun v18 =>
  loopN (fun r l => code_reader_channel_l0 call n r (l.getD 0 .undef) (l.getD 1 .undef) (l.getD 2 .undef) (l.getD 3 .undef) (l.getD 4 .undef) (l.getD 5 .undef) (l.getD 6 .undef)) n [a0, a1, v4, v5, a1, v18, (.int .i64 0)]
theorem code_reader_channel_eq {ext : Ext} (h : ext fn_code_reader_channel = none) (n : Nat) (a0 a1 : AV) : fcall Tryd.prog ext (n + 1) fn_code_reader_channel [a0, a1] = code_reader_channel (fcall Tryd.prog ext n) n a0 a1 := by
  unfold fcall; rw [h]; kernel_rfl

/-! (*splicer/code.reader).below -/
noncomputable def code_reader_below_j0 (call : Nat → List AV → M AV) (n : Nat) (x5 : AV) : M AV :=
  ret x5
noncomputable def code_reader_below (call : Nat → List AV → M AV) (n : Nat) (a0 a1 : AV) : M AV :=
  lp (aNil a0) fun v9 =>
  lp (aOff 0 v9) fun v10 =>
  bnd (load none v10) fun v11 =>
  bnd (call fn_sym_GetBelow [v11, a1]) fun v13 =>
  lp (aExt 0 v13) fun v14 =>
  lp (aExt 1 v13) fun v15 =>
  lp (aNil a0) fun v18 =>
  lp (aOff 2 v18) fun v19 =>
  bnd (load none v19) fun v20 =>
  mc v20
    (lp (aNil a0) fun v25 =>
    lp (aOff 2 v25) fun v26 =>
    bnd (store none v26 (.bool true)) fun u =>
    code_reader_below_j0 call n v14)
    (lp (aUn .not v15) fun v23 =>
    lp (aNil a0) fun v25_1 =>
    lp (aOff 2 v25_1) fun v26_1 =>
    bnd (store none v26_1 v23) fun u_1 =>
    code_reader_below_j0 call n v14)
theorem code_reader_below_eq {ext : Ext} (h : ext fn_code_reader_below = none) (n : Nat) (a0 a1 : AV) : fcall Tryd.prog ext (n + 1) fn_code_reader_below [a0, a1] = code_reader_below (fcall Tryd.prog ext n) n a0 a1 := by
  unfold fcall; rw [h]; kernel_rfl

/-! (*splicer/code.reader).flag -/
noncomputable def code_reader_flag (call : Nat → List AV → M AV) (n : Nat) (a0 : AV) : M AV :=
  lp (aNil a0) fun v4 =>
  lp (aOff 0 v4) fun v5 =>
  bnd (load none v5) fun v6 =>
  bnd (call fn_sym_GetBits [v6, (.int .i64 1)]) fun v7 =>
  lp (aBin .eql [6] v7 (.int .i64 1)) fun v8 =>
  ret v8
theorem code_reader_flag_eq {ext : Ext} (h : ext fn_code_reader_flag = none) (n : Nat) (a0 : AV) : fcall Tryd.prog ext (n + 1) fn_code_reader_flag [a0] = code_reader_flag (fcall Tryd.prog ext n) n a0 := by
  unfold fcall; rw [h]; kernel_rfl

/-! (*splicer/rc.Decoder).next -/
noncomputable def rc_Decoder_next (call : Nat → List AV → M AV) (n : Nat) (a0 : AV) : M AV :=
  lp (aNil a0) fun v5 =>
  lp (aOff 2 v5) fun v6 =>
  bnd (load none v6) fun v7 =>
  lp (aBin .eql [7] v7 (.str .empty)) fun v8 =>
  mc v8
    (ret (.int .u64 0))
    (lp (aNil a0) fun v10 =>
  lp (aOff 2 v10) fun v11 =>
  bnd (load none v11) fun v12 =>
  lp (aIdxStr v12 (.int .i64 0)) fun v13 =>
  lp (aNil a0) fun v16 =>
  lp (aOff 2 v16) fun v17 =>
  bnd (load none v17) fun v18 =>
  lp (aSliceStr v18 (some (.int .i64 1)) none) fun v19 =>
  lp (aNil a0) fun v20 =>
  lp (aOff 2 v20) fun v21 =>
  bnd (store none v21 v19) fun u =>
  lp (aInt .u64 v13) fun v23 =>
  ret v23)
theorem rc_Decoder_next_eq {ext : Ext} (h : ext fn_rc_Decoder_next = none) (n : Nat) (a0 : AV) : fcall Tryd.prog ext (n + 1) fn_rc_Decoder_next [a0] = rc_Decoder_next (fcall Tryd.prog ext n) n a0 := by
  unfold fcall; rw [h]; kernel_rfl

/-! strings.TrimRight -/
noncomputable def strings_TrimRight_j1 (call : Nat → List AV → M AV) (n : Nat) (x0_1 x1_1 x21 : AV) : M AV :=
  mc x21
    (lp (aIdxStr x1_1 (.int .i64 0)) fun v24 =>
    bnd (call fn_strings_trimRightByte [x0_1, v24]) fun v25 =>
    ret v25)
    (bnd (call fn_strings_makeASCIISet [x1_1]) fun v28 =>
lp (aExt 0 v28) fun v29 =>
lp (aExt 1 v28) fun v30 =>
bnd (alloc T_strings_asciiSet [.bool false, .bool false, .bool false, .bool false, .bool false, .bool false, .bool false, .bool false, .bool false, .bool false, .bool false, .bool false, .bool false, .bool false, .bool false, .bool false, .bool false, .bool false, .bool false, .bool false, .bool false, .bool false, .bool false, .bool false, .bool false, .bool false, .bool false, .bool false, .bool false, .bool false, .bool false, .bool false, .bool false, .bool false, .bool false, .bool false, .bool false, .bool false, .bool false, .bool false, .bool false, .bool false, .bool false, .bool false, .bool false, .bool false, .bool false, .bool false, .bool false, .bool false, .bool false, .bool false, .bool false, .bool false, .bool false, .bool false, .bool false, .bool false, .bool false, .bool false, .bool false, .bool false, .bool false, .bool false, .bool false, .bool false, .bool false, .bool false, .bool false, .bool false, .bool false, .bool false, .bool false, .bool false, .bool false, .bool false, .bool false, .bool false, .bool false, .bool false, .bool false, .bool false, .bool false, .bool false, .bool false, .bool false, .bool false, .bool false, .bool false, .bool false, .bool false, .bool false, .bool false, .bool false, .bool false, .bool false, .bool false, .bool false, .bool false, .bool false, .bool false, .bool false, .bool false, .bool false, .bool false, .bool false, .bool false, .bool false, .bool false, .bool false, .bool false, .bool false, .bool false, .bool false, .bool false, .bool false, .bool false, .bool false, .bool false, .bool false, .bool false, .bool false, .bool false, .bool false, .bool false, .bool false, .bool false, .bool false, .bool false, .bool false, .bool false, .bool false, .bool false, .bool false, .bool false, .bool false, .bool false, .bool false, .bool false, .bool false, .bool false, .bool false, .bool false, .bool false, .bool false, .bool false, .bool false, .bool false, .bool false, .bool false, .bool false, .bool false, .bool false, .bool false, .bool false, .bool false, .bool false, .bool false, .bool false, .bool false, .bool false, .bool false, .bool false, .bool false, .bool false, .bool false, .bool false, .bool false, .bool false, .bool false, .bool false, .bool false, .bool false, .bool false, .bool false, .bool false, .bool false, .bool false, .bool false, .bool false, .bool false, .bool false, .bool false, .bool false, .bool false, .bool false, .bool false, .bool false, .bool false, .bool false, .bool false, .bool false, .bool false, .bool false, .bool false, .bool false, .bool false, .bool false, .bool false, .bool false, .bool false, .bool false, .bool false, .bool false, .bool false, .bool false, .bool false, .bool false, .bool false, .bool false, .bool false, .bool false, .bool false, .bool false, .bool false, .bool false, .bool false, .bool false, .bool false, .bool false, .bool false, .bool false, .bool false, .bool false, .bool false, .bool false, .bool false, .bool false, .bool false, .bool false, .bool false, .bool false, .bool false, .bool false, .bool false, .bool false, .bool false, .bool false, .bool false, .bool false, .bool false, .bool false, .bool false, .bool false, .bool false, .bool false, .bool false, .bool false, .bool false, .bool false, .bool false, .bool false, .bool false, .bool false, .bool false, .bool false]) fun v5 =>
bnd (store (some 256) v5 v29) fun u =>
mc v30
  (bnd (call fn_strings_trimRightASCII [x0_1, v5]) fun v33 =>
  ret v33)
  (bnd (call fn_strings_trimRightUnicode [x0_1, x1_1]) fun v36 =>
ret v36))
noncomputable def strings_TrimRight_j0 (call : Nat → List AV → M AV) (n : Nat) (x0 x1 x12 : AV) : M AV :=
  mc x12
    (ret x0)
    (lp (aLenStr x1) fun v15 =>
lp (aBin .eql [6] v15 (.int .i64 1)) fun v16 =>
mc v16
  (lp (aIdxStr x1 (.int .i64 0)) fun v19 =>
  lp (aBin .lss [] v19 (.int .u8 128)) fun v20 =>
  strings_TrimRight_j1 call n x0 x1 v20)
  (strings_TrimRight_j1 call n x0 x1 (.bool false)))
noncomputable def strings_TrimRight (call : Nat → List AV → M AV) (n : Nat) (a0 a1 : AV) : M AV :=
  lp (aBin .eql [7] a0 (.str .empty)) fun v8 =>
  mc v8
    (strings_TrimRight_j0 call n a0 a1 (.bool true))
    (lp (aBin .eql [7] a1 (.str .empty)) fun v11 =>
    strings_TrimRight_j0 call n a0 a1 v11)
theorem strings_TrimRight_eq {ext : Ext} (h : ext fn_strings_TrimRight = none) (n : Nat) (a0 a1 : AV) : fcall Tryd.prog ext (n + 1) fn_strings_TrimRight [a0, a1] = strings_TrimRight (fcall Tryd.prog ext n) n a0 a1 := by
  unfold fcall; rw [h]; kernel_rfl

/-! (*strings.Builder).WriteByte -/
noncomputable def strings_Builder_WriteByte (call : Nat → List AV → M AV) (n : Nat) (a0 a1 : AV) : M AV :=
  bnd (call fn_strings_Builder_copyCheck [a0]) fun v6 =>
  lp (aNil a0) fun v9 =>
  lp (aOff 1 v9) fun v10 =>
  bnd (load none v10) fun v11 =>
  lp (aFill (fun i => some (i * 1, 1)) [.int .u8 0] [(0, a1)]) fun cs =>
  bnd (allocS T_uint8 1 1 cs) fun v13 =>
  bnd (append T_uint8 1 1 v11 v13) fun v14 =>
  lp (aNil a0) fun v15 =>
  lp (aOff 1 v15) fun v16 =>
  bnd (store none v16 v14) fun u =>
  ret .nilface
theorem strings_Builder_WriteByte_eq {ext : Ext} (h : ext fn_strings_Builder_WriteByte = none) (n : Nat) (a0 a1 : AV) : fcall Tryd.prog ext (n + 1) fn_strings_Builder_WriteByte [a0, a1] = strings_Builder_WriteByte (fcall Tryd.prog ext n) n a0 a1 := by
  unfold fcall; rw [h]; kernel_rfl

/-! (*strings.Builder).String -/
noncomputable def strings_Builder_String (call : Nat → List AV → M AV) (n : Nat) (a0 : AV) : M AV :=
  lp (aNil a0) fun v4 =>
  lp (aOff 1 v4) fun v5 =>
  bnd (load none v5) fun v6 =>
  snap fun m =>
  bnd (sliceData v6) fun v7 =>
  snap fun _ =>
  lp (aNil a0) fun v9 =>
  lp (aOff 1 v9) fun v10 =>
  bnd (load none v10) fun v11 =>
  same none v10 v11 m <|
  lp (aLenS v11) fun v12 =>
  snap fun _ =>
  bnd (unsafeStr T_uint8 v7 v12) fun v13 =>
  snap fun _ =>
  ret v13
theorem strings_Builder_String_eq {ext : Ext} (h : ext fn_strings_Builder_String = none) (n : Nat) (a0 : AV) : fcall Tryd.prog ext (n + 1) fn_strings_Builder_String [a0] = strings_Builder_String (fcall Tryd.prog ext n) n a0 := by
  unfold fcall; rw [h]; kernel_rfl

/-! (*strings.Builder).WriteString -/
noncomputable def strings_Builder_WriteString (call : Nat → List AV → M AV) (n : Nat) (a0 a1 : AV) : M AV :=
  bnd (call fn_strings_Builder_copyCheck [a0]) fun v7 =>
  lp (aNil a0) fun v10 =>
  lp (aOff 1 v10) fun v11 =>
  bnd (load none v11) fun v12 =>
  bnd (append T_uint8 1 1 v12 a1) fun v14 =>
  lp (aNil a0) fun v15 =>
  lp (aOff 1 v15) fun v16 =>
  bnd (store none v16 v14) fun u =>
  lp (aLenStr a1) fun v18 =>
  ret (.tup [v18, .nilface])
theorem strings_Builder_WriteString_eq {ext : Ext} (h : ext fn_strings_Builder_WriteString = none) (n : Nat) (a0 a1 : AV) : fcall Tryd.prog ext (n + 1) fn_strings_Builder_WriteString [a0, a1] = strings_Builder_WriteString (fcall Tryd.prog ext n) n a0 a1 := by
  unfold fcall; rw [h]; kernel_rfl

/-! splicer/energy.expects -/
noncomputable def energy_expects (call : Nat → List AV → M AV) (n : Nat) (a0 a1 : AV) : M AV :=
  bnd (box T_sl_int a1) fun v3 =>
  mc a0
    (ret (.func (.func fn_energy_expects_c1) [] []))
    (ret (.func (.func fn_energy_expects_c2) [] [v3]))
theorem energy_expects_eq {ext : Ext} (h : ext fn_energy_expects = none) (n : Nat) (a0 a1 : AV) : fcall Tryd.prog ext (n + 1) fn_energy_expects [a0, a1] = energy_expects (fcall Tryd.prog ext n) n a0 a1 := by
  unfold fcall; rw [h]; kernel_rfl

/-! splicer/pvq.Count -/
noncomputable def pvq_Count_j0 (call : Nat → List AV → M AV) (n : Nat) (x0 x1 x18 : AV) : M AV :=
  mc x18
    (ret (.int .i64 0))
    (bnd (call fn_pvq_made []) fun v19 =>
lp (aNil v19) fun v22 =>
lp (aIdxA 9 25 v22 x0) fun v23 =>
lp (aIdxA 25 1 v23 x1) fun v24 =>
bnd (load none v24) fun v25 =>
ret v25)
noncomputable def pvq_Count (call : Nat → List AV → M AV) (n : Nat) (a0 a1 : AV) : M AV :=
  lp (aBin .lss [] a0 (.int .i64 0)) fun v6 =>
  mc v6
    (pvq_Count_j0 call n a0 a1 (.bool true))
    (lp (aBin .gtr [] a0 (.int .i64 8)) fun v9 =>
    mc v9
      (pvq_Count_j0 call n a0 a1 (.bool true))
      (lp (aBin .lss [] a1 (.int .i64 0)) fun v13 =>
      mc v13
        (pvq_Count_j0 call n a0 a1 (.bool true))
        (lp (aBin .gtr [] a1 (.int .i64 24)) fun v17 =>
        pvq_Count_j0 call n a0 a1 v17)))
theorem pvq_Count_eq {ext : Ext} (h : ext fn_pvq_Count = none) (n : Nat) (a0 a1 : AV) : fcall Tryd.prog ext (n + 1) fn_pvq_Count [a0, a1] = pvq_Count (fcall Tryd.prog ext n) n a0 a1 := by
  unfold fcall; rw [h]; kernel_rfl

/-! splicer/pvq.Index -/
noncomputable def pvq_Index_j1 (call : Nat → List AV → M AV) (n : Nat) (rec : List AV → M AV) (x0_3 x4_3 x6_3 x7_3 x21_3 x22_3 x23_3 : AV) : M AV :=
  lp (aBin .add [] x23_3 (.int .i64 1)) fun v74 =>
  rec [x0_3, x4_3, x6_3, x7_3, x21_3, x22_3, v74]
noncomputable def pvq_Index_l1 (call : Nat → List AV → M AV) (n : Nat) (rec : List AV → M AV) (rec_1 : List AV → M AV) (x0_2 x4_2 x6_2 x7_2 x9_1 x10_1 x11_1 x12 x21_2 x22_2 x23_2 : AV) : M AV :=
  lp (aBin .lss [] x12 x11_1) fun v49 =>
  mc v49
    (lp (aBin .sub [] x4_2 x12) fun v56 =>
  lp (aNil x10_1) fun v57 =>
  lp (aIdxA 25 1 v57 v56) fun v58 =>
  bnd (load none v58) fun v59 =>
  lp (aBin .mul [] (.int .i64 2) v59) fun v60 =>
  lp (aBin .add [] x7_2 v60) fun v61 =>
  lp (aBin .add [] x12 (.int .i64 1)) fun v51 =>
  rec_1 [x0_2, x4_2, x6_2, v61, x9_1, x10_1, x11_1, v51, x21_2, x22_2, x23_2])
    (lp (aBin .sub [] x4_2 x11_1) fun v64 =>
lp (aBin .lss [] x9_1 (.int .i64 0)) fun v66 =>
mc v66
  (lp (aNil x10_1) fun v70 =>
  lp (aIdxA 25 1 v70 v64) fun v71 =>
  bnd (load none v71) fun v72 =>
  lp (aBin .add [] x7_2 v72) fun v73 =>
  pvq_Index_j1 call n rec x0_2 v64 x6_2 v73 x21_2 x22_2 x23_2)
  (pvq_Index_j1 call n rec x0_2 v64 x6_2 x7_2 x21_2 x22_2 x23_2))
noncomputable def pvq_Index_j0 (call : Nat → List AV → M AV) (n : Nat) (rec : List AV → M AV) (x0_1 x4_1 x6_1 x7_1 x9 x10 x11 x21_1 x22_1 x23_1 : AV) : M AV :=
  loopN (fun r l => pvq_Index_l1 call n rec r (l.getD 0 .undef) (l.getD 1 .undef) (l.getD 2 .undef) (l.getD 3 .undef) (l.getD 4 .undef) (l.getD 5 .undef) (l.getD 6 .undef) (l.getD 7 .undef) (l.getD 8 .undef) (l.getD 9 .undef) (l.getD 10 .undef)) n [x0_1, x4_1, x6_1, x7_1, x9, x10, x11, (.int .i64 1), x21_1, x22_1, x23_1]
noncomputable def pvq_Index_l0 (call : Nat → List AV → M AV) (n : Nat) (rec : List AV → M AV) (x0 x4 x6 x7 x21 x22 x23 : AV) : M AV :=
  lp (aBin .lss [] x23 x22) fun v24 =>
  mc v24
    (lp (aIdxS 1 x21 x23) fun v26 =>
  bnd (load none v26) fun v27 =>
  lp (aLenS x0) fun v30 =>
  lp (aBin .sub [] v30 (.int .i64 1)) fun v31 =>
  lp (aBin .sub [] v31 x23) fun v33 =>
  lp (aNil x6) fun v34 =>
  lp (aIdxA 9 25 v34 v33) fun v35 =>
  bnd (call fn_num_Abs [v27]) fun v37 =>
  lp (aBin .gtr [] v37 (.int .i64 0)) fun v39 =>
  mc v39
    (lp (aNil v35) fun v43 =>
    lp (aIdxA 25 1 v43 x4) fun v44 =>
    bnd (load none v44) fun v45 =>
    lp (aBin .add [] x7 v45) fun v46 =>
    pvq_Index_j0 call n rec x0 x4 x6 v46 v27 v35 v37 x21 x22 x23)
    (pvq_Index_j0 call n rec x0 x4 x6 x7 v27 v35 v37 x21 x22 x23))
    (ret (.tup [x7, (.bool true)]))
noncomputable def pvq_Index (call : Nat → List AV → M AV) (n : Nat) (a0 : AV) : M AV :=
  bnd (call fn_pvq_Size [a0]) fun v15 =>
  lp (aExt 0 v15) fun v16 =>
  lp (aExt 1 v15) fun v17 =>
  lp (aUn .not v17) fun v19 =>
  mc v19
    (ret (.tup [(.int .i64 0), (.bool false)]))
    (bnd (call fn_pvq_made []) fun v20 =>
  lp (aLenS a0) fun v22 =>
  loopN (fun r l => pvq_Index_l0 call n r (l.getD 0 .undef) (l.getD 1 .undef) (l.getD 2 .undef) (l.getD 3 .undef) (l.getD 4 .undef) (l.getD 5 .undef) (l.getD 6 .undef)) n [a0, v16, v20, (.int .i64 0), a0, v22, (.int .i64 0)])
theorem pvq_Index_eq {ext : Ext} (h : ext fn_pvq_Index = none) (n : Nat) (a0 : AV) : fcall Tryd.prog ext (n + 1) fn_pvq_Index [a0] = pvq_Index (fcall Tryd.prog ext n) n a0 := by
  unfold fcall; rw [h]; kernel_rfl

/-! splicer/alloc.Band -/
noncomputable def alloc_Band_j0 (call : Nat → List AV → M AV) (n : Nat) (x0 x1 x2 x15 : AV) : M AV :=
  mc x15
    (ret (.int .i64 0))
    (bnd (call fn_alloc_times [x2]) fun v17 =>
lp (aBin .add [] x1 x0) fun v20 =>
lp (aBin .sub [] v20 (.int .i64 8)) fun v21 =>
bnd (call fn_alloc_held_int [v21, (.int .i64 0), (.int .i64 8)]) fun v22 =>
lp (aBin .mul [] v17 v22) fun v23 =>
ret v23)
noncomputable def alloc_Band (call : Nat → List AV → M AV) (n : Nat) (a0 a1 a2 : AV) : M AV :=
  bnd (call fn_alloc_good [a0]) fun v8 =>
  lp (aUn .not v8) fun v9 =>
  mc v9
    (alloc_Band_j0 call n a0 a1 a2 (.bool true))
    (bnd (call fn_alloc_held_int [a1, (.int .i64 1), (.int .i64 23)]) fun v12 =>
    lp (aBin .neq [6] v12 a1) fun v14 =>
    alloc_Band_j0 call n a0 a1 a2 v14)
theorem alloc_Band_eq {ext : Ext} (h : ext fn_alloc_Band = none) (n : Nat) (a0 a1 a2 : AV) : fcall Tryd.prog ext (n + 1) fn_alloc_Band [a0, a1, a2] = alloc_Band (fcall Tryd.prog ext n) n a0 a1 a2 := by
  unfold fcall; rw [h]; kernel_rfl

/-! splicer/layout.Width -/
noncomputable def layout_Width_j0 (call : Nat → List AV → M AV) (n : Nat) (x0 x9 : AV) : M AV :=
  mc x9
    (ret (.int .i64 0))
    (bnd (call fn_layout_widths []) fun v10 =>
bnd (alloc T_13_int [.int .i64 0, .int .i64 0, .int .i64 0, .int .i64 0, .int .i64 0, .int .i64 0, .int .i64 0, .int .i64 0, .int .i64 0, .int .i64 0, .int .i64 0, .int .i64 0, .int .i64 0]) fun v3 =>
bnd (store (some 13) v3 v10) fun u =>
lp (aIdxA 13 1 v3 x0) fun v12 =>
bnd (load none v12) fun v13 =>
ret v13)
noncomputable def layout_Width (call : Nat → List AV → M AV) (n : Nat) (a0 : AV) : M AV :=
  lp (aBin .lss [] a0 (.int .i64 0)) fun v5 =>
  mc v5
    (layout_Width_j0 call n a0 (.bool true))
    (lp (aBin .geq [] a0 (.int .i64 13)) fun v8 =>
    layout_Width_j0 call n a0 v8)
theorem layout_Width_eq {ext : Ext} (h : ext fn_layout_Width = none) (n : Nat) (a0 : AV) : fcall Tryd.prog ext (n + 1) fn_layout_Width [a0] = layout_Width (fcall Tryd.prog ext n) n a0 := by
  unfold fcall; rw [h]; kernel_rfl

/-! splicer/sym.PutDelta -/
noncomputable def sym_PutDelta_j2 (call : Nat → List AV → M AV) (n : Nat) (x4_1 : AV) : M AV :=
  ret x4_1
noncomputable def sym_PutDelta_j1 (call : Nat → List AV → M AV) (n : Nat) (x4 : AV) : M AV :=
  ret x4
noncomputable def sym_PutDelta_j0 (call : Nat → List AV → M AV) (n : Nat) (x0 x1 x12 : AV) : M AV :=
  mc x12
    (ret (.bool false))
    (bnd (call fn_sym_ends []) fun v13 =>
bnd (call fn_sym_rank [x1]) fun v15 =>
bnd (alloc T_8_int [.int .i64 0, .int .i64 0, .int .i64 0, .int .i64 0, .int .i64 0, .int .i64 0, .int .i64 0, .int .i64 0]) fun v5 =>
bnd (store (some 8) v5 v13) fun u =>
bnd (load (some 8) v5) fun v17 =>
snap fun m =>
bnd (call fn_sym_begins [v17, v15]) fun v19 =>
snap fun _ =>
lp (aIdxA 8 1 v5 v15) fun v21 =>
bnd (load none v21) fun v22 =>
same none v21 v22 m <|
snap fun _ =>
bnd (call fn_rc_Coder_Code [x0, v19, v22, (.int .i64 64)]) fun v23 =>
snap fun _ =>
lp (aBin .leq [] v15 (.int .i64 6)) fun v26 =>
mc v26
  (ret (.bool true))
  (lp (aBin .gtr [] x1 (.int .i64 0)) fun v29 =>
  mc v29
    (bnd (call fn_sym_PutBits [x0, (.int .i64 1), (.int .i64 1)]) fun v31 =>
    mc v31
      (lp (aBin .sub [] x1 (.int .i64 3)) fun v35 =>
      lp (aBin .sub [] v35 (.int .i64 1)) fun v36 =>
      bnd (call fn_sym_PutBelow [x0, v36, (.int .i64 64)]) fun v37 =>
      sym_PutDelta_j1 call n v37)
      (sym_PutDelta_j1 call n (.bool false)))
    (bnd (call fn_sym_PutBits [x0, (.int .i64 0), (.int .i64 1)]) fun v40 =>
mc v40
  (lp (aUn .neg x1) fun v44 =>
  lp (aBin .sub [] v44 (.int .i64 3)) fun v45 =>
  lp (aBin .sub [] v45 (.int .i64 1)) fun v46 =>
  bnd (call fn_sym_PutBelow [x0, v46, (.int .i64 64)]) fun v47 =>
  sym_PutDelta_j2 call n v47)
  (sym_PutDelta_j2 call n (.bool false)))))
noncomputable def sym_PutDelta (call : Nat → List AV → M AV) (n : Nat) (a0 a1 : AV) : M AV :=
  lp (aBin .leq [] a1 (.int .i64 (-68))) fun v8 =>
  mc v8
    (sym_PutDelta_j0 call n a0 a1 (.bool true))
    (lp (aBin .geq [] a1 (.int .i64 68)) fun v11 =>
    sym_PutDelta_j0 call n a0 a1 v11)
theorem sym_PutDelta_eq {ext : Ext} (h : ext fn_sym_PutDelta = none) (n : Nat) (a0 a1 : AV) : fcall Tryd.prog ext (n + 1) fn_sym_PutDelta [a0, a1] = sym_PutDelta (fcall Tryd.prog ext n) n a0 a1 := by
  unfold fcall; rw [h]; kernel_rfl

/-! splicer/frame.Rows$1 -/
noncomputable def frame_Rows_c1 (call : Nat → List AV → M AV) (n : Nat) (a0 : AV) : M AV :=
  bnd (box T_api_Chan a0) fun v1 =>
  lp (aOff 0 v1) fun v3 =>
  bnd (load none v3) fun v4 =>
  bnd (call fn_frame_mapped_api_Band_int [v4, (.func (.func fn_frame_Rows_c1_c1) [] [])]) fun v5 =>
  ret v5
theorem frame_Rows_c1_eq {ext : Ext} (h : ext fn_frame_Rows_c1 = none) (n : Nat) (a0 : AV) : fcall Tryd.prog ext (n + 1) fn_frame_Rows_c1 [a0] = frame_Rows_c1 (fcall Tryd.prog ext n) n a0 := by
  unfold fcall; rw [h]; kernel_rfl

/-! splicer/frame.mapped[splicer/api.Chan,[]int] -/
noncomputable def frame_mapped_api_Chan_sl_int_l0 (call : Nat → List AV → M AV) (n : Nat) (rec : List AV → M AV) (x1 x5 x11 x12 x13 : AV) : M AV :=
  lp (aBin .lss [] x13 x12) fun v14 =>
  mc v14
    (lp (aIdxS 1 x11 x13) fun v16 =>
  bnd (load (some 1) v16) fun v17 =>
  bnd (alloc T_api_Chan [.nilslice]) fun v7 =>
  bnd (store (some 1) v7 v17) fun u =>
  bnd (load (some 1) v7) fun v21 =>
  callee call x1 [v21] fun v22 =>
  lp (aIdxS 1 x5 x13) fun v23 =>
  bnd (store none v23 v22) fun u_1 =>
  lp (aBin .add [] x13 (.int .i64 1)) fun v24 =>
  rec [x1, x5, x11, x12, v24])
    (ret x5)
noncomputable def frame_mapped_api_Chan_sl_int (call : Nat → List AV → M AV) (n : Nat) (a0 a1 : AV) : M AV :=
  lp (aLenS a0) fun v9 =>
  bnd (mkSlice T_sl_int 1 24 [.nilslice] v9 v9) fun v10 =>
  lp (aLenS a0) fun v12 =>
  loopN (fun r l => frame_mapped_api_Chan_sl_int_l0 call n r (l.getD 0 .undef) (l.getD 1 .undef) (l.getD 2 .undef) (l.getD 3 .undef) (l.getD 4 .undef)) n [a1, v10, a0, v12, (.int .i64 0)]
theorem frame_mapped_api_Chan_sl_int_eq {ext : Ext} (h : ext fn_frame_mapped_api_Chan_sl_int = none) (n : Nat) (a0 a1 : AV) : fcall Tryd.prog ext (n + 1) fn_frame_mapped_api_Chan_sl_int [a0, a1] = frame_mapped_api_Chan_sl_int (fcall Tryd.prog ext n) n a0 a1 := by
  unfold fcall; rw [h]; kernel_rfl

/-! splicer/sym.put -/
noncomputable def sym_put (call : Nat → List AV → M AV) (n : Nat) (a0 a1 a2 : AV) : M AV :=
  lp (aBin .add [] a1 (.int .i64 1)) fun v9 =>
  bnd (call fn_rc_Coder_Code [a0, a1, v9, a2]) fun v11 =>
  ret (.tup [])
theorem sym_put_eq {ext : Ext} (h : ext fn_sym_put = none) (n : Nat) (a0 a1 a2 : AV) : fcall Tryd.prog ext (n + 1) fn_sym_put [a0, a1, a2] = sym_put (fcall Tryd.prog ext n) n a0 a1 a2 := by
  unfold fcall; rw [h]; kernel_rfl

/-! splicer/sym.parted -/
noncomputable def sym_parted_l0 (call : Nat → List AV → M AV) (n : Nat) (rec : List AV → M AV) (x0 x4 : AV) : M AV :=
  lp (aBin .sub [] x0 (.int .i64 1)) fun v6 =>
  lp (aBin .shr [] v6 x4) fun v8 =>
  lp (aBin .geq [] v8 (.int .i64 4096)) fun v9 =>
  mc v9
    (lp (aBin .add [] x4 (.int .i64 8)) fun v11 =>
  rec [x0, v11])
    (lp (aBin .sub [] x0 (.int .i64 1)) fun v14 =>
lp (aBin .shr [] v14 x4) fun v16 =>
lp (aBin .add [] v16 (.int .i64 1)) fun v17 =>
ret (.tup [x4, v17]))
noncomputable def sym_parted (call : Nat → List AV → M AV) (n : Nat) (a0 : AV) : M AV :=
  loopN (fun r l => sym_parted_l0 call n r (l.getD 0 .undef) (l.getD 1 .undef)) n [a0, (.int .i64 0)]
theorem sym_parted_eq {ext : Ext} (h : ext fn_sym_parted = none) (n : Nat) (a0 : AV) : fcall Tryd.prog ext (n + 1) fn_sym_parted [a0] = sym_parted (fcall Tryd.prog ext n) n a0 := by
  unfold fcall; rw [h]; kernel_rfl

/-! splicer/sym.PutBits -/
noncomputable def sym_PutBits_j1 (call : Nat → List AV → M AV) (n : Nat) : M AV :=
  ret (.bool true)
noncomputable def sym_PutBits_l0 (call : Nat → List AV → M AV) (n : Nat) (rec : List AV → M AV) (x0_1 x1_1 x2_1 : AV) : M AV :=
  lp (aBin .gtr [] x2_1 (.int .i64 8)) fun v24 =>
  mc v24
    (lp (aBin .sub [] x2_1 (.int .i64 8)) fun v30 =>
  lp (aBin .shr [] x1_1 v30) fun v31 =>
  lp (aBin .and [] v31 (.int .i64 255)) fun v32 =>
  bnd (call fn_sym_put [x0_1, v32, (.int .i64 256)]) fun v33 =>
  lp (aBin .sub [] x2_1 (.int .i64 8)) fun v26 =>
  rec [x0_1, x1_1, v26])
    (lp (aBin .gtr [] x2_1 (.int .i64 0)) fun v35 =>
mc v35
  (lp (aBin .shl [] (.int .i64 1) x2_1) fun v39 =>
  lp (aBin .sub [] v39 (.int .i64 1)) fun v40 =>
  lp (aBin .and [] x1_1 v40) fun v41 =>
  lp (aBin .shl [] (.int .i64 1) x2_1) fun v43 =>
  snap fun _ =>
  bnd (call fn_sym_put [x0_1, v41, v43]) fun v44 =>
  snap fun _ =>
  sym_PutBits_j1 call n)
  (sym_PutBits_j1 call n))
noncomputable def sym_PutBits_j0 (call : Nat → List AV → M AV) (n : Nat) (x0 x1 x2 x22 : AV) : M AV :=
  mc x22
    (ret (.bool false))
    (loopN (fun r l => sym_PutBits_l0 call n r (l.getD 0 .undef) (l.getD 1 .undef) (l.getD 2 .undef)) n [x0, x1, x2])
noncomputable def sym_PutBits (call : Nat → List AV → M AV) (n : Nat) (a0 a1 a2 : AV) : M AV :=
  lp (aBin .lss [] a2 (.int .i64 0)) fun v8 =>
  mc v8
    (sym_PutBits_j0 call n a0 a1 a2 (.bool true))
    (lp (aBin .gtr [] a2 (.int .i64 31)) fun v11 =>
    mc v11
      (sym_PutBits_j0 call n a0 a1 a2 (.bool true))
      (lp (aBin .lss [] a1 (.int .i64 0)) fun v15 =>
      mc v15
        (sym_PutBits_j0 call n a0 a1 a2 (.bool true))
        (lp (aBin .shr [] a1 a2) fun v20 =>
        lp (aBin .gtr [] v20 (.int .i64 0)) fun v21 =>
        sym_PutBits_j0 call n a0 a1 a2 v21)))
theorem sym_PutBits_eq {ext : Ext} (h : ext fn_sym_PutBits = none) (n : Nat) (a0 a1 a2 : AV) : fcall Tryd.prog ext (n + 1) fn_sym_PutBits [a0, a1, a2] = sym_PutBits (fcall Tryd.prog ext n) n a0 a1 a2 := by
  unfold fcall; rw [h]; kernel_rfl

/-! splicer/frame.fits -/
noncomputable def frame_fits_j1 (call : Nat → List AV → M AV) (n : Nat) (x6 : AV) : M AV :=
  ret x6
noncomputable def frame_fits_j0 (call : Nat → List AV → M AV) (n : Nat) (x3 x35 : AV) : M AV :=
  mc x35
    (ret (.bool false))
    (lp (aOff 0 x3) fun v36 =>
bnd (load none v36) fun v37 =>
lp (aBin .eql [6] v37 (.int .i64 0)) fun v38 =>
mc v38
  (lp (aOff 1 x3) fun v39 =>
  bnd (load none v39) fun v40 =>
  lp (aBin .eql [6] v40 (.int .i64 0)) fun v41 =>
  ret v41)
  (lp (aOff 0 x3) fun v42 =>
bnd (load none v42) fun v43 =>
lp (aBin .lss [] (.int .i64 0) v43) fun v44 =>
mc v44
  (lp (aOff 0 x3) fun v46 =>
  bnd (load none v46) fun v47 =>
  lp (aBin .leq [] v47 (.int .i64 23)) fun v48 =>
  mc v48
    (lp (aOff 1 x3) fun v51 =>
    bnd (load none v51) fun v52 =>
    lp (aBin .leq [] (.int .i64 0) v52) fun v53 =>
    mc v53
      (lp (aOff 1 x3) fun v56 =>
      bnd (load none v56) fun v57 =>
      lp (aBin .leq [] v57 (.int .i64 3)) fun v58 =>
      frame_fits_j1 call n v58)
      (frame_fits_j1 call n (.bool false)))
    (frame_fits_j1 call n (.bool false)))
  (frame_fits_j1 call n (.bool false))))
noncomputable def frame_fits (call : Nat → List AV → M AV) (n : Nat) (a0 a1 a2 : AV) : M AV :=
  bnd (box T_api_Band a0) fun v3 =>
  bnd (call fn_layout_Width [a2]) fun v11 =>
  lp (aOff 2 v3) fun v13 =>
  bnd (load none v13) fun v14 =>
  bnd (call fn_pvq_Size [v14]) fun v15 =>
  lp (aExt 0 v15) fun v16 =>
  lp (aExt 1 v15) fun v17 =>
  lp (aUn .not v17) fun v19 =>
  mc v19
    (frame_fits_j0 call n v3 (.bool true))
    (lp (aOff 2 v3) fun v21 =>
    bnd (load none v21) fun v22 =>
    lp (aLenS v22) fun v23 =>
    lp (aBin .neq [6] v23 v11) fun v25 =>
    mc v25
      (frame_fits_j0 call n v3 (.bool true))
      (lp (aOff 0 v3) fun v30 =>
      bnd (load none v30) fun v31 =>
      bnd (call fn_alloc_Band [a1, v31, v11]) fun v33 =>
      lp (aBin .neq [6] v16 v33) fun v34 =>
      frame_fits_j0 call n v3 v34))
theorem frame_fits_eq {ext : Ext} (h : ext fn_frame_fits = none) (n : Nat) (a0 a1 a2 : AV) : fcall Tryd.prog ext (n + 1) fn_frame_fits [a0, a1, a2] = frame_fits (fcall Tryd.prog ext n) n a0 a1 a2 := by
  unfold fcall; rw [h]; kernel_rfl

/-! splicer/energy.Right -/
noncomputable def energy_Right_j0 (call : Nat → List AV → M AV) (n : Nat) (rec : List AV → M AV) (x0_1 x5_1 x6_1 x7_1 x14_1 x15_1 x16 : AV) : M AV :=
  mc x16
    (ret (.bool false))
    (lp (aBin .add [] x7_1 (.int .i64 1)) fun v17 =>
rec [x0_1, x5_1, x6_1, v17, x14_1, x15_1])
noncomputable def energy_Right_l0 (call : Nat → List AV → M AV) (n : Nat) (rec : List AV → M AV) (x0 x5 x6 x7 x14 x15 : AV) : M AV :=
  lp (aBin .lss [] x7 x6) fun v8 =>
  mc v8
    (lp (aIdxS 1 x5 x7) fun v9 =>
  bnd (load none v9) fun v10 =>
  lp (aBin .lss [] v10 (.int .i64 0)) fun v12 =>
  mc v12
    (energy_Right_j0 call n rec x0 x5 x6 x7 (.tup []) (.tup []) (.bool true))
    (lp (aBin .gtr [] v10 (.int .i64 23)) fun v15 =>
    energy_Right_j0 call n rec x0 x5 x6 x7 v10 v15 v15))
    (lp (aLenS x0) fun v19 =>
lp (aBin .eql [6] v19 (.int .i64 13)) fun v20 =>
ret v20)
noncomputable def energy_Right (call : Nat → List AV → M AV) (n : Nat) (a0 : AV) : M AV :=
  lp (aLenS a0) fun v6 =>
  loopN (fun r l => energy_Right_l0 call n r (l.getD 0 .undef) (l.getD 1 .undef) (l.getD 2 .undef) (l.getD 3 .undef) (l.getD 4 .undef) (l.getD 5 .undef)) n [a0, a0, v6, (.int .i64 0), .undef, .undef]
theorem energy_Right_eq {ext : Ext} (h : ext fn_energy_Right = none) (n : Nat) (a0 : AV) : fcall Tryd.prog ext (n + 1) fn_energy_Right [a0] = energy_Right (fcall Tryd.prog ext n) n a0 := by
  unfold fcall; rw [h]; kernel_rfl

/-! splicer/splicerref13.Width -/
noncomputable def ref13_Width_j0 (call : Nat → List AV → M AV) (n : Nat) (x0 x3 : AV) : M AV :=
  mc x3
    (ret (.int .i64 0))
    (lp (aBin .lss [] x0 (.int .i64 4)) fun v12 =>
    mc v12
      (ret (.int .i64 2))
      (lp (aBin .lss [] x0 (.int .i64 8)) fun v15 =>
      mc v15
        (ret (.int .i64 4))
        (ret (.int .i64 8))))
noncomputable def ref13_Width (call : Nat → List AV → M AV) (n : Nat) (a0 : AV) : M AV :=
  lp (aBin .lss [] a0 (.int .i64 0)) fun v5 =>
  mc v5
    (ref13_Width_j0 call n a0 (.bool true))
    (lp (aBin .gtr [] a0 (.int .i64 12)) fun v8 =>
    ref13_Width_j0 call n a0 v8)
theorem ref13_Width_eq {ext : Ext} (h : ext fn_ref13_Width = none) (n : Nat) (a0 : AV) : fcall Tryd.prog ext (n + 1) fn_ref13_Width [a0] = ref13_Width (fcall Tryd.prog ext n) n a0 := by
  unfold fcall; rw [h]; kernel_rfl

/-! splicer/splicerref20.Band -/
noncomputable def ref20_Band_j0 (call : Nat → List AV → M AV) (n : Nat) (x6 : AV) : M AV :=
  ret x6
noncomputable def ref20_Band (call : Nat → List AV → M AV) (n : Nat) (a0 a1 a2 : AV) : M AV :=
  bnd (box T_api_Band a0) fun v3 =>
  lp (aOff 2 v3) fun v10 =>
  bnd (load none v10) fun v11 =>
  bnd (call fn_ref16_Size [v11]) fun v12 =>
  lp (aExt 0 v12) fun v13 =>
  lp (aExt 1 v12) fun v14 =>
  lp (aOff 0 v3) fun v15 =>
  bnd (load none v15) fun v16 =>
  lp (aBin .geq [] v16 (.int .i64 0)) fun v17 =>
  mc v17
    (lp (aOff 0 v3) fun v19 =>
    bnd (load none v19) fun v20 =>
    lp (aBin .leq [] v20 (.int .i64 23)) fun v21 =>
    mc v21
      (lp (aOff 1 v3) fun v24 =>
      bnd (load none v24) fun v25 =>
      lp (aBin .geq [] v25 (.int .i64 0)) fun v26 =>
      mc v26
        (lp (aOff 1 v3) fun v29 =>
        bnd (load none v29) fun v30 =>
        lp (aBin .leq [] v30 (.int .i64 3)) fun v31 =>
        mc v31
          (lp (aOff 0 v3) fun v34 =>
          bnd (load none v34) fun v35 =>
          lp (aBin .gtr [] v35 (.int .i64 0)) fun v36 =>
          mc v36
            (lp (aOff 2 v3) fun v44 =>
            bnd (load none v44) fun v45 =>
            lp (aLenS v45) fun v46 =>
            lp (aBin .eql [6] v46 a2) fun v48 =>
            mc v48
              (mc v14
                (lp (aOff 0 v3) fun v56 =>
                bnd (load none v56) fun v57 =>
                bnd (call fn_ref15_Band [a1, v57, a2]) fun v59 =>
                lp (aBin .eql [6] v13 v59) fun v60 =>
                ref20_Band_j0 call n v60)
                (ref20_Band_j0 call n (.bool false)))
              (ref20_Band_j0 call n (.bool false)))
            (lp (aOff 1 v3) fun v38 =>
            bnd (load none v38) fun v39 =>
            lp (aBin .eql [6] v39 (.int .i64 0)) fun v40 =>
            mc v40
              (lp (aOff 2 v3) fun v44_1 =>
              bnd (load none v44_1) fun v45_1 =>
              lp (aLenS v45_1) fun v46_1 =>
              lp (aBin .eql [6] v46_1 a2) fun v48_1 =>
              mc v48_1
                (mc v14
                  (lp (aOff 0 v3) fun v56_1 =>
                  bnd (load none v56_1) fun v57_1 =>
                  bnd (call fn_ref15_Band [a1, v57_1, a2]) fun v59_1 =>
                  lp (aBin .eql [6] v13 v59_1) fun v60_1 =>
                  ref20_Band_j0 call n v60_1)
                  (ref20_Band_j0 call n (.bool false)))
                (ref20_Band_j0 call n (.bool false)))
              (ref20_Band_j0 call n (.bool false))))
          (ref20_Band_j0 call n (.bool false)))
        (ref20_Band_j0 call n (.bool false)))
      (ref20_Band_j0 call n (.bool false)))
    (ref20_Band_j0 call n (.bool false))
theorem ref20_Band_eq {ext : Ext} (h : ext fn_ref20_Band = none) (n : Nat) (a0 a1 a2 : AV) : fcall Tryd.prog ext (n + 1) fn_ref20_Band [a0, a1, a2] = ref20_Band (fcall Tryd.prog ext n) n a0 a1 a2 := by
  unfold fcall; rw [h]; kernel_rfl

/-! splicer/splicerref20.Alike -/
noncomputable def ref20_Alike_j1 (call : Nat → List AV → M AV) (n : Nat) (rec : List AV → M AV) (rec_1 : List AV → M AV) (x2_3 x3_3 x5_2 x6_1 x7_1 x8_1 x72_2 x73_2 x74_2 x75_2 x76_2 x77_2 x78_2 x79_2 x80_2 x81_2 x82_2 x85_2 x86_2 x87_2 x88_2 x89_2 x90_2 x91_2 x92_2 x93_2 x94_2 x95_2 x96_2 x97 : AV) : M AV :=
  mc x97
    (ret (.bool false))
    (lp (aBin .add [] x8_1 (.int .i64 1)) fun v59 =>
rec_1 [x2_3, x3_3, x5_2, x6_1, x7_1, v59, x72_2, x73_2, x74_2, x75_2, x76_2, x77_2, x78_2, x79_2, x80_2, x81_2, x82_2, x85_2, x86_2, x87_2, x88_2, x89_2, x90_2, x91_2, x92_2, x93_2, x94_2, x95_2, x96_2])
noncomputable def ref20_Alike_l1 (call : Nat → List AV → M AV) (n : Nat) (rec : List AV → M AV) (rec_1 : List AV → M AV) (x2_2 x3_2 x5_1 x6 x7 x8 x72_1 x73_1 x74_1 x75_1 x76_1 x77_1 x78_1 x79_1 x80_1 x81_1 x82_1 x85_1 x86_1 x87_1 x88_1 x89_1 x90_1 x91_1 x92_1 x93_1 x94_1 x95_1 x96_1 : AV) : M AV :=
  lp (aLenS x6) fun v56 =>
  lp (aBin .lss [] x8 v56) fun v57 =>
  mc v57
    (lp (aIdxS 3 x6 x8) fun v62 =>
  lp (aOff 0 v62) fun v63 =>
  bnd (load none v63) fun v64 =>
  lp (aIdxS 3 x7 x8) fun v67 =>
  lp (aOff 0 v67) fun v68 =>
  bnd (load none v68) fun v69 =>
  lp (aBin .neq [6] v64 v69) fun v70 =>
  mc v70
    (ref20_Alike_j1 call n rec rec_1 x2_2 x3_2 x5_1 x6 x7 x8 (.tup []) (.tup []) (.tup []) (.tup []) (.tup []) (.tup []) (.tup []) (.tup []) (.tup []) (.tup []) (.tup []) (.tup []) (.tup []) (.tup []) (.tup []) (.tup []) (.tup []) (.tup []) (.tup []) (.tup []) (.tup []) (.tup []) (.tup []) (.bool true))
    (lp (aIdxS 3 x6 x8) fun v74 =>
    lp (aOff 1 v74) fun v75 =>
    bnd (load none v75) fun v76 =>
    lp (aIdxS 3 x7 x8) fun v79 =>
    lp (aOff 1 v79) fun v80 =>
    bnd (load none v80) fun v81 =>
    lp (aBin .neq [6] v76 v81) fun v82 =>
    mc v82
      (ref20_Alike_j1 call n rec rec_1 x2_2 x3_2 x5_1 x6 x7 x8 x6 x8 v74 v75 v76 x7 x8 v79 v80 v81 v82 (.tup []) (.tup []) (.tup []) (.tup []) (.tup []) (.tup []) (.tup []) (.tup []) (.tup []) (.tup []) (.tup []) (.tup []) (.bool true))
      (lp (aIdxS 3 x6 x8) fun v87 =>
      lp (aOff 2 v87) fun v88 =>
      bnd (load none v88) fun v89 =>
      lp (aIdxS 3 x7 x8) fun v92 =>
      lp (aOff 2 v92) fun v93 =>
      bnd (load none v93) fun v94 =>
      snap fun _ =>
      bnd (call fn_ref01_Same [v89, v94]) fun v95 =>
      snap fun _ =>
      lp (aUn .not v95) fun v96 =>
      ref20_Alike_j1 call n rec rec_1 x2_2 x3_2 x5_1 x6 x7 x8 x6 x8 v74 v75 v76 x7 x8 v79 v80 v81 v82 x6 x8 v87 v88 v89 x7 x8 v92 v93 v94 v95 v96 v96)))
    (lp (aBin .add [] x5_1 (.int .i64 1)) fun v36 =>
rec [x2_2, x3_2, v36, x72_1, x73_1, x74_1, x75_1, x76_1, x77_1, x78_1, x79_1, x80_1, x81_1, x82_1, x85_1, x86_1, x87_1, x88_1, x89_1, x90_1, x91_1, x92_1, x93_1, x94_1, x95_1, x96_1])
noncomputable def ref20_Alike_l0 (call : Nat → List AV → M AV) (n : Nat) (rec : List AV → M AV) (x2_1 x3_1 x5 x72 x73 x74 x75 x76 x77 x78 x79 x80 x81 x82 x85 x86 x87 x88 x89 x90 x91 x92 x93 x94 x95 x96 : AV) : M AV :=
  lp (aOff 4 x2_1) fun v31 =>
  bnd (load none v31) fun v32 =>
  lp (aLenS v32) fun v33 =>
  lp (aBin .lss [] x5 v33) fun v34 =>
  mc v34
    (lp (aOff 4 x2_1) fun v37 =>
  bnd (load none v37) fun v38 =>
  lp (aIdxS 1 v38 x5) fun v40 =>
  lp (aOff 0 v40) fun v41 =>
  bnd (load none v41) fun v42 =>
  lp (aOff 4 x3_1) fun v43 =>
  bnd (load none v43) fun v44 =>
  lp (aIdxS 1 v44 x5) fun v46 =>
  lp (aOff 0 v46) fun v47 =>
  bnd (load none v47) fun v48 =>
  lp (aLenS v42) fun v50 =>
  lp (aLenS v48) fun v52 =>
  lp (aBin .neq [6] v50 v52) fun v53 =>
  mc v53
    (ret (.bool false))
    (loopN (fun r l => ref20_Alike_l1 call n rec r (l.getD 0 .undef) (l.getD 1 .undef) (l.getD 2 .undef) (l.getD 3 .undef) (l.getD 4 .undef) (l.getD 5 .undef) (l.getD 6 .undef) (l.getD 7 .undef) (l.getD 8 .undef) (l.getD 9 .undef) (l.getD 10 .undef) (l.getD 11 .undef) (l.getD 12 .undef) (l.getD 13 .undef) (l.getD 14 .undef) (l.getD 15 .undef) (l.getD 16 .undef) (l.getD 17 .undef) (l.getD 18 .undef) (l.getD 19 .undef) (l.getD 20 .undef) (l.getD 21 .undef) (l.getD 22 .undef) (l.getD 23 .undef) (l.getD 24 .undef) (l.getD 25 .undef) (l.getD 26 .undef) (l.getD 27 .undef) (l.getD 28 .undef)) n [x2_1, x3_1, x5, v42, v48, (.int .i64 0), x72, x73, x74, x75, x76, x77, x78, x79, x80, x81, x82, x85, x86, x87, x88, x89, x90, x91, x92, x93, x94, x95, x96]))
    (ret (.bool true))
noncomputable def ref20_Alike_j0 (call : Nat → List AV → M AV) (n : Nat) (x2 x3 x29 : AV) : M AV :=
  mc x29
    (ret (.bool false))
    (loopN (fun r l => ref20_Alike_l0 call n r (l.getD 0 .undef) (l.getD 1 .undef) (l.getD 2 .undef) (l.getD 3 .undef) (l.getD 4 .undef) (l.getD 5 .undef) (l.getD 6 .undef) (l.getD 7 .undef) (l.getD 8 .undef) (l.getD 9 .undef) (l.getD 10 .undef) (l.getD 11 .undef) (l.getD 12 .undef) (l.getD 13 .undef) (l.getD 14 .undef) (l.getD 15 .undef) (l.getD 16 .undef) (l.getD 17 .undef) (l.getD 18 .undef) (l.getD 19 .undef) (l.getD 20 .undef) (l.getD 21 .undef) (l.getD 22 .undef) (l.getD 23 .undef) (l.getD 24 .undef) (l.getD 25 .undef)) n [x2, x3, (.int .i64 0), .undef, .undef, .undef, .undef, .undef, .undef, .undef, .undef, .undef, .undef, .undef, .undef, .undef, .undef, .undef, .undef, .undef, .undef, .undef, .undef, .undef, .undef, .undef])
noncomputable def ref20_Alike (call : Nat → List AV → M AV) (n : Nat) (a0 a1 : AV) : M AV :=
  bnd (box T_api_Frame a0) fun v2 =>
  bnd (box T_api_Frame a1) fun v3 =>
  lp (aOff 0 v2) fun v9 =>
  bnd (load none v9) fun v10 =>
  lp (aOff 0 v3) fun v11 =>
  bnd (load none v11) fun v12 =>
  lp (aBin .neq [1] v10 v12) fun v13 =>
  mc v13
    (ref20_Alike_j0 call n v2 v3 (.bool true))
    (lp (aOff 1 v2) fun v15 =>
    bnd (load none v15) fun v16 =>
    lp (aOff 1 v3) fun v17 =>
    bnd (load none v17) fun v18 =>
    lp (aBin .neq [1] v16 v18) fun v19 =>
    mc v19
      (ref20_Alike_j0 call n v2 v3 (.bool true))
      (lp (aOff 4 v2) fun v22 =>
      bnd (load none v22) fun v23 =>
      lp (aLenS v23) fun v24 =>
      lp (aOff 4 v3) fun v25 =>
      bnd (load none v25) fun v26 =>
      lp (aLenS v26) fun v27 =>
      lp (aBin .neq [6] v24 v27) fun v28 =>
      ref20_Alike_j0 call n v2 v3 v28))
theorem ref20_Alike_eq {ext : Ext} (h : ext fn_ref20_Alike = none) (n : Nat) (a0 a1 : AV) : fcall Tryd.prog ext (n + 1) fn_ref20_Alike [a0, a1] = ref20_Alike (fcall Tryd.prog ext n) n a0 a1 := by
  unfold fcall; rw [h]; kernel_rfl

/-! (*splicer/code.reader).frame -/
noncomputable def code_reader_frame_j3 (call : Nat → List AV → M AV) (n : Nat) (rec : List AV → M AV) (x0_4 x1_4 x2_4 x6_4 x7_4 x8_2 x9 x45_2 x46_2 x47_2 x48_2 x49_2 : AV) : M AV :=
  lp (aOff 4 x7_4) fun v60 =>
  bnd (load none v60) fun v61 =>
  lp (aOff 2 x7_4) fun v64 =>
  bnd (load none v64) fun v65 =>
  snap fun _ =>
  bnd (call fn_code_reader_row [x0_4, v65, x9]) fun v67 =>
  snap fun m_1 =>
  same none v60 v61 m_1 <|
  snap fun _ =>
  bnd (call fn_code_reader_channel [x0_4, v67]) fun v68 =>
  snap fun m_3 =>
  same none v60 v61 m_3 <|
  snap fun _ =>
  lp (aFill (fun i => some (i * 1, 1)) [.nilslice] [(0, v68)]) fun cs =>
  bnd (allocS T_api_Chan 1 1 cs) fun v69 =>
  snap fun m_5 =>
  same none v60 v61 m_5 <|
  snap fun _ =>
  bnd (append T_api_Chan 1 24 v61 v69) fun v70 =>
  snap fun _ =>
  lp (aOff 4 x7_4) fun v71 =>
  snap fun _ =>
  bnd (store none v71 v70) fun u_7 =>
  snap fun _ =>
  lp (aBin .add [] x8_2 (.int .i64 1)) fun v52 =>
rec [x0_4, x1_4, x2_4, x6_4, x7_4, v52, x45_2, x46_2, x47_2, x48_2, x49_2]
noncomputable def code_reader_frame_j2 (call : Nat → List AV → M AV) (n : Nat) (rec : List AV → M AV) (x0_3 x1_3 x2_3 x6_3 x7_3 x8_1 x45_1 x46_1 x47_1 x48_1 x49_1 x50 : AV) : M AV :=
  mc x50
    (lp (aOff 2 x7_3) fun v53 =>
bnd (load none v53) fun v54 =>
lp (aUn .not v54) fun v55 =>
mc v55
  (lp (aIdxS 1 x2_3 x8_1) fun v58 =>
  bnd (load none v58) fun v59 =>
  code_reader_frame_j3 call n rec x0_3 x1_3 x2_3 x6_3 x7_3 x8_1 v59 x45_1 x46_1 x47_1 x48_1 x49_1)
  (code_reader_frame_j3 call n rec x0_3 x1_3 x2_3 x6_3 x7_3 x8_1 .nilslice x45_1 x46_1 x47_1 x48_1 x49_1))
    (bnd (load (some 5) x7_3) fun v72 =>
bnd (store (some 5) x6_3 v72) fun u_8 =>
bnd (load (some 5) x6_3) fun r =>
ret r)
noncomputable def code_reader_frame_l0 (call : Nat → List AV → M AV) (n : Nat) (rec : List AV → M AV) (x0_2 x1_2 x2_2 x6_2 x7_2 x8 x45 x46 x47 x48 x49 : AV) : M AV :=
  lp (aBin .lss [] x8 x1_2) fun v43 =>
  mc v43
    (lp (aNil x0_2) fun v46 =>
    lp (aOff 2 v46) fun v47 =>
    bnd (load none v47) fun v48 =>
    lp (aUn .not v48) fun v49 =>
    code_reader_frame_j2 call n rec x0_2 x1_2 x2_2 x6_2 x7_2 x8 x0_2 v46 v47 v48 v49 v49)
    (code_reader_frame_j2 call n rec x0_2 x1_2 x2_2 x6_2 x7_2 x8 (.tup []) (.tup []) (.tup []) (.tup []) (.tup []) (.bool false))
noncomputable def code_reader_frame_j1 (call : Nat → List AV → M AV) (n : Nat) (x0_1 x1_1 x2_1 x6_1 x7_1 : AV) : M AV :=
  loopN (fun r l => code_reader_frame_l0 call n r (l.getD 0 .undef) (l.getD 1 .undef) (l.getD 2 .undef) (l.getD 3 .undef) (l.getD 4 .undef) (l.getD 5 .undef) (l.getD 6 .undef) (l.getD 7 .undef) (l.getD 8 .undef) (l.getD 9 .undef) (l.getD 10 .undef)) n [x0_1, x1_1, x2_1, x6_1, x7_1, (.int .i64 0), .undef, .undef, .undef, .undef, .undef]
noncomputable def code_reader_frame_j0 (call : Nat → List AV → M AV) (n : Nat) (x0 x1 x2 x6 x7 : AV) : M AV :=
  bnd (call fn_code_reader_flag [x0]) fun v19 =>
  lp (aOff 2 x7) fun v20 =>
  bnd (store none v20 v19) fun u_2 =>
  bnd (call fn_code_reader_below [x0, (.int .i64 97)]) fun v22 =>
  lp (aBin .add [] v22 (.int .i64 (-64))) fun v23 =>
  lp (aOff 3 x7) fun v24 =>
  bnd (store none v24 v23) fun u_3 =>
  lp (aNil x0) fun v27 =>
  lp (aOff 2 v27) fun v28 =>
  bnd (load none v28) fun v29 =>
  mc v29
    (lp (aNil x0) fun v39 =>
    lp (aOff 2 v39) fun v40 =>
    bnd (store none v40 (.bool true)) fun u_4 =>
    code_reader_frame_j1 call n x0 x1 x2 x6 x7)
    (lp (aOff 2 x7) fun v31 =>
    bnd (load none v31) fun v32 =>
    lp (aUn .not v32) fun v33 =>
    mc v33
      (lp (aBin .eql [4] x2 .nilslice) fun v36 =>
      lp (aNil x0) fun v39_1 =>
      lp (aOff 2 v39_1) fun v40_1 =>
      bnd (store none v40_1 v36) fun u_5 =>
      code_reader_frame_j1 call n x0 x1 x2 x6 x7)
      (lp (aNil x0) fun v39_2 =>
      lp (aOff 2 v39_2) fun v40_2 =>
      bnd (store none v40_2 (.bool false)) fun u_6 =>
      code_reader_frame_j1 call n x0 x1 x2 x6 x7))
noncomputable def code_reader_frame (call : Nat → List AV → M AV) (n : Nat) (a0 a1 a2 : AV) : M AV :=
  bnd (alloc T_api_Frame [.bool false, .bool false, .bool false, .int .i64 0, .nilslice]) fun v6 =>
  bnd (alloc T_api_Frame [.bool false, .bool false, .bool false, .int .i64 0, .nilslice]) fun v7 =>
  bnd (call fn_code_reader_flag [a0]) fun v11 =>
  lp (aOff 0 v7) fun v12 =>
  bnd (store none v12 v11) fun u =>
  lp (aBin .eql [6] a1 (.int .i64 2)) fun v14 =>
  mc v14
    (bnd (call fn_code_reader_flag [a0]) fun v16 =>
    lp (aOff 1 v7) fun v17 =>
    bnd (store none v17 v16) fun u_1 =>
    code_reader_frame_j0 call n a0 a1 a2 v6 v7)
    (code_reader_frame_j0 call n a0 a1 a2 v6 v7)
theorem code_reader_frame_eq {ext : Ext} (h : ext fn_code_reader_frame = none) (n : Nat) (a0 a1 a2 : AV) : fcall Tryd.prog ext (n + 1) fn_code_reader_frame [a0, a1, a2] = code_reader_frame (fcall Tryd.prog ext n) n a0 a1 a2 := by
  unfold fcall; rw [h]; kernel_rfl

/-! splicer/rc.New -/
noncomputable def rc_New_l0 (call : Nat → List AV → M AV) (n : Nat) (rec : List AV → M AV) (x3 x7 : AV) : M AV :=
  lp (aBin .lss [] x7 (.int .i64 4)) fun v8 =>
  mc v8
    (lp (aNil x3) fun v11 =>
  lp (aOff 3 v11) fun v12 =>
  bnd (load none v12) fun v13 =>
  lp (aBin .shl [] v13 (.int .u64 8)) fun v14 =>
  snap fun _ =>
  bnd (call fn_rc_Decoder_next [x3]) fun v16 =>
  snap fun m_1 =>
  same none v12 v13 m_1 <|
  lp (aBin .or [] v14 v16) fun v17 =>
  lp (aNil x3) fun v18 =>
  lp (aOff 3 v18) fun v19 =>
  snap fun _ =>
  bnd (store none v19 v17) fun u =>
  snap fun _ =>
  lp (aBin .add [] x7 (.int .i64 1)) fun v20 =>
  rec [x3, v20])
    (ret x3)
noncomputable def rc_New (call : Nat → List AV → M AV) (n : Nat) (a0 : AV) : M AV :=
  lp ((aFill (fun i => [(0, 2), (2, 1), (3, 1), (4, 1)][i]?) [.bool false, .int .u64 0, .str .empty, .int .u64 0, .bool false] [(1, a0), (3, (.bool true))]).map .agg) fun v5 =>
  bnd (box T_rc_Decoder v5) fun v6 =>
  loopN (fun r l => rc_New_l0 call n r (l.getD 0 .undef) (l.getD 1 .undef)) n [v6, (.int .i64 0)]
theorem rc_New_eq {ext : Ext} (h : ext fn_rc_New = none) (n : Nat) (a0 : AV) : fcall Tryd.prog ext (n + 1) fn_rc_New [a0] = rc_New (fcall Tryd.prog ext n) n a0 := by
  unfold fcall; rw [h]; kernel_rfl

/-! (*splicer/rc.Coder).End -/
noncomputable def rc_Coder_End_l1 (call : Nat → List AV → M AV) (n : Nat) (rec_1 : List AV → M AV) (x0_2 x3_2 x4 : AV) : M AV :=
  lp (aBin .geq [] x4 (.int .i64 0)) fun v33 =>
  mc v33
    (lp (aNil x0_2) fun v37 =>
  lp (aOff 4 v37) fun v38 =>
  bnd (load none v38) fun v39 =>
  lp (aBin .shr [] v39 x4) fun v41 =>
  lp (aInt .u8 v41) fun v42 =>
  bnd (call fn_strings_Builder_WriteByte [x3_2, v42]) fun v43 =>
  lp (aBin .sub [] x4 (.int .i64 8)) fun v35 =>
  rec_1 [x0_2, x3_2, v35])
    (bnd (call fn_strings_Builder_String [x3_2]) fun v44 =>
bnd (call fn_strings_TrimRight [v44, (.str ⟨#[0]⟩)]) fun v45 =>
ret v45)
noncomputable def rc_Coder_End_l0 (call : Nat → List AV → M AV) (n : Nat) (rec : List AV → M AV) (x0_1 x3_1 x27 x28 : AV) : M AV :=
  lp (aBin .lss [] x28 x27) fun v29 =>
  mc v29
    (bnd (call fn_strings_Builder_WriteByte [x3_1, (.int .u8 255)]) fun v30 =>
  lp (aBin .add [] x28 (.int .i64 1)) fun v31 =>
  rec [x0_1, x3_1, x27, v31])
    (loopN (fun r l => rc_Coder_End_l1 call n r (l.getD 0 .undef) (l.getD 1 .undef) (l.getD 2 .undef)) n [x0_1, x3_1, (.int .i64 24)])
noncomputable def rc_Coder_End_j0 (call : Nat → List AV → M AV) (n : Nat) (x0 x3 : AV) : M AV :=
  lp (aNil x0) fun v25 =>
  lp (aOff 6 v25) fun v26 =>
  bnd (load none v26) fun v27 =>
  loopN (fun r l => rc_Coder_End_l0 call n r (l.getD 0 .undef) (l.getD 1 .undef) (l.getD 2 .undef) (l.getD 3 .undef)) n [x0, x3, v27, (.int .i64 0)]
noncomputable def rc_Coder_End (call : Nat → List AV → M AV) (n : Nat) (a0 : AV) : M AV :=
  lp (aBin .eql [3] a0 .nilptr) fun v6 =>
  mc v6
    (ret (.str .empty))
    (bnd (alloc T_strings_Builder [.nilptr, .nilslice]) fun v3 =>
  lp (aNil a0) fun v8 =>
  lp (aOff 2 v8) fun v9 =>
  bnd (call fn_strings_Builder_String [v9]) fun v10 =>
  bnd (call fn_strings_Builder_WriteString [v3, v10]) fun v11 =>
  lp (aNil a0) fun v13 =>
  lp (aOff 5 v13) fun v14 =>
  bnd (load none v14) fun v15 =>
  lp (aBin .gtr [] v15 (.int .i64 0)) fun v16 =>
  mc v16
    (lp (aNil a0) fun v18 =>
    lp (aOff 5 v18) fun v19 =>
    bnd (load none v19) fun v20 =>
    lp (aBin .sub [] v20 (.int .i64 1)) fun v21 =>
    lp (aInt .u8 v21) fun v22 =>
    bnd (call fn_strings_Builder_WriteByte [v3, v22]) fun v23 =>
    rc_Coder_End_j0 call n a0 v3)
    (rc_Coder_End_j0 call n a0 v3))
theorem rc_Coder_End_eq {ext : Ext} (h : ext fn_rc_Coder_End = none) (n : Nat) (a0 : AV) : fcall Tryd.prog ext (n + 1) fn_rc_Coder_End [a0] = rc_Coder_End (fcall Tryd.prog ext n) n a0 := by
  unfold fcall; rw [h]; kernel_rfl

/-! splicer/energy.Deltas -/
noncomputable def energy_Deltas_l0 (call : Nat → List AV → M AV) (n : Nat) (rec : List AV → M AV) (x7 x8 x9 x30 x31 x32 : AV) : M AV :=
  lp (aBin .lss [] x32 x31) fun v33 =>
  mc v33
    (lp (aIdxS 1 x30 x32) fun v35 =>
  bnd (load none v35) fun v36 =>
  callee call x7 [x32, x9] fun v43 =>
  lp (aBin .sub [] v36 v43) fun v44 =>
  lp (aIdxS 1 x8 x32) fun v45 =>
  bnd (store none v45 v44) fun u =>
  lp (aBin .add [] x32 (.int .i64 1)) fun v47 =>
  rec [x7, x8, v36, x30, x31, v47])
    (ret x8)
noncomputable def energy_Deltas_j0 (call : Nat → List AV → M AV) (n : Nat) (x0 x1 x2 x23 : AV) : M AV :=
  mc x23
    (ret .nilslice)
    (bnd (call fn_energy_expects [x0, x1]) fun v26 =>
lp (aLenS x2) fun v28 =>
bnd (mkSlice T_int 1 8 [.int .i64 0] v28 v28) fun v29 =>
lp (aLenS x2) fun v31 =>
loopN (fun r l => energy_Deltas_l0 call n r (l.getD 0 .undef) (l.getD 1 .undef) (l.getD 2 .undef) (l.getD 3 .undef) (l.getD 4 .undef) (l.getD 5 .undef)) n [v26, v29, (.int .i64 0), x2, v31, (.int .i64 0)])
noncomputable def energy_Deltas (call : Nat → List AV → M AV) (n : Nat) (a0 a1 a2 : AV) : M AV :=
  bnd (call fn_energy_Right [a2]) fun v13 =>
  lp (aUn .not v13) fun v14 =>
  mc v14
    (energy_Deltas_j0 call n a0 a1 a2 (.bool true))
    (lp (aUn .not a0) fun v17 =>
    mc v17
      (bnd (call fn_energy_Right [a1]) fun v20 =>
      lp (aUn .not v20) fun v21 =>
      energy_Deltas_j0 call n a0 a1 a2 v21)
      (energy_Deltas_j0 call n a0 a1 a2 (.bool false)))
theorem energy_Deltas_eq {ext : Ext} (h : ext fn_energy_Deltas = none) (n : Nat) (a0 a1 a2 : AV) : fcall Tryd.prog ext (n + 1) fn_energy_Deltas [a0, a1, a2] = energy_Deltas (fcall Tryd.prog ext n) n a0 a1 a2 := by
  unfold fcall; rw [h]; kernel_rfl

/-! (*splicer/code.writer).channel -/
noncomputable def code_writer_channel_j1 (call : Nat → List AV → M AV) (n : Nat) (rec_2 : List AV → M AV) (x0_4 x46_1 x47_1 x48_1 : AV) : M AV :=
  lp (aBin .add [] x48_1 (.int .i64 1)) fun v79 =>
  rec_2 [x0_4, x46_1, x47_1, v79]
noncomputable def code_writer_channel_l2 (call : Nat → List AV → M AV) (n : Nat) (rec_2 : List AV → M AV) (x0_3 x46 x47 x48 : AV) : M AV :=
  lp (aBin .lss [] x48 x47) fun v49 =>
  mc v49
    (lp (aIdxS 3 x46 x48) fun v51 =>
  bnd (load (some 3) v51) fun v52 =>
  bnd (alloc T_api_Band [.int .i64 0, .int .i64 0, .nilslice]) fun v11 =>
  bnd (store (some 3) v11 v52) fun u_1 =>
  bnd (call fn_layout_Width [x48]) fun v54 =>
  lp (aNil x0_3) fun v56 =>
  lp (aOff 7 v56) fun v57 =>
  bnd (load none v57) fun v58 =>
  lp (aOff 0 v11) fun v59 =>
  bnd (load none v59) fun v60 =>
  snap fun _ =>
  bnd (call fn_alloc_Band [v58, v60, v54]) fun v62 =>
  snap fun _ =>
  lp (aBin .gtr [] v62 (.int .i64 0)) fun v64 =>
  mc v64
    (lp (aOff 2 v11) fun v66 =>
    bnd (load none v66) fun v67 =>
    bnd (call fn_pvq_Index [v67]) fun v68 =>
    lp (aExt 0 v68) fun v69 =>
    lp (aExt 1 v68) fun v70 =>
    lp (aNil x0_3) fun v72 =>
    lp (aOff 0 v72) fun v73 =>
    snap fun _ =>
    bnd (call fn_pvq_Count [v54, v62]) fun v77 =>
    snap fun _ =>
    snap fun _ =>
    bnd (call fn_sym_PutBelow [v73, v69, v77]) fun v78 =>
    snap fun _ =>
    code_writer_channel_j1 call n rec_2 x0_3 x46 x47 x48)
    (code_writer_channel_j1 call n rec_2 x0_3 x46 x47 x48))
    (ret (.tup []))
noncomputable def code_writer_channel_j0 (call : Nat → List AV → M AV) (n : Nat) (rec_1 : List AV → M AV) (x0_2 x4_2 x29_1 x30_1 x31_1 : AV) : M AV :=
  lp (aBin .add [] x31_1 (.int .i64 1)) fun v44 =>
  rec_1 [x0_2, x4_2, x29_1, x30_1, v44]
noncomputable def code_writer_channel_l1 (call : Nat → List AV → M AV) (n : Nat) (rec_1 : List AV → M AV) (x0_1 x4_1 x29 x30 x31 : AV) : M AV :=
  lp (aBin .lss [] x31 x30) fun v32 =>
  mc v32
    (lp (aIdxS 3 x29 x31) fun v33 =>
  bnd (load (some 3) v33) fun v34 =>
  bnd (alloc T_api_Band [.int .i64 0, .int .i64 0, .nilslice]) fun v9 =>
  bnd (store (some 3) v9 v34) fun u =>
  lp (aOff 0 v9) fun v35 =>
  bnd (load none v35) fun v36 =>
  lp (aBin .gtr [] v36 (.int .i64 0)) fun v37 =>
  mc v37
    (lp (aNil x0_1) fun v39 =>
    lp (aOff 0 v39) fun v40 =>
    lp (aOff 1 v9) fun v41 =>
    bnd (load none v41) fun v42 =>
    snap fun _ =>
    bnd (call fn_sym_PutBits [v40, v42, (.int .i64 2)]) fun v43 =>
    snap fun _ =>
    code_writer_channel_j0 call n rec_1 x0_1 x4_1 x29 x30 x31)
    (code_writer_channel_j0 call n rec_1 x0_1 x4_1 x29 x30 x31))
    (lp (aOff 0 x4_1) fun v45 =>
bnd (load none v45) fun v46 =>
lp (aLenS v46) fun v47 =>
loopN (fun r l => code_writer_channel_l2 call n r (l.getD 0 .undef) (l.getD 1 .undef) (l.getD 2 .undef) (l.getD 3 .undef)) n [x0_1, v46, v47, (.int .i64 0)])
noncomputable def code_writer_channel_l0 (call : Nat → List AV → M AV) (n : Nat) (rec : List AV → M AV) (x0 x4 x16 x17 x18 : AV) : M AV :=
  lp (aBin .lss [] x18 x17) fun v19 =>
  mc v19
    (lp (aIdxS 1 x16 x18) fun v20 =>
  bnd (load none v20) fun v21 =>
  lp (aNil x0) fun v23 =>
  lp (aOff 0 v23) fun v24 =>
  bnd (call fn_sym_PutDelta [v24, v21]) fun v26 =>
  lp (aBin .add [] x18 (.int .i64 1)) fun v27 =>
  rec [x0, x4, x16, x17, v27])
    (lp (aOff 0 x4) fun v28 =>
bnd (load none v28) fun v29 =>
lp (aLenS v29) fun v30 =>
loopN (fun r l => code_writer_channel_l1 call n r (l.getD 0 .undef) (l.getD 1 .undef) (l.getD 2 .undef) (l.getD 3 .undef) (l.getD 4 .undef)) n [x0, x4, v29, v30, (.int .i64 0)])
noncomputable def code_writer_channel (call : Nat → List AV → M AV) (n : Nat) (a0 a1 a2 : AV) : M AV :=
  bnd (box T_api_Chan a1) fun v4 =>
  lp (aLenS a2) fun v17 =>
  loopN (fun r l => code_writer_channel_l0 call n r (l.getD 0 .undef) (l.getD 1 .undef) (l.getD 2 .undef) (l.getD 3 .undef) (l.getD 4 .undef)) n [a0, v4, a2, v17, (.int .i64 0)]
theorem code_writer_channel_eq {ext : Ext} (h : ext fn_code_writer_channel = none) (n : Nat) (a0 a1 a2 : AV) : fcall Tryd.prog ext (n + 1) fn_code_writer_channel [a0, a1, a2] = code_writer_channel (fcall Tryd.prog ext n) n a0 a1 a2 := by
  unfold fcall; rw [h]; kernel_rfl

/-! splicer/frame.Rows -/
noncomputable def frame_Rows (call : Nat → List AV → M AV) (n : Nat) (a0 : AV) : M AV :=
  bnd (box T_api_Frame a0) fun v1 =>
  lp (aOff 4 v1) fun v3 =>
  bnd (load none v3) fun v4 =>
  bnd (call fn_frame_mapped_api_Chan_sl_int [v4, (.func (.func fn_frame_Rows_c1) [] [])]) fun v5 =>
  ret v5
theorem frame_Rows_eq {ext : Ext} (h : ext fn_frame_Rows = none) (n : Nat) (a0 : AV) : fcall Tryd.prog ext (n + 1) fn_frame_Rows [a0] = frame_Rows (fcall Tryd.prog ext n) n a0 := by
  unfold fcall; rw [h]; kernel_rfl

/-! splicer/sym.PutBelow -/
noncomputable def sym_PutBelow_j0 (call : Nat → List AV → M AV) (n : Nat) (x0 x1 x2 x23 : AV) : M AV :=
  mc x23
    (ret (.bool false))
    (bnd (call fn_sym_parted [x2]) fun v26 =>
lp (aExt 0 v26) fun v27 =>
lp (aExt 1 v26) fun v28 =>
lp (aBin .shr [] x1 v27) fun v32 =>
bnd (call fn_sym_put [x0, v32, v28]) fun v34 =>
lp (aBin .shl [] (.int .i64 1) v27) fun v38 =>
lp (aBin .sub [] v38 (.int .i64 1)) fun v39 =>
lp (aBin .and [] x1 v39) fun v40 =>
bnd (call fn_sym_PutBits [x0, v40, v27]) fun v42 =>
ret v42)
noncomputable def sym_PutBelow (call : Nat → List AV → M AV) (n : Nat) (a0 a1 a2 : AV) : M AV :=
  lp (aBin .lss [] a2 (.int .i64 1)) fun v10 =>
  mc v10
    (sym_PutBelow_j0 call n a0 a1 a2 (.bool true))
    (lp (aBin .gtr [] a2 (.int .i64 2147483648)) fun v13 =>
    mc v13
      (sym_PutBelow_j0 call n a0 a1 a2 (.bool true))
      (lp (aBin .lss [] a1 (.int .i64 0)) fun v17 =>
      mc v17
        (sym_PutBelow_j0 call n a0 a1 a2 (.bool true))
        (lp (aBin .geq [] a1 a2) fun v22 =>
        sym_PutBelow_j0 call n a0 a1 a2 v22)))
theorem sym_PutBelow_eq {ext : Ext} (h : ext fn_sym_PutBelow = none) (n : Nat) (a0 a1 a2 : AV) : fcall Tryd.prog ext (n + 1) fn_sym_PutBelow [a0, a1, a2] = sym_PutBelow (fcall Tryd.prog ext n) n a0 a1 a2 := by
  unfold fcall; rw [h]; kernel_rfl

/-! (*splicer/code.writer).flag -/
noncomputable def code_writer_flag_j0 (call : Nat → List AV → M AV) (n : Nat) (x0 x4 : AV) : M AV :=
  lp (aNil x0) fun v7 =>
  lp (aOff 0 v7) fun v8 =>
  bnd (call fn_sym_PutBits [v8, x4, (.int .i64 1)]) fun v10 =>
  ret (.tup [])
noncomputable def code_writer_flag (call : Nat → List AV → M AV) (n : Nat) (a0 a1 : AV) : M AV :=
  mc a1
    (code_writer_flag_j0 call n a0 (.int .i64 1))
    (code_writer_flag_j0 call n a0 (.int .i64 0))
theorem code_writer_flag_eq {ext : Ext} (h : ext fn_code_writer_flag = none) (n : Nat) (a0 a1 : AV) : fcall Tryd.prog ext (n + 1) fn_code_writer_flag [a0, a1] = code_writer_flag (fcall Tryd.prog ext n) n a0 a1 := by
  unfold fcall; rw [h]; kernel_rfl

/-! splicer/frame.Fit -/
noncomputable def frame_Fit_l1 (call : Nat → List AV → M AV) (n : Nat) (rec : List AV → M AV) (rec_1 : List AV → M AV) (x2_3 x51_1 x52_1 x53_1 x62 x63 x64 : AV) : M AV :=
  lp (aBin .lss [] x64 x63) fun v65 =>
  mc v65
    (lp (aIdxS 3 x62 x64) fun v67 =>
  bnd (load (some 3) v67) fun v68 =>
  bnd (alloc T_api_Band [.int .i64 0, .int .i64 0, .nilslice]) fun v10 =>
  bnd (store (some 3) v10 v68) fun u_1 =>
  bnd (load (some 3) v10) fun v69 =>
  bnd (call fn_frame_fits [v69, x2_3, x64]) fun v72 =>
  lp (aUn .not v72) fun v73 =>
  mc v73
    (ret (.bool false))
    (lp (aBin .add [] x64 (.int .i64 1)) fun v74 =>
  rec_1 [x2_3, x51_1, x52_1, x53_1, x62, x63, v74]))
    (lp (aBin .add [] x53_1 (.int .i64 1)) fun v75 =>
rec [x2_3, x51_1, x52_1, v75])
noncomputable def frame_Fit_l0 (call : Nat → List AV → M AV) (n : Nat) (rec : List AV → M AV) (x2_2 x51 x52 x53 : AV) : M AV :=
  lp (aBin .lss [] x53 x52) fun v54 =>
  mc v54
    (lp (aIdxS 1 x51 x53) fun v55 =>
  bnd (load (some 1) v55) fun v56 =>
  bnd (alloc T_api_Chan [.nilslice]) fun v8 =>
  bnd (store (some 1) v8 v56) fun u =>
  lp (aOff 0 v8) fun v57 =>
  bnd (load none v57) fun v58 =>
  lp (aLenS v58) fun v59 =>
  lp (aBin .neq [6] v59 (.int .i64 13)) fun v60 =>
  mc v60
    (ret (.bool false))
    (lp (aOff 0 v8) fun v61 =>
  bnd (load none v61) fun v62 =>
  lp (aLenS v62) fun v63 =>
  loopN (fun r l => frame_Fit_l1 call n rec r (l.getD 0 .undef) (l.getD 1 .undef) (l.getD 2 .undef) (l.getD 3 .undef) (l.getD 4 .undef) (l.getD 5 .undef) (l.getD 6 .undef)) n [x2_2, x51, x52, x53, v62, v63, (.int .i64 0)]))
    (ret (.bool true))
noncomputable def frame_Fit_j1 (call : Nat → List AV → M AV) (n : Nat) (x2_1 x3_1 x33 : AV) : M AV :=
  mc x33
    (ret (.bool false))
    (lp (aOff 4 x3_1) fun v50 =>
bnd (load none v50) fun v51 =>
lp (aLenS v51) fun v52 =>
loopN (fun r l => frame_Fit_l0 call n r (l.getD 0 .undef) (l.getD 1 .undef) (l.getD 2 .undef) (l.getD 3 .undef)) n [x2_1, v51, v52, (.int .i64 0)])
noncomputable def frame_Fit_j0 (call : Nat → List AV → M AV) (n : Nat) (x2 x3 x11 : AV) : M AV :=
  mc x11
    (ret (.bool false))
    (lp (aBin .lss [] x2 (.int .i64 0)) fun v35 =>
    mc v35
      (frame_Fit_j1 call n x2 x3 (.bool true))
      (lp (aBin .gtr [] x2 (.int .i64 10)) fun v38 =>
      mc v38
        (frame_Fit_j1 call n x2 x3 (.bool true))
        (lp (aOff 3 x3) fun v41 =>
        bnd (load none v41) fun v42 =>
        lp (aBin .lss [] v42 (.int .i64 (-64))) fun v43 =>
        mc v43
          (frame_Fit_j1 call n x2 x3 (.bool true))
          (lp (aOff 3 x3) fun v46 =>
          bnd (load none v46) fun v47 =>
          lp (aBin .gtr [] v47 (.int .i64 32)) fun v48 =>
          frame_Fit_j1 call n x2 x3 v48))))
noncomputable def frame_Fit (call : Nat → List AV → M AV) (n : Nat) (a0 a1 a2 : AV) : M AV :=
  bnd (box T_api_Frame a0) fun v3 =>
  lp (aBin .lss [] a1 (.int .i64 1)) fun v13 =>
  mc v13
    (frame_Fit_j0 call n a2 v3 (.bool true))
    (lp (aBin .gtr [] a1 (.int .i64 2)) fun v16 =>
    mc v16
      (frame_Fit_j0 call n a2 v3 (.bool true))
      (lp (aOff 4 v3) fun v19 =>
      bnd (load none v19) fun v20 =>
      lp (aLenS v20) fun v21 =>
      lp (aBin .neq [6] v21 a1) fun v23 =>
      mc v23
        (frame_Fit_j0 call n a2 v3 (.bool true))
        (lp (aOff 1 v3) fun v26 =>
        bnd (load none v26) fun v27 =>
        mc v27
          (lp (aBin .eql [6] a1 (.int .i64 1)) fun v30 =>
          frame_Fit_j0 call n a2 v3 v30)
          (frame_Fit_j0 call n a2 v3 (.bool false)))))
theorem frame_Fit_eq {ext : Ext} (h : ext fn_frame_Fit = none) (n : Nat) (a0 a1 a2 : AV) : fcall Tryd.prog ext (n + 1) fn_frame_Fit [a0, a1, a2] = frame_Fit (fcall Tryd.prog ext n) n a0 a1 a2 := by
  unfold fcall; rw [h]; kernel_rfl

/-! splicer/code.ahead -/
noncomputable def code_ahead_l0 (call : Nat → List AV → M AV) (n : Nat) (rec : List AV → M AV) (x0 x11 x12 x13 : AV) : M AV :=
  lp (aBin .lss [] x13 x12) fun v14 =>
  mc v14
    (lp (aIdxS 1 x11 x13) fun v15 =>
  bnd (load none v15) fun v16 =>
  bnd (call fn_energy_Right [v16]) fun v18 =>
  lp (aUn .not v18) fun v19 =>
  mc v19
    (ret .nilslice)
    (lp (aBin .add [] x13 (.int .i64 1)) fun v20 =>
  rec [x0, x11, x12, v20]))
    (ret x0)
noncomputable def code_ahead (call : Nat → List AV → M AV) (n : Nat) (a0 a1 : AV) : M AV :=
  lp (aLenS a0) fun v8 =>
  lp (aBin .neq [6] v8 a1) fun v10 =>
  mc v10
    (ret .nilslice)
    (lp (aLenS a0) fun v12 =>
  loopN (fun r l => code_ahead_l0 call n r (l.getD 0 .undef) (l.getD 1 .undef) (l.getD 2 .undef) (l.getD 3 .undef)) n [a0, a0, v12, (.int .i64 0)])
theorem code_ahead_eq {ext : Ext} (h : ext fn_code_ahead = none) (n : Nat) (a0 a1 : AV) : fcall Tryd.prog ext (n + 1) fn_code_ahead [a0, a1] = code_ahead (fcall Tryd.prog ext n) n a0 a1 := by
  unfold fcall; rw [h]; kernel_rfl

/-! splicer/splicerref20.Silent -/
noncomputable def ref20_Silent_l1 (call : Nat → List AV → M AV) (n : Nat) (rec : List AV → M AV) (rec_1 : List AV → M AV) (x0_2 x2_2 x3_1 x4_1 x5 x6 : AV) : M AV :=
  lp (aBin .lss [] x6 (.int .i64 13)) fun v22 =>
  mc v22
    (lp (aOff 0 x5) fun v25 =>
  bnd (load none v25) fun v26 =>
  snap fun _ =>
  bnd (call fn_ref13_Width [x6]) fun v28 =>
  snap fun m_1 =>
  same none v25 v26 m_1 <|
  snap fun _ =>
  bnd (mkSlice T_int 1 8 [.int .i64 0] v28 v28) fun v29 =>
  snap fun m_3 =>
  same none v25 v26 m_3 <|
  lp ((aFill (fun i => [(0, 1), (1, 1), (2, 1)][i]?) [.int .i64 0, .int .i64 0, .nilslice] [(2, v29)]).map .agg) fun v30 =>
  snap fun _ =>
  lp (aFill (fun i => some (i * 3, 3)) [.int .i64 0, .int .i64 0, .nilslice] [(0, v30)]) fun cs =>
  bnd (allocS T_api_Band 3 1 cs) fun v31 =>
  snap fun m_5 =>
  same none v25 v26 m_5 <|
  snap fun _ =>
  bnd (append T_api_Band 3 40 v26 v31) fun v32 =>
  snap fun _ =>
  lp (aOff 0 x5) fun v33 =>
  snap fun _ =>
  bnd (store none v33 v32) fun u_3 =>
  snap fun _ =>
  lp (aBin .add [] x6 (.int .i64 1)) fun v24 =>
  rec_1 [x0_2, x2_2, x3_1, x4_1, x5, v24])
    (lp (aOff 4 x3_1) fun v34 =>
bnd (load none v34) fun v35 =>
bnd (load (some 1) x5) fun v36 =>
lp (aFill (fun i => some (i * 1, 1)) [.nilslice] [(0, v36)]) fun cs_1 =>
bnd (allocS T_api_Chan 1 1 cs_1) fun v37 =>
bnd (append T_api_Chan 1 24 v35 v37) fun v38 =>
lp (aOff 4 x3_1) fun v39 =>
bnd (store none v39 v38) fun u_4 =>
lp (aBin .add [] x4_1 (.int .i64 1)) fun v19 =>
rec [x0_2, x2_2, x3_1, v19])
noncomputable def ref20_Silent_l0 (call : Nat → List AV → M AV) (n : Nat) (rec : List AV → M AV) (x0_1 x2_1 x3 x4 : AV) : M AV :=
  lp (aBin .lss [] x4 x0_1) fun v17 =>
  mc v17
    (lp ((aFill (fun i => [(0, 1)][i]?) [.nilslice] []).map .agg) fun v20 =>
  bnd (alloc T_api_Chan [.nilslice]) fun v5 =>
  bnd (store (some 1) v5 v20) fun u_2 =>
  loopN (fun r l => ref20_Silent_l1 call n rec r (l.getD 0 .undef) (l.getD 1 .undef) (l.getD 2 .undef) (l.getD 3 .undef) (l.getD 4 .undef) (l.getD 5 .undef)) n [x0_1, x2_1, x3, x4, v5, (.int .i64 0)])
    (bnd (load (some 5) x3) fun v40 =>
bnd (store (some 5) x2_1 v40) fun u_5 =>
bnd (load (some 5) x2_1) fun r_1 =>
ret r_1)
noncomputable def ref20_Silent_j0 (call : Nat → List AV → M AV) (n : Nat) (x0 x2 x12 : AV) : M AV :=
  mc x12
    (lp ((aFill (fun i => [(0, 1), (1, 1), (2, 1), (3, 1), (4, 1)][i]?) [.bool false, .bool false, .bool false, .int .i64 0, .nilslice] []).map .agg) fun v13 =>
    bnd (store (some 5) x2 v13) fun u =>
    bnd (load (some 5) x2) fun r =>
    ret r)
    (lp ((aFill (fun i => [(0, 1), (1, 1), (2, 1), (3, 1), (4, 1)][i]?) [.bool false, .bool false, .bool false, .int .i64 0, .nilslice] [(2, (.bool true))]).map .agg) fun v14 =>
bnd (alloc T_api_Frame [.bool false, .bool false, .bool false, .int .i64 0, .nilslice]) fun v3 =>
bnd (store (some 5) v3 v14) fun u_1 =>
loopN (fun r l => ref20_Silent_l0 call n r (l.getD 0 .undef) (l.getD 1 .undef) (l.getD 2 .undef) (l.getD 3 .undef)) n [x0, x2, v3, (.int .i64 0)])
noncomputable def ref20_Silent (call : Nat → List AV → M AV) (n : Nat) (a0 : AV) : M AV :=
  bnd (alloc T_api_Frame [.bool false, .bool false, .bool false, .int .i64 0, .nilslice]) fun v2 =>
  lp (aBin .lss [] a0 (.int .i64 1)) fun v8 =>
  mc v8
    (ref20_Silent_j0 call n a0 v2 (.bool true))
    (lp (aBin .gtr [] a0 (.int .i64 2)) fun v11 =>
    ref20_Silent_j0 call n a0 v2 v11)
theorem ref20_Silent_eq {ext : Ext} (h : ext fn_ref20_Silent = none) (n : Nat) (a0 : AV) : fcall Tryd.prog ext (n + 1) fn_ref20_Silent [a0] = ref20_Silent (fcall Tryd.prog ext n) n a0 := by
  unfold fcall; rw [h]; kernel_rfl

/-! splicer/splicerref20.Fit -/
noncomputable def ref20_Fit_l1 (call : Nat → List AV → M AV) (n : Nat) (rec : List AV → M AV) (rec_1 : List AV → M AV) (x1_2 x2_2 x3_2 x7_1 x8 : AV) : M AV :=
  lp (aBin .lss [] x8 (.int .i64 13)) fun v62 =>
  mc v62
    (lp (aOff 4 x3_2) fun v65 =>
  bnd (load none v65) fun v66 =>
  lp (aIdxS 1 v66 x7_1) fun v68 =>
  lp (aOff 0 v68) fun v69 =>
  bnd (load none v69) fun v70 =>
  lp (aIdxS 3 v70 x8) fun v72 =>
  bnd (load (some 3) v72) fun v73 =>
  snap fun _ =>
  bnd (call fn_ref13_Width [x8]) fun v76 =>
  snap fun m_1 =>
  same (some 3) v72 v73 m_1 <|
  same none v69 v70 m_1 <|
  same none v65 v66 m_1 <|
  snap fun _ =>
  bnd (call fn_ref20_Band [v73, x2_2, v76]) fun v77 =>
  snap fun _ =>
  lp (aUn .not v77) fun v78 =>
  mc v78
    (ret (.bool false))
    (lp (aBin .add [] x8 (.int .i64 1)) fun v64 =>
  rec_1 [x1_2, x2_2, x3_2, x7_1, v64]))
    (lp (aBin .add [] x7_1 (.int .i64 1)) fun v52 =>
rec [x1_2, x2_2, x3_2, v52])
noncomputable def ref20_Fit_l0 (call : Nat → List AV → M AV) (n : Nat) (rec : List AV → M AV) (x1_1 x2_1 x3_1 x7 : AV) : M AV :=
  lp (aBin .lss [] x7 x1_1) fun v50 =>
  mc v50
    (lp (aOff 4 x3_1) fun v53 =>
  bnd (load none v53) fun v54 =>
  lp (aIdxS 1 v54 x7) fun v56 =>
  lp (aOff 0 v56) fun v57 =>
  bnd (load none v57) fun v58 =>
  lp (aLenS v58) fun v59 =>
  lp (aBin .neq [6] v59 (.int .i64 13)) fun v60 =>
  mc v60
    (ret (.bool false))
    (loopN (fun r l => ref20_Fit_l1 call n rec r (l.getD 0 .undef) (l.getD 1 .undef) (l.getD 2 .undef) (l.getD 3 .undef) (l.getD 4 .undef)) n [x1_1, x2_1, x3_1, x7, (.int .i64 0)]))
    (ret (.bool true))
noncomputable def ref20_Fit_j0 (call : Nat → List AV → M AV) (n : Nat) (x1 x2 x3 x47 : AV) : M AV :=
  mc x47
    (ret (.bool false))
    (loopN (fun r l => ref20_Fit_l0 call n r (l.getD 0 .undef) (l.getD 1 .undef) (l.getD 2 .undef) (l.getD 3 .undef)) n [x1, x2, x3, (.int .i64 0)])
noncomputable def ref20_Fit (call : Nat → List AV → M AV) (n : Nat) (a0 a1 a2 : AV) : M AV :=
  bnd (box T_api_Frame a0) fun v3 =>
  lp (aBin .lss [] a1 (.int .i64 1)) fun v10 =>
  mc v10
    (ref20_Fit_j0 call n a1 a2 v3 (.bool true))
    (lp (aBin .gtr [] a1 (.int .i64 2)) fun v13 =>
    mc v13
      (ref20_Fit_j0 call n a1 a2 v3 (.bool true))
      (lp (aBin .lss [] a2 (.int .i64 0)) fun v17 =>
      mc v17
        (ref20_Fit_j0 call n a1 a2 v3 (.bool true))
        (lp (aBin .gtr [] a2 (.int .i64 10)) fun v21 =>
        mc v21
          (ref20_Fit_j0 call n a1 a2 v3 (.bool true))
          (lp (aOff 4 v3) fun v24 =>
          bnd (load none v24) fun v25 =>
          lp (aLenS v25) fun v26 =>
          lp (aBin .neq [6] v26 a1) fun v28 =>
          mc v28
            (ref20_Fit_j0 call n a1 a2 v3 (.bool true))
            (lp (aOff 3 v3) fun v31 =>
            bnd (load none v31) fun v32 =>
            lp (aBin .lss [] v32 (.int .i64 (-64))) fun v33 =>
            mc v33
              (ref20_Fit_j0 call n a1 a2 v3 (.bool true))
              (lp (aOff 3 v3) fun v36 =>
              bnd (load none v36) fun v37 =>
              lp (aBin .gtr [] v37 (.int .i64 32)) fun v38 =>
              mc v38
                (ref20_Fit_j0 call n a1 a2 v3 (.bool true))
                (lp (aOff 1 v3) fun v41 =>
                bnd (load none v41) fun v42 =>
                mc v42
                  (lp (aBin .eql [6] a1 (.int .i64 1)) fun v45 =>
                  ref20_Fit_j0 call n a1 a2 v3 v45)
                  (ref20_Fit_j0 call n a1 a2 v3 (.bool false)))))))))
theorem ref20_Fit_eq {ext : Ext} (h : ext fn_ref20_Fit = none) (n : Nat) (a0 a1 a2 : AV) : fcall Tryd.prog ext (n + 1) fn_ref20_Fit [a0, a1, a2] = ref20_Fit (fcall Tryd.prog ext n) n a0 a1 a2 := by
  unfold fcall; rw [h]; kernel_rfl

/-! splicer/splicerref20.Same -/
noncomputable def ref20_Same_j0 (call : Nat → List AV → M AV) (n : Nat) (x4 : AV) : M AV :=
  ret x4
noncomputable def ref20_Same (call : Nat → List AV → M AV) (n : Nat) (a0 a1 : AV) : M AV :=
  bnd (box T_api_Frame a0) fun v2 =>
  bnd (box T_api_Frame a1) fun v3 =>
  lp (aOff 2 v2) fun v5 =>
  bnd (load none v5) fun v6 =>
  lp (aOff 2 v3) fun v7 =>
  bnd (load none v7) fun v8 =>
  lp (aBin .eql [1] v6 v8) fun v9 =>
  mc v9
    (lp (aOff 3 v2) fun v11 =>
    bnd (load none v11) fun v12 =>
    lp (aOff 3 v3) fun v13 =>
    bnd (load none v13) fun v14 =>
    lp (aBin .eql [6] v12 v14) fun v15 =>
    mc v15
      (bnd (load (some 5) v2) fun v18 =>
      bnd (load (some 5) v3) fun v19 =>
      bnd (call fn_ref20_Alike [v18, v19]) fun v20 =>
      ref20_Same_j0 call n v20)
      (ref20_Same_j0 call n (.bool false)))
    (ref20_Same_j0 call n (.bool false))
theorem ref20_Same_eq {ext : Ext} (h : ext fn_ref20_Same = none) (n : Nat) (a0 a1 : AV) : fcall Tryd.prog ext (n + 1) fn_ref20_Same [a0, a1] = ref20_Same (fcall Tryd.prog ext n) n a0 a1 := by
  unfold fcall; rw [h]; kernel_rfl

/-! splicer/code.Get -/
noncomputable def code_Get_j1 (call : Nat → List AV → M AV) (n : Nat) (x8_1 x11 x66 : AV) : M AV :=
  mc x66
    (lp ((aFill (fun i => [(0, 1), (1, 1), (2, 1), (3, 1), (4, 1)][i]?) [.bool false, .bool false, .bool false, .int .i64 0, .nilslice] []).map .agg) fun v67 =>
    bnd (store (some 5) x8_1 v67) fun u_4 =>
    bnd (load (some 5) x8_1) fun r_3 =>
    ret (.tup [r_3, (.int .i64 4)]))
    (bnd (load (some 5) x11) fun v68 =>
bnd (store (some 5) x8_1 v68) fun u_5 =>
bnd (load (some 5) x8_1) fun r_4 =>
ret (.tup [r_4, (.int .i64 0)]))
noncomputable def code_Get_j0 (call : Nat → List AV → M AV) (n : Nat) (x0 x1 x2 x3 x8 x14 : AV) : M AV :=
  mc x14
    (lp ((aFill (fun i => [(0, 1), (1, 1), (2, 1), (3, 1), (4, 1)][i]?) [.bool false, .bool false, .bool false, .int .i64 0, .nilslice] []).map .agg) fun v29 =>
    bnd (store (some 5) x8 v29) fun u =>
    bnd (load (some 5) x8) fun r =>
    ret (.tup [r, (.int .i64 1)]))
    (lp (aLenStr x0) fun v32 =>
    lp (aBin .gtr [] v32 (.int .i64 1024)) fun v33 =>
    mc v33
      (lp ((aFill (fun i => [(0, 1), (1, 1), (2, 1), (3, 1), (4, 1)][i]?) [.bool false, .bool false, .bool false, .int .i64 0, .nilslice] []).map .agg) fun v34 =>
      bnd (store (some 5) x8 v34) fun u_1 =>
      bnd (load (some 5) x8) fun r_1 =>
      ret (.tup [r_1, (.int .i64 3)]))
      (bnd (call fn_code_ahead [x3, x1]) fun v37 =>
bnd (call fn_rc_New [x0]) fun v39 =>
lp ((aFill (fun i => [(0, 1), (1, 1), (2, 1)][i]?) [.nilptr, .int .i64 0, .bool false] [(0, v39), (1, x2)]).map .agg) fun v41 =>
bnd (box T_code_reader v41) fun v42 =>
bnd (call fn_code_reader_frame [v42, x1, v37]) fun v46 =>
bnd (alloc T_api_Frame [.bool false, .bool false, .bool false, .int .i64 0, .nilslice]) fun v11 =>
bnd (store (some 5) v11 v46) fun u_2 =>
lp (aNil v42) fun v48 =>
lp (aOff 2 v48) fun v49 =>
bnd (load none v49) fun v50 =>
mc v50
  (lp ((aFill (fun i => [(0, 1), (1, 1), (2, 1), (3, 1), (4, 1)][i]?) [.bool false, .bool false, .bool false, .int .i64 0, .nilslice] []).map .agg) fun v51 =>
  bnd (store (some 5) x8 v51) fun u_3 =>
  bnd (load (some 5) x8) fun r_2 =>
  ret (.tup [r_2, (.int .i64 4)]))
  (bnd (load (some 5) v11) fun v53 =>
bnd (call fn_code_Put [v53, x1, x2, v37]) fun v57 =>
lp (aExt 0 v57) fun v58 =>
lp (aExt 1 v57) fun v59 =>
lp (aBin .neq [6] v59 (.int .i64 0)) fun v61 =>
mc v61
  (code_Get_j1 call n x8 v11 (.bool true))
  (lp (aBin .neq [7] v58 x0) fun v65 =>
  code_Get_j1 call n x8 v11 v65))))
noncomputable def code_Get (call : Nat → List AV → M AV) (n : Nat) (a0 a1 a2 a3 : AV) : M AV :=
  bnd (alloc T_api_Frame [.bool false, .bool false, .bool false, .int .i64 0, .nilslice]) fun v8 =>
  lp (aBin .lss [] a1 (.int .i64 1)) fun v16 =>
  mc v16
    (code_Get_j0 call n a0 a1 a2 a3 v8 (.bool true))
    (lp (aBin .gtr [] a1 (.int .i64 2)) fun v19 =>
    mc v19
      (code_Get_j0 call n a0 a1 a2 a3 v8 (.bool true))
      (lp (aBin .lss [] a2 (.int .i64 0)) fun v23 =>
      mc v23
        (code_Get_j0 call n a0 a1 a2 a3 v8 (.bool true))
        (lp (aBin .gtr [] a2 (.int .i64 10)) fun v27 =>
        code_Get_j0 call n a0 a1 a2 a3 v8 v27)))
theorem code_Get_eq {ext : Ext} (h : ext fn_code_Get = none) (n : Nat) (a0 a1 a2 a3 : AV) : fcall Tryd.prog ext (n + 1) fn_code_Get [a0, a1, a2, a3] = code_Get (fcall Tryd.prog ext n) n a0 a1 a2 a3 := by
  unfold fcall; rw [h]; kernel_rfl

/-! splicer/code.Put -/
noncomputable def code_Put_j2 (call : Nat → List AV → M AV) (n : Nat) (rec : List AV → M AV) (x3_3 x4_3 x10_2 x11 x12 x13 x56_1 x57_1 x58_1 : AV) : M AV :=
  lp (aOff 4 x4_3) fun v71 =>
  bnd (load none v71) fun v72 =>
  lp (aIdxS 1 v72 x11) fun v74 =>
  bnd (load (some 1) v74) fun v75 =>
  lp (aOff 2 x4_3) fun v76 =>
  bnd (load none v76) fun v77 =>
  snap fun _ =>
  bnd (call fn_energy_Deltas [v77, x13, x12]) fun v80 =>
  snap fun m_3 =>
  same (some 1) v74 v75 m_3 <|
  same none v71 v72 m_3 <|
  snap fun _ =>
  bnd (call fn_code_writer_channel [x10_2, v75, v80]) fun v81 =>
  snap fun _ =>
  lp (aBin .add [] x58_1 (.int .i64 1)) fun v82 =>
rec [x3_3, x4_3, x10_2, x56_1, x57_1, v82]
noncomputable def code_Put_l0 (call : Nat → List AV → M AV) (n : Nat) (rec : List AV → M AV) (x3_2 x4_2 x10_1 x56 x57 x58 : AV) : M AV :=
  lp (aBin .lss [] x58 x57) fun v59 =>
  mc v59
    (lp (aIdxS 1 x56 x58) fun v61 =>
  bnd (load none v61) fun v62 =>
  lp (aOff 2 x4_2) fun v63 =>
  bnd (load none v63) fun v64 =>
  lp (aUn .not v64) fun v65 =>
  mc v65
    (lp (aIdxS 1 x3_2 x58) fun v68 =>
    bnd (load none v68) fun v69 =>
    code_Put_j2 call n rec x3_2 x4_2 x10_1 x58 v62 v69 x56 x57 x58)
    (code_Put_j2 call n rec x3_2 x4_2 x10_1 x58 v62 .nilslice x56 x57 x58))
    (lp (aNil x10_1) fun v84 =>
lp (aOff 0 v84) fun v85 =>
bnd (call fn_rc_Coder_End [v85]) fun v86 =>
ret (.tup [v86, (.int .i64 0)]))
noncomputable def code_Put_j1 (call : Nat → List AV → M AV) (n : Nat) (x3_1 x4_1 x10 : AV) : M AV :=
  lp (aOff 2 x4_1) fun v45 =>
  bnd (load none v45) fun v46 =>
  bnd (call fn_code_writer_flag [x10, v46]) fun v47 =>
  lp (aNil x10) fun v49 =>
  lp (aOff 0 v49) fun v50 =>
  lp (aOff 3 x4_1) fun v51 =>
  bnd (load none v51) fun v52 =>
  lp (aBin .sub [] v52 (.int .i64 (-64))) fun v53 =>
  snap fun _ =>
  bnd (call fn_sym_PutBelow [v50, v53, (.int .i64 97)]) fun v54 =>
  snap fun _ =>
  bnd (load (some 5) x4_1) fun v55 =>
  bnd (call fn_frame_Rows [v55]) fun v56 =>
  lp (aLenS v56) fun v57 =>
  loopN (fun r l => code_Put_l0 call n r (l.getD 0 .undef) (l.getD 1 .undef) (l.getD 2 .undef) (l.getD 3 .undef) (l.getD 4 .undef) (l.getD 5 .undef)) n [x3_1, x4_1, x10, v56, v57, (.int .i64 0)]
noncomputable def code_Put_j0 (call : Nat → List AV → M AV) (n : Nat) (x1 x2 x3 x4 x30 : AV) : M AV :=
  mc x30
    (ret (.tup [(.str .empty), (.int .i64 1)]))
    (lp ((aFill (fun i => [(0, 7), (7, 1)][i]?) [.bool false, .int .u64 0, .nilptr, .nilslice, .int .u64 0, .int .i64 0, .int .i64 0, .int .i64 0] [(1, x2)]).map .agg) fun v32 =>
bnd (box T_code_writer v32) fun v33 =>
lp (aOff 0 x4) fun v35 =>
bnd (load none v35) fun v36 =>
bnd (call fn_code_writer_flag [v33, v36]) fun v37 =>
lp (aBin .eql [6] x1 (.int .i64 2)) fun v39 =>
mc v39
  (lp (aOff 1 x4) fun v41 =>
  bnd (load none v41) fun v42 =>
  bnd (call fn_code_writer_flag [v33, v42]) fun v43 =>
  code_Put_j1 call n x3 x4 v33)
  (code_Put_j1 call n x3 x4 v33))
noncomputable def code_Put (call : Nat → List AV → M AV) (n : Nat) (a0 a1 a2 a3 : AV) : M AV :=
  bnd (box T_api_Frame a0) fun v4 =>
  bnd (call fn_code_ahead [a3, a1]) fun v16 =>
  bnd (load (some 5) v4) fun v17 =>
  bnd (call fn_frame_Fit [v17, a1, a2]) fun v20 =>
  lp (aUn .not v20) fun v21 =>
  mc v21
    (code_Put_j0 call n a1 a2 v16 v4 (.bool true))
    (lp (aOff 2 v4) fun v23 =>
    bnd (load none v23) fun v24 =>
    lp (aUn .not v24) fun v25 =>
    mc v25
      (lp (aBin .eql [4] v16 .nilslice) fun v28 =>
      code_Put_j0 call n a1 a2 v16 v4 v28)
      (code_Put_j0 call n a1 a2 v16 v4 (.bool false)))
theorem code_Put_eq {ext : Ext} (h : ext fn_code_Put = none) (n : Nat) (a0 a1 a2 a3 : AV) : fcall Tryd.prog ext (n + 1) fn_code_Put [a0, a1, a2, a3] = code_Put (fcall Tryd.prog ext n) n a0 a1 a2 a3 := by
  unfold fcall; rw [h]; kernel_rfl

/-! splicer/splicerlaw22.awake -/
noncomputable def law22_awake_j0 (call : Nat → List AV → M AV) (n : Nat) (x0 : AV) : M AV :=
  ret x0
noncomputable def law22_awake (call : Nat → List AV → M AV) (n : Nat) : M AV :=
  bnd (call fn_ref20_Silent [(.int .i64 2)]) fun v10 =>
  bnd (alloc T_api_Frame [.bool false, .bool false, .bool false, .int .i64 0, .nilslice]) fun v1 =>
  bnd (store (some 5) v1 v10) fun u =>
  bnd (load (some 5) v1) fun v12 =>
  bnd (call fn_code_Put [v12, (.int .i64 2), (.int .i64 5), .nilslice]) fun v13 =>
  lp (aExt 0 v13) fun v14 =>
  lp (aExt 1 v13) fun v15 =>
  bnd (call fn_code_Get [v14, (.int .i64 2), (.int .i64 5), .nilslice]) fun v18 =>
  lp (aExt 0 v18) fun v19 =>
  lp (aExt 1 v18) fun v20 =>
  bnd (alloc T_api_Frame [.bool false, .bool false, .bool false, .int .i64 0, .nilslice]) fun v4 =>
  bnd (store (some 5) v4 v19) fun u_1 =>
  lp (aOff 2 v1) fun v21 =>
  bnd (store none v21 (.bool false)) fun u_2 =>
  bnd (load (some 5) v1) fun v23 =>
  bnd (call fn_code_Put [v23, (.int .i64 2), (.int .i64 5), .nilslice]) fun v24 =>
  lp (aExt 0 v24) fun v25 =>
  lp (aExt 1 v24) fun v26 =>
  bnd (call fn_code_Get [(.str .empty), (.int .i64 3), (.int .i64 5), .nilslice]) fun v28 =>
  lp (aExt 0 v28) fun v29 =>
  lp (aExt 1 v28) fun v30 =>
  bnd (alloc T_api_Frame [.bool false, .bool false, .bool false, .int .i64 0, .nilslice]) fun v8 =>
  bnd (store (some 5) v8 v29) fun u_3 =>
  lp (aBin .eql [6] v15 (.int .i64 0)) fun v32 =>
  mc v32
    (lp (aBin .eql [6] v20 (.int .i64 0)) fun v35 =>
    mc v35
      (bnd (load (some 5) v4) fun v38 =>
      snap fun _ =>
      bnd (call fn_ref20_Silent [(.int .i64 2)]) fun v39 =>
      snap fun m_1 =>
      same (some 5) v4 v38 m_1 <|
      snap fun _ =>
      bnd (call fn_ref20_Same [v38, v39]) fun v40 =>
      snap fun _ =>
      mc v40
        (lp (aBin .eql [6] v26 (.int .i64 1)) fun v44 =>
        mc v44
          (lp (aBin .eql [6] v30 (.int .i64 1)) fun v48 =>
          law22_awake_j0 call n v48)
          (law22_awake_j0 call n (.bool false)))
        (law22_awake_j0 call n (.bool false)))
      (law22_awake_j0 call n (.bool false)))
    (law22_awake_j0 call n (.bool false))
theorem law22_awake_eq {ext : Ext} (h : ext fn_law22_awake = none) (n : Nat) : fcall Tryd.prog ext (n + 1) fn_law22_awake [] = law22_awake (fcall Tryd.prog ext n) n := by
  unfold fcall; rw [h]; kernel_rfl

/-! splicer/splicerlaw22.few -/
noncomputable def law22_few_l0 (call : Nat → List AV → M AV) (n : Nat) (rec : List AV → M AV) (x0 x3 : AV) : M AV :=
  lp (aLenS x0) fun v6 =>
  lp (aBin .lss [] x3 v6) fun v7 =>
  mc v7
    (lp (aIdxS 1 x0 x3) fun v12 =>
  bnd (load none v12) fun v13 =>
  lp (aLenS v13) fun v14 =>
  lp (aBin .gtr [] v14 (.int .i64 15)) fun v15 =>
  mc v15
    (ret (.bool false))
    (lp (aBin .add [] x3 (.int .i64 1)) fun v9 =>
  rec [x0, v9]))
    (lp (aLenS x0) fun v17 =>
lp (aBin .leq [] v17 (.int .i64 4)) fun v18 =>
ret v18)
noncomputable def law22_few (call : Nat → List AV → M AV) (n : Nat) (a0 : AV) : M AV :=
  loopN (fun r l => law22_few_l0 call n r (l.getD 0 .undef) (l.getD 1 .undef)) n [a0, (.int .i64 0)]
theorem law22_few_eq {ext : Ext} (h : ext fn_law22_few = none) (n : Nat) (a0 : AV) : fcall Tryd.prog ext (n + 1) fn_law22_few [a0] = law22_few (fcall Tryd.prog ext n) n a0 := by
  unfold fcall; rw [h]; kernel_rfl

/-! splicer/splicerref20.Few -/
noncomputable def ref20_Few_l1 (call : Nat → List AV → M AV) (n : Nat) (rec : List AV → M AV) (rec_1 : List AV → M AV) (x1_1 x3_1 x4 : AV) : M AV :=
  lp (aOff 4 x1_1) fun v25 =>
  bnd (load none v25) fun v26 =>
  lp (aIdxS 1 v26 x3_1) fun v28 =>
  lp (aOff 0 v28) fun v29 =>
  bnd (load none v29) fun v30 =>
  lp (aLenS v30) fun v31 =>
  lp (aBin .lss [] x4 v31) fun v32 =>
  mc v32
    (lp (aOff 4 x1_1) fun v35 =>
  bnd (load none v35) fun v36 =>
  lp (aIdxS 1 v36 x3_1) fun v38 =>
  lp (aOff 0 v38) fun v39 =>
  bnd (load none v39) fun v40 =>
  lp (aIdxS 3 v40 x4) fun v42 =>
  lp (aOff 2 v42) fun v43 =>
  bnd (load none v43) fun v44 =>
  lp (aLenS v44) fun v45 =>
  lp (aBin .gtr [] v45 (.int .i64 10)) fun v46 =>
  mc v46
    (ret (.bool false))
    (lp (aBin .add [] x4 (.int .i64 1)) fun v34 =>
  rec_1 [x1_1, x3_1, v34]))
    (lp (aBin .add [] x3_1 (.int .i64 1)) fun v15 =>
rec [x1_1, v15])
noncomputable def ref20_Few_l0 (call : Nat → List AV → M AV) (n : Nat) (rec : List AV → M AV) (x1 x3 : AV) : M AV :=
  lp (aOff 4 x1) fun v10 =>
  bnd (load none v10) fun v11 =>
  lp (aLenS v11) fun v12 =>
  lp (aBin .lss [] x3 v12) fun v13 =>
  mc v13
    (lp (aOff 4 x1) fun v16 =>
  bnd (load none v16) fun v17 =>
  lp (aIdxS 1 v17 x3) fun v19 =>
  lp (aOff 0 v19) fun v20 =>
  bnd (load none v20) fun v21 =>
  lp (aLenS v21) fun v22 =>
  lp (aBin .gtr [] v22 (.int .i64 15)) fun v23 =>
  mc v23
    (ret (.bool false))
    (loopN (fun r l => ref20_Few_l1 call n rec r (l.getD 0 .undef) (l.getD 1 .undef) (l.getD 2 .undef)) n [x1, x3, (.int .i64 0)]))
    (ret (.bool true))
noncomputable def ref20_Few (call : Nat → List AV → M AV) (n : Nat) (a0 : AV) : M AV :=
  bnd (box T_api_Frame a0) fun v1 =>
  lp (aOff 4 v1) fun v5 =>
  bnd (load none v5) fun v6 =>
  lp (aLenS v6) fun v7 =>
  lp (aBin .gtr [] v7 (.int .i64 4)) fun v8 =>
  mc v8
    (ret (.bool false))
    (loopN (fun r l => ref20_Few_l0 call n r (l.getD 0 .undef) (l.getD 1 .undef)) n [v1, (.int .i64 0)])
theorem ref20_Few_eq {ext : Ext} (h : ext fn_ref20_Few = none) (n : Nat) (a0 : AV) : fcall Tryd.prog ext (n + 1) fn_ref20_Few [a0] = ref20_Few (fcall Tryd.prog ext n) n a0 := by
  unfold fcall; rw [h]; kernel_rfl

/-! splicer/splicerlaw22.CodeBack -/
noncomputable def law22_CodeBack_j5 (call : Nat → List AV → M AV) (n : Nat) (x10_1 : AV) : M AV :=
  ret x10_1
noncomputable def law22_CodeBack_j4 (call : Nat → List AV → M AV) (n : Nat) (x10 : AV) : M AV :=
  ret x10
noncomputable def law22_CodeBack_j3 (call : Nat → List AV → M AV) (n : Nat) (x1_3 x2_3 x3_3 x4_3 : AV) : M AV :=
  bnd (call fn_code_Get [x4_3, x1_3, x2_3, x3_3]) fun v96 =>
  lp (aExt 0 v96) fun v97 =>
  lp (aExt 1 v96) fun v98 =>
  bnd (alloc T_api_Frame [.bool false, .bool false, .bool false, .int .i64 0, .nilslice]) fun v19 =>
  bnd (store (some 5) v19 v97) fun u_3 =>
  lp (aBin .neq [6] v98 (.int .i64 0)) fun v100 =>
  mc v100
    (lp (aOff 4 v19) fun v101 =>
    bnd (load none v101) fun v102 =>
    lp (aLenS v102) fun v103 =>
    lp (aBin .eql [6] v103 (.int .i64 0)) fun v104 =>
    mc v104
      (bnd (call fn_law22_awake []) fun v106 =>
      law22_CodeBack_j4 call n v106)
      (law22_CodeBack_j4 call n (.bool false)))
    (bnd (load (some 5) v19) fun v109 =>
  bnd (call fn_code_Put [v109, x1_3, x2_3, x3_3]) fun v113 =>
  lp (aExt 0 v113) fun v114 =>
  lp (aExt 1 v113) fun v115 =>
  lp (aBin .eql [6] v115 (.int .i64 0)) fun v117 =>
  mc v117
    (lp (aBin .eql [7] v114 x4_3) fun v121 =>
    mc v121
      (bnd (load (some 5) v19) fun v124 =>
      bnd (call fn_ref20_Fit [v124, x1_3, x2_3]) fun v127 =>
      mc v127
        (bnd (call fn_law22_awake []) fun v130 =>
        law22_CodeBack_j5 call n v130)
        (law22_CodeBack_j5 call n (.bool false)))
      (law22_CodeBack_j5 call n (.bool false)))
    (law22_CodeBack_j5 call n (.bool false)))
noncomputable def law22_CodeBack_j2 (call : Nat → List AV → M AV) (n : Nat) (x1_2 x2_2 x3_2 x4_2 x90 : AV) : M AV :=
  mc x90
    (ret (.bool false))
    (law22_CodeBack_j3 call n x1_2 x2_2 x3_2 x4_2)
noncomputable def law22_CodeBack_j1 (call : Nat → List AV → M AV) (n : Nat) (x1_1 x2_1 x3_1 x4_1 x5_1 x62 : AV) : M AV :=
  mc x62
    (ret (.bool false))
    (lp (aOff 2 x5_1) fun v63 =>
bnd (store none v63 (.bool true)) fun u_1 =>
bnd (load (some 5) x5_1) fun v65 =>
bnd (call fn_code_Put [v65, x1_1, x2_1, .nilslice]) fun v68 =>
lp (aExt 0 v68) fun v69 =>
lp (aExt 1 v68) fun v70 =>
bnd (call fn_code_Get [v69, x1_1, x2_1, x3_1]) fun v76 =>
lp (aExt 0 v76) fun v77 =>
lp (aExt 1 v76) fun v78 =>
bnd (alloc T_api_Frame [.bool false, .bool false, .bool false, .int .i64 0, .nilslice]) fun v17 =>
bnd (store (some 5) v17 v77) fun u_2 =>
lp (aBin .neq [6] v70 (.int .i64 0)) fun v80 =>
mc v80
  (law22_CodeBack_j2 call n x1_1 x2_1 x3_1 x4_1 (.bool true))
  (lp (aBin .neq [6] v78 (.int .i64 0)) fun v83 =>
  mc v83
    (law22_CodeBack_j2 call n x1_1 x2_1 x3_1 x4_1 (.bool true))
    (bnd (load (some 5) v17) fun v86 =>
    bnd (load (some 5) x5_1) fun v87 =>
    bnd (call fn_ref20_Same [v86, v87]) fun v88 =>
    lp (aUn .not v88) fun v89 =>
    law22_CodeBack_j2 call n x1_1 x2_1 x3_1 x4_1 v89)))
noncomputable def law22_CodeBack_j0 (call : Nat → List AV → M AV) (n : Nat) (x1 x2 x3 x4 x5 x35 : AV) : M AV :=
  mc x35
    (bnd (call fn_law22_awake []) fun v36 =>
    ret v36)
    (bnd (load (some 5) x5) fun v38 =>
bnd (call fn_code_Put [v38, x1, x2, x3]) fun v42 =>
lp (aExt 0 v42) fun v43 =>
lp (aExt 1 v42) fun v44 =>
lp (aBin .eql [6] v44 (.int .i64 0)) fun v46 =>
mc v46
  (bnd (call fn_code_Get [v43, x1, x2, x3]) fun v52 =>
  lp (aExt 0 v52) fun v53 =>
  lp (aExt 1 v52) fun v54 =>
  bnd (alloc T_api_Frame [.bool false, .bool false, .bool false, .int .i64 0, .nilslice]) fun v13 =>
  bnd (store (some 5) v13 v53) fun u =>
  lp (aBin .neq [6] v54 (.int .i64 0)) fun v56 =>
  mc v56
    (law22_CodeBack_j1 call n x1 x2 x3 x4 x5 (.bool true))
    (bnd (load (some 5) v13) fun v58 =>
    bnd (load (some 5) x5) fun v59 =>
    bnd (call fn_ref20_Same [v58, v59]) fun v60 =>
    lp (aUn .not v60) fun v61 =>
    law22_CodeBack_j1 call n x1 x2 x3 x4 x5 v61))
  (law22_CodeBack_j3 call n x1 x2 x3 x4))
noncomputable def law22_CodeBack (call : Nat → List AV → M AV) (n : Nat) (a0 a1 a2 a3 a4 : AV) : M AV :=
  bnd (box T_api_Frame a0) fun v5 =>
  bnd (load (some 5) v5) fun v23 =>
  bnd (call fn_ref20_Few [v23]) fun v24 =>
  lp (aUn .not v24) fun v25 =>
  mc v25
    (law22_CodeBack_j0 call n a1 a2 a3 a4 v5 (.bool true))
    (bnd (call fn_law22_few [a3]) fun v28 =>
    lp (aUn .not v28) fun v29 =>
    mc v29
      (law22_CodeBack_j0 call n a1 a2 a3 a4 v5 (.bool true))
      (lp (aLenStr a4) fun v33 =>
      lp (aBin .gtr [] v33 (.int .i64 300)) fun v34 =>
      law22_CodeBack_j0 call n a1 a2 a3 a4 v5 v34))
theorem law22_CodeBack_eq {ext : Ext} (h : ext fn_law22_CodeBack = none) (n : Nat) (a0 a1 a2 a3 a4 : AV) : fcall Tryd.prog ext (n + 1) fn_law22_CodeBack [a0, a1, a2, a3, a4] = law22_CodeBack (fcall Tryd.prog ext n) n a0 a1 a2 a3 a4 := by
  unfold fcall; rw [h]; kernel_rfl
/-! all functions -/
noncomputable def chunk0 (call : Nat → List AV → M AV) (n f : Nat) (args : List AV) (B : Option (M AV)) : Option (M AV) :=
  if f = fn_law22_CodeBack then arg5 (fun a b c d e => law22_CodeBack call n a b c d e) args else
  if f = fn_ref20_Few then arg1 (fun a => ref20_Few call n a) args else
  if f = fn_law22_few then arg1 (fun a => law22_few call n a) args else
  if f = fn_law22_awake then arg0 (law22_awake call n) args else
  if f = fn_code_Put then arg4 (fun a b c d => code_Put call n a b c d) args else
  if f = fn_code_Get then arg4 (fun a b c d => code_Get call n a b c d) args else
  if f = fn_ref20_Same then arg2 (fun a b => ref20_Same call n a b) args else
  if f = fn_ref20_Fit then arg3 (fun a b c => ref20_Fit call n a b c) args else
  B
theorem chunk0_ok {ext : Ext} {n f : Nat} {args : List AV} {B : Option (M AV)} {x : M AV} (he : ext f = none) (h : chunk0 (fcall Tryd.prog ext n) n f args B = some x) : fcall Tryd.prog ext (n + 1) f args = x ∨ B = some x := by
  unfold chunk0 at h
  rcases step_some h with ⟨rfl, h⟩ | h
  · obtain ⟨a, b, c, d, e, rfl, rfl⟩ := arg5_some h
    exact .inl (law22_CodeBack_eq he n a b c d e)
  rcases step_some h with ⟨rfl, h⟩ | h
  · obtain ⟨a, rfl, rfl⟩ := arg1_some h
    exact .inl (ref20_Few_eq he n a)
  rcases step_some h with ⟨rfl, h⟩ | h
  · obtain ⟨a, rfl, rfl⟩ := arg1_some h
    exact .inl (law22_few_eq he n a)
  rcases step_some h with ⟨rfl, h⟩ | h
  · obtain ⟨rfl, rfl⟩ := arg0_some h
    exact .inl (law22_awake_eq he n)
  rcases step_some h with ⟨rfl, h⟩ | h
  · obtain ⟨a, b, c, d, rfl, rfl⟩ := arg4_some h
    exact .inl (code_Put_eq he n a b c d)
  rcases step_some h with ⟨rfl, h⟩ | h
  · obtain ⟨a, b, c, d, rfl, rfl⟩ := arg4_some h
    exact .inl (code_Get_eq he n a b c d)
  rcases step_some h with ⟨rfl, h⟩ | h
  · obtain ⟨a, b, rfl, rfl⟩ := arg2_some h
    exact .inl (ref20_Same_eq he n a b)
  rcases step_some h with ⟨rfl, h⟩ | h
  · obtain ⟨a, b, c, rfl, rfl⟩ := arg3_some h
    exact .inl (ref20_Fit_eq he n a b c)
  exact .inr h
noncomputable def chunk1 (call : Nat → List AV → M AV) (n f : Nat) (args : List AV) (B : Option (M AV)) : Option (M AV) :=
  if f = fn_ref20_Silent then arg1 (fun a => ref20_Silent call n a) args else
  if f = fn_code_ahead then arg2 (fun a b => code_ahead call n a b) args else
  if f = fn_frame_Fit then arg3 (fun a b c => frame_Fit call n a b c) args else
  if f = fn_code_writer_flag then arg2 (fun a b => code_writer_flag call n a b) args else
  if f = fn_sym_PutBelow then arg3 (fun a b c => sym_PutBelow call n a b c) args else
  if f = fn_frame_Rows then arg1 (fun a => frame_Rows call n a) args else
  if f = fn_code_writer_channel then arg3 (fun a b c => code_writer_channel call n a b c) args else
  if f = fn_energy_Deltas then arg3 (fun a b c => energy_Deltas call n a b c) args else
  B
theorem chunk1_ok {ext : Ext} {n f : Nat} {args : List AV} {B : Option (M AV)} {x : M AV} (he : ext f = none) (h : chunk1 (fcall Tryd.prog ext n) n f args B = some x) : fcall Tryd.prog ext (n + 1) f args = x ∨ B = some x := by
  unfold chunk1 at h
  rcases step_some h with ⟨rfl, h⟩ | h
  · obtain ⟨a, rfl, rfl⟩ := arg1_some h
    exact .inl (ref20_Silent_eq he n a)
  rcases step_some h with ⟨rfl, h⟩ | h
  · obtain ⟨a, b, rfl, rfl⟩ := arg2_some h
    exact .inl (code_ahead_eq he n a b)
  rcases step_some h with ⟨rfl, h⟩ | h
  · obtain ⟨a, b, c, rfl, rfl⟩ := arg3_some h
    exact .inl (frame_Fit_eq he n a b c)
  rcases step_some h with ⟨rfl, h⟩ | h
  · obtain ⟨a, b, rfl, rfl⟩ := arg2_some h
    exact .inl (code_writer_flag_eq he n a b)
  rcases step_some h with ⟨rfl, h⟩ | h
  · obtain ⟨a, b, c, rfl, rfl⟩ := arg3_some h
    exact .inl (sym_PutBelow_eq he n a b c)
  rcases step_some h with ⟨rfl, h⟩ | h
  · obtain ⟨a, rfl, rfl⟩ := arg1_some h
    exact .inl (frame_Rows_eq he n a)
  rcases step_some h with ⟨rfl, h⟩ | h
  · obtain ⟨a, b, c, rfl, rfl⟩ := arg3_some h
    exact .inl (code_writer_channel_eq he n a b c)
  rcases step_some h with ⟨rfl, h⟩ | h
  · obtain ⟨a, b, c, rfl, rfl⟩ := arg3_some h
    exact .inl (energy_Deltas_eq he n a b c)
  exact .inr h
noncomputable def chunk2 (call : Nat → List AV → M AV) (n f : Nat) (args : List AV) (B : Option (M AV)) : Option (M AV) :=
  if f = fn_rc_Coder_End then arg1 (fun a => rc_Coder_End call n a) args else
  if f = fn_rc_New then arg1 (fun a => rc_New call n a) args else
  if f = fn_code_reader_frame then arg3 (fun a b c => code_reader_frame call n a b c) args else
  if f = fn_ref20_Alike then arg2 (fun a b => ref20_Alike call n a b) args else
  if f = fn_ref20_Band then arg3 (fun a b c => ref20_Band call n a b c) args else
  if f = fn_ref13_Width then arg1 (fun a => ref13_Width call n a) args else
  if f = fn_energy_Right then arg1 (fun a => energy_Right call n a) args else
  if f = fn_frame_fits then arg3 (fun a b c => frame_fits call n a b c) args else
  B
theorem chunk2_ok {ext : Ext} {n f : Nat} {args : List AV} {B : Option (M AV)} {x : M AV} (he : ext f = none) (h : chunk2 (fcall Tryd.prog ext n) n f args B = some x) : fcall Tryd.prog ext (n + 1) f args = x ∨ B = some x := by
  unfold chunk2 at h
  rcases step_some h with ⟨rfl, h⟩ | h
  · obtain ⟨a, rfl, rfl⟩ := arg1_some h
    exact .inl (rc_Coder_End_eq he n a)
  rcases step_some h with ⟨rfl, h⟩ | h
  · obtain ⟨a, rfl, rfl⟩ := arg1_some h
    exact .inl (rc_New_eq he n a)
  rcases step_some h with ⟨rfl, h⟩ | h
  · obtain ⟨a, b, c, rfl, rfl⟩ := arg3_some h
    exact .inl (code_reader_frame_eq he n a b c)
  rcases step_some h with ⟨rfl, h⟩ | h
  · obtain ⟨a, b, rfl, rfl⟩ := arg2_some h
    exact .inl (ref20_Alike_eq he n a b)
  rcases step_some h with ⟨rfl, h⟩ | h
  · obtain ⟨a, b, c, rfl, rfl⟩ := arg3_some h
    exact .inl (ref20_Band_eq he n a b c)
  rcases step_some h with ⟨rfl, h⟩ | h
  · obtain ⟨a, rfl, rfl⟩ := arg1_some h
    exact .inl (ref13_Width_eq he n a)
  rcases step_some h with ⟨rfl, h⟩ | h
  · obtain ⟨a, rfl, rfl⟩ := arg1_some h
    exact .inl (energy_Right_eq he n a)
  rcases step_some h with ⟨rfl, h⟩ | h
  · obtain ⟨a, b, c, rfl, rfl⟩ := arg3_some h
    exact .inl (frame_fits_eq he n a b c)
  exact .inr h
noncomputable def chunk3 (call : Nat → List AV → M AV) (n f : Nat) (args : List AV) (B : Option (M AV)) : Option (M AV) :=
  if f = fn_sym_PutBits then arg3 (fun a b c => sym_PutBits call n a b c) args else
  if f = fn_sym_parted then arg1 (fun a => sym_parted call n a) args else
  if f = fn_sym_put then arg3 (fun a b c => sym_put call n a b c) args else
  if f = fn_frame_mapped_api_Chan_sl_int then arg2 (fun a b => frame_mapped_api_Chan_sl_int call n a b) args else
  if f = fn_frame_Rows_c1 then arg1 (fun a => frame_Rows_c1 call n a) args else
  if f = fn_sym_PutDelta then arg2 (fun a b => sym_PutDelta call n a b) args else
  if f = fn_layout_Width then arg1 (fun a => layout_Width call n a) args else
  if f = fn_alloc_Band then arg3 (fun a b c => alloc_Band call n a b c) args else
  B
theorem chunk3_ok {ext : Ext} {n f : Nat} {args : List AV} {B : Option (M AV)} {x : M AV} (he : ext f = none) (h : chunk3 (fcall Tryd.prog ext n) n f args B = some x) : fcall Tryd.prog ext (n + 1) f args = x ∨ B = some x := by
  unfold chunk3 at h
  rcases step_some h with ⟨rfl, h⟩ | h
  · obtain ⟨a, b, c, rfl, rfl⟩ := arg3_some h
    exact .inl (sym_PutBits_eq he n a b c)
  rcases step_some h with ⟨rfl, h⟩ | h
  · obtain ⟨a, rfl, rfl⟩ := arg1_some h
    exact .inl (sym_parted_eq he n a)
  rcases step_some h with ⟨rfl, h⟩ | h
  · obtain ⟨a, b, c, rfl, rfl⟩ := arg3_some h
    exact .inl (sym_put_eq he n a b c)
  rcases step_some h with ⟨rfl, h⟩ | h
  · obtain ⟨a, b, rfl, rfl⟩ := arg2_some h
    exact .inl (frame_mapped_api_Chan_sl_int_eq he n a b)
  rcases step_some h with ⟨rfl, h⟩ | h
  · obtain ⟨a, rfl, rfl⟩ := arg1_some h
    exact .inl (frame_Rows_c1_eq he n a)
  rcases step_some h with ⟨rfl, h⟩ | h
  · obtain ⟨a, b, rfl, rfl⟩ := arg2_some h
    exact .inl (sym_PutDelta_eq he n a b)
  rcases step_some h with ⟨rfl, h⟩ | h
  · obtain ⟨a, rfl, rfl⟩ := arg1_some h
    exact .inl (layout_Width_eq he n a)
  rcases step_some h with ⟨rfl, h⟩ | h
  · obtain ⟨a, b, c, rfl, rfl⟩ := arg3_some h
    exact .inl (alloc_Band_eq he n a b c)
  exact .inr h
noncomputable def chunk4 (call : Nat → List AV → M AV) (n f : Nat) (args : List AV) (B : Option (M AV)) : Option (M AV) :=
  if f = fn_pvq_Index then arg1 (fun a => pvq_Index call n a) args else
  if f = fn_pvq_Count then arg2 (fun a b => pvq_Count call n a b) args else
  if f = fn_energy_expects then arg2 (fun a b => energy_expects call n a b) args else
  if f = fn_strings_Builder_WriteString then arg2 (fun a b => strings_Builder_WriteString call n a b) args else
  if f = fn_strings_Builder_String then arg1 (fun a => strings_Builder_String call n a) args else
  if f = fn_strings_Builder_WriteByte then arg2 (fun a b => strings_Builder_WriteByte call n a b) args else
  if f = fn_strings_TrimRight then arg2 (fun a b => strings_TrimRight call n a b) args else
  if f = fn_rc_Decoder_next then arg1 (fun a => rc_Decoder_next call n a) args else
  B
theorem chunk4_ok {ext : Ext} {n f : Nat} {args : List AV} {B : Option (M AV)} {x : M AV} (he : ext f = none) (h : chunk4 (fcall Tryd.prog ext n) n f args B = some x) : fcall Tryd.prog ext (n + 1) f args = x ∨ B = some x := by
  unfold chunk4 at h
  rcases step_some h with ⟨rfl, h⟩ | h
  · obtain ⟨a, rfl, rfl⟩ := arg1_some h
    exact .inl (pvq_Index_eq he n a)
  rcases step_some h with ⟨rfl, h⟩ | h
  · obtain ⟨a, b, rfl, rfl⟩ := arg2_some h
    exact .inl (pvq_Count_eq he n a b)
  rcases step_some h with ⟨rfl, h⟩ | h
  · obtain ⟨a, b, rfl, rfl⟩ := arg2_some h
    exact .inl (energy_expects_eq he n a b)
  rcases step_some h with ⟨rfl, h⟩ | h
  · obtain ⟨a, b, rfl, rfl⟩ := arg2_some h
    exact .inl (strings_Builder_WriteString_eq he n a b)
  rcases step_some h with ⟨rfl, h⟩ | h
  · obtain ⟨a, rfl, rfl⟩ := arg1_some h
    exact .inl (strings_Builder_String_eq he n a)
  rcases step_some h with ⟨rfl, h⟩ | h
  · obtain ⟨a, b, rfl, rfl⟩ := arg2_some h
    exact .inl (strings_Builder_WriteByte_eq he n a b)
  rcases step_some h with ⟨rfl, h⟩ | h
  · obtain ⟨a, b, rfl, rfl⟩ := arg2_some h
    exact .inl (strings_TrimRight_eq he n a b)
  rcases step_some h with ⟨rfl, h⟩ | h
  · obtain ⟨a, rfl, rfl⟩ := arg1_some h
    exact .inl (rc_Decoder_next_eq he n a)
  exact .inr h
noncomputable def chunk5 (call : Nat → List AV → M AV) (n f : Nat) (args : List AV) (B : Option (M AV)) : Option (M AV) :=
  if f = fn_code_reader_flag then arg1 (fun a => code_reader_flag call n a) args else
  if f = fn_code_reader_below then arg2 (fun a b => code_reader_below call n a b) args else
  if f = fn_code_reader_channel then arg2 (fun a b => code_reader_channel call n a b) args else
  if f = fn_code_reader_row then arg3 (fun a b c => code_reader_row call n a b c) args else
  if f = fn_ref01_Same then arg2 (fun a b => ref01_Same call n a b) args else
  if f = fn_ref16_Size then arg1 (fun a => ref16_Size call n a) args else
  if f = fn_ref15_Band then arg3 (fun a b c => ref15_Band call n a b c) args else
  if f = fn_pvq_Size then arg1 (fun a => pvq_Size call n a) args else
  B
theorem chunk5_ok {ext : Ext} {n f : Nat} {args : List AV} {B : Option (M AV)} {x : M AV} (he : ext f = none) (h : chunk5 (fcall Tryd.prog ext n) n f args B = some x) : fcall Tryd.prog ext (n + 1) f args = x ∨ B = some x := by
  unfold chunk5 at h
  rcases step_some h with ⟨rfl, h⟩ | h
  · obtain ⟨a, rfl, rfl⟩ := arg1_some h
    exact .inl (code_reader_flag_eq he n a)
  rcases step_some h with ⟨rfl, h⟩ | h
  · obtain ⟨a, b, rfl, rfl⟩ := arg2_some h
    exact .inl (code_reader_below_eq he n a b)
  rcases step_some h with ⟨rfl, h⟩ | h
  · obtain ⟨a, b, rfl, rfl⟩ := arg2_some h
    exact .inl (code_reader_channel_eq he n a b)
  rcases step_some h with ⟨rfl, h⟩ | h
  · obtain ⟨a, b, c, rfl, rfl⟩ := arg3_some h
    exact .inl (code_reader_row_eq he n a b c)
  rcases step_some h with ⟨rfl, h⟩ | h
  · obtain ⟨a, b, rfl, rfl⟩ := arg2_some h
    exact .inl (ref01_Same_eq he n a b)
  rcases step_some h with ⟨rfl, h⟩ | h
  · obtain ⟨a, rfl, rfl⟩ := arg1_some h
    exact .inl (ref16_Size_eq he n a)
  rcases step_some h with ⟨rfl, h⟩ | h
  · obtain ⟨a, b, c, rfl, rfl⟩ := arg3_some h
    exact .inl (ref15_Band_eq he n a b c)
  rcases step_some h with ⟨rfl, h⟩ | h
  · obtain ⟨a, rfl, rfl⟩ := arg1_some h
    exact .inl (pvq_Size_eq he n a)
  exact .inr h
noncomputable def chunk6 (call : Nat → List AV → M AV) (n f : Nat) (args : List AV) (B : Option (M AV)) : Option (M AV) :=
  if f = fn_rc_Coder_Code then arg4 (fun a b c d => rc_Coder_Code call n a b c d) args else
  if f = fn_frame_mapped_api_Band_int then arg2 (fun a b => frame_mapped_api_Band_int call n a b) args else
  if f = fn_frame_Rows_c1_c1 then arg1 (fun a => frame_Rows_c1_c1 call n a) args else
  if f = fn_sym_ends then arg0 (sym_ends call n) args else
  if f = fn_sym_rank then arg1 (fun a => sym_rank call n a) args else
  if f = fn_sym_begins then arg2 (fun a b => sym_begins call n a b) args else
  if f = fn_layout_widths then arg0 (layout_widths call n) args else
  if f = fn_alloc_good then arg1 (fun a => alloc_good call n a) args else
  B
theorem chunk6_ok {ext : Ext} {n f : Nat} {args : List AV} {B : Option (M AV)} {x : M AV} (he : ext f = none) (h : chunk6 (fcall Tryd.prog ext n) n f args B = some x) : fcall Tryd.prog ext (n + 1) f args = x ∨ B = some x := by
  unfold chunk6 at h
  rcases step_some h with ⟨rfl, h⟩ | h
  · obtain ⟨a, b, c, d, rfl, rfl⟩ := arg4_some h
    exact .inl (rc_Coder_Code_eq he n a b c d)
  rcases step_some h with ⟨rfl, h⟩ | h
  · obtain ⟨a, b, rfl, rfl⟩ := arg2_some h
    exact .inl (frame_mapped_api_Band_int_eq he n a b)
  rcases step_some h with ⟨rfl, h⟩ | h
  · obtain ⟨a, rfl, rfl⟩ := arg1_some h
    exact .inl (frame_Rows_c1_c1_eq he n a)
  rcases step_some h with ⟨rfl, h⟩ | h
  · obtain ⟨rfl, rfl⟩ := arg0_some h
    exact .inl (sym_ends_eq he n)
  rcases step_some h with ⟨rfl, h⟩ | h
  · obtain ⟨a, rfl, rfl⟩ := arg1_some h
    exact .inl (sym_rank_eq he n a)
  rcases step_some h with ⟨rfl, h⟩ | h
  · obtain ⟨a, b, rfl, rfl⟩ := arg2_some h
    exact .inl (sym_begins_eq he n a b)
  rcases step_some h with ⟨rfl, h⟩ | h
  · obtain ⟨rfl, rfl⟩ := arg0_some h
    exact .inl (layout_widths_eq he n)
  rcases step_some h with ⟨rfl, h⟩ | h
  · obtain ⟨a, rfl, rfl⟩ := arg1_some h
    exact .inl (alloc_good_eq he n a)
  exact .inr h
noncomputable def chunk7 (call : Nat → List AV → M AV) (n f : Nat) (args : List AV) (B : Option (M AV)) : Option (M AV) :=
  if f = fn_alloc_held_int then arg3 (fun a b c => alloc_held_int call n a b c) args else
  if f = fn_alloc_times then arg1 (fun a => alloc_times call n a) args else
  if f = fn_pvq_made then arg0 (pvq_made call n) args else
  if f = fn_num_Abs then arg1 (fun a => num_Abs call n a) args else
  if f = fn_energy_expects_c1 then arg2 (fun a b => energy_expects_c1 call n a b) args else
  if f = fn_energy_expects_c2 then arg3 (fun a b c => energy_expects_c2 call n a b c) args else
  if f = fn_strings_Builder_copyCheck then arg1 (fun a => strings_Builder_copyCheck call n a) args else
  if f = fn_strings_trimRightByte then arg2 (fun a b => strings_trimRightByte call n a b) args else
  B
theorem chunk7_ok {ext : Ext} {n f : Nat} {args : List AV} {B : Option (M AV)} {x : M AV} (he : ext f = none) (h : chunk7 (fcall Tryd.prog ext n) n f args B = some x) : fcall Tryd.prog ext (n + 1) f args = x ∨ B = some x := by
  unfold chunk7 at h
  rcases step_some h with ⟨rfl, h⟩ | h
  · obtain ⟨a, b, c, rfl, rfl⟩ := arg3_some h
    exact .inl (alloc_held_int_eq he n a b c)
  rcases step_some h with ⟨rfl, h⟩ | h
  · obtain ⟨a, rfl, rfl⟩ := arg1_some h
    exact .inl (alloc_times_eq he n a)
  rcases step_some h with ⟨rfl, h⟩ | h
  · obtain ⟨rfl, rfl⟩ := arg0_some h
    exact .inl (pvq_made_eq he n)
  rcases step_some h with ⟨rfl, h⟩ | h
  · obtain ⟨a, rfl, rfl⟩ := arg1_some h
    exact .inl (num_Abs_eq he n a)
  rcases step_some h with ⟨rfl, h⟩ | h
  · obtain ⟨a, b, rfl, rfl⟩ := arg2_some h
    exact .inl (energy_expects_c1_eq he n a b)
  rcases step_some h with ⟨rfl, h⟩ | h
  · obtain ⟨a, b, c, rfl, rfl⟩ := arg3_some h
    exact .inl (energy_expects_c2_eq he n a b c)
  rcases step_some h with ⟨rfl, h⟩ | h
  · obtain ⟨a, rfl, rfl⟩ := arg1_some h
    exact .inl (strings_Builder_copyCheck_eq he n a)
  rcases step_some h with ⟨rfl, h⟩ | h
  · obtain ⟨a, b, rfl, rfl⟩ := arg2_some h
    exact .inl (strings_trimRightByte_eq he n a b)
  exact .inr h
noncomputable def chunk8 (call : Nat → List AV → M AV) (n f : Nat) (args : List AV) (B : Option (M AV)) : Option (M AV) :=
  if f = fn_sym_GetBits then arg2 (fun a b => sym_GetBits call n a b) args else
  if f = fn_sym_GetBelow then arg2 (fun a b => sym_GetBelow call n a b) args else
  if f = fn_pvq_Vector then arg3 (fun a b c => pvq_Vector call n a b c) args else
  if f = fn_sym_GetDelta then arg1 (fun a => sym_GetDelta call n a) args else
  if f = fn_energy_Row then arg3 (fun a b c => energy_Row call n a b c) args else
  if f = fn_ref16_far then arg1 (fun a => ref16_far call n a) args else
  if f = fn_rc_right then arg3 (fun a b c => rc_right call n a b c) args else
  if f = fn_rc_narrowed_narrow then arg4 (fun a b c d => rc_narrowed_narrow call n a b c d) args else
  B
theorem chunk8_ok {ext : Ext} {n f : Nat} {args : List AV} {B : Option (M AV)} {x : M AV} (he : ext f = none) (h : chunk8 (fcall Tryd.prog ext n) n f args B = some x) : fcall Tryd.prog ext (n + 1) f args = x ∨ B = some x := by
  unfold chunk8 at h
  rcases step_some h with ⟨rfl, h⟩ | h
  · obtain ⟨a, b, rfl, rfl⟩ := arg2_some h
    exact .inl (sym_GetBits_eq he n a b)
  rcases step_some h with ⟨rfl, h⟩ | h
  · obtain ⟨a, b, rfl, rfl⟩ := arg2_some h
    exact .inl (sym_GetBelow_eq he n a b)
  rcases step_some h with ⟨rfl, h⟩ | h
  · obtain ⟨a, b, c, rfl, rfl⟩ := arg3_some h
    exact .inl (pvq_Vector_eq he n a b c)
  rcases step_some h with ⟨rfl, h⟩ | h
  · obtain ⟨a, rfl, rfl⟩ := arg1_some h
    exact .inl (sym_GetDelta_eq he n a)
  rcases step_some h with ⟨rfl, h⟩ | h
  · obtain ⟨a, b, c, rfl, rfl⟩ := arg3_some h
    exact .inl (energy_Row_eq he n a b c)
  rcases step_some h with ⟨rfl, h⟩ | h
  · obtain ⟨a, rfl, rfl⟩ := arg1_some h
    exact .inl (ref16_far_eq he n a)
  rcases step_some h with ⟨rfl, h⟩ | h
  · obtain ⟨a, b, c, rfl, rfl⟩ := arg3_some h
    exact .inl (rc_right_eq he n a b c)
  rcases step_some h with ⟨rfl, h⟩ | h
  · obtain ⟨a, b, c, d, rfl, rfl⟩ := arg4_some h
    exact .inl (rc_narrowed_narrow_eq he n a b c d)
  exact .inr h
noncomputable def chunk9 (call : Nat → List AV → M AV) (n f : Nat) (args : List AV) (B : Option (M AV)) : Option (M AV) :=
  if f = fn_rc_Coder_carry then arg1 (fun a => rc_Coder_carry call n a) args else
  if f = fn_rc_narrowed_small then arg1 (fun a => rc_narrowed_small call n a) args else
  if f = fn_rc_Coder_tell then arg2 (fun a b => rc_Coder_tell call n a b) args else
  if f = fn_num_within then arg2 (fun a b => num_within call n a b) args else
  if f = fn_sym_get then arg2 (fun a b => sym_get call n a b) args else
  if f = fn_pvq_first then arg3 (fun a b c => pvq_first call n a b c) args else
  if f = fn_rc_Decoder_Place then arg2 (fun a b => rc_Decoder_Place call n a b) args else
  if f = fn_rc_Decoder_Take then arg4 (fun a b c d => rc_Decoder_Take call n a b c d) args else
  B
theorem chunk9_ok {ext : Ext} {n f : Nat} {args : List AV} {B : Option (M AV)} {x : M AV} (he : ext f = none) (h : chunk9 (fcall Tryd.prog ext n) n f args B = some x) : fcall Tryd.prog ext (n + 1) f args = x ∨ B = some x := by
  unfold chunk9 at h
  rcases step_some h with ⟨rfl, h⟩ | h
  · obtain ⟨a, rfl, rfl⟩ := arg1_some h
    exact .inl (rc_Coder_carry_eq he n a)
  rcases step_some h with ⟨rfl, h⟩ | h
  · obtain ⟨a, rfl, rfl⟩ := arg1_some h
    exact .inl (rc_narrowed_small_eq he n a)
  rcases step_some h with ⟨rfl, h⟩ | h
  · obtain ⟨a, b, rfl, rfl⟩ := arg2_some h
    exact .inl (rc_Coder_tell_eq he n a b)
  rcases step_some h with ⟨rfl, h⟩ | h
  · obtain ⟨a, b, rfl, rfl⟩ := arg2_some h
    exact .inl (num_within_eq he n a b)
  rcases step_some h with ⟨rfl, h⟩ | h
  · obtain ⟨a, b, rfl, rfl⟩ := arg2_some h
    exact .inl (sym_get_eq he n a b)
  rcases step_some h with ⟨rfl, h⟩ | h
  · obtain ⟨a, b, c, rfl, rfl⟩ := arg3_some h
    exact .inl (pvq_first_eq he n a b c)
  rcases step_some h with ⟨rfl, h⟩ | h
  · obtain ⟨a, b, rfl, rfl⟩ := arg2_some h
    exact .inl (rc_Decoder_Place_eq he n a b)
  rcases step_some h with ⟨rfl, h⟩ | h
  · obtain ⟨a, b, c, d, rfl, rfl⟩ := arg4_some h
    exact .inl (rc_Decoder_Take_eq he n a b c d)
  exact .inr h
noncomputable def chunk10 (call : Nat → List AV → M AV) (n f : Nat) (args : List AV) (B : Option (M AV)) : Option (M AV) :=
  if f = fn_rc_narrowed_now then arg1 (fun a => rc_narrowed_now call n a) args else
  if f = fn_rc_Coder_settle then arg2 (fun a b => rc_Coder_settle call n a b) args else
  B
theorem chunk10_ok {ext : Ext} {n f : Nat} {args : List AV} {B : Option (M AV)} {x : M AV} (he : ext f = none) (h : chunk10 (fcall Tryd.prog ext n) n f args B = some x) : fcall Tryd.prog ext (n + 1) f args = x ∨ B = some x := by
  unfold chunk10 at h
  rcases step_some h with ⟨rfl, h⟩ | h
  · obtain ⟨a, rfl, rfl⟩ := arg1_some h
    exact .inl (rc_narrowed_now_eq he n a)
  rcases step_some h with ⟨rfl, h⟩ | h
  · obtain ⟨a, b, rfl, rfl⟩ := arg2_some h
    exact .inl (rc_Coder_settle_eq he n a b)
  exact .inr h
noncomputable def table : Table := fun call n f args => (chunk0 call n f args (chunk1 call n f args (chunk2 call n f args (chunk3 call n f args (chunk4 call n f args (chunk5 call n f args (chunk6 call n f args (chunk7 call n f args (chunk8 call n f args (chunk9 call n f args (chunk10 call n f args none)))))))))))
theorem table_ok {ext : Ext} {n f : Nat} {args : List AV} {x : M AV} (he : ext f = none) (h : table (fcall Tryd.prog ext n) n f args = some x) : fcall Tryd.prog ext (n + 1) f args = x := by
  unfold table at h
  rcases chunk0_ok he h with h | h
  · exact h
  rcases chunk1_ok he h with h | h
  · exact h
  rcases chunk2_ok he h with h | h
  · exact h
  rcases chunk3_ok he h with h | h
  · exact h
  rcases chunk4_ok he h with h | h
  · exact h
  rcases chunk5_ok he h with h | h
  · exact h
  rcases chunk6_ok he h with h | h
  · exact h
  rcases chunk7_ok he h with h | h
  · exact h
  rcases chunk8_ok he h with h | h
  · exact h
  rcases chunk9_ok he h with h | h
  · exact h
  rcases chunk10_ok he h with h | h
  · exact h
  cases h
theorem fast_is (ext : Ext) (n : Nat) : fast Tryd.prog table ext n = fcall Tryd.prog ext n := fast_eq (fun n f args x he h => table_ok he h) n
end SplA

/- What the functions of the decoders do. -/
namespace SplA
open Go.Proofs.YtooogfnmhfocjaaDoor.Spl Go Go.Proofs
set_option maxRecDepth 100000
set_option linter.unusedVariables false
set_option linter.unusedSimpArgs false

noncomputable def ext0 : Ext := Ext.none.plus fn_internal_abi_NoEscape same1
noncomputable def ext1 : Ext := ext0.plus fn_law22_awake trueAlways
/-- A function's run. -/
noncomputable abbrev R (f : Nat) (args : List AV) : Nat → M AV := fun n => fcall Tryd.prog ext1 n f args

theorem right_ok {lo hi t : Int} {m : Mem} {Q : AV → Mem → Prop} (hq : Q (.bool (decide (0 ≤ lo ∧ lo < hi ∧ hi ≤ t ∧ t ≤ 65536))) m) : Ok (R fn_rc_right [.int .i64 lo, .int .i64 hi, .int .i64 t]) m Q := by
  refine Ok.call (fun n => rc_right_eq rfl n _ _ _) ?_
  simp -implicitDefEqProofs only [rc_right, rc_right_j0, aBin_leq, aBin_lss, lp_some', ok_mc, ok_ret]
  by_cases h1 : 0 ≤ lo <;> by_cases h2 : lo < hi <;> by_cases h3 : hi ≤ t <;> simp_all
  all_goals (intros; omega)

theorem next_ok {i : Nat} {a0 a1 a3 a4 : AV} {l : List UInt8} {m : Mem} {Q : AV → Mem → Prop} (h : m.get i = .cells T_rc_Decoder 0 [a0, a1, .str (bs l), a3, a4]) (hb : m.base ≤ i)
    (hq : Q (.int .u64 (hd l)) (m.set i (.cells T_rc_Decoder 0 [a0, a1, .str (bs l.tail), a3, a4]))) : Ok (R fn_rc_Decoder_next [.ptr i 0]) m Q := by
  refine Ok.call (fun n => rc_Decoder_next_eq rfl n _) ?_
  simp -implicitDefEqProofs only [rc_Decoder_next, simpS, Nat.reduceAdd, load_at h]
  cases l with
  | nil => simpa [hd, m.set_self i h] using hq
  | cons b l =>
    have hb8 := b.toNat_lt
    have e1 : aIdxStr (.str (bs (b :: l))) (.int .i64 0) = some (.int .u8 b.toNat) := by rw [aIdxStr_int _ _ _ (by omega)]; rfl
    have e2 : aSliceStr (.str (bs (b :: l))) (some (.int .i64 1)) none = some (.str (bs l)) := by rw [aSliceStr_from' _ _ _ (by simp; omega)]; rfl
    have e3 : IntKind.u64.wrap (b.toNat : Int) = (b.toNat : Int) := IntWalk.u64_in _ (by omega)
    simp -implicitDefEqProofs (disch := first | assumption | omega | (simp; done) | (simp; omega)) only [simpS, Nat.reduceAdd, load_at h, e1, e2, e3, ok_store h hb, reduceCtorEq, decide_false, Bool.false_eq_true, if_false]
    simpa [hd] using hq

theorem now_ok {i T : Nat} {s : Bool} {r : Nat} {rest : List AV} {m : Mem} {Q : AV → Mem → Prop} (h : m.get i = .cells T 0 (.bool s :: .int .u64 r :: rest)) (hb : m.base ≤ i)
    (hq : Q (.int .u64 (rngOf s r)) (m.set i (.cells T 0 (.bool true :: .int .u64 (rngOf s r) :: rest)))) : Ok (R fn_rc_narrowed_now [.ptr i 0]) m Q := by
  refine Ok.call (fun n => rc_narrowed_now_eq rfl n _) ?_
  cases s with
  | true =>
    rw [m.set_self i (by simpa [rngOf] using h)] at hq
    simp -implicitDefEqProofs only [rc_narrowed_now, rc_narrowed_now_j0, simpS, Nat.reduceAdd, load_at h]
    simpa [rngOf] using hq
  | false =>
    have h1 : (m.set i (.cells T 0 (.bool true :: .int .u64 r :: rest))).get i = .cells T 0 (.bool true :: .int .u64 r :: rest) := by simp
    have h2 : (m.set i (.cells T 0 (.bool true :: .int .u64 4294967295 :: rest))).get i = .cells T 0 (.bool true :: .int .u64 4294967295 :: rest) := by simp
    have hb1 : (m.set i (.cells T 0 (.bool true :: .int .u64 r :: rest))).base ≤ i := hb
    simp -implicitDefEqProofs (disch := first | assumption | omega | (simp; done) | (simp; omega)) only [rc_narrowed_now, rc_narrowed_now_j0, simpS, Nat.reduceAdd, load_at h, ok_store h hb, ok_store h1 hb1, load_at h2, Bool.not_false, if_true]
    simpa [rngOf] using hq

theorem narrow_ok {i T : Nat} {s : Bool} {r lo hi t : Nat} {rest : List AV} {m : Mem} {Q : AV → Mem → Prop} (h : m.get i = .cells T 0 (.bool s :: .int .u64 r :: rest)) (hb : m.base ≤ i)
    (hr : rngOf s r ≤ 4294967295) (hp : lo < hi ∧ hi ≤ t ∧ t ≤ 65536)
    (hq : Q (.int .u64 (rngOf s r / t * lo : Nat)) (m.set i (.cells T 0 (.bool true :: .int .u64 (partOf (rngOf s r) lo hi t) :: rest)))) : Ok (R fn_rc_narrowed_narrow [.ptr i 0, .int .i64 lo, .int .i64 hi, .int .i64 t]) m Q := by
  refine Ok.call (fun n => rc_narrowed_narrow_eq rfl n _ _ _ _) ?_
  refine Ok.bnd (now_ok h hb ?_)
  generalize hR : rngOf s r = R at *
  have h1 : (m.set i (.cells T 0 (.bool true :: .int .u64 R :: rest))).get i = .cells T 0 (.bool true :: .int .u64 R :: rest) := by simp
  have hb1 : (m.set i (.cells T 0 (.bool true :: .int .u64 R :: rest))).base ≤ i := hb
  have hd : R / t ≤ R := Nat.div_le_self _ _
  have hm : R / t * lo ≤ R := Nat.le_trans (Nat.mul_le_mul_left _ (by omega)) (Nat.div_mul_le_self R t)
  have hm2 : R / t * (hi - lo) ≤ R := Nat.le_trans (Nat.mul_le_mul_left _ (by omega)) (Nat.div_mul_le_self R t)
  have ht : (t : Int) ≠ 0 := by omega
  have e1 : IntKind.u64.wrap (t : Int) = t := IntWalk.u64_in _ (by omega)
  have e2 : IntKind.u64.wrap ((R : Int).tdiv t) = ((R / t : Nat) : Int) := by
    rw [show (R : Int).tdiv t = ((R / t : Nat) : Int) by rw [Int.tdiv_eq_ediv_of_nonneg (by omega)]; rfl]
    exact IntWalk.u64_in _ ⟨Int.natCast_nonneg _, by omega⟩
  have e3 : IntKind.u64.wrap (lo : Int) = lo := IntWalk.u64_in _ (by omega)
  have e4 : IntKind.u64.wrap (((R / t : Nat) : Int) * lo) = ((R / t * lo : Nat) : Int) := by
    rw [show ((R / t : Nat) : Int) * lo = ((R / t * lo : Nat) : Int) by rw [Int.natCast_mul]]
    exact IntWalk.u64_in _ ⟨Int.natCast_nonneg _, by omega⟩
  have e5 : IntKind.u64.wrap ((R : Int) - ((R / t * lo : Nat) : Int)) = ((R - R / t * lo : Nat) : Int) := by
    rw [show (R : Int) - ((R / t * lo : Nat) : Int) = ((R - R / t * lo : Nat) : Int) by omega]
    exact IntWalk.u64_in _ (by omega)
  have e6 : IntKind.u64.wrap (IntKind.i64.wrap ((hi : Int) - lo)) = ((hi - lo : Nat) : Int) := by
    rw [show (hi : Int) - lo = ((hi - lo : Nat) : Int) by omega, IntWalk.i64_in _ (by omega)]
    exact IntWalk.u64_in _ (by omega)
  have e7 : IntKind.u64.wrap (((R / t : Nat) : Int) * ((hi - lo : Nat) : Int)) = ((R / t * (hi - lo) : Nat) : Int) := by
    rw [show ((R / t : Nat) : Int) * ((hi - lo : Nat) : Int) = ((R / t * (hi - lo) : Nat) : Int) by rw [Int.natCast_mul]]
    exact IntWalk.u64_in _ ⟨Int.natCast_nonneg _, by omega⟩
  simp -implicitDefEqProofs (disch := first | assumption | omega | (simp; done) | (simp; omega)) only [rc_narrowed_narrow_j0, simpS, Nat.reduceAdd, e1, e2, e3, e4, e6, e7, aBin_quo _ _ _ _ ht, load_at h1, e5, ok_store h1 hb1]
  by_cases e : hi = t
  · subst e
    simpa [partOf] using hq
  · have : ¬ (hi : Int) = t := by omega
    simpa [partOf, e, this] using hq

theorem small_ok {i T : Nat} {b : AV} {r : Nat} {rest : List AV} {m : Mem} {Q : AV → Mem → Prop} (h : m.get i = .cells T 0 (b :: .int .u64 r :: rest)) (hb : m.base ≤ i)
    (hq : if 16777216 ≤ r then Q (.bool false) m else Q (.bool true) (m.set i (.cells T 0 (b :: .int .u64 (r * 256 : Nat) :: rest)))) : Ok (R fn_rc_narrowed_small [.ptr i 0]) m Q := by
  refine Ok.call (fun n => rc_narrowed_small_eq rfl n _) ?_
  have e1 : aBin .shl [] (.int .u64 r) (.int .u64 8) = some (.int .u64 (IntKind.u64.wrap ((r * 256 : Nat) : Int))) := by
    rw [aBin_shl _ _ _ _ _ (by decide), Int.natCast_mul]; rfl
  simp -implicitDefEqProofs (disch := first | assumption | omega | (simp; done) | (simp; omega)) only [rc_narrowed_small, simpS, Nat.reduceAdd, load_at h, e1, ok_store h hb]
  by_cases hr : 16777216 ≤ r
  · have : (16777216 : Int) ≤ r := by omega
    simp -implicitDefEqProofs only [hr, this, decide_true, if_true] at hq ⊢
    exact hq
  · have : ¬ (16777216 : Int) ≤ r := by omega
    simp -implicitDefEqProofs only [hr, this, decide_false, if_false] at hq ⊢
    rw [IntWalk.u64_in _ ⟨Int.natCast_nonneg _, by omega⟩]
    exact hq

def decObj (s : Bool) (r : Nat) (c : Nat) (l : List UInt8) : AObj := .cells T_rc_Decoder 0 [.bool s, .int .u64 r, .str (bs l), .int .u64 c, .bool true]

theorem take_loop {i : Nat} {T : Dec} {m0 : Mem} {Q : AV → Mem → Prop} (hb : m0.base ≤ i) (hq : Q (.tup []) (m0.set i (decObj true T.rng T.code T.l))) :
    ∀ {k : Nat} {d : Dec}, 1 ≤ d.rng → d.rng ≤ 4294967295 → d.code < d.rng → 16777216 ≤ d.rng * 256 ^ k → d.fill k = T →
      Ok (fun n => loopN (fun r l => rc_Decoder_Take_l0 (fcall Tryd.prog ext1 n) n r (l.getD 0 .undef)) n [.ptr i 0]) (m0.set i (decObj true d.rng d.code d.l)) Q := by
  intro k d h1 h2 h3 h4 h5
  refine Ok.loop (fun k l m => l = [.ptr i 0] ∧ ∃ d : Dec, m = m0.set i (decObj true d.rng d.code d.l) ∧ 1 ≤ d.rng ∧ d.rng ≤ 4294967295 ∧ d.code < d.rng ∧ 16777216 ≤ d.rng * 256 ^ k ∧ d.fill k = T) ?_ (k := k) ⟨rfl, d, rfl, h1, h2, h3, h4, h5⟩
  rintro k l m rec ⟨rfl, d, rfl, h1, h2, h3, h4, h5⟩ ih
  have hget : (m0.set i (decObj true d.rng d.code d.l)).get i = .cells T_rc_Decoder 0 [.bool true, .int .u64 d.rng, .str (bs d.l), .int .u64 d.code, .bool true] := by simp [decObj]
  simp -implicitDefEqProofs only [List.getD_cons_zero, rc_Decoder_Take_l0, aNil_ptr, aOff_ptr, lp_some', Nat.add_zero]
  refine Ok.bnd (small_ok hget hb ?_)
  by_cases hr : 16777216 ≤ d.rng
  · rw [if_pos hr]
    simp -implicitDefEqProofs only [mc_false, ok_ret]
    rw [Dec.fill_done hr] at h5
    subst h5; exact hq
  · rw [if_neg hr]
    have hh := hd_lt d.l
    have hget2 : (m0.set i (decObj true (d.rng * 256) d.code d.l)).get i = .cells T_rc_Decoder 0 [.bool true, .int .u64 (d.rng * 256 : Nat), .str (bs d.l), .int .u64 d.code, .bool true] := by simp [decObj]
    have hget3 : (m0.set i (decObj true (d.rng * 256) d.code d.l.tail)).get i = .cells T_rc_Decoder 0 [.bool true, .int .u64 (d.rng * 256 : Nat), .str (bs d.l.tail), .int .u64 d.code, .bool true] := by simp [decObj]
    have hb2 : (m0.set i (decObj true (d.rng * 256) d.code d.l.tail)).base ≤ i := hb
    have e1 : aBin .shl [] (.int .u64 d.code) (.int .u64 8) = some (.int .u64 ((d.code * 256 : Nat) : Int)) := by
      rw [aBin_shl _ _ _ _ _ (by decide), show (d.code : Int) * 2 ^ (8 : Int).toNat = ((d.code * 256 : Nat) : Int) by rw [Int.natCast_mul]; rfl, IntWalk.u64_in _ ⟨Int.natCast_nonneg _, by omega⟩]
    have e2 := aBin_or_u64 [] d.code (hd d.l) (by omega) hh
    simp -implicitDefEqProofs only [mc_true, Mem.set_set]
    have hm : m0.set i (.cells T_rc_Decoder 0 [.bool true, .int .u64 (d.rng * 256 : Nat), .str (bs d.l), .int .u64 d.code, .bool true]) = m0.set i (decObj true (d.rng * 256) d.code d.l) := rfl
    simp -implicitDefEqProofs only [hm, simpS, Nat.reduceAdd, load_at hget2, e1]
    refine Ok.bnd (next_ok hget2 hb ?_)
    simp -implicitDefEqProofs only [Mem.set_set]
    have hm2 : m0.set i (.cells T_rc_Decoder 0 [.bool true, .int .u64 (d.rng * 256 : Nat), .str (bs d.l.tail), .int .u64 d.code, .bool true]) = m0.set i (decObj true (d.rng * 256) d.code d.l.tail) := rfl
    rw [hm2]
    have e3 := fun (k : M AV) => same_at (o := 3) hget3 rfl (eqb_int _ _) k
    simp -implicitDefEqProofs (disch := first | assumption | omega | (simp; done) | (simp; omega)) only [simpS, Nat.reduceAdd, e3, e2, ok_store hget3 hb2]
    cases k with
    | zero => omega
    | succ k =>
      have h6 : d.fill (k + 1) = Dec.fill k ⟨d.rng * 256, d.code * 256 + hd d.l, d.l.tail⟩ := by simp [Dec.fill, hr]
      exact ih k _ _ (Nat.lt_succ_self _) ⟨rfl, ⟨d.rng * 256, d.code * 256 + hd d.l, d.l.tail⟩, rfl, by show 1 ≤ d.rng * 256; omega, by show d.rng * 256 ≤ _; omega, by show d.code * 256 + hd d.l < d.rng * 256; omega, by show _ ≤ d.rng * 256 * 256 ^ k; rw [Nat.mul_assoc, ← Nat.pow_succ']; exact h4, by rw [← h6]; exact h5⟩

/-- Take, of a part. -/
theorem take_ok {i lo hi t : Nat} {s : Bool} {r : Nat} {d : Dec} {m : Mem} {Q : AV → Mem → Prop} (h : m.get i = decObj s r d.code d.l) (hb : m.base ≤ i) (hr : rngOf s r = d.rng) (hd : d.Fits)
    (hp : lo < hi ∧ hi ≤ t ∧ t ≤ 65536) (hq : Q (.tup []) (m.set i (decObj true (d.take lo hi t).rng (d.take lo hi t).code (d.take lo hi t).l))) : Ok (R fn_rc_Decoder_Take [.ptr i 0, .int .i64 lo, .int .i64 hi, .int .i64 t]) m Q := by
  refine Ok.call (fun n => rc_Decoder_Take_eq rfl n _ _ _ _) ?_
  have hh := hd.hi
  have hc := hd.code
  obtain ⟨hp1, hp2⟩ := partOf_bounds hd.lo hd.hi hp
  have hget : m.get i = .cells T_rc_Decoder 0 [.bool s, .int .u64 r, .str (bs d.l), .int .u64 d.code, .bool true] := h
  simp -implicitDefEqProofs only [rc_Decoder_Take, simpS, Nat.reduceAdd, load_at hget, Bool.not_true, Bool.false_eq_true, if_false]
  refine Ok.bnd (right_ok ?_)
  have hdec : decide ((0 : Int) ≤ lo ∧ (lo : Int) < hi ∧ (hi : Int) ≤ t ∧ (t : Int) ≤ 65536) = true := decide_eq_true (by omega)
  simp -implicitDefEqProofs only [hdec, rc_Decoder_Take_j0, simpS, Nat.reduceAdd, Bool.not_true, Bool.false_eq_true, if_false]
  refine Ok.bnd (narrow_ok hget hb (by omega) hp ?_)
  rw [hr]
  have hget2 : (m.set i (.cells T_rc_Decoder 0 [.bool true, .int .u64 (partOf d.rng lo hi t), .str (bs d.l), .int .u64 d.code, .bool true])).get i = .cells T_rc_Decoder 0 [.bool true, .int .u64 (partOf d.rng lo hi t), .str (bs d.l), .int .u64 d.code, .bool true] := by simp
  have hb2 : (m.set i (.cells T_rc_Decoder 0 [.bool true, .int .u64 (partOf d.rng lo hi t), .str (bs d.l), .int .u64 d.code, .bool true])).base ≤ i := hb
  have e1 : IntKind.u64.wrap ((d.code : Int) - min (d.code : Int) ((d.rng / t * lo : Nat) : Int)) = ((d.code - d.rng / t * lo : Nat) : Int) := by
    rw [show (d.code : Int) - min (d.code : Int) ((d.rng / t * lo : Nat) : Int) = ((d.code - d.rng / t * lo : Nat) : Int) by omega]
    exact IntWalk.u64_in _ ⟨Int.natCast_nonneg _, by omega⟩
  have e2 : IntKind.u64.wrap ((partOf d.rng lo hi t : Int) - 1) = ((partOf d.rng lo hi t - 1 : Nat) : Int) := by
    rw [show (partOf d.rng lo hi t : Int) - 1 = ((partOf d.rng lo hi t - 1 : Nat) : Int) by omega]
    exact IntWalk.u64_in _ ⟨Int.natCast_nonneg _, by omega⟩
  have e3 : min ((d.code - d.rng / t * lo : Nat) : Int) ((partOf d.rng lo hi t - 1 : Nat) : Int) = ((min (d.code - d.rng / t * lo) (partOf d.rng lo hi t - 1) : Nat) : Int) := by omega
  simp -implicitDefEqProofs (disch := first | assumption | omega | (simp; done) | (simp; omega)) only [simpS, Nat.reduceAdd, load_at hget2, e1, e2, e3, ok_store hget2 hb2]
  exact take_loop (d := ⟨partOf d.rng lo hi t, min (d.code - d.rng / t * lo) (partOf d.rng lo hi t - 1), d.l⟩) (k := 3) hb hq (by show 1 ≤ partOf d.rng lo hi t; omega) (by show partOf d.rng lo hi t ≤ _; omega) (by show min _ _ < partOf d.rng lo hi t; omega) (by show _ ≤ partOf d.rng lo hi t * _; omega) rfl

/-- Take, of what is no part. -/
theorem take_not {i : Nat} {lo hi t : Int} {s : Bool} {r c : Nat} {l : List UInt8} {m : Mem} {Q : AV → Mem → Prop} (h : m.get i = decObj s r c l) (hp : ¬ (0 ≤ lo ∧ lo < hi ∧ hi ≤ t ∧ t ≤ 65536)) (hq : Q (.tup []) m) :
    Ok (R fn_rc_Decoder_Take [.ptr i 0, .int .i64 lo, .int .i64 hi, .int .i64 t]) m Q := by
  refine Ok.call (fun n => rc_Decoder_Take_eq rfl n _ _ _ _) ?_
  have hget : m.get i = .cells T_rc_Decoder 0 [.bool s, .int .u64 r, .str (bs l), .int .u64 c, .bool true] := h
  simp -implicitDefEqProofs only [rc_Decoder_Take, simpS, Nat.reduceAdd, load_at hget, Bool.not_true, Bool.false_eq_true, if_false]
  refine Ok.bnd (right_ok ?_)
  have hdec : decide (0 ≤ lo ∧ lo < hi ∧ hi ≤ t ∧ t ≤ 65536) = false := decide_eq_false hp
  simp -implicitDefEqProofs only [hdec, rc_Decoder_Take_j0, simpS, Nat.reduceAdd, Bool.not_false, if_true]
  exact hq

/-- Place, in a whole. -/
theorem place_ok {i t : Nat} {s : Bool} {r : Nat} {d : Dec} {m : Mem} {Q : AV → Mem → Prop} (h : m.get i = decObj s r d.code d.l) (hb : m.base ≤ i) (hr : rngOf s r = d.rng) (hd : d.Fits)
    (ht : 1 ≤ t ∧ t ≤ 65536) (hq : Q (.int .i64 (d.place t)) (m.set i (decObj true d.rng d.code d.l))) : Ok (R fn_rc_Decoder_Place [.ptr i 0, .int .i64 t]) m Q := by
  refine Ok.call (fun n => rc_Decoder_Place_eq rfl n _ _) ?_
  have hh := hd.hi
  have hl := hd.lo
  have hc := hd.code
  have hget : m.get i = .cells T_rc_Decoder 0 [.bool s, .int .u64 r, .str (bs d.l), .int .u64 d.code, .bool true] := h
  simp -implicitDefEqProofs only [rc_Decoder_Place, simpS, Nat.reduceAdd, load_at hget, Bool.not_true, Bool.false_eq_true, if_false]
  refine Ok.bnd (right_ok ?_)
  have hdec : decide ((0 : Int) ≤ 0 ∧ (0 : Int) < t ∧ (t : Int) ≤ t ∧ (t : Int) ≤ 65536) = true := decide_eq_true (by omega)
  simp -implicitDefEqProofs only [hdec, rc_Decoder_Place_j0, simpS, Nat.reduceAdd, Bool.not_true, Bool.false_eq_true, if_false, load_at hget]
  refine Ok.bnd (now_ok hget hb ?_)
  rw [hr]
  have hget2 : (m.set i (.cells T_rc_Decoder 0 [.bool true, .int .u64 d.rng, .str (bs d.l), .int .u64 d.code, .bool true])).get i = .cells T_rc_Decoder 0 [.bool true, .int .u64 d.rng, .str (bs d.l), .int .u64 d.code, .bool true] := by simp
  have e0 := fun (k : M AV) => same_at (o := 3) hget2 rfl (eqb_int _ _) k
  have hq1 : 256 ≤ d.rng / t := (Nat.le_div_iff_mul_le (by omega)).2 (by omega)
  have hq2 : d.rng / t ≤ d.rng := Nat.div_le_self _ _
  have hq3 : d.code / (d.rng / t) ≤ d.code := Nat.div_le_self _ _
  have e1 : IntKind.u64.wrap (t : Int) = t := IntWalk.u64_in _ (by omega)
  have e2 : IntKind.u64.wrap ((d.rng : Int).tdiv t) = ((d.rng / t : Nat) : Int) := by
    rw [show (d.rng : Int).tdiv t = ((d.rng / t : Nat) : Int) by rw [Int.tdiv_eq_ediv_of_nonneg (by omega)]; rfl]
    exact IntWalk.u64_in _ ⟨Int.natCast_nonneg _, by omega⟩
  have e3 : IntKind.u64.wrap ((d.code : Int).tdiv ((d.rng / t : Nat) : Int)) = ((d.code / (d.rng / t) : Nat) : Int) := by
    rw [show (d.code : Int).tdiv ((d.rng / t : Nat) : Int) = ((d.code / (d.rng / t) : Nat) : Int) by rw [Int.tdiv_eq_ediv_of_nonneg (by omega)]; rfl]
    exact IntWalk.u64_in _ ⟨Int.natCast_nonneg _, by omega⟩
  have e4 : IntKind.i64.wrap ((d.code / (d.rng / t) : Nat) : Int) = ((d.code / (d.rng / t) : Nat) : Int) := IntWalk.i64_in _ ⟨Int.le_trans (by decide) (Int.natCast_nonneg _), by omega⟩
  have e5 : IntKind.i64.wrap ((t : Int) - 1) = ((t - 1 : Nat) : Int) := by
    rw [show (t : Int) - 1 = ((t - 1 : Nat) : Int) by omega]
    exact IntWalk.i64_in _ ⟨Int.le_trans (by decide) (Int.natCast_nonneg _), by omega⟩
  have e6 : min ((t - 1 : Nat) : Int) ((d.code / (d.rng / t) : Nat) : Int) = ((d.place t : Nat) : Int) := by unfold Dec.place; omega
  have h1 : (t : Int) ≠ 0 := by omega
  have h2 : ((d.rng / t : Nat) : Int) ≠ 0 := by omega
  simp -implicitDefEqProofs only [simpS, Nat.reduceAdd, e0, e1, e5, aBin_quo _ _ _ _ h1, e2, aBin_quo _ _ _ _ h2, e3, e4, e6]
  exact hq

/-- Place, in what is no whole. -/
theorem place_not {i : Nat} {t : Int} {s : Bool} {r c : Nat} {l : List UInt8} {m : Mem} {Q : AV → Mem → Prop} (h : m.get i = decObj s r c l) (ht : ¬ (1 ≤ t ∧ t ≤ 65536)) (hq : Q (.int .i64 0) m) :
    Ok (R fn_rc_Decoder_Place [.ptr i 0, .int .i64 t]) m Q := by
  refine Ok.call (fun n => rc_Decoder_Place_eq rfl n _ _) ?_
  have hget : m.get i = .cells T_rc_Decoder 0 [.bool s, .int .u64 r, .str (bs l), .int .u64 c, .bool true] := h
  simp -implicitDefEqProofs only [rc_Decoder_Place, simpS, Nat.reduceAdd, load_at hget, Bool.not_true, Bool.false_eq_true, if_false]
  refine Ok.bnd (right_ok ?_)
  have hdec : decide (0 ≤ (0 : Int) ∧ 0 < t ∧ t ≤ t ∧ t ≤ 65536) = false := decide_eq_false (by omega)
  simp -implicitDefEqProofs only [hdec, rc_Decoder_Place_j0, simpS, Nat.reduceAdd, Bool.not_false, if_true]
  exact hq

/-! New -/
theorem new_ok {l : List UInt8} {m : Mem} {Q : AV → Mem → Prop} (hb : m.base ≤ m.next) (hq : Q (.ptr m.next 0) (m.alloc (decObj false 0 (Dec.start l).code (Dec.start l).l))) : Ok (R fn_rc_New [.str (bs l)]) m Q := by
  refine Ok.call (fun n => rc_New_eq rfl n _) ?_
  have hfill : (aFill (fun i => [(0, 2), (2, 1), (3, 1), (4, 1)][i]?) [.bool false, .int .u64 0, .str .empty, .int .u64 0, .bool false] [(1, .str (bs l)), (3, (.bool true))]).map AV.agg = some (.agg [.bool false, .int .u64 0, .str (bs l), .int .u64 0, .bool true]) := rfl
  simp -implicitDefEqProofs only [rc_New, hfill, lp_some', ok_box]
  have hm : m.alloc (.cells T_rc_Decoder 0 [.bool false, .int .u64 0, .str (bs l), .int .u64 0, .bool true]) = m.alloc (decObj false 0 0 l) := rfl
  rw [hm]
  refine Ok.loop (fun k v m' => ∃ j : Nat, k + j = 4 ∧ v = [.ptr m.next 0, .int .i64 j] ∧ ∃ d : Dec, m' = m.alloc (decObj false 0 d.code d.l) ∧ d.code < 256 ^ j ∧ d.rng = 4294967295 ∧ d.init k = Dec.start l) ?_ (k := 4) ⟨0, rfl, rfl, ⟨4294967295, 0, l⟩, rfl, by show 0 < 256 ^ 0; decide, rfl, rfl⟩
  rintro k v m' rec ⟨j, hk, rfl, d, rfl, hc, hr, hi⟩ ih
  have hget : (m.alloc (decObj false 0 d.code d.l)).get m.next = .cells T_rc_Decoder 0 [.bool false, .int .u64 (0 : Nat), .str (bs d.l), .int .u64 d.code, .bool true] := Mem.get_alloc _ _
  have hb1 : (m.alloc (decObj false 0 d.code d.l)).base ≤ m.next := hb
  simp -implicitDefEqProofs only [List.getD_cons_zero, List.getD_cons_succ, rc_New_l0, simpS, Nat.reduceAdd]
  cases k with
  | zero =>
    have : ¬ (j : Int) < 4 := by omega
    simp -implicitDefEqProofs only [this, decide_false, Bool.false_eq_true, if_false]
    have e : Dec.start l = d := hi.symm
    rw [e] at hq
    exact hq
  | succ k =>
    have hj : (j : Int) < 4 := by omega
    have hh := hd_lt d.l
    have hc4 : d.code < 16777216 := by
      have : 256 ^ j ≤ 256 ^ 3 := Nat.pow_le_pow_right (by decide) (by omega)
      omega
    have e1 : aBin .shl [] (.int .u64 d.code) (.int .u64 8) = some (.int .u64 ((d.code * 256 : Nat) : Int)) := by
      rw [aBin_shl _ _ _ _ _ (by decide), show (d.code : Int) * 2 ^ (8 : Int).toNat = ((d.code * 256 : Nat) : Int) by rw [Int.natCast_mul]; rfl, IntWalk.u64_in _ ⟨Int.natCast_nonneg _, by omega⟩]
    have e2 := aBin_or_u64 [] d.code (hd d.l) (by omega) hh
    simp -implicitDefEqProofs only [hj, decide_true, if_true, load_at hget, simpS, Nat.reduceAdd, e1]
    refine Ok.bnd (next_ok hget hb1 ?_)
    have hm2 : (m.alloc (decObj false 0 d.code d.l)).set m.next (.cells T_rc_Decoder 0 [.bool false, .int .u64 (0 : Nat), .str (bs d.l.tail), .int .u64 d.code, .bool true]) = m.alloc (decObj false 0 d.code d.l.tail) := Mem.alloc_set _ _ _
    rw [hm2]
    have hget3 : (m.alloc (decObj false 0 d.code d.l.tail)).get m.next = .cells T_rc_Decoder 0 [.bool false, .int .u64 (0 : Nat), .str (bs d.l.tail), .int .u64 d.code, .bool true] := Mem.get_alloc _ _
    have hb3 : (m.alloc (decObj false 0 d.code d.l.tail)).base ≤ m.next := hb
    have e3 := fun (k : M AV) => same_at (o := 3) hget3 rfl (eqb_int _ _) k
    have e4 : IntKind.i64.wrap ((j : Int) + 1) = ((j + 1 : Nat) : Int) := by rw [IntWalk.i64_in _ (by omega)]; rfl
    simp -implicitDefEqProofs (disch := first | assumption | omega | (simp; done) | (simp; omega)) only [simpS, Nat.reduceAdd, e3, e2, ok_store hget3 hb3, e4, Mem.alloc_set]
    refine ih k _ _ (Nat.lt_succ_self _) ⟨j + 1, by omega, rfl, ⟨d.rng, d.code * 256 + hd d.l, d.l.tail⟩, rfl, by show d.code * 256 + hd d.l < 256 ^ (j + 1); rw [Nat.pow_succ]; omega, hr, hi⟩

/-! the document's decoder -/

theorem drop_tail (S : List UInt8) (a : Nat) : (S.drop a).tail = S.drop (a + 1) := by simp [List.tail_drop]

end SplA

/- What strings.Builder does. -/
namespace SplA
open Go.Proofs.YtooogfnmhfocjaaDoor.Spl Go Go.Proofs
set_option maxRecDepth 100000
set_option linter.unusedVariables false
set_option linter.unusedSimpArgs false

/-- May a builder lie there? -/
structure Lies (T o : Nat) (cs : List AV) : Prop where
  pos : 0 < Tryd.prog.cellsOf T
  size : Tryd.prog.cellsOf T ≤ cs.length
  lies : rowAt Tryd.prog (sameLayout Tryd.prog Tryd.prog.depth · T_strings_Builder) Tryd.prog.depth T 1 o 1 = true
theorem noEsc_ok {x : AV} {m : Mem} {Q : AV → Mem → Prop} (hq : Q x m) : Ok (R fn_internal_abi_NoEscape [x]) m Q :=
  Ok.told (k := same1) rfl rfl hq

theorem copyCheck_ok {i o T : Nat} {cs : List AV} {a : AV} {m : Mem} {Q : AV → Mem → Prop} (h : m.get i = .cells T 0 cs) (hb : m.base ≤ i) (ho : o < cs.length) (ha : cs[o]? = some a) (haa : a = .nilptr ∨ a = .ptr i o) (hl : Lies T o cs)
    (hq : Q (.tup []) (m.set i (.cells T 0 (cs.set o (.ptr i o))))) : Ok (R fn_strings_Builder_copyCheck [.ptr i o]) m Q := by
  refine Ok.call (fun n => strings_Builder_copyCheck_eq rfl n _) ?_
  rcases haa with rfl | rfl
  · simp -implicitDefEqProofs only [strings_Builder_copyCheck, simpS, Nat.reduceAdd, load_at h, ha]
    rw [ok_op]
    refine ⟨.ptr i o, m, by simp [toUnsafe, Mem.cells?, h, ho], ?_⟩
    refine Ok.bnd (noEsc_ok ?_)
    rw [ok_op]
    refine ⟨.ptr i o, m, ?_, ?_⟩
    · unfold fromUnsafe
      simp -implicitDefEqProofs only [h]
      rw [if_pos ⟨hb, hl.pos, hl.size, hl.lies⟩]
    · simp -implicitDefEqProofs (disch := first | assumption | omega | (simp; done) | (simp; omega)) only [simpS, Nat.reduceAdd, ok_store h hb]
      exact hq
  · have e : cs.set o (.ptr i o) = cs := by
      apply List.ext_getElem?
      intro k
      rw [List.getElem?_set]
      split
      · rename_i e; subst e; simp [ho, ha]
        obtain ⟨_, h'⟩ := List.getElem?_eq_some_iff.1 ha
        exact h'.symm
      · rfl
    rw [e, m.set_self i h] at hq
    simp -implicitDefEqProofs only [strings_Builder_copyCheck, simpS, Nat.reduceAdd, load_at h, ha, aBin_neqSame]
    exact hq

/-- A builder of those octets, at a place of an object. -/
structure BAt (m : Mem) (i o T : Nat) (cs : List AV) (a bv : AV) (L : List UInt8) : Prop where
  get : m.get i = .cells T 0 cs
  base : m.base ≤ i
  next : i < m.next
  at0 : cs[o]? = some a
  self : a = .nilptr ∨ a = .ptr i o
  at1 : cs[o + 1]? = some bv
  buf : ∃ fz, Buf T_uint8 fz m bv (u8s L)
  ne : ¬ own bv i
  lies : Lies T o cs
theorem BAt.o {m : Mem} {i o T : Nat} {cs : List AV} {a buf : AV} {L : List UInt8} (h : BAt m i o T cs a buf L) : o + 1 < cs.length := by
  obtain ⟨h, _⟩ := List.getElem?_eq_some_iff.1 h.at1
  exact h

/-- A builder's store of its slice. -/
theorem wr_ok {i o T : Nat} {cs X : List AV} {a buf x : AV} {L LX : List UInt8} {m : Mem} {Q : AV → Mem → Prop} {k : Nat → AV → M AV} (h : BAt m i o T cs a buf L) (hX : X = u8s LX) (hn : m.base ≤ m.next)
    (hx : elems 1 X.length x m = some X ∧ count x = some X.length) (hlen : L.length + LX.length ≤ 2 ^ 45)
    (hq : ∀ m' buf', Chg (fun b => b = i ∨ own buf b) m m' → BAt m' i o T (cs.set (o + 1) buf') a buf' (L ++ LX) → (∀ j, own buf' j → own buf j ∨ m.next ≤ j) → m'.base ≤ m'.next → Ok (fun n => k n .undef) m' Q) :
    Ok (fun n => bnd (Go.Proofs.YtooogfnmhfocjaaDoor.Spl.append T_uint8 1 1 buf x) fun v14 => lp (aNil (.ptr i o)) fun v15 => lp (aOff 1 v15) fun v16 => bnd (store none v16 v14) (k n)) m Q := by
  subst hX
  obtain ⟨fz, hB⟩ := h.buf
  refine ok_append hB hn hx (u8s_one _) (by simpa using hlen) fun m1 v1 hc ⟨fz', hf, hB1⟩ hown hown' hn1 => ?_
  have hne1 : ¬ own v1 i := fun hi => by
    rcases hown i hi with h1 | h1
    · exact h.ne h1
    · have := h.next; omega
  have hg1 : m1.get i = .cells T 0 cs := (hc.get i h.next h.ne).trans h.get
  have hb1 : m1.base ≤ i := by rw [hc.base]; exact h.base
  have ho := h.o
  have hv := hB1.one
  simp -implicitDefEqProofs (disch := first | assumption | omega | (simp; done) | (simp; omega)) only [simpS, Nat.reduceAdd, ok_store hg1 hb1]
  have hc2 : Chg (fun b => b = i ∨ own buf b) m (m1.set i (.cells T 0 (cs.set (o + 1) v1))) :=
    (hc.mono fun _ _ h => .inr h).trans (Chg.set _ _ _) (fun b _ h => .inl h)
  refine hq _ v1 hc2 ⟨by simp, hb1, Nat.lt_of_lt_of_le h.next hc.next, ?_, h.self, by simp [ho], ⟨fz', ?_⟩, hne1, ⟨h.lies.pos, by simpa using h.lies.size, h.lies.lies⟩⟩ hown hn1
  · rw [List.getElem?_set_ne (by omega)]; exact h.at0
  · rw [u8s_append]
    exact hB1.chg (Chg.set _ _ _) (fun b hb e => hne1 (e ▸ hb))

theorem writeByte_ok {i o T : Nat} {cs : List AV} {a buf : AV} {L : List UInt8} {b : UInt8} {m : Mem} {Q : AV → Mem → Prop} (h : BAt m i o T cs a buf L) (hn : m.base ≤ m.next) (hlen : L.length + 1 ≤ 2 ^ 45)
    (hq : ∀ m' buf', Chg (fun b => b = i ∨ own buf b) m m' → BAt m' i o T ((cs.set o (.ptr i o)).set (o + 1) buf') (.ptr i o) buf' (L ++ [b]) → (∀ j, own buf' j → own buf j ∨ m.next ≤ j) → m'.base ≤ m'.next → Q .nilface m') :
    Ok (R fn_strings_Builder_WriteByte [.ptr i o, .int .u8 b.toNat]) m Q := by
  refine Ok.call (fun n => strings_Builder_WriteByte_eq rfl n _ _) ?_
  have ho := h.o
  refine Ok.bnd (copyCheck_ok h.get h.base (by omega) h.at0 h.self h.lies ?_)
  have hc0 : Chg (fun b => b = i) m (m.set i (.cells T 0 (cs.set o (.ptr i o)))) := Chg.set _ _ _
  obtain ⟨fz, hB⟩ := h.buf
  have h1 : BAt (m.set i (.cells T 0 (cs.set o (.ptr i o)))) i o T (cs.set o (.ptr i o)) (.ptr i o) buf L :=
    ⟨by simp, h.base, h.next, List.getElem?_set_self (by omega), .inr rfl, by rw [List.getElem?_set_ne (by omega)]; exact h.at1, ⟨fz, hB.chg hc0 (fun b hb e => h.ne (e ▸ hb))⟩, h.ne, ⟨h.lies.pos, by simpa using h.lies.size, h.lies.lies⟩⟩
  generalize m.set i (.cells T 0 (cs.set o (.ptr i o))) = m1 at *
  have hn1 : m1.base ≤ m1.next := by have := h1.base; have := h1.next; omega
  have e1 := aFill1 (.int .u8 0) (.int .u8 b.toNat) (one_int _ _)
  simp -implicitDefEqProofs only [simpS, Nat.reduceAdd, load_at h1.get, h1.at1, e1, ok_allocS]
  have hca : Chg (fun _ => False) m1 (m1.alloc (.cells T_uint8 0 [.int .u8 b.toNat])) := Chg.alloc _ _ _
  have h2 : BAt (m1.alloc (.cells T_uint8 0 [.int .u8 b.toNat])) i o T (cs.set o (.ptr i o)) (.ptr i o) buf L := by
    obtain ⟨fz, hB⟩ := h1.buf
    exact ⟨(hca.get i h1.next id).trans h1.get, h1.base, Nat.lt_succ_of_lt h1.next, h1.at0, h1.self, h1.at1, ⟨fz, hB.chg hca (fun _ _ => id)⟩, h1.ne, h1.lies⟩
  refine wr_ok (LX := [b]) h2 rfl (Nat.le_succ_of_le hn1) (elems_new T_uint8 1 [.int .u8 b.toNat] m1) (by simpa using hlen) fun m' buf' hc hB' hown hn' => ?_
  simp -implicitDefEqProofs only [simpS, Nat.reduceAdd]
  refine hq m' buf' ?_ hB' (fun j hj => ?_) hn'
  · refine ((hc0.mono fun b _ h => .inl h).trans (hca.mono fun _ _ h => h.elim) (fun b _ h => h)).trans hc ?_
    exact fun b _ h => h
  · rcases hown j hj with h3 | h3
    · exact .inl h3
    · refine .inr (Nat.le_trans ?_ h3)
      exact Nat.le_succ_of_le hc0.next

theorem writeString_ok {i o T : Nat} {cs : List AV} {a buf : AV} {L X : List UInt8} {m : Mem} {Q : AV → Mem → Prop} (h : BAt m i o T cs a buf L) (hn : m.base ≤ m.next) (hlen : L.length + X.length ≤ 2 ^ 45)
    (hq : ∀ m' buf', Chg (fun b => b = i ∨ own buf b) m m' → BAt m' i o T ((cs.set o (.ptr i o)).set (o + 1) buf') (.ptr i o) buf' (L ++ X) → (∀ j, own buf' j → own buf j ∨ m.next ≤ j) → m'.base ≤ m'.next → Q (.tup [.int .i64 X.length, .nilface]) m') :
    Ok (R fn_strings_Builder_WriteString [.ptr i o, .str (bs X)]) m Q := by
  refine Ok.call (fun n => strings_Builder_WriteString_eq rfl n _ _) ?_
  have ho := h.o
  refine Ok.bnd (copyCheck_ok h.get h.base (by omega) h.at0 h.self h.lies ?_)
  have hc0 : Chg (fun b => b = i) m (m.set i (.cells T 0 (cs.set o (.ptr i o)))) := Chg.set _ _ _
  obtain ⟨fz, hB⟩ := h.buf
  have h1 : BAt (m.set i (.cells T 0 (cs.set o (.ptr i o)))) i o T (cs.set o (.ptr i o)) (.ptr i o) buf L :=
    ⟨by simp, h.base, h.next, List.getElem?_set_self (by omega), .inr rfl, by rw [List.getElem?_set_ne (by omega)]; exact h.at1, ⟨fz, hB.chg hc0 (fun b hb e => h.ne (e ▸ hb))⟩, h.ne, ⟨h.lies.pos, by simpa using h.lies.size, h.lies.lies⟩⟩
  generalize m.set i (.cells T 0 (cs.set o (.ptr i o))) = m1 at *
  have hn1 : m1.base ≤ m1.next := by have := h1.base; have := h1.next; omega
  simp -implicitDefEqProofs only [simpS, Nat.reduceAdd, load_at h1.get, h1.at1]
  refine wr_ok (LX := X) h1 rfl hn1 (elems_str X m1) (by simpa using hlen) fun m' buf' hc hB' hown hn' => ?_
  simp -implicitDefEqProofs only [simpS, Nat.reduceAdd]
  refine hq m' buf' ?_ hB' (fun j hj => ?_) hn'
  · exact (hc0.mono fun b _ h => .inl h).trans hc (fun b _ h => h)
  · rcases hown j hj with h3 | h3
    · exact .inl h3
    · exact .inr (Nat.le_trans hc0.next h3)

theorem bldString_ok {i o T : Nat} {cs : List AV} {a buf : AV} {L : List UInt8} {m : Mem} {Q : AV → Mem → Prop} (h : BAt m i o T cs a buf L) (hlen : L.length ≤ 2 ^ 45)
    (hq : ∀ m', Chg (own buf) m m' → BAt m' i o T cs a buf L → m'.next = m.next → Q (.str (bs L)) m') : Ok (R fn_strings_Builder_String [.ptr i o]) m Q := by
  refine Ok.call (fun n => strings_Builder_String_eq rfl n _) ?_
  have ho := h.o
  obtain ⟨fz, hB⟩ := h.buf
  have s1 := fun (k : M AV) => same_at (o := o + 1) h.get h.at1 hB.eqb k
  simp -implicitDefEqProofs only [strings_Builder_String, simpS, Nat.reduceAdd, load_at h.get, h.at1]
  rcases hB with ⟨rfl, hL⟩ | ⟨j, rfl, hL, hg, hfz, hb, hnx⟩
  · have hL' : L = [] := by simpa [u8s] using hL
    subst hL'
    rw [ok_op]
    refine ⟨.nilptr, m, rfl, ?_⟩
    simp -implicitDefEqProofs only [simpS, Nat.reduceAdd, load_at h.get, h.at1, s1]
    rw [ok_op]
    refine ⟨.str (bs []), m, rfl, ?_⟩
    simp -implicitDefEqProofs only [simpS, Nat.reduceAdd]
    exact hq m (Chg.refl _ _) h rfl
  · have hL' : 0 < L.length := by
      rcases L with _ | ⟨b, L⟩
      · exact absurd rfl hL
      · simp
    simp -implicitDefEqProofs only [u8s_length] at s1
    rw [ok_op]
    refine ⟨.ptr j 0, m, by simp [sliceData, hL'], ?_⟩
    simp -implicitDefEqProofs only [simpS, Nat.reduceAdd, load_at h.get, h.at1, s1, u8s_length]
    rw [ok_op]
    have hg' := hg
    refine ⟨.str (bs L), m.set j (.cells T_uint8 (max fz L.length) (u8s L)), ?_, ?_⟩
    · have h3 : IntKind.i64.max = 9223372036854775807 := by decide
      unfold unsafeStr
      simp -implicitDefEqProofs only [hg]
      rw [if_neg (by omega), if_pos ⟨hb, trivial, hfz, by omega, by omega, trivial, by simp⟩]
      have : (u8s L).take (L.length : Int).toNat = u8s L := by rw [List.take_of_length_le (by simp)]
      rw [this, ofByteCells_u8s]
      simp [bs]
    · simp -implicitDefEqProofs only [simpS, Nat.reduceAdd]
      have hc : Chg (own (.slice j 0 (u8s L).length 1)) m (m.set j (.cells T_uint8 (max fz L.length) (u8s L))) := Chg.set _ _ _
      refine hq _ hc ⟨(hc.get i h.next h.ne).trans h.get, h.base, h.next, h.at0, h.self, h.at1, ⟨max fz L.length, .inr ⟨j, rfl, hL, by simp, by simp at hfz ⊢; omega, hb, hnx⟩⟩, h.ne, h.lies⟩ rfl
end SplA

/- What the functions of the coders do. -/
namespace SplA
open Go.Proofs.YtooogfnmhfocjaaDoor.Spl Go Go.Proofs
set_option maxRecDepth 100000
set_option linter.unusedVariables false
set_option linter.unusedSimpArgs false

/-- What a coder holds. -/
structure Cst where
  s : Bool
  r : Nat
  O : List UInt8
  low : Nat
  last : Nat
  full : Nat
  /-- the type of the object it lies in, and what else is in it -/
  T : Nat
  rest : List AV
def codCells (c : Cst) (a buf : AV) : List AV := .bool c.s :: .int .u64 c.r :: a :: buf :: .int .u64 c.low :: .int .i64 c.last :: .int .i64 c.full :: c.rest
abbrev CodAt (m : Mem) (i : Nat) (c : Cst) (a buf : AV) : Prop := BAt m i 2 c.T (codCells c a buf) a buf c.O
theorem cod_lies (c : Cst) (a buf : AV) (hT : c.T = T_code_writer) (hr : c.rest.length = 1) : Lies c.T 2 (codCells c a buf) where
  pos := by rw [hT, show Tryd.prog.cellsOf T_code_writer = 7 + 1 by kernel_rfl]; decide
  size := by rw [hT, show Tryd.prog.cellsOf T_code_writer = 7 + 1 by kernel_rfl]; simp [codCells, hr]
  lies := by rw [hT]; kernel_rfl
theorem bld_lies (a buf : AV) : Lies T_strings_Builder 0 [a, buf] where
  pos := by rw [show Tryd.prog.cellsOf T_strings_Builder = 2 by kernel_rfl]; decide
  size := by rw [show Tryd.prog.cellsOf T_strings_Builder = 2 by kernel_rfl]; exact Nat.le_refl _
  lies := by kernel_rfl
/-- A coder, of which other things are changed. -/
theorem CodAt.set {m : Mem} {i : Nat} {c c' : Cst} {a buf : AV} (h : CodAt m i c a buf) (hO : c'.O = c.O) (hT : c'.T = c.T := by rfl) (hr : c'.rest = c.rest := by rfl) : CodAt (m.set i (.cells c'.T 0 (codCells c' a buf))) i c' a buf := by
  obtain ⟨fz, hB⟩ := h.buf
  have hl := h.lies
  exact ⟨by simp, h.base, h.next, rfl, h.self, rfl, ⟨fz, by rw [hO]; exact hB.chg (Chg.set _ _ _) (fun b hb e => h.ne (e ▸ hb))⟩, h.ne, ⟨by rw [hT]; exact hl.pos, by have := hl.size; simp -implicitDefEqProofs only [codCells, List.length_cons, hT, hr] at this ⊢; exact this, by rw [hT]; exact hl.lies⟩⟩
theorem CodAt.chg {F : Nat → Prop} {m m' : Mem} {i : Nat} {c : Cst} {a buf : AV} (h : CodAt m i c a buf) (hc : Chg F m m') (hi : ¬ F i) (hF : ∀ b, own buf b → ¬ F b) : CodAt m' i c a buf := by
  obtain ⟨fz, hB⟩ := h.buf
  exact ⟨(hc.get i h.next hi).trans h.get, by rw [hc.base]; exact h.base, Nat.lt_of_lt_of_le h.next hc.next, h.at0, h.self, h.at1, ⟨fz, hB.chg hc hF⟩, h.ne, h.lies⟩

/-- From one coder's memory to another's. -/
structure Fr (i : Nat) (buf : AV) (m : Mem) (buf' : AV) (m' : Mem) : Prop where
  chg : Chg (fun b => b = i ∨ own buf b) m m'
  own : ∀ j, own buf' j → own buf j ∨ m.next ≤ j
theorem Fr.refl (i : Nat) (buf : AV) (m : Mem) : Fr i buf m buf m := ⟨Chg.refl _ _, fun _ h => .inl h⟩
theorem Fr.set {i : Nat} {buf : AV} {m : Mem} (o : AObj) : Fr i buf m buf (m.set i o) := ⟨(Chg.set _ _ _).mono fun _ _ h => .inl h, fun _ h => .inl h⟩
theorem Fr.trans {i : Nat} {b0 b1 b2 : AV} {m0 m1 m2 : Mem} (h : Fr i b0 m0 b1 m1) (g : Fr i b1 m1 b2 m2) : Fr i b0 m0 b2 m2 where
  chg := h.chg.trans g.chg (fun j hj hG => by
    rcases hG with hG | hG
    · exact .inl hG
    · rcases h.own j hG with h1 | h1
      · exact .inr h1
      · omega)
  own := fun j hj => by
    rcases g.own j hj with h1 | h1
    · exact h.own j h1
    · exact .inr (Nat.le_trans h.chg.next h1)

def lastL : Nat → List UInt8
  | 0 => []
  | b + 1 => [UInt8.ofNat b]
theorem lastL_length (n : Nat) : (lastL n).length ≤ 1 := by cases n <;> simp [lastL]
/-- What settle leaves. -/
def Cst.settle (k : Nat) (c : Cst) : Cst := { c with O := c.O ++ (if c.last = 0 then [] else [UInt8.ofNat (c.last - 1 + k)]) ++ List.replicate c.full (UInt8.ofNat (255 + k)), last := 0, full := 0 }

theorem u8_ofNat (n : Nat) : AV.int .u8 (IntKind.u8.wrap (n : Int)) = .int .u8 (UInt8.ofNat n).toNat := by
  rw [toNat_ofNat]
  congr 1

theorem settle_loop {i k : Nat} {Q : AV → Mem → Prop} (hk : k ≤ 1) {m0 : Mem} {buf0 : AV} {c0 : Cst} (hlen : c0.O.length + c0.full ≤ 2 ^ 40)
    (hq : ∀ m' a' buf', CodAt m' i { c0 with O := c0.O ++ List.replicate c0.full (UInt8.ofNat (255 + k)), last := 0, full := 0 } a' buf' → Fr i buf0 m0 buf' m' → Q (.tup []) m')
    {a0 : AV} (h0 : CodAt m0 i c0 a0 buf0) :
    Ok (fun n => loopN (fun r l => rc_Coder_settle_l0 (fcall Tryd.prog ext1 n) n r (l.getD 0 .undef) (l.getD 1 .undef)) n [.ptr i 0, .int .i64 k]) m0 Q := by
  refine Ok.loop (fun f l m => l = [.ptr i 0, .int .i64 k] ∧ ∃ d a buf, f + d = c0.full ∧ CodAt m i { c0 with O := c0.O ++ List.replicate d (UInt8.ofNat (255 + k)), full := f } a buf ∧ Fr i buf0 m0 buf m) ?_ (k := c0.full) ⟨rfl, 0, a0, buf0, rfl, by simpa using h0, Fr.refl _ _ _⟩
  rintro f l m rec ⟨rfl, d, a, buf, hd, hc, hF⟩ ih
  have hg := hc.get
  have hn : m.base ≤ m.next := by have := hc.base; have := hc.next; omega
  simp -implicitDefEqProofs only [codCells] at hg
  simp -implicitDefEqProofs only [List.getD_cons_zero, List.getD_cons_succ, rc_Coder_settle_l0, simpS, Nat.reduceAdd, load_at hg]
  cases f with
  | zero =>
    have e : d = c0.full := by omega
    subst e
    have hb := hc.base
    have hset := hc.set (c' := { c0 with O := c0.O ++ List.replicate c0.full (UInt8.ofNat (255 + k)), last := 0, full := 0 }) rfl
    simp -implicitDefEqProofs (disch := first | assumption | omega | (simp; done) | (simp; omega)) only [simpS, Nat.reduceAdd, ok_store hg hb, Int.natCast_zero, Int.lt_irrefl, decide_false, Bool.false_eq_true, if_false]
    exact hq _ a buf hset (hF.trans (Fr.set _))
  | succ f =>
    have hf : (0 : Int) < ((f + 1 : Nat) : Int) := by omega
    have e1 : IntKind.i64.wrap (255 + (k : Int)) = ((255 + k : Nat) : Int) := by rw [IntWalk.i64_in _ (by omega)]; omega
    simp -implicitDefEqProofs only [hf, decide_true, if_true, simpS, Nat.reduceAdd, e1, u8_ofNat]
    refine Ok.bnd (writeByte_ok hc hn (by simp; omega) fun m1 buf1 hch hc1 hown hn1 => ?_)
    have hc1' : CodAt m1 i { c0 with O := c0.O ++ List.replicate d (UInt8.ofNat (255 + k)) ++ [UInt8.ofNat (255 + k)], full := f + 1 } (.ptr i 2) buf1 := hc1
    have hg1 := hc1'.get
    have hb1 := hc1'.base
    simp -implicitDefEqProofs only [codCells] at hg1
    have e2 : IntKind.i64.wrap (((f + 1 : Nat) : Int) - 1) = (f : Int) := by rw [IntWalk.i64_in _ (by omega)]; omega
    simp -implicitDefEqProofs (disch := first | assumption | omega | (simp; done) | (simp; omega)) only [simpS, Nat.reduceAdd, load_at hg1, e2, ok_store hg1 hb1]
    have hset := hc1'.set (c' := { c0 with O := c0.O ++ List.replicate (d + 1) (UInt8.ofNat (255 + k)), full := f }) (by simp [List.replicate_succ'])
    exact ih f _ _ (Nat.lt_succ_self _) ⟨rfl, d + 1, .ptr i 2, buf1, by omega, hset, (hF.trans ⟨hch, hown⟩).trans (Fr.set _)⟩

theorem settle_ok {i k : Nat} {c : Cst} {a buf : AV} {m : Mem} {Q : AV → Mem → Prop} (h : CodAt m i c a buf) (hk : k ≤ 1) (hl : c.last ≤ 255) (hlen : c.O.length + 1 + c.full ≤ 2 ^ 40)
    (hq : ∀ m' a' buf', CodAt m' i (c.settle k) a' buf' → Fr i buf m buf' m' → Q (.tup []) m') : Ok (R fn_rc_Coder_settle [.ptr i 0, .int .i64 k]) m Q := by
  refine Ok.call (fun n => rc_Coder_settle_eq rfl n _ _) ?_
  have hg := h.get
  have hn : m.base ≤ m.next := by have := h.base; have := h.next; omega
  simp -implicitDefEqProofs only [codCells] at hg
  simp -implicitDefEqProofs only [rc_Coder_settle, rc_Coder_settle_j0, simpS, Nat.reduceAdd, load_at hg]
  cases hlast : c.last with
  | zero =>
    simp -implicitDefEqProofs only [Int.natCast_zero, Int.lt_irrefl, decide_false, Bool.false_eq_true, if_false]
    refine settle_loop hk (by omega) (fun m' a' buf' hc hF => hq m' a' buf' ?_ hF) h
    simpa [Cst.settle, hlast] using hc
  | succ b =>
    have hf : (0 : Int) < ((b + 1 : Nat) : Int) := by omega
    have e0 : IntKind.i64.wrap (((b + 1 : Nat) : Int) - 1) = (b : Int) := by rw [IntWalk.i64_in _ (by omega)]; omega
    have e1 : IntKind.i64.wrap ((b : Int) + (k : Int)) = ((b + k : Nat) : Int) := by rw [IntWalk.i64_in _ (by omega)]; omega
    simp -implicitDefEqProofs only [hf, decide_true, if_true, simpS, Nat.reduceAdd, e0, e1, u8_ofNat]
    refine Ok.bnd (writeByte_ok h hn (by omega) fun m1 buf1 hch hc1 hown hn1 => ?_)
    have hc1' : CodAt m1 i { c with O := c.O ++ [UInt8.ofNat (b + k)] } (.ptr i 2) buf1 := hc1
    simp -implicitDefEqProofs only [simpS, Nat.reduceAdd]
    refine settle_loop hk (by simp; omega) (fun m' a' buf' hc hF => hq m' a' buf' ?_ (Fr.trans ⟨hch, hown⟩ hF)) hc1'
    simpa [Cst.settle, hlast] using hc

variable {T : Nat} {rest : List AV}
/-- The interval that a coder stands for. -/
structure Cst.Is (c : Cst) (T : Nat) (rest : List AV) (x : Iv) : Prop where
  dig : Go.Proofs.YtooogfnmhfocjaaDoor.Spl.dig x.n (x.V / 4294967296) = c.O ++ lastL c.last ++ List.replicate c.full 255
  low : c.low = x.V % 4294967296
  rng : rngOf c.s c.r = x.R
  last : c.last ≤ 255
  none : c.last = 0 → c.low + x.R ≤ 4294967296
  T : c.T = T
  rest : c.rest = rest
theorem Cst.Is.len {c : Cst} {x : Iv} (h : c.Is T rest x) : c.O.length + c.full ≤ x.n := by
  have := congrArg List.length h.dig
  simp [dig_length] at this
  omega
theorem Cst.Is.lt {c : Cst} {x : Iv} (h : c.Is T rest x) : c.low < 4294967296 := by rw [h.low]; exact Nat.mod_lt _ (by decide)

/-- One carried. -/
theorem is_carry {c : Cst} {x : Iv} {u p : Nat} (h : c.Is T rest x) (hx : x.R ≤ 4294967295) (hp : 1 ≤ p) (hu : u + p ≤ x.R) (hc : 4294967296 ≤ c.low + u) :
    ({ (c.settle 1) with s := true, r := p, low := c.low + u - 4294967296 } : Cst).Is T rest ⟨x.n, x.V + u, p⟩ := by
  have hlt := h.lt
  have hlow := h.low
  have hnz : c.last ≠ 0 := fun e => by have := h.none e; omega
  have e1 : (x.V + u) / 4294967296 = x.V / 4294967296 + 1 := by omega
  have e2 : (x.V + u) % 4294967296 = c.low + u - 4294967296 := by omega
  obtain ⟨b, hb⟩ : ∃ b, c.last = b + 1 := ⟨c.last - 1, by omega⟩
  have hl := h.last
  have hd := h.dig
  rw [hb, lastL] at hd
  have hbn : (UInt8.ofNat b).toNat = b := by rw [toNat_ofNat]; omega
  have := dig_carry c.full x.n (x.V / 4294967296) c.O (UInt8.ofNat b) hd (by omega)
  refine ⟨?_, e2.symm, rfl, by simp [Cst.settle], fun _ => ?_, h.T, h.rest⟩
  · show Go.Proofs.YtooogfnmhfocjaaDoor.Spl.dig x.n ((x.V + u) / 4294967296) = _
    rw [e1, this, hbn]
    simp [Cst.settle, hb, lastL]
  · show c.low + u - 4294967296 + p ≤ _
    omega
/-- Nothing carried. -/
theorem is_plain {c : Cst} {x : Iv} {u p : Nat} (h : c.Is T rest x) (hu : u + p ≤ x.R) (hc : c.low + u < 4294967296) :
    ({ c with s := true, r := p, low := c.low + u } : Cst).Is T rest ⟨x.n, x.V + u, p⟩ := by
  have hlow := h.low
  have e1 : (x.V + u) / 4294967296 = x.V / 4294967296 := by omega
  have e2 : (x.V + u) % 4294967296 = c.low + u := by omega
  refine ⟨?_, e2.symm, rfl, h.last, fun e => ?_, h.T, h.rest⟩
  · show Go.Proofs.YtooogfnmhfocjaaDoor.Spl.dig x.n ((x.V + u) / 4294967296) = _
    rw [e1]; exact h.dig
  · have := h.none e
    show c.low + u + p ≤ _
    omega
def Cst.tell (b : Nat) (c : Cst) : Cst := if b = 255 then { c with full := c.full + 1 } else { (c.settle 0) with last := b + 1 }
/-- An octet told. -/
theorem is_tell {c : Cst} {x : Iv} (h : c.Is T rest x) (hr : c.s = true) :
    ({ (c.tell (c.low / 16777216)) with r := x.R * 256, low := c.low % 16777216 * 256 } : Cst).Is T rest ⟨x.n + 1, x.V * 256, x.R * 256⟩ := by
  have hlt := h.lt
  have hlow := h.low
  have e1 : x.V * 256 / 4294967296 = x.V / 4294967296 * 256 + c.low / 16777216 := by omega
  have e2 : x.V * 256 % 4294967296 = c.low % 16777216 * 256 := by omega
  have hb : c.low / 16777216 < 256 := by omega
  have hd : Go.Proofs.YtooogfnmhfocjaaDoor.Spl.dig (x.n + 1) (x.V * 256 / 4294967296) = c.O ++ lastL c.last ++ List.replicate c.full 255 ++ [UInt8.ofNat (c.low / 16777216)] := by rw [e1, dig_snoc _ _ _ hb, h.dig]
  unfold Cst.tell
  by_cases e : c.low / 16777216 = 255
  · rw [if_pos e]
    refine ⟨?_, e2.symm, by simp [rngOf, hr], h.last, fun e' => ?_, h.T, h.rest⟩
    · show Go.Proofs.YtooogfnmhfocjaaDoor.Spl.dig (x.n + 1) (x.V * 256 / 4294967296) = _
      rw [hd, e, List.replicate_succ', ← List.append_assoc]; rfl
    · have := h.none e'
      show c.low % 16777216 * 256 + x.R * 256 ≤ _
      omega
  · rw [if_neg e]
    refine ⟨?_, e2.symm, by simp [rngOf, hr, Cst.settle], by show c.low / 16777216 + 1 ≤ 255; omega, fun e' => by simp at e', h.T, h.rest⟩
    show Go.Proofs.YtooogfnmhfocjaaDoor.Spl.dig (x.n + 1) (x.V * 256 / 4294967296) = _
    rw [hd]
    cases hl : c.last with
    | zero => simp [Cst.settle, hl, lastL]
    | succ b => simp [Cst.settle, hl, lastL]

theorem tell_ok {i b : Nat} {c : Cst} {a buf : AV} {m : Mem} {Q : AV → Mem → Prop} (h : CodAt m i c a buf) (hb : b ≤ 255) (hl : c.last ≤ 255) (hlen : c.O.length + 1 + c.full ≤ 2 ^ 40)
    (hq : ∀ m' a' buf', CodAt m' i (c.tell b) a' buf' → Fr i buf m buf' m' → Q (.tup []) m') : Ok (R fn_rc_Coder_tell [.ptr i 0, .int .i64 b]) m Q := by
  refine Ok.call (fun n => rc_Coder_tell_eq rfl n _ _) ?_
  have hg := h.get
  have hbs := h.base
  simp -implicitDefEqProofs only [codCells] at hg
  simp -implicitDefEqProofs only [rc_Coder_tell, simpS, Nat.reduceAdd]
  by_cases e : b = 255
  · subst e
    have e1 : IntKind.i64.wrap ((c.full : Int) + 1) = ((c.full + 1 : Nat) : Int) := by rw [IntWalk.i64_in _ (by omega)]; omega
    have e255 : ((255 : Nat) : Int) = 255 := rfl
    have e2 : c.tell 255 = { c with full := c.full + 1 } := by simp [Cst.tell]
    rw [e2] at hq
    simp -implicitDefEqProofs (disch := first | assumption | omega | (simp; done) | (simp; omega)) only [simpS, Nat.reduceAdd, load_at hg, e1, ok_store hg hbs, e255, decide_true, if_true]
    exact hq _ a buf (h.set (c' := { c with full := c.full + 1 }) rfl) (Fr.set _)
  · have e' : ¬ (b : Int) = 255 := by omega
    simp -implicitDefEqProofs only [e', decide_false, Bool.false_eq_true, if_false]
    refine Ok.bnd (settle_ok (k := 0) h (by omega) hl hlen fun m1 a1 buf1 hc1 hF => ?_)
    have hg1 := hc1.get
    have hb1 := hc1.base
    simp -implicitDefEqProofs only [codCells] at hg1
    have e1 : IntKind.i64.wrap ((b : Int) + 1) = ((b + 1 : Nat) : Int) := by rw [IntWalk.i64_in _ (by omega)]; omega
    simp -implicitDefEqProofs (disch := first | assumption | omega | (simp; done) | (simp; omega)) only [simpS, Nat.reduceAdd, e1, ok_store hg1 hb1]
    have e2 : c.tell b = { (c.settle 0) with last := b + 1 } := by simp [Cst.tell, e]
    rw [e2] at hq
    exact hq _ a1 buf1 (hc1.set (c' := { (c.settle 0) with last := b + 1 }) rfl) (hF.trans (Fr.set _))

theorem carry_ok {i : Nat} {c : Cst} {a buf : AV} {m : Mem} {Q : AV → Mem → Prop} (h : CodAt m i c a buf) (hl : c.last ≤ 255) (hlen : c.O.length + 1 + c.full ≤ 2 ^ 40)
    (hq : ∀ m' a' buf', CodAt m' i (c.settle 1) a' buf' → Fr i buf m buf' m' → Q (.tup []) m') : Ok (R fn_rc_Coder_carry [.ptr i 0]) m Q := by
  refine Ok.call (fun n => rc_Coder_carry_eq rfl n _) ?_
  simp -implicitDefEqProofs only [rc_Coder_carry]
  refine Ok.bnd (settle_ok (k := 1) h (by omega) hl hlen fun m1 a1 buf1 hc1 hF => ?_)
  simp -implicitDefEqProofs only [simpS, Nat.reduceAdd]
  exact hq _ a1 buf1 hc1 hF

theorem code_loop {i : Nat} {z : Iv} {Q : AV → Mem → Prop} {m0 : Mem} {buf0 : AV} (hq : ∀ m' c' a' buf', CodAt m' i c' a' buf' → c'.Is T rest z → Fr i buf0 m0 buf' m' → Q (.tup []) m') :
    ∀ {k : Nat} {x : Iv} {c0 : Cst} {a0 : AV}, CodAt m0 i c0 a0 buf0 → c0.Is T rest x → c0.s = true → 1 ≤ x.R → x.R ≤ 4294967295 → 16777216 ≤ x.R * 256 ^ k → x.fill k = z → x.n + k < 2 ^ 39 →
      Ok (fun n => loopN (fun r l => rc_Coder_Code_l0 (fcall Tryd.prog ext1 n) n r (l.getD 0 .undef)) n [.ptr i 0]) m0 Q := by
  intro k x c0 a0 h0 hI0 hs0 h1 h2 h3 h4 h5
  refine Ok.loop (fun k l m => l = [.ptr i 0] ∧ ∃ x c a buf, CodAt m i c a buf ∧ c.Is T rest x ∧ c.s = true ∧ Fr i buf0 m0 buf m ∧ 1 ≤ x.R ∧ x.R ≤ 4294967295 ∧ 16777216 ≤ x.R * 256 ^ k ∧ x.fill k = z ∧ x.n + k < 2 ^ 39) ?_ (k := k) ⟨rfl, x, c0, a0, buf0, h0, hI0, hs0, Fr.refl _ _ _, h1, h2, h3, h4, h5⟩
  clear h0 hI0 hs0 h1 h2 h3 h4 h5
  rintro k l m rec ⟨rfl, x, c, a, buf, h, hI, hs, hF, h1, h2, h3, h4, h5⟩ ih
  have hg := h.get
  have hb := h.base
  have hR := hI.rng
  have hlt := hI.lt
  have hlen := hI.len
  simp -implicitDefEqProofs only [hs, rngOf, if_true] at hR
  simp -implicitDefEqProofs only [codCells] at hg
  simp -implicitDefEqProofs only [List.getD_cons_zero, rc_Coder_Code_l0, simpS, Nat.reduceAdd]
  refine Ok.bnd (small_ok hg hb ?_)
  by_cases hr : 16777216 ≤ c.r
  · rw [if_pos hr]
    simp -implicitDefEqProofs only [simpS, Nat.reduceAdd]
    have e : x.fill k = x := by
      cases k with
      | zero => rfl
      | succ k => simp -implicitDefEqProofs only [Iv.fill]; rw [if_pos (by omega)]
    rw [e] at h4
    subst h4
    exact hq m c a buf h hI hF
  · rw [if_neg hr]
    have hc1 := h.set (c' := { c with r := c.r * 256 }) rfl
    have hm : m.set i (.cells c.T 0 (.bool c.s :: .int .u64 (c.r * 256 : Nat) :: a :: buf :: .int .u64 c.low :: .int .i64 c.last :: .int .i64 c.full :: c.rest)) = m.set i (.cells c.T 0 (codCells { c with r := c.r * 256 } a buf)) := rfl
    rw [hm]
    have hF1 := hF.trans (Fr.set (.cells c.T 0 (codCells { c with r := c.r * 256 } a buf)))
    generalize m.set i (.cells c.T 0 (codCells { c with r := c.r * 256 } a buf)) = m1 at *
    have hg1 := hc1.get
    simp -implicitDefEqProofs only [codCells] at hg1
    have e1 : aBin .shr [] (.int .u64 c.low) (.int .u64 24) = some (.int .u64 ((c.low / 16777216 : Nat) : Int)) := by
      exact aBin_shr_nat _ _ _ c.low 24 (by decide)
    have e2 : IntKind.i64.wrap ((c.low / 16777216 : Nat) : Int) = ((c.low / 16777216 : Nat) : Int) := IntWalk.i64_in _ (by omega)
    simp -implicitDefEqProofs only [simpS, Nat.reduceAdd, load_at hg1, e1, e2]
    cases k with
    | zero => omega
    | succ k =>
      refine Ok.bnd (tell_ok hc1 (by omega) hI.last (by show c.O.length + 1 + c.full ≤ _; omega) fun m2 a2 buf2 hc2 hF2 => ?_)
      have hg2 := hc2.get
      have hb2 := hc2.base
      simp -implicitDefEqProofs only [codCells] at hg2
      have hlow : (({ c with r := c.r * 256 } : Cst).tell (c.low / 16777216)).low = c.low := by unfold Cst.tell Cst.settle; split <;> rfl
      have e3 : aBin .shl [] (.int .u64 c.low) (.int .u64 8) = some (.int .u64 ((c.low * 256 : Nat) : Int)) := by
        rw [aBin_shl _ _ _ _ _ (by decide), show (c.low : Int) * 2 ^ (8 : Int).toNat = ((c.low * 256 : Nat) : Int) by rw [Int.natCast_mul]; rfl, IntWalk.u64_in _ ⟨Int.natCast_nonneg _, by omega⟩]
      have e4 : aBin .and [] (.int .u64 ((c.low * 256 : Nat) : Int)) (.int .u64 4294967295) = some (.int .u64 ((c.low % 16777216 * 256 : Nat) : Int)) := by
        simp -implicitDefEqProofs only [aBin, b2, if_true]
        have e : (BitVec.ofInt IntKind.u64.bits ((c.low * 256 : Nat) : Int) &&& BitVec.ofInt IntKind.u64.bits 4294967295).toNat = c.low % 16777216 * 256 := by
          show (BitVec.ofInt 64 ((c.low * 256 : Nat) : Int) &&& BitVec.ofInt 64 ((4294967295 : Nat) : Int)).toNat = _
          rw [BitVec.ofInt_natCast, BitVec.ofInt_natCast, BitVec.toNat_and, BitVec.toNat_ofNat, BitVec.toNat_ofNat, Nat.mod_eq_of_lt (show c.low * 256 < 2 ^ 64 by omega), Nat.mod_eq_of_lt (show 4294967295 < 2 ^ 64 by decide)]
          have := Nat.and_two_pow_sub_one_eq_mod (c.low * 256) 32
          rw [show 4294967295 = 2 ^ 32 - 1 by decide, this]
          omega
        rw [e, IntWalk.u64_in _ ⟨Int.natCast_nonneg _, by omega⟩]
      simp -implicitDefEqProofs only [simpS, Nat.reduceAdd, load_at hg2, hlow, e3, e4]
      simp -implicitDefEqProofs (disch := first | assumption | omega | (simp; done) | (simp; omega)) only [simpS, Nat.reduceAdd, ok_store hg2 hb2]
      have h6 : x.fill (k + 1) = Iv.fill k ⟨x.n + 1, x.V * 256, x.R * 256⟩ := by simp -implicitDefEqProofs only [Iv.fill]; rw [if_neg (by omega)]
      have hset := hc2.set (c' := { (({ c with r := c.r * 256 } : Cst).tell (c.low / 16777216)) with low := c.low % 16777216 * 256 }) rfl
      have hI2 := is_tell hI hs
      have hce : ({ (({ c with r := c.r * 256 } : Cst).tell (c.low / 16777216)) with low := c.low % 16777216 * 256 } : Cst) = { (c.tell (c.low / 16777216)) with r := x.R * 256, low := c.low % 16777216 * 256 } := by
        unfold Cst.tell Cst.settle
        split <;> simp [hR]
      rw [hce] at hset
      refine ih k _ _ (Nat.lt_succ_self _) ⟨rfl, ⟨x.n + 1, x.V * 256, x.R * 256⟩, _, a2, buf2, ?_, hI2, ?_, (hF1.trans hF2).trans (Fr.set _), by show 1 ≤ x.R * 256; omega, by show x.R * 256 ≤ _; omega, by show _ ≤ x.R * 256 * 256 ^ k; rw [Nat.mul_assoc, ← Nat.pow_succ']; exact h3, by rw [← h6]; exact h4, by show x.n + 1 + k < _; omega⟩
      · rw [← hce] at hset ⊢
        exact hset
      · unfold Cst.tell Cst.settle
        split <;> exact hs

/-- Code, of a part. -/
theorem code_ok {i lo hi t : Nat} {c : Cst} {x : Iv} {a buf : AV} {m : Mem} {Q : AV → Mem → Prop} (h : CodAt m i c a buf) (hI : c.Is T rest x) (hx : x.Fits) (hn : x.n + 3 < 2 ^ 39) (hp : lo < hi ∧ hi ≤ t ∧ t ≤ 65536)
    (hq : ∀ m' c' a' buf', CodAt m' i c' a' buf' → c'.Is T rest (x.code lo hi t) → Fr i buf m buf' m' → Q (.tup []) m') : Ok (R fn_rc_Coder_Code [.ptr i 0, .int .i64 lo, .int .i64 hi, .int .i64 t]) m Q := by
  refine Ok.call (fun n => rc_Coder_Code_eq rfl n _ _ _ _) ?_
  have hg := h.get
  have hb := h.base
  have hR := hI.rng
  have hlt := hI.lt
  have hlen := hI.len
  have hRlo := hx.lo
  have hRhi := hx.hi
  obtain ⟨hp1, hp2⟩ := partOf_bounds hx.lo hx.hi hp
  have hin := part_in (r := x.R) ⟨hp.1, hp.2.1⟩
  simp -implicitDefEqProofs only [codCells] at hg
  simp -implicitDefEqProofs only [rc_Coder_Code, simpS, Nat.reduceAdd, Bool.false_eq_true, if_false]
  refine Ok.bnd (right_ok ?_)
  have hdec : decide ((0 : Int) ≤ lo ∧ (lo : Int) < hi ∧ (hi : Int) ≤ t ∧ (t : Int) ≤ 65536) = true := decide_eq_true (by omega)
  simp -implicitDefEqProofs only [hdec, rc_Coder_Code_j0, simpS, Nat.reduceAdd, Bool.not_true, Bool.false_eq_true, if_false, load_at hg]
  refine Ok.bnd (narrow_ok hg hb (by rw [hR]; exact hRhi) hp ?_)
  rw [hR]
  have hc1 := h.set (c' := { c with s := true, r := partOf x.R lo hi t }) rfl
  have hm : m.set i (.cells c.T 0 (.bool true :: .int .u64 (partOf x.R lo hi t) :: a :: buf :: .int .u64 c.low :: .int .i64 c.last :: .int .i64 c.full :: c.rest)) = m.set i (.cells c.T 0 (codCells { c with s := true, r := partOf x.R lo hi t } a buf)) := rfl
  rw [hm]
  have hF1 := Fr.set (i := i) (buf := buf) (m := m) (.cells c.T 0 (codCells { c with s := true, r := partOf x.R lo hi t } a buf))
  generalize m.set i (.cells c.T 0 (codCells { c with s := true, r := partOf x.R lo hi t } a buf)) = m1 at *
  have hg1 := hc1.get
  have hb1 := hc1.base
  simp -implicitDefEqProofs only [codCells] at hg1
  have s1 := fun (k : M AV) => same_at (o := 4) hg1 rfl (eqb_int _ _) k
  have e1 : IntKind.u64.wrap ((c.low : Int) + ((x.R / t * lo : Nat) : Int)) = ((c.low + x.R / t * lo : Nat) : Int) := by
    rw [← Int.natCast_add]; exact IntWalk.u64_in _ ⟨Int.natCast_nonneg _, by omega⟩
  simp -implicitDefEqProofs (disch := first | assumption | omega | (simp; done) | (simp; omega)) only [simpS, Nat.reduceAdd, s1, e1, ok_store hg1 hb1]
  have hc2 := hc1.set (c' := { c with s := true, r := partOf x.R lo hi t, low := c.low + x.R / t * lo }) rfl
  have hm2 : m1.set i (.cells c.T 0 (.bool true :: .int .u64 (partOf x.R lo hi t) :: a :: buf :: .int .u64 (c.low + x.R / t * lo : Nat) :: .int .i64 c.last :: .int .i64 c.full :: c.rest)) = m1.set i (.cells c.T 0 (codCells { c with s := true, r := partOf x.R lo hi t, low := c.low + x.R / t * lo } a buf)) := rfl
  rw [hm2]
  have hF2 := hF1.trans (Fr.set (.cells c.T 0 (codCells { c with s := true, r := partOf x.R lo hi t, low := c.low + x.R / t * lo } a buf)))
  generalize m1.set i (.cells c.T 0 (codCells { c with s := true, r := partOf x.R lo hi t, low := c.low + x.R / t * lo } a buf)) = m2 at *
  have hg2 := hc2.get
  have hb2 := hc2.base
  simp -implicitDefEqProofs only [codCells] at hg2
  simp -implicitDefEqProofs only [simpS, Nat.reduceAdd, load_at hg2, rc_Coder_Code_j1]
  have hfin : ∀ (c' : Cst), c'.Is T rest (x.narrow lo hi t) → c'.s = true → ∀ m' a' buf', CodAt m' i c' a' buf' → Fr i buf m buf' m' → Ok (fun n => loopN (fun r l => rc_Coder_Code_l0 (fcall Tryd.prog ext1 n) n r (l.getD 0 .undef)) n [.ptr i 0]) m' Q := by
    intro c' hI' hs' m' a' buf' hc' hF'
    exact code_loop (k := 3) (x := x.narrow lo hi t) (fun m'' c'' a'' buf'' h1 h2 h3 => hq m'' c'' a'' buf'' h1 h2 (hF'.trans h3)) hc' hI' hs' (by show 1 ≤ partOf x.R lo hi t; omega) (by show partOf x.R lo hi t ≤ _; omega) (by show _ ≤ partOf x.R lo hi t * _; omega) rfl (by show x.n + 3 < _; omega)
  by_cases hcar : 4294967296 ≤ c.low + x.R / t * lo
  · have hd : (4294967295 : Int) < ((c.low + x.R / t * lo : Nat) : Int) := by omega
    have e2 : IntKind.u64.wrap (((c.low + x.R / t * lo : Nat) : Int) - 4294967296) = ((c.low + x.R / t * lo - 4294967296 : Nat) : Int) := by
      rw [show ((c.low + x.R / t * lo : Nat) : Int) - 4294967296 = ((c.low + x.R / t * lo - 4294967296 : Nat) : Int) by omega]
      exact IntWalk.u64_in _ ⟨Int.natCast_nonneg _, by omega⟩
    simp -implicitDefEqProofs (disch := first | assumption | omega | (simp; done) | (simp; omega)) only [simpS, Nat.reduceAdd, hd, decide_true, if_true, e2, ok_store hg2 hb2]
    have hc3 := hc2.set (c' := { c with s := true, r := partOf x.R lo hi t, low := c.low + x.R / t * lo - 4294967296 }) rfl
    refine Ok.bnd (carry_ok hc3 hI.last (by show c.O.length + 1 + c.full ≤ _; omega) fun m4 a4 buf4 hc4 hF4 => ?_)
    exact hfin _ (is_carry hI hRhi (by omega) hin hcar) rfl m4 a4 buf4 hc4 ((hF2.trans (Fr.set _)).trans hF4)
  · have hd : ¬ (4294967295 : Int) < ((c.low + x.R / t * lo : Nat) : Int) := by omega
    simp -implicitDefEqProofs only [hd, decide_false, Bool.false_eq_true, if_false]
    exact hfin _ (is_plain hI hin (by omega)) rfl m2 a buf hc2 hF2

/-- Code, of what is no part. -/
theorem code_not {i : Nat} {lo hi t : Int} {m : Mem} {Q : AV → Mem → Prop} (hp : ¬ (0 ≤ lo ∧ lo < hi ∧ hi ≤ t ∧ t ≤ 65536)) (hq : Q (.tup []) m) : Ok (R fn_rc_Coder_Code [.ptr i 0, .int .i64 lo, .int .i64 hi, .int .i64 t]) m Q := by
  refine Ok.call (fun n => rc_Coder_Code_eq rfl n _ _ _ _) ?_
  simp -implicitDefEqProofs only [rc_Coder_Code, simpS, Nat.reduceAdd, Bool.false_eq_true, if_false]
  refine Ok.bnd (right_ok ?_)
  have hdec : decide (0 ≤ lo ∧ lo < hi ∧ hi ≤ t ∧ t ≤ 65536) = false := decide_eq_false hp
  simp -implicitDefEqProofs only [hdec, rc_Coder_Code_j0, simpS, Nat.reduceAdd, Bool.not_false, if_true]
  exact hq

/-! the end -/

theorem trim_byte (l : List UInt8) {m : Mem} {Q : AV → Mem → Prop} (hl : l.length < 2 ^ 60) (hq : Q (.str (bs (trim l))) m) : Ok (R fn_strings_trimRightByte [.str (bs l), .int .u8 0]) m Q := by
  refine Ok.call (fun n => strings_trimRightByte_eq rfl n _ _) ?_
  simp -implicitDefEqProofs only [strings_trimRightByte]
  refine Ok.loop (fun k v m' => ∃ l' j2 j3 j4 j5 j6 j7 j8, v = [.str (bs l'), .int .u8 0, j2, j3, j4, j5, j6, j7, j8] ∧ m' = m ∧ l'.length = k ∧ trim l' = trim l ∧ k < 2 ^ 60) ?_ (k := l.length) ⟨l, _, _, _, _, _, _, _, rfl, rfl, rfl, rfl, hl⟩
  rintro k v m' rec ⟨l', j2, j3, j4, j5, j6, j7, j8, rfl, rfl, hk, ht, hk2⟩ ih
  simp -implicitDefEqProofs only [List.getD_cons_zero, List.getD_cons_succ, strings_trimRightByte_l0, simpS, Nat.reduceAdd]
  rcases List.eq_nil_or_concat l' with e | ⟨l2, b, e⟩
  · subst e
    simp -implicitDefEqProofs only [List.length_nil, Int.natCast_zero, Int.lt_irrefl, decide_false, Bool.false_eq_true, if_false, strings_trimRightByte_j0, simpS, Nat.reduceAdd]
    rw [← ht] at hq
    exact hq
  · rw [List.concat_eq_append] at e
    subst e
    simp at hk
    subst hk
    have h1 : (0 : Int) < ((l2 ++ [b]).length : Int) := by rw [List.length_append, List.length_singleton]; omega
    have e1 : IntKind.i64.wrap (((l2 ++ [b]).length : Int) - 1) = (l2.length : Int) := by rw [IntWalk.i64_in _ (by simp; omega)]; simp
    have e2 : aIdxStr (.str (bs (l2 ++ [b]))) (.int .i64 l2.length) = some (.int .u8 b.toNat) := aIdxStr_bs _ _ _ (by simp)
    have e3 : aSliceStr (.str (bs (l2 ++ [b]))) none (some (.int .i64 l2.length)) = some (.str (bs l2)) := by rw [aSliceStr_to _ _ _ (by simp)]; simp
    simp -implicitDefEqProofs only [h1, decide_true, if_true, simpS, Nat.reduceAdd, e1, e2]
    by_cases hb : b = 0
    · subst hb
      have e4 : decide (((0 : UInt8).toNat : Int) = 0) = true := by decide
      simp -implicitDefEqProofs only [strings_trimRightByte_j0, simpS, Nat.reduceAdd, e4, if_true, e1, e3]
      exact ih l2.length _ _ (by omega) ⟨l2, _, _, _, _, _, _, _, rfl, rfl, rfl, by rw [← ht, trim_snoc_zero], by omega⟩
    · have hb' : b.toNat ≠ 0 := fun e => hb (UInt8.toNat_inj.1 e)
      have e4 : decide ((b.toNat : Int) = 0) = false := decide_eq_false (by omega)
      simp -implicitDefEqProofs only [strings_trimRightByte_j0, simpS, Nat.reduceAdd, e4, Bool.false_eq_true, if_false]
      rw [← ht, trim_snoc _ _ hb] at hq
      exact hq
theorem trimRight_ok (l : List UInt8) {m : Mem} {Q : AV → Mem → Prop} (hl : l.length < 2 ^ 60) (hq : Q (.str (bs (trim l))) m) : Ok (R fn_strings_TrimRight [.str (bs l), .str ⟨#[0]⟩]) m Q := by
  refine Ok.call (fun n => strings_TrimRight_eq rfl n _ _) ?_
  have e0 : (⟨#[0]⟩ : ByteArray) = bs [0] := rfl
  have e1 : aIdxStr (.str (bs [0])) (.int .i64 0) = some (.int .u8 0) := aIdxStr_bs [0] .i64 0 rfl
  simp -implicitDefEqProofs only [strings_TrimRight, strings_TrimRight_j0, e0, simpS, Nat.reduceAdd]
  by_cases h : l = []
  · subst h
    simp -implicitDefEqProofs only [decide_true, if_true, simpS, Nat.reduceAdd]
    exact hq
  · simp -implicitDefEqProofs only [h, decide_false, Bool.false_eq_true, if_false, simpS, Nat.reduceAdd, strings_TrimRight_j1, reduceCtorEq, List.length_cons, List.length_nil, e1, decide_true, if_true, Nat.zero_add, Int.natCast_one, Int.reduceLT]
    refine Ok.bnd (trim_byte l hl ?_)
    simp -implicitDefEqProofs only [simpS, Nat.reduceAdd]
    exact hq
end SplA

/- The abstract machine, 19: shifts, bits and quotients of numbers that are not negative. -/
namespace Go.Proofs.YtooogfnmhfocjaaDoor.Spl
open Go
set_option linter.unusedVariables false
set_option linter.unusedSimpArgs false

theorem i64_nat {n : Nat} (h : n < 9223372036854775808) : IntKind.i64.wrap (n : Int) = n := IntWalk.i64_in _ ⟨Int.le_trans (by decide) (Int.natCast_nonneg _), by omega⟩
theorem shl_nat (k' : IntKind) (e : List Nat) (a n : Nat) (h : a * 2 ^ n < 9223372036854775808) (hn : n ≤ 64) : aBin .shl e (.int .i64 (a : Int)) (.int k' (n : Int)) = some (.int .i64 ((a * 2 ^ n : Nat) : Int)) := by
  rw [aBin_shl _ _ _ _ _ ⟨Int.natCast_nonneg _, by show (n : Int) ≤ ((64 : Nat) : Int); omega⟩, Int.toNat_natCast, show (a : Int) * 2 ^ n = ((a * 2 ^ n : Nat) : Int) by rw [Int.natCast_mul, Int.natCast_pow]; rfl, i64_nat h]
theorem shl_one (k' : IntKind) (e : List Nat) (n : Nat) (hn : n ≤ 62) : aBin .shl e (.int .i64 1) (.int k' (n : Int)) = some (.int .i64 ((2 ^ n : Nat) : Int)) := by
  have h : 2 ^ n ≤ 2 ^ 62 := Nat.pow_le_pow_right (by decide) hn
  have := shl_nat k' e 1 n (by omega) (by omega)
  rwa [Nat.one_mul] at this
theorem and_mask (e : List Nat) (a n : Nat) (ha : a < 9223372036854775808) (hn : n ≤ 62) : aBin .and e (.int .i64 (a : Int)) (.int .i64 ((2 ^ n - 1 : Nat) : Int)) = some (.int .i64 ((a % 2 ^ n : Nat) : Int)) := by
  have h : 2 ^ n ≤ 2 ^ 62 := Nat.pow_le_pow_right (by decide) hn
  have hml : a % 2 ^ n ≤ a := Nat.mod_le _ _
  simp only [aBin, b2, if_true]
  have e' : (BitVec.ofInt IntKind.i64.bits (a : Int) &&& BitVec.ofInt IntKind.i64.bits ((2 ^ n - 1 : Nat) : Int)).toNat = a % 2 ^ n := by
    show (BitVec.ofInt 64 (a : Int) &&& BitVec.ofInt 64 ((2 ^ n - 1 : Nat) : Int)).toNat = _
    rw [BitVec.ofInt_natCast, BitVec.ofInt_natCast, BitVec.toNat_and, BitVec.toNat_ofNat, BitVec.toNat_ofNat, Nat.mod_eq_of_lt (show a < 2 ^ 64 by omega), Nat.mod_eq_of_lt (show 2 ^ n - 1 < 2 ^ 64 by omega)]
    exact Nat.and_two_pow_sub_one_eq_mod a n
  rw [e', i64_nat (by omega)]
theorem or_nat (e : List Nat) (a b n : Nat) (hb : b < 2 ^ n) (h : a * 2 ^ n + b < 9223372036854775808) : aBin .or e (.int .i64 ((a * 2 ^ n : Nat) : Int)) (.int .i64 (b : Int)) = some (.int .i64 ((a * 2 ^ n + b : Nat) : Int)) := by
  simp only [aBin, b2, if_true]
  have e' : (BitVec.ofInt IntKind.i64.bits ((a * 2 ^ n : Nat) : Int) ||| BitVec.ofInt IntKind.i64.bits (b : Int)).toNat = a * 2 ^ n + b := by
    show (BitVec.ofInt 64 ((a * 2 ^ n : Nat) : Int) ||| BitVec.ofInt 64 (b : Int)).toNat = _
    rw [BitVec.ofInt_natCast, BitVec.ofInt_natCast, BitVec.toNat_or, BitVec.toNat_ofNat, BitVec.toNat_ofNat, Nat.mod_eq_of_lt (show a * 2 ^ n < 2 ^ 64 by omega), Nat.mod_eq_of_lt (show b < 2 ^ 64 by omega)]
    have := Nat.shiftLeft_add_eq_or_of_lt (i := n) (b := b) hb a
    rw [Nat.shiftLeft_eq] at this
    exact this.symm
  rw [e', i64_nat h]
theorem tdiv_nat (a b : Nat) : (a : Int).tdiv (b : Int) = ((a / b : Nat) : Int) := by rw [Int.tdiv_eq_ediv_of_nonneg (Int.natCast_nonneg _)]; rfl
theorem tmod_nat (a b : Nat) : (a : Int).tmod (b : Int) = ((a % b : Nat) : Int) := by rw [Int.tmod_eq_emod_of_nonneg (Int.natCast_nonneg _)]; rfl
theorem rem_nat (e : List Nat) (k : IntKind) (a b : Nat) (hb : 0 < b) : aBin .rem e (.int k (a : Int)) (.int k (b : Int)) = some (.int k ((a % b : Nat) : Int)) := by
  rw [aBin_rem _ _ _ _ (by omega), tmod_nat]
theorem quo_nat (e : List Nat) (a b : Nat) (hb : 0 < b) (ha : a < 9223372036854775808) : aBin .quo e (.int .i64 (a : Int)) (.int .i64 (b : Int)) = some (.int .i64 ((a / b : Nat) : Int)) := by
  have := Nat.div_le_self a b
  rw [aBin_quo _ _ _ _ (by omega), tdiv_nat, i64_nat (by omega)]
end Go.Proofs.YtooogfnmhfocjaaDoor.Spl

/- The coders' ends; the document's coder. -/
namespace SplA
open Go.Proofs.YtooogfnmhfocjaaDoor.Spl Go Go.Proofs
set_option maxRecDepth 100000
set_option linter.unusedVariables false
set_option linter.unusedSimpArgs false

theorem dig4 (v : Nat) : dig 4 v = [UInt8.ofNat (v / 16777216), UInt8.ofNat (v / 65536), UInt8.ofNat (v / 256), UInt8.ofNat v] := by
  simp -implicitDefEqProofs only [dig, Nat.div_div_eq_div_mul]
  rfl
theorem u8_u64 (n : Nat) : AV.int .u8 (IntKind.u8.wrap (n : Int)) = .int .u8 (UInt8.ofNat n).toNat := u8_ofNat n
/-- The octets of an interval. -/
theorem ends_eq (x : Iv) : x.ends = trim (dig x.n (x.V / 4294967296) ++ dig 4 (x.V % 4294967296)) := by
  rw [Iv.ends]
  have := dig_add 4 x.n (x.V / 4294967296) (x.V % 4294967296) (Nat.mod_lt _ (by decide))
  rw [show (256 : Nat) ^ 4 = 4294967296 by decide, show x.V / 4294967296 * 4294967296 + x.V % 4294967296 = x.V by omega] at this
  rw [this]

variable {T : Nat} {rest : List AV}
abbrev BldAt (m : Mem) (ib : Nat) (a buf : AV) (L : List UInt8) : Prop := BAt m ib 0 T_strings_Builder [a, buf] a buf L
theorem BAt.chg {F : Nat → Prop} {m m' : Mem} {i o T : Nat} {cs : List AV} {a buf : AV} {L : List UInt8} (h : BAt m i o T cs a buf L) (hc : Chg F m m') (hi : ¬ F i) (hF : ∀ b, own buf b → ¬ F b) : BAt m' i o T cs a buf L := by
  obtain ⟨fz, hB⟩ := h.buf
  exact ⟨(hc.get i h.next hi).trans h.get, by rw [hc.base]; exact h.base, Nat.lt_of_lt_of_le h.next hc.next, h.at0, h.self, h.at1, ⟨fz, hB.chg hc hF⟩, h.ne, h.lies⟩

/-- While a builder of the call's own is filled: what was there before stays, but for F. -/
structure Own (F : Nat → Prop) (m0 : Mem) (ib : Nat) (buf : AV) (m : Mem) : Prop where
  chg : Chg F m0 m
  ib : m0.next ≤ ib
  buf : ∀ j, own buf j → m0.next ≤ j
theorem Own.step {F : Nat → Prop} {m0 m m' : Mem} {ib : Nat} {buf buf' : AV} (h : Own F m0 ib buf m) (hc : Chg (fun b => b = ib ∨ own buf b) m m') (ho : ∀ j, own buf' j → own buf j ∨ m.next ≤ j) : Own F m0 ib buf' m' where
  chg := h.chg.trans hc (fun i hi hG => by
    rcases hG with hG | hG
    · have := h.ib; omega
    · have := h.buf i hG; omega)
  ib := h.ib
  buf := fun j hj => by
    rcases ho j hj with h1 | h1
    · exact h.buf j h1
    · exact Nat.le_trans h.chg.next h1
/-- A coder that was there before. -/
structure Apart (m0 : Mem) (i : Nat) (buf : AV) : Prop where
  i : i < m0.next
  buf : ∀ b, own buf b → b < m0.next
theorem CodAt.apart {m0 : Mem} {i : Nat} {c : Cst} {a buf : AV} (h : CodAt m0 i c a buf) : Apart m0 i buf :=
  ⟨h.next, fun b hb => by obtain ⟨fz, hB⟩ := h.buf; exact (hB.own hb).2⟩
theorem CodAt.other {F : Nat → Prop} {m0 m m' : Mem} {i ib : Nat} {c : Cst} {a buf buf1 : AV} (h : CodAt m i c a buf) (hA : Apart m0 i buf) (ho : Own F m0 ib buf1 m) (hc : Chg (fun b => b = ib ∨ own buf1 b) m m') : CodAt m' i c a buf :=
  CodAt.chg h hc (fun hG => by
    have := hA.i
    rcases hG with hG | hG
    · have := ho.ib; omega
    · have := ho.buf _ hG; omega) (fun b hb hG => by
    have := hA.buf b hb
    rcases hG with hG | hG
    · have := ho.ib; omega
    · have := ho.buf _ hG; omega)

theorem end_low {F : Nat → Prop} {i : Nat} {c : Cst} {a buf : AV} {m0 : Mem} {Q : AV → Mem → Prop} (hA : Apart m0 i buf) (hlow : c.low < 4294967296) {D : List UInt8} (hD : D.length ≤ 2 ^ 40)
    (hq : ∀ m', CodAt m' i c a buf → Chg F m0 m' → Q (.str (bs (trim (D ++ dig 4 c.low)))) m') {ib : Nat} {a1 buf1 : AV} {m : Mem} (h : CodAt m i c a buf) (hB : BldAt m ib a1 buf1 D) (ho : Own F m0 ib buf1 m) :
    Ok (fun n => loopN (fun r l => rc_Coder_End_l1 (fcall Tryd.prog ext1 n) n r (l.getD 0 .undef) (l.getD 1 .undef) (l.getD 2 .undef)) n [.ptr i 0, .ptr ib 0, .int .i64 24]) m Q := by
  refine Ok.loop (fun k l m => ∃ j, j + k = 4 ∧ l = [.ptr i 0, .ptr ib 0, .int .i64 (24 - 8 * (j : Int))] ∧ ∃ a1 buf1, CodAt m i c a buf ∧ BldAt m ib a1 buf1 (D ++ (dig 4 c.low).take j) ∧ Own F m0 ib buf1 m) ?_ (k := 4) ⟨0, rfl, rfl, a1, buf1, h, by simpa using hB, ho⟩
  clear h hB ho
  rintro k l m rec ⟨j, hj, rfl, a1, buf1, hc, hB, ho⟩ ih
  have hg := hc.get
  have hn : m.base ≤ m.next := by have := hc.base; have := hc.next; omega
  simp -implicitDefEqProofs only [codCells] at hg
  simp -implicitDefEqProofs only [List.getD_cons_zero, List.getD_cons_succ, rc_Coder_End_l1, simpS, Nat.reduceAdd]
  cases k with
  | zero =>
    have e : j = 4 := by omega
    subst e
    have h1 : ¬ (0 : Int) ≤ 24 - 8 * ((4 : Nat) : Int) := by decide
    have e2 : (dig 4 c.low).take 4 = dig 4 c.low := List.take_of_length_le (by simp [dig_length])
    simp -implicitDefEqProofs only [h1, decide_false, Bool.false_eq_true, if_false]
    rw [e2] at hB
    have hl : (D ++ dig 4 c.low).length ≤ 2 ^ 41 := by simp [dig_length]; omega
    refine Ok.bnd (bldString_ok hB (by omega) fun m1 hc1 hB1 _ => ?_)
    refine Ok.bnd (trimRight_ok _ (by omega) ?_)
    simp -implicitDefEqProofs only [simpS, Nat.reduceAdd]
    have hc1' : Chg (fun b => b = ib ∨ own buf1 b) m m1 := hc1.mono fun _ _ h => .inr h
    exact hq m1 (hc.other hA ho hc1') (ho.step hc1' (fun _ h => .inl h)).chg
  | succ k =>
    have h1 : (0 : Int) ≤ 24 - 8 * (j : Int) := by omega
    have e1 : aBin .shr [] (.int .u64 c.low) (.int .i64 (24 - 8 * (j : Int))) = some (.int .u64 ((c.low / 2 ^ (24 - 8 * j) : Nat) : Int)) := by
      have := aBin_shr_nat .u64 .i64 [] c.low (24 - 8 * j) (by show _ ≤ 64; omega)
      rw [show ((24 - 8 * j : Nat) : Int) = 24 - 8 * (j : Int) by omega] at this
      exact this
    have e3 : IntKind.i64.wrap (24 - 8 * (j : Int) - 8) = 24 - 8 * ((j + 1 : Nat) : Int) := by rw [IntWalk.i64_in _ (by omega)]; omega
    simp -implicitDefEqProofs only [h1, decide_true, if_true, simpS, Nat.reduceAdd, load_at hg, e1, u8_ofNat]
    refine Ok.bnd (writeByte_ok hB hn (by simp [dig_length]; omega) fun m1 buf2 hc1 hB1 hown hn1 => ?_)
    simp -implicitDefEqProofs only [simpS, Nat.reduceAdd, e3]
    refine ih k _ _ (Nat.lt_succ_self _) ⟨j + 1, by omega, rfl, .ptr ib 0, buf2, hc.other hA ho hc1, ?_, ho.step hc1 hown⟩
    have e4 : D ++ (dig 4 c.low).take (j + 1) = D ++ (dig 4 c.low).take j ++ [UInt8.ofNat (c.low / 2 ^ (24 - 8 * j))] := by
      rw [dig4]
      have hj' : j = 0 ∨ j = 1 ∨ j = 2 ∨ j = 3 := by omega
      rcases hj' with rfl | rfl | rfl | rfl <;> simp
    rw [e4]
    exact hB1

theorem end_full {F : Nat → Prop} {i : Nat} {c : Cst} {a buf : AV} {m0 : Mem} {Q : AV → Mem → Prop} (hA : Apart m0 i buf) (hlow : c.low < 4294967296) {D : List UInt8} (hD : D.length + c.full ≤ 2 ^ 40)
    (hq : ∀ m', CodAt m' i c a buf → Chg F m0 m' → Q (.str (bs (trim (D ++ List.replicate c.full 255 ++ dig 4 c.low)))) m') {ib : Nat} {a1 buf1 : AV} {m : Mem} (h : CodAt m i c a buf) (hB : BldAt m ib a1 buf1 D) (ho : Own F m0 ib buf1 m) :
    Ok (fun n => rc_Coder_End_j0 (fcall Tryd.prog ext1 n) n (.ptr i 0) (.ptr ib 0)) m Q := by
  have hg := h.get
  simp -implicitDefEqProofs only [codCells] at hg
  simp -implicitDefEqProofs only [rc_Coder_End_j0, simpS, Nat.reduceAdd, load_at hg]
  refine Ok.loop (fun k l m => ∃ j, j + k = c.full ∧ l = [.ptr i 0, .ptr ib 0, .int .i64 c.full, .int .i64 j] ∧ ∃ a1 buf1, CodAt m i c a buf ∧ BldAt m ib a1 buf1 (D ++ List.replicate j 255) ∧ Own F m0 ib buf1 m) ?_ (k := c.full) ⟨0, by omega, rfl, a1, buf1, h, by simpa using hB, ho⟩
  clear h hB ho hg
  rintro k l m rec ⟨j, hj, rfl, a1, buf1, hc, hB, ho⟩ ih
  have hn : m.base ≤ m.next := by have := hB.base; have := hB.next; omega
  simp -implicitDefEqProofs only [List.getD_cons_zero, List.getD_cons_succ, rc_Coder_End_l0, simpS, Nat.reduceAdd]
  cases k with
  | zero =>
    have e : j = c.full := by omega
    subst e
    simp -implicitDefEqProofs only [Int.lt_irrefl, decide_false, Bool.false_eq_true, if_false]
    exact end_low hA hlow (by simp; omega) hq hc hB ho
  | succ k =>
    have h1 : (j : Int) < (c.full : Int) := by omega
    have e3 : IntKind.i64.wrap ((j : Int) + 1) = ((j + 1 : Nat) : Int) := by rw [IntWalk.i64_in _ (by omega)]; omega
    simp -implicitDefEqProofs only [h1, decide_true, if_true]
    refine Ok.bnd (writeByte_ok (b := 255) hB hn (by simp; omega) fun m1 buf2 hc1 hB1 hown hn1 => ?_)
    simp -implicitDefEqProofs only [simpS, Nat.reduceAdd, e3]
    refine ih k _ _ (Nat.lt_succ_self _) ⟨j + 1, by omega, rfl, .ptr ib 0, buf2, hc.other hA ho hc1, ?_, ho.step hc1 hown⟩
    rw [List.replicate_succ', ← List.append_assoc]
    exact hB1

/-- End. -/
theorem end_ok {i : Nat} {c : Cst} {x : Iv} {a buf : AV} {m : Mem} {Q : AV → Mem → Prop} (h : CodAt m i c a buf) (hI : c.Is T rest x) (hn : x.n < 2 ^ 39)
    (hq : ∀ m', CodAt m' i c a buf → Chg (own buf) m m' → Q (.str (bs x.ends)) m') : Ok (R fn_rc_Coder_End [.ptr i 0]) m Q := by
  refine Ok.call (fun n => rc_Coder_End_eq rfl n _) ?_
  have hlen := hI.len
  have hA := CodAt.apart h
  have hbn : m.base ≤ m.next := by have := h.base; have := h.next; omega
  rw [ends_eq, hI.dig, ← hI.low] at hq
  simp -implicitDefEqProofs only [rc_Coder_End, simpS, Nat.reduceAdd, Bool.false_eq_true, if_false, ok_alloc]
  have hca : Chg (own buf) m (m.alloc (.cells T_strings_Builder 0 [.nilptr, .nilslice])) := Chg.alloc _ _ _
  have hc1 := CodAt.chg h (Chg.alloc (fun _ => False) m (.cells T_strings_Builder 0 [.nilptr, .nilslice])) id (fun _ _ => id)
  have hB1 : BldAt (m.alloc (.cells T_strings_Builder 0 [.nilptr, .nilslice])) m.next .nilptr .nilslice [] :=
    ⟨Mem.get_alloc _ _, hbn, Nat.lt_succ_self _, rfl, .inl rfl, rfl, ⟨0, .inl ⟨rfl, rfl⟩⟩, id, bld_lies _ _⟩
  have hbn1 : (m.alloc (.cells T_strings_Builder 0 [.nilptr, .nilslice])).base ≤ (m.alloc (.cells T_strings_Builder 0 [.nilptr, .nilslice])).next := Nat.le_succ_of_le hbn
  generalize m.alloc (.cells T_strings_Builder 0 [.nilptr, .nilslice]) = m1 at *
  refine Ok.bnd (bldString_ok hc1 (by omega) fun m2 hch2 hc2 hnx2 => ?_)
  have hB2 : BldAt m2 m.next .nilptr .nilslice [] := BAt.chg hB1 hch2 (fun hb => by have := hA.buf _ hb; omega) (fun b hb => hb.elim)
  have hbn2 : m2.base ≤ m2.next := by rw [hch2.base, hnx2]; exact hbn1
  have hO2 : Own (own buf) m m.next .nilslice m2 := ⟨hca.trans hch2 (fun b _ hG => hG), Nat.le_refl _, fun j hj => hj.elim⟩
  refine Ok.bnd (writeString_ok hB2 hbn2 (by simp; omega) fun m3 buf3 hch3 hB3 hown3 hbn3 => ?_)
  have hc3 := CodAt.other hc2 hA hO2 hch3
  have hO3 := hO2.step hch3 hown3
  have hg3 := hc3.get
  simp -implicitDefEqProofs only [codCells] at hg3
  simp -implicitDefEqProofs only [simpS, Nat.reduceAdd, load_at hg3]
  have hB3' : BldAt m3 m.next (.ptr m.next 0) buf3 c.O := hB3
  have hlow := hI.lt
  cases hlast : c.last with
  | zero =>
    rw [hlast, lastL, List.append_nil] at hq
    simp -implicitDefEqProofs only [Int.natCast_zero, Int.lt_irrefl, decide_false, Bool.false_eq_true, if_false]
    exact end_full hA hlow (by omega) hq hc3 hB3' hO3
  | succ b =>
    rw [hlast, lastL] at hq
    have hl := hI.last
    have hf : (0 : Int) < ((b + 1 : Nat) : Int) := by omega
    have e0 : IntKind.i64.wrap (((b + 1 : Nat) : Int) - 1) = (b : Int) := by rw [IntWalk.i64_in _ (by omega)]; omega
    simp -implicitDefEqProofs only [hf, decide_true, if_true, simpS, Nat.reduceAdd, e0, u8_ofNat]
    refine Ok.bnd (writeByte_ok hB3' hbn3 (by omega) fun m4 buf4 hch4 hB4 hown4 hbn4 => ?_)
    have hc4 := CodAt.other hc3 hA hO3 hch4
    exact end_full hA hlow (by simp; omega) hq hc4 hB4 (hO3.step hch4 hown4)

/-! the document's coder -/

def ints (l : List UInt8) : List AV := l.map fun b => .int .i64 b.toNat
theorem ints_length (l : List UInt8) : (ints l).length = l.length := by simp [ints]
theorem ints_append (a b : List UInt8) : ints (a ++ b) = ints a ++ ints b := by simp [ints]
theorem ints_one (l : List UInt8) : (ints l).all AV.one = true := by simp [ints, AV.one]
theorem ints_get (l : List UInt8) (k : Nat) : (ints l)[k]? = (l[k]?).map fun b => .int .i64 b.toNat := by simp [ints]

end SplA

/- Both decoders side by side. -/
namespace SplA
open Go.Proofs.YtooogfnmhfocjaaDoor.Spl Go Go.Proofs
set_option maxRecDepth 100000
set_option linter.unusedVariables false
set_option linter.unusedSimpArgs false

def placeV (d : Dec) (t : Int) : Int := if 1 ≤ t ∧ t ≤ 65536 then d.place t.toNat else 0
theorem place_any {i : Nat} {t : Int} {s : Bool} {r : Nat} {d : Dec} {m : Mem} {Q : AV → Mem → Prop} (h : m.get i = decObj s r d.code d.l) (hb : m.base ≤ i) (hr : rngOf s r = d.rng) (hd : d.Fits)
    (hq : ∀ s' r', rngOf s' r' = d.rng → Q (.int .i64 (placeV d t)) (m.set i (decObj s' r' d.code d.l))) : Ok (R fn_rc_Decoder_Place [.ptr i 0, .int .i64 t]) m Q := by
  by_cases ht : 1 ≤ t ∧ t ≤ 65536
  · obtain ⟨n, rfl⟩ : ∃ n : Nat, t = n := ⟨t.toNat, by omega⟩
    refine place_ok h hb hr hd (by omega) ?_
    have := hq true d.rng (by simp [rngOf])
    simpa [placeV, ht] using this
  · refine place_not h ht ?_
    have := hq s r hr
    rw [← h, m.set_self i rfl] at this
    simpa [placeV, ht] using this
theorem awake_ok {m : Mem} {Q : AV → Mem → Prop} (hq : Q (.bool true) m) : Ok (R fn_law22_awake []) m Q :=
  Ok.told (k := trueAlways) rfl rfl hq

theorem start_rng (l : List UInt8) : (Dec.start l).rng = 4294967295 := (init_bounds (n := 4) (d := ⟨4294967295, 0, l⟩) (j := 0) (by show 0 < 256 ^ 0; decide)).2
end SplA

/- Coders side by side. -/
namespace SplA
open Go.Proofs.YtooogfnmhfocjaaDoor.Spl Go Go.Proofs
set_option maxRecDepth 100000
set_option linter.unusedVariables false
set_option linter.unusedSimpArgs false

variable {T : Nat} {rest : List AV}
theorem and255 (n : Nat) (h : n < 9223372036854775808) : aBin .and [] (.int .i64 (n : Int)) (.int .i64 255) = some (.int .i64 ((n % 256 : Nat) : Int)) := by
  simp -implicitDefEqProofs only [aBin, b2, if_true]
  have e : (BitVec.ofInt IntKind.i64.bits (n : Int) &&& BitVec.ofInt IntKind.i64.bits 255).toNat = n % 256 := by
    show (BitVec.ofInt 64 (n : Int) &&& BitVec.ofInt 64 ((255 : Nat) : Int)).toNat = _
    rw [BitVec.ofInt_natCast, BitVec.ofInt_natCast, BitVec.toNat_and, BitVec.toNat_ofNat, BitVec.toNat_ofNat, Nat.mod_eq_of_lt (show n < 2 ^ 64 by omega), Nat.mod_eq_of_lt (show 255 < 2 ^ 64 by decide)]
    exact Nat.and_two_pow_sub_one_eq_mod n 8
  rw [e, IntWalk.i64_in _ (by omega)]

/-! coders side by side -/

def Dis (F G : Nat → Prop) : Prop := ∀ b, F b → G b → False
def foot (i : Nat) (v : AV) : Nat → Prop := fun b => b = i ∨ own v b
theorem Fr.dis {i : Nat} {b b' : AV} {m m' : Mem} (h : Fr i b m b' m') {G : Nat → Prop} (hG : ∀ j, G j → j < m.next) (hd : Dis (foot i b) G) : Dis (foot i b') G := by
  intro j hj hg
  rcases hj with hj | hj
  · exact hd j (.inl hj) hg
  · rcases h.own j hj with h1 | h1
    · exact hd j (.inr h1) hg
    · have := hG j hg; omega
theorem CodAt.foot_lt {m : Mem} {i : Nat} {c : Cst} {a buf : AV} (h : CodAt m i c a buf) : ∀ j, foot i buf j → j < m.next ∧ m.base ≤ j := by
  intro j hj
  rcases hj with hj | hj
  · subst hj; exact ⟨h.next, h.base⟩
  · obtain ⟨fz, hB⟩ := h.buf
    exact ⟨(hB.own hj).2, (hB.own hj).1⟩
theorem Fr.old {i : Nat} {b b' : AV} {m0 m m' : Mem} (h : Fr i b m b' m') (h0 : Old m0 m) (hF : ∀ j, foot i b j → j < m.next ∧ m.base ≤ j) (hn : m.base ≤ m.next) : Old m0 m' :=
  h.chg.old h0 hn (fun j hj => (hF j hj).2)
theorem Chg.false_fr {i : Nat} {v : AV} {m m' : Mem} (h : Chg (fun _ => False) m m') : Fr i v m v m' := ⟨h.mono fun _ _ h => h.elim, fun _ h => .inl h⟩

/-- What a part, or what is none, makes of an interval. -/
def codeAny (lo hi t : Int) (x : Iv) : Iv := if 0 ≤ lo ∧ lo < hi ∧ hi ≤ t ∧ t ≤ 65536 then x.code lo.toNat hi.toNat t.toNat else x
theorem codeAny_fits {lo hi t : Int} {x : Iv} (h : x.Fits) : (codeAny lo hi t x).Fits := by
  unfold codeAny
  split
  · exact Iv.code_fits h (by omega)
  · exact h
theorem codeAny_n (lo hi t : Int) (x : Iv) : (codeAny lo hi t x).n ≤ x.n + 3 := by
  unfold codeAny
  split
  · exact (Iv.code_n _ _ _ x).2
  · omega
theorem code_any {i : Nat} {lo hi t : Int} {c : Cst} {x : Iv} {a buf : AV} {m : Mem} {Q : AV → Mem → Prop} (h : CodAt m i c a buf) (hI : c.Is T rest x) (hx : x.Fits) (hn : x.n + 3 < 2 ^ 39)
    (hq : ∀ m' c' a' buf', CodAt m' i c' a' buf' → c'.Is T rest (codeAny lo hi t x) → Fr i buf m buf' m' → Q (.tup []) m') : Ok (R fn_rc_Coder_Code [.ptr i 0, .int .i64 lo, .int .i64 hi, .int .i64 t]) m Q := by
  by_cases hp : 0 ≤ lo ∧ lo < hi ∧ hi ≤ t ∧ t ≤ 65536
  · obtain ⟨lo, rfl⟩ : ∃ n : Nat, lo = n := ⟨lo.toNat, by omega⟩
    obtain ⟨hi, rfl⟩ : ∃ n : Nat, hi = n := ⟨hi.toNat, by omega⟩
    obtain ⟨t, rfl⟩ : ∃ n : Nat, t = n := ⟨t.toNat, by omega⟩
    refine code_ok h hI hx hn (by omega) fun m' c' a' buf' h1 h2 h3 => hq m' c' a' buf' h1 ?_ h3
    simpa [codeAny, hp] using h2
  · refine code_not hp (hq m c a buf h ?_ (Fr.refl _ _ _))
    simpa [codeAny, hp] using hI
theorem start_is {rest : List AV} : (⟨false, 0, [], 0, 0, 0, T_code_writer, rest⟩ : Cst).Is T_code_writer rest Iv.start := ⟨rfl, rfl, rfl, Nat.zero_le _, fun _ => (by decide : 0 + Iv.start.R ≤ 4294967296), rfl, rfl⟩
theorem codNew_ok {rest : List AV} (hr : rest.length = 1) {m : Mem} (hb : m.base ≤ m.next) : CodAt (m.alloc (.cells T_code_writer 0 (.bool false :: .int .u64 0 :: .nilptr :: .nilslice :: .int .u64 0 :: .int .i64 0 :: .int .i64 0 :: rest))) m.next ⟨false, 0, [], 0, 0, 0, T_code_writer, rest⟩ .nilptr .nilslice :=
  ⟨Mem.get_alloc _ _, hb, Nat.lt_succ_self _, rfl, .inl rfl, rfl, ⟨0, .inl ⟨rfl, rfl⟩⟩, id, cod_lies _ _ _ rfl hr⟩
end SplA
