/- Texts of the abstract machine and of the walks, part 2. -/
import Derived.Test.YtooogfnmhfocjaaGreatDoorSplM1
import Derived.Test.YtooogfnmhfocjaaGreatDoorProg
import Derived.KernelRfl

/- The shallow programs of functions, printed by a program; each equation is checked by the kernel. -/
namespace SplA
open Go.Proofs.YtooogfnmhfocjaaGreatDoor.Spl Go Go.Proofs
set_option maxRecDepth 100000
set_option linter.unusedVariables false
abbrev fn_law22_CodePuts : Nat := 3
abbrev fn_law22_CodeGets : Nat := 4
abbrev fn_ref20_Few : Nat := 5
abbrev fn_law22_few : Nat := 6
abbrev fn_law22_awake : Nat := 7
abbrev fn_code_Put : Nat := 8
abbrev fn_ref22_Put : Nat := 9
abbrev fn_code_Get : Nat := 10
abbrev fn_ref22_Get : Nat := 11
abbrev fn_ref20_Same : Nat := 12
abbrev fn_ref20_Silent : Nat := 13
abbrev fn_code_ahead : Nat := 14
abbrev fn_frame_Fit : Nat := 15
abbrev fn_code_writer_flag : Nat := 16
abbrev fn_sym_PutBelow : Nat := 17
abbrev fn_frame_Rows : Nat := 18
abbrev fn_code_writer_channel : Nat := 19
abbrev fn_energy_Deltas : Nat := 20
abbrev fn_rc_Coder_End : Nat := 21
abbrev fn_ref20_Fit : Nat := 22
abbrev fn_ref22_rows : Nat := 23
abbrev fn_ref05_PutBits : Nat := 24
abbrev fn_ref22_bit : Nat := 25
abbrev fn_ref05_PutBelow : Nat := 26
abbrev fn_ref22_channel : Nat := 27
abbrev fn_ref22_row : Nat := 28
abbrev fn_ref04_Coder_End : Nat := 29
abbrev fn_rc_New : Nat := 30
abbrev fn_code_reader_frame : Nat := 31
abbrev fn_ref04_New : Nat := 32
abbrev fn_ref05_GetBits : Nat := 33
abbrev fn_ref05_GetBelow : Nat := 34
abbrev fn_ref22_taken : Nat := 35
abbrev fn_ref20_Alike : Nat := 36
abbrev fn_ref13_Width : Nat := 37
abbrev fn_energy_Right : Nat := 38
abbrev fn_frame_fits : Nat := 39
abbrev fn_sym_PutBits : Nat := 40
abbrev fn_sym_parted : Nat := 41
abbrev fn_sym_put : Nat := 42
abbrev fn_frame_mapped_api_Chan_sl_int : Nat := 43
abbrev fn_frame_Rows_c1 : Nat := 44
abbrev fn_frame_mapped_api_Band_int : Nat := 45
abbrev fn_frame_Rows_c1_c1 : Nat := 46
abbrev fn_sym_PutDelta : Nat := 47
abbrev fn_layout_Width : Nat := 48
abbrev fn_alloc_Band : Nat := 49
abbrev fn_pvq_Index : Nat := 50
abbrev fn_pvq_Count : Nat := 51
abbrev fn_energy_expects : Nat := 52
abbrev fn_strings_Builder_WriteString : Nat := 53
abbrev fn_strings_Builder_String : Nat := 54
abbrev fn_strings_Builder_WriteByte : Nat := 55
abbrev fn_strings_TrimRight : Nat := 56
abbrev fn_ref20_Band : Nat := 57
abbrev fn_ref14_Right : Nat := 58
abbrev fn_ref04_Coder_Code : Nat := 59
abbrev fn_ref05_shift : Nat := 60
abbrev fn_ref14_Deltas : Nat := 61
abbrev fn_ref05_PutDelta : Nat := 62
abbrev fn_ref15_Band : Nat := 63
abbrev fn_ref16_Index : Nat := 64
abbrev fn_ref16_Count : Nat := 65
abbrev fn_rc_Decoder_next : Nat := 66
abbrev fn_code_reader_flag : Nat := 67
abbrev fn_code_reader_below : Nat := 68
abbrev fn_code_reader_channel : Nat := 69
abbrev fn_code_reader_row : Nat := 70
abbrev fn_ref04_Decoder_next : Nat := 71
abbrev fn_ref04_Decoder_Place : Nat := 72
abbrev fn_ref04_Decoder_Take : Nat := 73
abbrev fn_ref05_GetDelta : Nat := 74
abbrev fn_ref14_Row : Nat := 75
abbrev fn_ref16_Vector : Nat := 76
abbrev fn_ref01_Same : Nat := 77
abbrev fn_pvq_Size : Nat := 78
abbrev fn_rc_Coder_Code : Nat := 79
abbrev fn_sym_ends : Nat := 80
abbrev fn_sym_rank : Nat := 81
abbrev fn_sym_begins : Nat := 82
abbrev fn_layout_widths : Nat := 83
abbrev fn_alloc_good : Nat := 84
abbrev fn_alloc_held_int : Nat := 85
abbrev fn_alloc_times : Nat := 86
abbrev fn_pvq_made : Nat := 87
abbrev fn_num_Abs : Nat := 88
abbrev fn_energy_expects_c1 : Nat := 89
abbrev fn_energy_expects_c2 : Nat := 90
abbrev fn_strings_Builder_copyCheck : Nat := 91
abbrev fn_strings_trimRightByte : Nat := 92
abbrev fn_strings_makeASCIISet : Nat := 93
abbrev fn_strings_trimRightASCII : Nat := 94
abbrev fn_strings_trimRightUnicode : Nat := 95
abbrev fn_ref16_Size : Nat := 96
abbrev fn_ref01_Within : Nat := 97
abbrev fn_ref04_Right : Nat := 98
abbrev fn_ref04_narrow : Nat := 99
abbrev fn_ref04_carried : Nat := 100
abbrev fn_ref14_expected : Nat := 101
abbrev fn_ref05_small : Nat := 102
abbrev fn_ref16_rows : Nat := 103
abbrev fn_ref16_far : Nat := 104
abbrev fn_sym_GetBits : Nat := 105
abbrev fn_sym_GetBelow : Nat := 106
abbrev fn_pvq_Vector : Nat := 107
abbrev fn_sym_GetDelta : Nat := 108
abbrev fn_energy_Row : Nat := 109
abbrev fn_rc_right : Nat := 110
abbrev fn_rc_narrowed_narrow : Nat := 111
abbrev fn_rc_Coder_carry : Nat := 112
abbrev fn_rc_narrowed_small : Nat := 113
abbrev fn_rc_Coder_tell : Nat := 114
abbrev fn_num_within : Nat := 115
abbrev fn_internal_abi_NoEscape : Nat := 116
abbrev fn_sym_get : Nat := 120
abbrev fn_pvq_first : Nat := 121
abbrev fn_rc_Decoder_Place : Nat := 122
abbrev fn_rc_Decoder_Take : Nat := 123
abbrev fn_rc_narrowed_now : Nat := 124
abbrev fn_rc_Coder_settle : Nat := 125
abbrev T_int : Nat := 3
abbrev T_uint8 : Nat := 5
abbrev T_api_Frame : Nat := 24
abbrev T_api_Chan : Nat := 39
abbrev T_sl_int : Nat := 40
abbrev T_api_Band : Nat := 42
abbrev T_strings_Builder : Nat := 53
abbrev T_code_writer : Nat := 57
abbrev T_ref04_Coder : Nat := 68
abbrev T_code_reader : Nat := 77
abbrev T_rc_Decoder : Nat := 110
abbrev T_ref04_Decoder : Nat := 116
abbrev T_8_int : Nat := 123
abbrev T_13_int : Nat := 126
abbrev T_strings_asciiSet : Nat := 136
abbrev T_pvq_table : Nat := 153
/-! (*splicer/rc.Coder).settle -/
noncomputable def rc_Coder_settle_l0 (call : Nat → List AV → M AV) (n : Nat) (rec : List AV → M AV) (x0_1 x1_1 : AV) : M AV :=
  lp (aNil x0_1) fun v22 =>
  lp (aOff 6 v22) fun v23 =>
  bnd (load none v23) fun v24 =>
  lp (aBin .gtr [] v24 (.int .i64 0)) fun v25 =>
  mc v25
    (lp (aNil x0_1) fun v34 =>
  lp (aOff 2 v34) fun v35 =>
  lp (aBin .add [] (.int .i64 255) x1_1) fun v37 =>
  lp (aInt .u8 v37) fun v38 =>
  bnd (call fn_strings_Builder_WriteByte [v35, v38]) fun v39 =>
  lp (aNil x0_1) fun v27 =>
  lp (aOff 6 v27) fun v28 =>
  bnd (load none v28) fun v29 =>
  lp (aBin .sub [] v29 (.int .i64 1)) fun v30 =>
  lp (aNil x0_1) fun v31 =>
  lp (aOff 6 v31) fun v32 =>
  bnd (store none v32 v30) fun u =>
  rec [x0_1, x1_1])
    (lp (aNil x0_1) fun v41 =>
lp (aOff 5 v41) fun v42 =>
bnd (store none v42 (.int .i64 0)) fun u_1 =>
ret (.tup []))
noncomputable def rc_Coder_settle_j0 (call : Nat → List AV → M AV) (n : Nat) (x0 x1 : AV) : M AV :=
  loopN (fun r l => rc_Coder_settle_l0 call n r (l.getD 0 .undef) (l.getD 1 .undef)) n [x0, x1]
noncomputable def rc_Coder_settle (call : Nat → List AV → M AV) (n : Nat) (a0 a1 : AV) : M AV :=
  lp (aNil a0) fun v5 =>
  lp (aOff 5 v5) fun v6 =>
  bnd (load none v6) fun v7 =>
  lp (aBin .gtr [] v7 (.int .i64 0)) fun v8 =>
  mc v8
    (lp (aNil a0) fun v10 =>
    lp (aOff 2 v10) fun v11 =>
    lp (aNil a0) fun v13 =>
    lp (aOff 5 v13) fun v14 =>
    bnd (load none v14) fun v15 =>
    lp (aBin .sub [] v15 (.int .i64 1)) fun v16 =>
    lp (aBin .add [] v16 a1) fun v18 =>
    lp (aInt .u8 v18) fun v19 =>
    snap fun _ =>
    bnd (call fn_strings_Builder_WriteByte [v11, v19]) fun v20 =>
    snap fun _ =>
    rc_Coder_settle_j0 call n a0 a1)
    (rc_Coder_settle_j0 call n a0 a1)
theorem rc_Coder_settle_eq {ext : Ext} (h : ext fn_rc_Coder_settle = none) (n : Nat) (a0 a1 : AV) : fcall Tryz.prog ext (n + 1) fn_rc_Coder_settle [a0, a1] = rc_Coder_settle (fcall Tryz.prog ext n) n a0 a1 := by
  unfold fcall; rw [h]; kernel_rfl

/-! (*splicer/rc.narrowed).now -/
noncomputable def rc_narrowed_now_j0 (call : Nat → List AV → M AV) (n : Nat) (x0 : AV) : M AV :=
  lp (aNil x0) fun v15 =>
  lp (aOff 1 v15) fun v16 =>
  bnd (load none v16) fun v17 =>
  ret v17
noncomputable def rc_narrowed_now (call : Nat → List AV → M AV) (n : Nat) (a0 : AV) : M AV :=
  lp (aNil a0) fun v4 =>
  lp (aOff 0 v4) fun v5 =>
  bnd (load none v5) fun v6 =>
  lp (aUn .not v6) fun v7 =>
  mc v7
    (lp (aNil a0) fun v10 =>
    lp (aOff 0 v10) fun v11 =>
    bnd (store none v11 (.bool true)) fun u =>
    lp (aNil a0) fun v12 =>
    lp (aOff 1 v12) fun v13 =>
    bnd (store none v13 (.int .u64 4294967295)) fun u_1 =>
    rc_narrowed_now_j0 call n a0)
    (rc_narrowed_now_j0 call n a0)
theorem rc_narrowed_now_eq {ext : Ext} (h : ext fn_rc_narrowed_now = none) (n : Nat) (a0 : AV) : fcall Tryz.prog ext (n + 1) fn_rc_narrowed_now [a0] = rc_narrowed_now (fcall Tryz.prog ext n) n a0 := by
  unfold fcall; rw [h]; kernel_rfl

/-! (*splicer/rc.Decoder).Take -/
noncomputable def rc_Decoder_Take_l0 (call : Nat → List AV → M AV) (n : Nat) (rec : List AV → M AV) (x0_1 : AV) : M AV :=
  lp (aNil x0_1) fun v54 =>
  lp (aOff 0 v54) fun v55 =>
  bnd (call fn_rc_narrowed_small [v55]) fun v56 =>
  mc v56
    (lp (aNil x0_1) fun v59 =>
  lp (aOff 3 v59) fun v60 =>
  bnd (load none v60) fun v61 =>
  lp (aBin .shl [] v61 (.int .u64 8)) fun v62 =>
  snap fun _ =>
  bnd (call fn_rc_Decoder_next [x0_1]) fun v64 =>
  snap fun m_3 =>
  same none v60 v61 m_3 <|
  lp (aBin .or [] v62 v64) fun v65 =>
  lp (aNil x0_1) fun v66 =>
  lp (aOff 3 v66) fun v67 =>
  snap fun _ =>
  bnd (store none v67 v65) fun u_1 =>
  snap fun _ =>
  rec [x0_1])
    (ret (.tup []))
noncomputable def rc_Decoder_Take_j0 (call : Nat → List AV → M AV) (n : Nat) (x0 x1 x2 x3 x24 : AV) : M AV :=
  mc x24
    (ret (.tup []))
    (lp (aNil x0) fun v26 =>
lp (aOff 0 v26) fun v27 =>
bnd (call fn_rc_narrowed_narrow [v27, x1, x2, x3]) fun v31 =>
lp (aNil x0) fun v34 =>
lp (aOff 3 v34) fun v35 =>
bnd (load none v35) fun v36 =>
lp (aNil x0) fun v38 =>
lp (aOff 3 v38) fun v39 =>
bnd (load none v39) fun v40 =>
lp (aFold aMin2 v40 [v31]) fun v42 =>
lp (aBin .sub [] v36 v42) fun v43 =>
lp (aNil x0) fun v45 =>
lp (aOff 0 v45) fun v46 =>
lp (aOff 1 v46) fun v47 =>
bnd (load none v47) fun v48 =>
lp (aBin .sub [] v48 (.int .u64 1)) fun v49 =>
lp (aFold aMin2 v43 [v49]) fun v50 =>
lp (aNil x0) fun v51 =>
lp (aOff 3 v51) fun v52 =>
snap fun _ =>
bnd (store none v52 v50) fun u =>
snap fun _ =>
loopN (fun r l => rc_Decoder_Take_l0 call n r (l.getD 0 .undef)) n [x0])
noncomputable def rc_Decoder_Take (call : Nat → List AV → M AV) (n : Nat) (a0 a1 a2 a3 : AV) : M AV :=
  lp (aBin .eql [3] a0 .nilptr) fun v10 =>
  mc v10
    (rc_Decoder_Take_j0 call n a0 a1 a2 a3 (.bool true))
    (lp (aNil a0) fun v13 =>
    lp (aOff 4 v13) fun v14 =>
    bnd (load none v14) fun v15 =>
    lp (aUn .not v15) fun v16 =>
    mc v16
      (rc_Decoder_Take_j0 call n a0 a1 a2 a3 (.bool true))
      (bnd (call fn_rc_right [a1, a2, a3]) fun v22 =>
      lp (aUn .not v22) fun v23 =>
      rc_Decoder_Take_j0 call n a0 a1 a2 a3 v23))
theorem rc_Decoder_Take_eq {ext : Ext} (h : ext fn_rc_Decoder_Take = none) (n : Nat) (a0 a1 a2 a3 : AV) : fcall Tryz.prog ext (n + 1) fn_rc_Decoder_Take [a0, a1, a2, a3] = rc_Decoder_Take (fcall Tryz.prog ext n) n a0 a1 a2 a3 := by
  unfold fcall; rw [h]; kernel_rfl

/-! (*splicer/rc.Decoder).Place -/
noncomputable def rc_Decoder_Place_j0 (call : Nat → List AV → M AV) (n : Nat) (x0 x1 x19 : AV) : M AV :=
  mc x19
    (ret (.int .i64 0))
    (lp (aBin .sub [] x1 (.int .i64 1)) fun v21 =>
lp (aNil x0) fun v23 =>
lp (aOff 3 v23) fun v24 =>
bnd (load none v24) fun v25 =>
lp (aNil x0) fun v27 =>
lp (aOff 0 v27) fun v28 =>
snap fun _ =>
bnd (call fn_rc_narrowed_now [v28]) fun v29 =>
snap fun m_1 =>
same none v24 v25 m_1 <|
lp (aInt .u64 x1) fun v31 =>
lp (aBin .quo [] v29 v31) fun v32 =>
lp (aBin .quo [] v25 v32) fun v33 =>
lp (aInt .i64 v33) fun v34 =>
lp (aFold aMin2 v21 [v34]) fun v35 =>
ret v35)
noncomputable def rc_Decoder_Place (call : Nat → List AV → M AV) (n : Nat) (a0 a1 : AV) : M AV :=
  lp (aBin .eql [3] a0 .nilptr) fun v6 =>
  mc v6
    (rc_Decoder_Place_j0 call n a0 a1 (.bool true))
    (lp (aNil a0) fun v9 =>
    lp (aOff 4 v9) fun v10 =>
    bnd (load none v10) fun v11 =>
    lp (aUn .not v11) fun v12 =>
    mc v12
      (rc_Decoder_Place_j0 call n a0 a1 (.bool true))
      (bnd (call fn_rc_right [(.int .i64 0), a1, a1]) fun v17 =>
      lp (aUn .not v17) fun v18 =>
      rc_Decoder_Place_j0 call n a0 a1 v18))
theorem rc_Decoder_Place_eq {ext : Ext} (h : ext fn_rc_Decoder_Place = none) (n : Nat) (a0 a1 : AV) : fcall Tryz.prog ext (n + 1) fn_rc_Decoder_Place [a0, a1] = rc_Decoder_Place (fcall Tryz.prog ext n) n a0 a1 := by
  unfold fcall; rw [h]; kernel_rfl

/-! splicer/pvq.first -/
noncomputable def pvq_first_l0 (call : Nat → List AV → M AV) (n : Nat) (rec : List AV → M AV) (x0 x1 x2 x8 : AV) : M AV :=
  lp (aBin .sub [] x1 x8) fun v28 =>
  lp (aNil x0) fun v29 =>
  lp (aIdxA 25 1 v29 v28) fun v30 =>
  bnd (load none v30) fun v31 =>
  lp (aBin .mul [] (.int .i64 2) v31) fun v32 =>
  lp (aBin .geq [] x2 v32) fun v33 =>
  mc v33
    (lp (aBin .sub [] x1 x8) fun v40 =>
  lp (aNil x0) fun v41 =>
  lp (aIdxA 25 1 v41 v40) fun v42 =>
  bnd (load none v42) fun v43 =>
  lp (aBin .mul [] (.int .i64 2) v43) fun v44 =>
  lp (aBin .sub [] x2 v44) fun v45 =>
  lp (aBin .add [] x8 (.int .i64 1)) fun v35 =>
  rec [x0, x1, v45, v35])
    (lp (aBin .sub [] x1 x8) fun v50 =>
lp (aNil x0) fun v51 =>
lp (aIdxA 25 1 v51 v50) fun v52 =>
bnd (load none v52) fun v53 =>
lp (aBin .geq [] x2 v53) fun v54 =>
mc v54
  (lp (aUn .neg x8) fun v56 =>
  lp (aBin .sub [] x1 x8) fun v61 =>
  lp (aNil x0) fun v62 =>
  lp (aIdxA 25 1 v62 v61) fun v63 =>
  bnd (load none v63) fun v64 =>
  lp (aBin .sub [] x2 v64) fun v65 =>
  ret (.tup [v56, v65]))
  (ret (.tup [x8, x2])))
noncomputable def pvq_first (call : Nat → List AV → M AV) (n : Nat) (a0 a1 a2 : AV) : M AV :=
  lp (aNil a0) fun v12 =>
  lp (aIdxA 25 1 v12 a1) fun v13 =>
  bnd (load none v13) fun v14 =>
  lp (aBin .lss [] a2 v14) fun v15 =>
  mc v15
    (ret (.tup [(.int .i64 0), a2]))
    (lp (aNil a0) fun v20 =>
  lp (aIdxA 25 1 v20 a1) fun v21 =>
  bnd (load none v21) fun v22 =>
  lp (aBin .sub [] a2 v22) fun v23 =>
  loopN (fun r l => pvq_first_l0 call n r (l.getD 0 .undef) (l.getD 1 .undef) (l.getD 2 .undef) (l.getD 3 .undef)) n [a0, a1, v23, (.int .i64 1)])
theorem pvq_first_eq {ext : Ext} (h : ext fn_pvq_first = none) (n : Nat) (a0 a1 a2 : AV) : fcall Tryz.prog ext (n + 1) fn_pvq_first [a0, a1, a2] = pvq_first (fcall Tryz.prog ext n) n a0 a1 a2 := by
  unfold fcall; rw [h]; kernel_rfl

/-! splicer/sym.get -/
noncomputable def sym_get (call : Nat → List AV → M AV) (n : Nat) (a0 a1 : AV) : M AV :=
  bnd (call fn_rc_Decoder_Place [a0, a1]) fun v8 =>
  lp (aBin .add [] v8 (.int .i64 1)) fun v12 =>
  bnd (call fn_rc_Decoder_Take [a0, v8, v12, a1]) fun v14 =>
  ret v8
theorem sym_get_eq {ext : Ext} (h : ext fn_sym_get = none) (n : Nat) (a0 a1 : AV) : fcall Tryz.prog ext (n + 1) fn_sym_get [a0, a1] = sym_get (fcall Tryz.prog ext n) n a0 a1 := by
  unfold fcall; rw [h]; kernel_rfl

/-! splicer/num.within -/
noncomputable def num_within_j0 (call : Nat → List AV → M AV) (n : Nat) (rec : List AV → M AV) (x0_1 x7_1 x8_1 x9_1 x18_1 x19_1 x20_1 x21 : AV) : M AV :=
  mc x21
    (ret (.bool false))
    (lp (aBin .add [] x9_1 (.int .i64 1)) fun v22 =>
rec [x0_1, x7_1, x8_1, v22, x18_1, x19_1, x20_1])
noncomputable def num_within_l0 (call : Nat → List AV → M AV) (n : Nat) (rec : List AV → M AV) (x0 x7 x8 x9 x18 x19 x20 : AV) : M AV :=
  lp (aBin .lss [] x9 x8) fun v10 =>
  mc v10
    (lp (aIdxS 1 x7 x9) fun v11 =>
  bnd (load none v11) fun v12 =>
  lp (aUn .neg x0) fun v15 =>
  lp (aBin .lss [] v12 v15) fun v16 =>
  mc v16
    (num_within_j0 call n rec x0 x7 x8 x9 (.tup []) (.tup []) (.tup []) (.bool true))
    (lp (aBin .gtr [] v12 x0) fun v20 =>
    num_within_j0 call n rec x0 x7 x8 x9 v12 x0 v20 v20))
    (ret (.bool true))
noncomputable def num_within (call : Nat → List AV → M AV) (n : Nat) (a0 a1 : AV) : M AV :=
  lp (aLenS a1) fun v8 =>
  loopN (fun r l => num_within_l0 call n r (l.getD 0 .undef) (l.getD 1 .undef) (l.getD 2 .undef) (l.getD 3 .undef) (l.getD 4 .undef) (l.getD 5 .undef) (l.getD 6 .undef)) n [a0, a1, v8, (.int .i64 0), .undef, .undef, .undef]
theorem num_within_eq {ext : Ext} (h : ext fn_num_within = none) (n : Nat) (a0 a1 : AV) : fcall Tryz.prog ext (n + 1) fn_num_within [a0, a1] = num_within (fcall Tryz.prog ext n) n a0 a1 := by
  unfold fcall; rw [h]; kernel_rfl

/-! (*splicer/rc.Coder).tell -/
noncomputable def rc_Coder_tell (call : Nat → List AV → M AV) (n : Nat) (a0 a1 : AV) : M AV :=
  lp (aBin .eql [6] a1 (.int .i64 255)) fun v5 =>
  mc v5
    (lp (aNil a0) fun v7 =>
    lp (aOff 6 v7) fun v8 =>
    bnd (load none v8) fun v9 =>
    lp (aBin .add [] v9 (.int .i64 1)) fun v10 =>
    lp (aNil a0) fun v11 =>
    lp (aOff 6 v11) fun v12 =>
    bnd (store none v12 v10) fun u =>
    ret (.tup []))
    (bnd (call fn_rc_Coder_settle [a0, (.int .i64 0)]) fun v14 =>
  lp (aBin .add [] a1 (.int .i64 1)) fun v17 =>
  lp (aNil a0) fun v18 =>
  lp (aOff 5 v18) fun v19 =>
  bnd (store none v19 v17) fun u_1 =>
  ret (.tup []))
theorem rc_Coder_tell_eq {ext : Ext} (h : ext fn_rc_Coder_tell = none) (n : Nat) (a0 a1 : AV) : fcall Tryz.prog ext (n + 1) fn_rc_Coder_tell [a0, a1] = rc_Coder_tell (fcall Tryz.prog ext n) n a0 a1 := by
  unfold fcall; rw [h]; kernel_rfl

/-! (*splicer/rc.narrowed).small -/
noncomputable def rc_narrowed_small (call : Nat → List AV → M AV) (n : Nat) (a0 : AV) : M AV :=
  lp (aNil a0) fun v4 =>
  lp (aOff 1 v4) fun v5 =>
  bnd (load none v5) fun v6 =>
  lp (aBin .geq [] v6 (.int .u64 16777216)) fun v7 =>
  mc v7
    (ret (.bool false))
    (lp (aNil a0) fun v9 =>
  lp (aOff 1 v9) fun v10 =>
  bnd (load none v10) fun v11 =>
  lp (aBin .shl [] v11 (.int .u64 8)) fun v12 =>
  lp (aNil a0) fun v13 =>
  lp (aOff 1 v13) fun v14 =>
  bnd (store none v14 v12) fun u =>
  ret (.bool true))
theorem rc_narrowed_small_eq {ext : Ext} (h : ext fn_rc_narrowed_small = none) (n : Nat) (a0 : AV) : fcall Tryz.prog ext (n + 1) fn_rc_narrowed_small [a0] = rc_narrowed_small (fcall Tryz.prog ext n) n a0 := by
  unfold fcall; rw [h]; kernel_rfl

/-! (*splicer/rc.Coder).carry -/
noncomputable def rc_Coder_carry (call : Nat → List AV → M AV) (n : Nat) (a0 : AV) : M AV :=
  bnd (call fn_rc_Coder_settle [a0, (.int .i64 1)]) fun v3 =>
  ret (.tup [])
theorem rc_Coder_carry_eq {ext : Ext} (h : ext fn_rc_Coder_carry = none) (n : Nat) (a0 : AV) : fcall Tryz.prog ext (n + 1) fn_rc_Coder_carry [a0] = rc_Coder_carry (fcall Tryz.prog ext n) n a0 := by
  unfold fcall; rw [h]; kernel_rfl

/-! (*splicer/rc.narrowed).narrow -/
noncomputable def rc_narrowed_narrow_j0 (call : Nat → List AV → M AV) (n : Nat) (x10 : AV) : M AV :=
  ret x10
noncomputable def rc_narrowed_narrow (call : Nat → List AV → M AV) (n : Nat) (a0 a1 a2 a3 : AV) : M AV :=
  bnd (call fn_rc_narrowed_now [a0]) fun v12 =>
  lp (aInt .u64 a3) fun v14 =>
  lp (aBin .quo [] v12 v14) fun v15 =>
  lp (aInt .u64 a1) fun v18 =>
  lp (aBin .mul [] v15 v18) fun v19 =>
  lp (aBin .eql [6] a2 a3) fun v22 =>
  mc v22
    (lp (aNil a0) fun v24 =>
    lp (aOff 1 v24) fun v25 =>
    bnd (load none v25) fun v26 =>
    lp (aBin .sub [] v26 v19) fun v28 =>
    lp (aNil a0) fun v29 =>
    lp (aOff 1 v29) fun v30 =>
    bnd (store none v30 v28) fun u =>
    rc_narrowed_narrow_j0 call n v19)
    (lp (aBin .sub [] a2 a1) fun v35 =>
    lp (aInt .u64 v35) fun v36 =>
    lp (aBin .mul [] v15 v36) fun v37 =>
    lp (aNil a0) fun v38 =>
    lp (aOff 1 v38) fun v39 =>
    bnd (store none v39 v37) fun u_1 =>
    rc_narrowed_narrow_j0 call n v19)
theorem rc_narrowed_narrow_eq {ext : Ext} (h : ext fn_rc_narrowed_narrow = none) (n : Nat) (a0 a1 a2 a3 : AV) : fcall Tryz.prog ext (n + 1) fn_rc_narrowed_narrow [a0, a1, a2, a3] = rc_narrowed_narrow (fcall Tryz.prog ext n) n a0 a1 a2 a3 := by
  unfold fcall; rw [h]; kernel_rfl

/-! splicer/rc.right -/
noncomputable def rc_right_j0 (call : Nat → List AV → M AV) (n : Nat) (x6 : AV) : M AV :=
  ret x6
noncomputable def rc_right (call : Nat → List AV → M AV) (n : Nat) (a0 a1 a2 : AV) : M AV :=
  lp (aBin .leq [] (.int .i64 0) a0) fun v8 =>
  mc v8
    (lp (aBin .lss [] a0 a1) fun v12 =>
    mc v12
      (lp (aBin .leq [] a1 a2) fun v17 =>
      mc v17
        (lp (aBin .leq [] a2 (.int .i64 65536)) fun v21 =>
        rc_right_j0 call n v21)
        (rc_right_j0 call n (.bool false)))
      (rc_right_j0 call n (.bool false)))
    (rc_right_j0 call n (.bool false))
theorem rc_right_eq {ext : Ext} (h : ext fn_rc_right = none) (n : Nat) (a0 a1 a2 : AV) : fcall Tryz.prog ext (n + 1) fn_rc_right [a0, a1, a2] = rc_right (fcall Tryz.prog ext n) n a0 a1 a2 := by
  unfold fcall; rw [h]; kernel_rfl

/-! splicer/energy.Row -/
noncomputable def energy_Row_j2 (call : Nat → List AV → M AV) (n : Nat) (rec : List AV → M AV) (x8_2 x9_2 x10_2 x31_2 x32_2 x33_2 x41_2 x42_2 x57_2 x58_2 x59 : AV) : M AV :=
  mc x59
    (ret (.tup [.nilslice, (.bool false)]))
    (lp (aBin .add [] x33_2 (.int .i64 1)) fun v60 =>
rec [x8_2, x9_2, x10_2, x31_2, x32_2, v60, x41_2, x42_2, x57_2, x58_2])
noncomputable def energy_Row_j1 (call : Nat → List AV → M AV) (n : Nat) (rec : List AV → M AV) (x8_1 x9_1 x10_1 x11 x12 x31_1 x32_1 x33_1 x41_1 x42_1 x43 x57_1 x58_1 : AV) : M AV :=
  mc x43
    (ret (.tup [.nilslice, (.bool false)]))
    (callee call x8_1 [x11, x10_1] fun v47 =>
lp (aBin .add [] v47 x12) fun v49 =>
lp (aIdxS 1 x9_1 x11) fun v53 =>
bnd (store none v53 v49) fun u =>
lp (aBin .lss [] v49 (.int .i64 0)) fun v55 =>
mc v55
  (energy_Row_j2 call n rec x8_1 x9_1 v49 x31_1 x32_1 x33_1 x41_1 x42_1 (.tup []) (.tup []) (.bool true))
  (lp (aBin .gtr [] v49 (.int .i64 23)) fun v58 =>
  energy_Row_j2 call n rec x8_1 x9_1 v49 x31_1 x32_1 x33_1 x41_1 x42_1 v49 v58 v58))
noncomputable def energy_Row_l0 (call : Nat → List AV → M AV) (n : Nat) (rec : List AV → M AV) (x8 x9 x10 x31 x32 x33 x41 x42 x57 x58 : AV) : M AV :=
  lp (aBin .lss [] x33 x32) fun v34 =>
  mc v34
    (lp (aIdxS 1 x31 x33) fun v36 =>
  bnd (load none v36) fun v37 =>
  lp (aBin .lss [] v37 (.int .i64 (-67))) fun v39 =>
  mc v39
    (energy_Row_j1 call n rec x8 x9 x10 x33 v37 x31 x32 x33 (.tup []) (.tup []) (.bool true) x57 x58)
    (lp (aBin .gtr [] v37 (.int .i64 67)) fun v42 =>
    energy_Row_j1 call n rec x8 x9 x10 x33 v37 x31 x32 x33 v37 v42 v42 x57 x58))
    (ret (.tup [x9, (.bool true)]))
noncomputable def energy_Row_j0 (call : Nat → List AV → M AV) (n : Nat) (x0 x1 x2 x24 : AV) : M AV :=
  mc x24
    (ret (.tup [.nilslice, (.bool false)]))
    (bnd (call fn_energy_expects [x0, x1]) fun v27 =>
lp (aLenS x2) fun v29 =>
bnd (mkSlice T_int 1 8 [.int .i64 0] v29 v29) fun v30 =>
lp (aLenS x2) fun v32 =>
loopN (fun r l => energy_Row_l0 call n r (l.getD 0 .undef) (l.getD 1 .undef) (l.getD 2 .undef) (l.getD 3 .undef) (l.getD 4 .undef) (l.getD 5 .undef) (l.getD 6 .undef) (l.getD 7 .undef) (l.getD 8 .undef) (l.getD 9 .undef)) n [v27, v30, (.int .i64 0), x2, v32, (.int .i64 0), .undef, .undef, .undef, .undef])
noncomputable def energy_Row (call : Nat → List AV → M AV) (n : Nat) (a0 a1 a2 : AV) : M AV :=
  lp (aLenS a2) fun v14 =>
  lp (aBin .neq [6] v14 (.int .i64 13)) fun v15 =>
  mc v15
    (energy_Row_j0 call n a0 a1 a2 (.bool true))
    (lp (aUn .not a0) fun v18 =>
    mc v18
      (bnd (call fn_energy_Right [a1]) fun v21 =>
      lp (aUn .not v21) fun v22 =>
      energy_Row_j0 call n a0 a1 a2 v22)
      (energy_Row_j0 call n a0 a1 a2 (.bool false)))
theorem energy_Row_eq {ext : Ext} (h : ext fn_energy_Row = none) (n : Nat) (a0 a1 a2 : AV) : fcall Tryz.prog ext (n + 1) fn_energy_Row [a0, a1, a2] = energy_Row (fcall Tryz.prog ext n) n a0 a1 a2 := by
  unfold fcall; rw [h]; kernel_rfl

/-! splicer/sym.GetDelta -/
noncomputable def sym_GetDelta_l0 (call : Nat → List AV → M AV) (n : Nat) (rec : List AV → M AV) (x0 x3 x4 x5 : AV) : M AV :=
  lp (aIdxA 8 1 x3 x4) fun v14 =>
  bnd (load none v14) fun v15 =>
  lp (aBin .leq [] v15 x5) fun v17 =>
  mc v17
    (lp (aBin .add [] x4 (.int .i64 1)) fun v19 =>
  rec [x0, x3, v19, x5])
    (bnd (load (some 8) x3) fun v21 =>
snap fun m =>
bnd (call fn_sym_begins [v21, x4]) fun v23 =>
snap fun _ =>
lp (aIdxA 8 1 x3 x4) fun v25 =>
bnd (load none v25) fun v26 =>
same none v25 v26 m <|
snap fun _ =>
bnd (call fn_rc_Decoder_Take [x0, v23, v26, (.int .i64 64)]) fun v27 =>
snap fun _ =>
lp (aBin .leq [] x4 (.int .i64 6)) fun v29 =>
mc v29
  (lp (aBin .add [] x4 (.int .i64 1)) fun v31 =>
  lp (aBin .quo [] v31 (.int .i64 2)) fun v32 =>
  lp (aBin .rem [] x4 (.int .i64 2)) fun v34 =>
  lp (aBin .eql [6] v34 (.int .i64 1)) fun v35 =>
  mc v35
    (lp (aUn .neg v32) fun v37 =>
    ret v37)
    (ret v32))
  (bnd (call fn_sym_GetBits [x0, (.int .i64 1)]) fun v40 =>
lp (aBin .eql [6] v40 (.int .i64 1)) fun v41 =>
bnd (call fn_sym_GetBelow [x0, (.int .i64 64)]) fun v44 =>
lp (aExt 0 v44) fun v45 =>
lp (aExt 1 v44) fun v46 =>
lp (aBin .add [] v45 (.int .i64 4)) fun v48 =>
mc v41
  (ret v48)
  (lp (aUn .neg v48) fun v52 =>
ret v52)))
noncomputable def sym_GetDelta (call : Nat → List AV → M AV) (n : Nat) (a0 : AV) : M AV :=
  bnd (call fn_sym_ends []) fun v10 =>
  bnd (alloc T_8_int [.int .i64 0, .int .i64 0, .int .i64 0, .int .i64 0, .int .i64 0, .int .i64 0, .int .i64 0, .int .i64 0]) fun v3 =>
  bnd (store (some 8) v3 v10) fun u =>
  bnd (call fn_rc_Decoder_Place [a0, (.int .i64 64)]) fun v12 =>
  loopN (fun r l => sym_GetDelta_l0 call n r (l.getD 0 .undef) (l.getD 1 .undef) (l.getD 2 .undef) (l.getD 3 .undef)) n [a0, v3, (.int .i64 0), v12]
theorem sym_GetDelta_eq {ext : Ext} (h : ext fn_sym_GetDelta = none) (n : Nat) (a0 : AV) : fcall Tryz.prog ext (n + 1) fn_sym_GetDelta [a0] = sym_GetDelta (fcall Tryz.prog ext n) n a0 := by
  unfold fcall; rw [h]; kernel_rfl

/-! splicer/pvq.Vector -/
noncomputable def pvq_Vector_l0 (call : Nat → List AV → M AV) (n : Nat) (rec : List AV → M AV) (x0_1 x1_1 x2_1 x8 x9 x28 x29 : AV) : M AV :=
  lp (aBin .lss [] x29 x28) fun v30 =>
  mc v30
    (lp (aBin .sub [] x0_1 (.int .i64 1)) fun v37 =>
  lp (aBin .sub [] v37 x29) fun v39 =>
  lp (aNil x8) fun v40 =>
  lp (aIdxA 9 25 v40 v39) fun v41 =>
  bnd (call fn_pvq_first [v41, x1_1, x2_1]) fun v44 =>
  lp (aExt 0 v44) fun v45 =>
  lp (aExt 1 v44) fun v46 =>
  lp (aIdxS 1 x9 x29) fun v47 =>
  bnd (store none v47 v45) fun u =>
  lp (aIdxS 1 x9 x29) fun v51 =>
  bnd (load none v51) fun v52 =>
  bnd (call fn_num_Abs [v52]) fun v53 =>
  lp (aBin .sub [] x1_1 v53) fun v54 =>
  lp (aBin .add [] x29 (.int .i64 1)) fun v55 =>
  rec [x0_1, v54, v46, x8, x9, x28, v55])
    (ret (.tup [x9, (.bool true)]))
noncomputable def pvq_Vector_j0 (call : Nat → List AV → M AV) (n : Nat) (x0 x1 x2 x23 : AV) : M AV :=
  mc x23
    (ret (.tup [.nilslice, (.bool false)]))
    (bnd (call fn_pvq_made []) fun v24 =>
bnd (mkSlice T_int 1 8 [.int .i64 0] x0 x0) fun v26 =>
lp (aLenS v26) fun v28 =>
loopN (fun r l => pvq_Vector_l0 call n r (l.getD 0 .undef) (l.getD 1 .undef) (l.getD 2 .undef) (l.getD 3 .undef) (l.getD 4 .undef) (l.getD 5 .undef) (l.getD 6 .undef)) n [x0, x1, x2, v24, v26, v28, (.int .i64 0)])
noncomputable def pvq_Vector (call : Nat → List AV → M AV) (n : Nat) (a0 a1 a2 : AV) : M AV :=
  lp (aBin .lss [] a0 (.int .i64 1)) fun v12 =>
  mc v12
    (pvq_Vector_j0 call n a0 a1 a2 (.bool true))
    (lp (aBin .lss [] a2 (.int .i64 0)) fun v15 =>
    mc v15
      (pvq_Vector_j0 call n a0 a1 a2 (.bool true))
      (bnd (call fn_pvq_Count [a0, a1]) fun v21 =>
      lp (aBin .geq [] a2 v21) fun v22 =>
      pvq_Vector_j0 call n a0 a1 a2 v22))
theorem pvq_Vector_eq {ext : Ext} (h : ext fn_pvq_Vector = none) (n : Nat) (a0 a1 a2 : AV) : fcall Tryz.prog ext (n + 1) fn_pvq_Vector [a0, a1, a2] = pvq_Vector (fcall Tryz.prog ext n) n a0 a1 a2 := by
  unfold fcall; rw [h]; kernel_rfl

/-! splicer/sym.GetBelow -/
noncomputable def sym_GetBelow_j0 (call : Nat → List AV → M AV) (n : Nat) (x0 x1 x14 : AV) : M AV :=
  mc x14
    (ret (.tup [(.int .i64 0), (.bool false)]))
    (bnd (call fn_sym_parted [x1]) fun v17 =>
lp (aExt 0 v17) fun v18 =>
lp (aExt 1 v17) fun v19 =>
bnd (call fn_sym_get [x0, v19]) fun v22 =>
lp (aBin .shl [] v22 v18) fun v24 =>
bnd (call fn_sym_GetBits [x0, v18]) fun v28 =>
lp (aBin .or [] v24 v28) fun v29 =>
lp (aBin .geq [] v29 x1) fun v32 =>
mc v32
  (ret (.tup [(.int .i64 0), (.bool false)]))
  (ret (.tup [v29, (.bool true)])))
noncomputable def sym_GetBelow (call : Nat → List AV → M AV) (n : Nat) (a0 a1 : AV) : M AV :=
  lp (aBin .lss [] a1 (.int .i64 1)) fun v10 =>
  mc v10
    (sym_GetBelow_j0 call n a0 a1 (.bool true))
    (lp (aBin .gtr [] a1 (.int .i64 2147483648)) fun v13 =>
    sym_GetBelow_j0 call n a0 a1 v13)
theorem sym_GetBelow_eq {ext : Ext} (h : ext fn_sym_GetBelow = none) (n : Nat) (a0 a1 : AV) : fcall Tryz.prog ext (n + 1) fn_sym_GetBelow [a0, a1] = sym_GetBelow (fcall Tryz.prog ext n) n a0 a1 := by
  unfold fcall; rw [h]; kernel_rfl

/-! splicer/sym.GetBits -/
noncomputable def sym_GetBits_j1 (call : Nat → List AV → M AV) (n : Nat) (x5_1 : AV) : M AV :=
  ret x5_1
noncomputable def sym_GetBits_l0 (call : Nat → List AV → M AV) (n : Nat) (rec : List AV → M AV) (x0_1 x1_1 x5 : AV) : M AV :=
  lp (aBin .gtr [] x1_1 (.int .i64 8)) fun v13 =>
  mc v13
    (lp (aBin .shl [] x5 (.int .u64 8)) fun v17 =>
  bnd (call fn_sym_get [x0_1, (.int .i64 256)]) fun v19 =>
  lp (aBin .or [] v17 v19) fun v20 =>
  lp (aBin .sub [] x1_1 (.int .i64 8)) fun v15 =>
  rec [x0_1, v15, v20])
    (lp (aBin .gtr [] x1_1 (.int .i64 0)) fun v22 =>
mc v22
  (lp (aBin .shl [] x5 x1_1) fun v25 =>
  lp (aBin .shl [] (.int .i64 1) x1_1) fun v28 =>
  snap fun _ =>
  bnd (call fn_sym_get [x0_1, v28]) fun v29 =>
  snap fun _ =>
  lp (aBin .or [] v25 v29) fun v30 =>
  sym_GetBits_j1 call n v30)
  (sym_GetBits_j1 call n x5))
noncomputable def sym_GetBits_j0 (call : Nat → List AV → M AV) (n : Nat) (x0 x1 x11 : AV) : M AV :=
  mc x11
    (ret (.int .i64 0))
    (loopN (fun r l => sym_GetBits_l0 call n r (l.getD 0 .undef) (l.getD 1 .undef) (l.getD 2 .undef)) n [x0, x1, (.int .i64 0)])
noncomputable def sym_GetBits (call : Nat → List AV → M AV) (n : Nat) (a0 a1 : AV) : M AV :=
  lp (aBin .lss [] a1 (.int .i64 0)) fun v7 =>
  mc v7
    (sym_GetBits_j0 call n a0 a1 (.bool true))
    (lp (aBin .gtr [] a1 (.int .i64 31)) fun v10 =>
    sym_GetBits_j0 call n a0 a1 v10)
theorem sym_GetBits_eq {ext : Ext} (h : ext fn_sym_GetBits = none) (n : Nat) (a0 a1 : AV) : fcall Tryz.prog ext (n + 1) fn_sym_GetBits [a0, a1] = sym_GetBits (fcall Tryz.prog ext n) n a0 a1 := by
  unfold fcall; rw [h]; kernel_rfl

/-! splicer/splicerref16.far -/
noncomputable def ref16_far_j0 (call : Nat → List AV → M AV) (n : Nat) (x0 x8 : AV) : M AV :=
  mc x8
    (ret (.int .i64 25))
    (lp (aUn .neg x0) fun v11 =>
lp (aFold aMax2 x0 [v11]) fun v12 =>
ret v12)
noncomputable def ref16_far (call : Nat → List AV → M AV) (n : Nat) (a0 : AV) : M AV :=
  lp (aBin .lss [] a0 (.int .i64 (-24))) fun v4 =>
  mc v4
    (ref16_far_j0 call n a0 (.bool true))
    (lp (aBin .gtr [] a0 (.int .i64 24)) fun v7 =>
    ref16_far_j0 call n a0 v7)
theorem ref16_far_eq {ext : Ext} (h : ext fn_ref16_far = none) (n : Nat) (a0 : AV) : fcall Tryz.prog ext (n + 1) fn_ref16_far [a0] = ref16_far (fcall Tryz.prog ext n) n a0 := by
  unfold fcall; rw [h]; kernel_rfl

/-! splicer/splicerref16.rows -/
noncomputable def ref16_rows_l2 (call : Nat → List AV → M AV) (n : Nat) (rec : List AV → M AV) (rec_1 : List AV → M AV) (rec_2 : List AV → M AV) (x0_2 x4_2 x5_2 x6_1 x7_1 x8 x9 : AV) : M AV :=
  lp (aBin .leq [] x9 x7_1) fun v34 =>
  mc v34
    (lp (aBin .sub [] x5_2 (.int .i64 1)) fun v40 =>
  lp (aIdxS 1 x4_2 v40) fun v41 =>
  bnd (load none v41) fun v42 =>
  lp (aBin .sub [] x7_1 x9) fun v45 =>
  lp (aIdxS 1 v42 v45) fun v46 =>
  bnd (load none v46) fun v47 =>
  lp (aBin .mul [] (.int .i64 2) v47) fun v48 =>
  lp (aBin .add [] x8 v48) fun v49 =>
  lp (aBin .add [] x9 (.int .i64 1)) fun v36 =>
  rec_2 [x0_2, x4_2, x5_2, x6_1, x7_1, v49, v36])
    (lp (aFill (fun i => some (i * 1, 1)) [.int .i64 0] [(0, x8)]) fun cs_1 =>
bnd (allocS T_int 1 1 cs_1) fun v52 =>
bnd (append T_int 1 8 x6_1 v52) fun v53 =>
lp (aBin .add [] x7_1 (.int .i64 1)) fun v23 =>
rec_1 [x0_2, x4_2, x5_2, v53, v23])
noncomputable def ref16_rows_l1 (call : Nat → List AV → M AV) (n : Nat) (rec : List AV → M AV) (rec_1 : List AV → M AV) (x0_1 x4_1 x5_1 x6 x7 : AV) : M AV :=
  lp (aBin .leq [] x7 (.int .i64 24)) fun v21 =>
  mc v21
    (lp (aBin .sub [] x5_1 (.int .i64 1)) fun v26 =>
  lp (aIdxS 1 x4_1 v26) fun v27 =>
  bnd (load none v27) fun v28 =>
  lp (aIdxS 1 v28 x7) fun v30 =>
  bnd (load none v30) fun v31 =>
  loopN (fun r l => ref16_rows_l2 call n rec rec_1 r (l.getD 0 .undef) (l.getD 1 .undef) (l.getD 2 .undef) (l.getD 3 .undef) (l.getD 4 .undef) (l.getD 5 .undef) (l.getD 6 .undef)) n [x0_1, x4_1, x5_1, x6, x7, v31, (.int .i64 1)])
    (lp (aFill (fun i => some (i * 1, 1)) [.nilslice] [(0, x6)]) fun cs_2 =>
bnd (allocS T_sl_int 1 1 cs_2) fun v56 =>
bnd (append T_sl_int 1 24 x4_1 v56) fun v57 =>
lp (aBin .add [] x5_1 (.int .i64 1)) fun v19 =>
rec [x0_1, v57, v19])
noncomputable def ref16_rows_l0 (call : Nat → List AV → M AV) (n : Nat) (rec : List AV → M AV) (x0 x4 x5 : AV) : M AV :=
  lp (aBin .leq [] x5 x0) fun v17 =>
  mc v17
    (loopN (fun r l => ref16_rows_l1 call n rec r (l.getD 0 .undef) (l.getD 1 .undef) (l.getD 2 .undef) (l.getD 3 .undef) (l.getD 4 .undef)) n [x0, x4, x5, .nilslice, (.int .i64 0)])
    (ret x4)
noncomputable def ref16_rows (call : Nat → List AV → M AV) (n : Nat) (a0 : AV) : M AV :=
  bnd (mkSlice T_int 1 8 [.int .i64 0] (.int .i64 25) (.int .i64 25)) fun v10 =>
  lp (aIdxS 1 v10 (.int .i64 0)) fun v12 =>
  bnd (store none v12 (.int .i64 1)) fun u =>
  lp (aFill (fun i => some (i * 1, 1)) [.nilslice] [(0, v10)]) fun cs =>
  bnd (allocS T_sl_int 1 1 cs) fun v14 =>
  loopN (fun r l => ref16_rows_l0 call n r (l.getD 0 .undef) (l.getD 1 .undef) (l.getD 2 .undef)) n [a0, v14, (.int .i64 1)]
theorem ref16_rows_eq {ext : Ext} (h : ext fn_ref16_rows = none) (n : Nat) (a0 : AV) : fcall Tryz.prog ext (n + 1) fn_ref16_rows [a0] = ref16_rows (fcall Tryz.prog ext n) n a0 := by
  unfold fcall; rw [h]; kernel_rfl

/-! splicer/splicerref05.small -/
noncomputable def ref05_small (call : Nat → List AV → M AV) (n : Nat) (a0 : AV) : M AV :=
  lp (aBin .eql [6] a0 (.int .i64 0)) fun v6 =>
  mc v6
    (ret (.tup [(.int .i64 0), (.int .i64 24)]))
    (lp (aBin .eql [6] a0 (.int .i64 (-1))) fun v8 =>
    mc v8
      (ret (.tup [(.int .i64 24), (.int .i64 32)]))
      (lp (aBin .eql [6] a0 (.int .i64 1)) fun v10 =>
      mc v10
        (ret (.tup [(.int .i64 32), (.int .i64 40)]))
        (lp (aBin .eql [6] a0 (.int .i64 (-2))) fun v12 =>
        mc v12
          (ret (.tup [(.int .i64 40), (.int .i64 45)]))
          (lp (aBin .eql [6] a0 (.int .i64 2)) fun v14 =>
          mc v14
            (ret (.tup [(.int .i64 45), (.int .i64 50)]))
            (lp (aBin .eql [6] a0 (.int .i64 (-3))) fun v16 =>
            mc v16
              (ret (.tup [(.int .i64 50), (.int .i64 53)]))
              (lp (aBin .eql [6] a0 (.int .i64 3)) fun v18 =>
              mc v18
                (ret (.tup [(.int .i64 53), (.int .i64 56)]))
                (ret (.tup [(.int .i64 56), (.int .i64 64)]))))))))
theorem ref05_small_eq {ext : Ext} (h : ext fn_ref05_small = none) (n : Nat) (a0 : AV) : fcall Tryz.prog ext (n + 1) fn_ref05_small [a0] = ref05_small (fcall Tryz.prog ext n) n a0 := by
  unfold fcall; rw [h]; kernel_rfl

/-! splicer/splicerref14.expected -/
noncomputable def ref14_expected_j1 (call : Nat → List AV → M AV) (n : Nat) (x1_1 x3_1 x9 : AV) : M AV :=
  lp (aIdxS 1 x1_1 x3_1) fun v33 =>
  bnd (load none v33) fun v34 =>
  lp (aBin .mul [] (.int .i64 3) v34) fun v35 =>
  lp (aBin .add [] v35 x9) fun v37 =>
  lp (aBin .quo [] v37 (.int .i64 4)) fun v38 =>
  ret v38
noncomputable def ref14_expected_j0 (call : Nat → List AV → M AV) (n : Nat) (x0 x1 x2 x3 x14 : AV) : M AV :=
  mc x14
    (ret (.int .i64 8))
    (mc x0
  (lp (aBin .sub [] x3 (.int .i64 1)) fun v18 =>
  lp (aIdxS 1 x2 v18) fun v19 =>
  bnd (load none v19) fun v20 =>
  ret v20)
  (lp (aIdxS 1 x1 (.int .i64 0)) fun v22 =>
bnd (load none v22) fun v23 =>
lp (aBin .gtr [] x3 (.int .i64 0)) fun v25 =>
mc v25
  (lp (aBin .sub [] x3 (.int .i64 1)) fun v28 =>
  lp (aIdxS 1 x2 v28) fun v29 =>
  bnd (load none v29) fun v30 =>
  ref14_expected_j1 call n x1 x3 v30)
  (ref14_expected_j1 call n x1 x3 v23)))
noncomputable def ref14_expected (call : Nat → List AV → M AV) (n : Nat) (a0 a1 a2 a3 : AV) : M AV :=
  mc a0
    (lp (aBin .eql [6] a3 (.int .i64 0)) fun v13 =>
    ref14_expected_j0 call n a0 a1 a2 a3 v13)
    (ref14_expected_j0 call n a0 a1 a2 a3 (.bool false))
theorem ref14_expected_eq {ext : Ext} (h : ext fn_ref14_expected = none) (n : Nat) (a0 a1 a2 a3 : AV) : fcall Tryz.prog ext (n + 1) fn_ref14_expected [a0, a1, a2, a3] = ref14_expected (fcall Tryz.prog ext n) n a0 a1 a2 a3 := by
  unfold fcall; rw [h]; kernel_rfl

/-! splicer/splicerref04.carried -/
noncomputable def ref04_carried_l0 (call : Nat → List AV → M AV) (n : Nat) (rec : List AV → M AV) (x3 x4 : AV) : M AV :=
  lp (aBin .geq [] x4 (.int .i64 0)) fun v12 =>
  mc v12
    (lp (aIdxS 1 x3 x4) fun v17 =>
  bnd (load none v17) fun v18 =>
  lp (aBin .lss [] v18 (.int .i64 255)) fun v19 =>
  mc v19
    (lp (aIdxS 1 x3 x4) fun v24 =>
    bnd (load none v24) fun v25 =>
    lp (aBin .add [] v25 (.int .i64 1)) fun v26 =>
    lp (aIdxS 1 x3 x4) fun v27 =>
    bnd (store none v27 v26) fun u =>
    ret x3)
    (lp (aIdxS 1 x3 x4) fun v31 =>
  bnd (store none v31 (.int .i64 0)) fun u_1 =>
  lp (aBin .sub [] x4 (.int .i64 1)) fun v14 =>
  rec [x3, v14]))
    (ret x3)
noncomputable def ref04_carried (call : Nat → List AV → M AV) (n : Nat) (a0 : AV) : M AV :=
  bnd (append T_int 1 8 .nilslice a0) fun v7 =>
  lp (aLenS v7) fun v9 =>
  lp (aBin .sub [] v9 (.int .i64 1)) fun v10 =>
  loopN (fun r l => ref04_carried_l0 call n r (l.getD 0 .undef) (l.getD 1 .undef)) n [v7, v10]
theorem ref04_carried_eq {ext : Ext} (h : ext fn_ref04_carried = none) (n : Nat) (a0 : AV) : fcall Tryz.prog ext (n + 1) fn_ref04_carried [a0] = ref04_carried (fcall Tryz.prog ext n) n a0 := by
  unfold fcall; rw [h]; kernel_rfl

/-! splicer/splicerref04.narrow -/
noncomputable def ref04_narrow (call : Nat → List AV → M AV) (n : Nat) (a0 a1 a2 a3 : AV) : M AV :=
  lp (aBin .quo [] a0 a3) fun v12 =>
  lp (aBin .eql [6] a2 a3) fun v15 =>
  mc v15
    (lp (aBin .mul [] v12 a1) fun v19 =>
    lp (aBin .sub [] a0 v19) fun v20 =>
    ret v20)
    (lp (aBin .sub [] a2 a1) fun v24 =>
  lp (aBin .mul [] v12 v24) fun v25 =>
  ret v25)
theorem ref04_narrow_eq {ext : Ext} (h : ext fn_ref04_narrow = none) (n : Nat) (a0 a1 a2 a3 : AV) : fcall Tryz.prog ext (n + 1) fn_ref04_narrow [a0, a1, a2, a3] = ref04_narrow (fcall Tryz.prog ext n) n a0 a1 a2 a3 := by
  unfold fcall; rw [h]; kernel_rfl

/-! splicer/splicerref04.Right -/
noncomputable def ref04_Right_j0 (call : Nat → List AV → M AV) (n : Nat) (x6 : AV) : M AV :=
  ret x6
noncomputable def ref04_Right (call : Nat → List AV → M AV) (n : Nat) (a0 a1 a2 : AV) : M AV :=
  lp (aBin .geq [] a2 (.int .i64 1)) fun v8 =>
  mc v8
    (lp (aBin .leq [] a2 (.int .i64 65536)) fun v11 =>
    mc v11
      (lp (aBin .geq [] a0 (.int .i64 0)) fun v15 =>
      mc v15
        (lp (aBin .lss [] a0 a1) fun v20 =>
        mc v20
          (lp (aBin .leq [] a1 a2) fun v25 =>
          ref04_Right_j0 call n v25)
          (ref04_Right_j0 call n (.bool false)))
        (ref04_Right_j0 call n (.bool false)))
      (ref04_Right_j0 call n (.bool false)))
    (ref04_Right_j0 call n (.bool false))
theorem ref04_Right_eq {ext : Ext} (h : ext fn_ref04_Right = none) (n : Nat) (a0 a1 a2 : AV) : fcall Tryz.prog ext (n + 1) fn_ref04_Right [a0, a1, a2] = ref04_Right (fcall Tryz.prog ext n) n a0 a1 a2 := by
  unfold fcall; rw [h]; kernel_rfl

/-! splicer/splicerref01.Within -/
noncomputable def ref01_Within_j0 (call : Nat → List AV → M AV) (n : Nat) (rec : List AV → M AV) (x0_1 x1_1 x2_1 x7_1 x21_1 x22_1 x23_1 x24_1 x25_1 x26_1 x27 : AV) : M AV :=
  mc x27
    (ret (.bool false))
    (lp (aBin .add [] x7_1 (.int .i64 1)) fun v13 =>
rec [x0_1, x1_1, x2_1, v13, x21_1, x22_1, x23_1, x24_1, x25_1, x26_1])
noncomputable def ref01_Within_l0 (call : Nat → List AV → M AV) (n : Nat) (rec : List AV → M AV) (x0 x1 x2 x7 x21 x22 x23 x24 x25 x26 : AV) : M AV :=
  lp (aLenS x0) fun v10 =>
  lp (aBin .lss [] x7 v10) fun v11 =>
  mc v11
    (lp (aIdxS 1 x0 x7) fun v16 =>
  bnd (load none v16) fun v17 =>
  lp (aBin .lss [] v17 x1) fun v19 =>
  mc v19
    (ref01_Within_j0 call n rec x0 x1 x2 x7 (.tup []) (.tup []) (.tup []) (.tup []) (.tup []) (.tup []) (.bool true))
    (lp (aIdxS 1 x0 x7) fun v23 =>
    bnd (load none v23) fun v24 =>
    lp (aBin .gtr [] v24 x2) fun v26 =>
    ref01_Within_j0 call n rec x0 x1 x2 x7 x0 x7 v23 v24 x2 v26 v26))
    (ret (.bool true))
noncomputable def ref01_Within (call : Nat → List AV → M AV) (n : Nat) (a0 a1 a2 : AV) : M AV :=
  loopN (fun r l => ref01_Within_l0 call n r (l.getD 0 .undef) (l.getD 1 .undef) (l.getD 2 .undef) (l.getD 3 .undef) (l.getD 4 .undef) (l.getD 5 .undef) (l.getD 6 .undef) (l.getD 7 .undef) (l.getD 8 .undef) (l.getD 9 .undef)) n [a0, a1, a2, (.int .i64 0), .undef, .undef, .undef, .undef, .undef, .undef]
theorem ref01_Within_eq {ext : Ext} (h : ext fn_ref01_Within = none) (n : Nat) (a0 a1 a2 : AV) : fcall Tryz.prog ext (n + 1) fn_ref01_Within [a0, a1, a2] = ref01_Within (fcall Tryz.prog ext n) n a0 a1 a2 := by
  unfold fcall; rw [h]; kernel_rfl

/-! splicer/splicerref16.Size -/
noncomputable def ref16_Size_l0 (call : Nat → List AV → M AV) (n : Nat) (rec : List AV → M AV) (x0_1 x4 x5 : AV) : M AV :=
  lp (aLenS x0_1) fun v16 =>
  lp (aBin .lss [] x5 v16) fun v17 =>
  mc v17
    (lp (aIdxS 1 x0_1 x5) fun v23 =>
  bnd (load none v23) fun v24 =>
  bnd (call fn_ref16_far [v24]) fun v25 =>
  lp (aBin .add [] x4 v25) fun v26 =>
  lp (aBin .add [] x5 (.int .i64 1)) fun v19 =>
  rec [x0_1, v26, v19])
    (lp (aBin .gtr [] x4 (.int .i64 24)) fun v28 =>
mc v28
  (ret (.tup [(.int .i64 0), (.bool false)]))
  (ret (.tup [x4, (.bool true)])))
noncomputable def ref16_Size_j0 (call : Nat → List AV → M AV) (n : Nat) (x0 x13 : AV) : M AV :=
  mc x13
    (ret (.tup [(.int .i64 0), (.bool false)]))
    (loopN (fun r l => ref16_Size_l0 call n r (l.getD 0 .undef) (l.getD 1 .undef) (l.getD 2 .undef)) n [x0, (.int .i64 0), (.int .i64 0)])
noncomputable def ref16_Size (call : Nat → List AV → M AV) (n : Nat) (a0 : AV) : M AV :=
  lp (aLenS a0) fun v7 =>
  lp (aBin .lss [] v7 (.int .i64 1)) fun v8 =>
  mc v8
    (ref16_Size_j0 call n a0 (.bool true))
    (lp (aLenS a0) fun v11 =>
    lp (aBin .gtr [] v11 (.int .i64 8)) fun v12 =>
    ref16_Size_j0 call n a0 v12)
theorem ref16_Size_eq {ext : Ext} (h : ext fn_ref16_Size = none) (n : Nat) (a0 : AV) : fcall Tryz.prog ext (n + 1) fn_ref16_Size [a0] = ref16_Size (fcall Tryz.prog ext n) n a0 := by
  unfold fcall; rw [h]; kernel_rfl

/-! strings.trimRightByte -/
noncomputable def strings_trimRightByte_j0 (call : Nat → List AV → M AV) (n : Nat) (rec : List AV → M AV) (x0_1 x1_1 x9_1 x10_1 x11_1 x12_1 x13_1 x14_1 x15_1 x16 : AV) : M AV :=
  mc x16
    (lp (aLenStr x0_1) fun v19 =>
lp (aBin .sub [] v19 (.int .i64 1)) fun v20 =>
lp (aSliceStr x0_1 none (some v20)) fun v21 =>
rec [v21, x1_1, x9_1, x10_1, x11_1, x12_1, x13_1, x14_1, x15_1])
    (ret x0_1)
noncomputable def strings_trimRightByte_l0 (call : Nat → List AV → M AV) (n : Nat) (rec : List AV → M AV) (x0 x1 x9 x10 x11 x12 x13 x14 x15 : AV) : M AV :=
  lp (aLenStr x0) fun v6 =>
  lp (aBin .gtr [] v6 (.int .i64 0)) fun v7 =>
  mc v7
    (lp (aLenStr x0) fun v11 =>
    lp (aBin .sub [] v11 (.int .i64 1)) fun v12 =>
    lp (aIdxStr x0 v12) fun v13 =>
    lp (aBin .eql [6] v13 x1) fun v15 =>
    strings_trimRightByte_j0 call n rec x0 x1 x0 x0 v11 v12 v13 x1 v15 v15)
    (strings_trimRightByte_j0 call n rec x0 x1 (.tup []) (.tup []) (.tup []) (.tup []) (.tup []) (.tup []) (.tup []) (.bool false))
noncomputable def strings_trimRightByte (call : Nat → List AV → M AV) (n : Nat) (a0 a1 : AV) : M AV :=
  loopN (fun r l => strings_trimRightByte_l0 call n r (l.getD 0 .undef) (l.getD 1 .undef) (l.getD 2 .undef) (l.getD 3 .undef) (l.getD 4 .undef) (l.getD 5 .undef) (l.getD 6 .undef) (l.getD 7 .undef) (l.getD 8 .undef)) n [a0, a1, .undef, .undef, .undef, .undef, .undef, .undef, .undef]
theorem strings_trimRightByte_eq {ext : Ext} (h : ext fn_strings_trimRightByte = none) (n : Nat) (a0 a1 : AV) : fcall Tryz.prog ext (n + 1) fn_strings_trimRightByte [a0, a1] = strings_trimRightByte (fcall Tryz.prog ext n) n a0 a1 := by
  unfold fcall; rw [h]; kernel_rfl

/-! (*strings.Builder).copyCheck -/
noncomputable def strings_Builder_copyCheck (call : Nat → List AV → M AV) (n : Nat) (a0 : AV) : M AV :=
  lp (aNil a0) fun v3 =>
  lp (aOff 0 v3) fun v4 =>
  bnd (load none v4) fun v5 =>
  lp (aBin .eql [3] v5 .nilptr) fun v6 =>
  mc v6
    (bnd (toUnsafe a0) fun v9 =>
    bnd (call fn_internal_abi_NoEscape [v9]) fun v10 =>
    bnd (fromUnsafe Tryz.prog.cellsOf (fun ty o => rowAt Tryz.prog (sameLayout Tryz.prog Tryz.prog.depth · T_strings_Builder) Tryz.prog.depth ty 1 o 1) v10) fun v11 =>
    lp (aNil a0) fun v12 =>
    lp (aOff 0 v12) fun v13 =>
    bnd (store none v13 v11) fun u =>
    ret (.tup []))
    (lp (aNil a0) fun v15 =>
    lp (aOff 0 v15) fun v16 =>
    bnd (load none v16) fun v17 =>
    lp (aBin .neq [3] v17 a0) fun v19 =>
    mc v19
      (fail /- code refuse -/)
      (ret (.tup [])))
theorem strings_Builder_copyCheck_eq {ext : Ext} (h : ext fn_strings_Builder_copyCheck = none) (n : Nat) (a0 : AV) : fcall Tryz.prog ext (n + 1) fn_strings_Builder_copyCheck [a0] = strings_Builder_copyCheck (fcall Tryz.prog ext n) n a0 := by
  unfold fcall; rw [h]; kernel_rfl

/-! splicer/energy.expects$2 -/
noncomputable def energy_expects_c2_j0 (call : Nat → List AV → M AV) (n : Nat) (x0 x1 x2 : AV) : M AV :=
  bnd (load none x2) fun v11 =>
  lp (aIdxS 1 v11 x0) fun v13 =>
  bnd (load none v13) fun v14 =>
  lp (aBin .mul [] (.int .i64 3) v14) fun v15 =>
  lp (aBin .add [] v15 x1) fun v17 =>
  lp (aBin .quo [] v17 (.int .i64 4)) fun v18 =>
  ret v18
noncomputable def energy_expects_c2 (call : Nat → List AV → M AV) (n : Nat) (a0 a1 a2 : AV) : M AV :=
  lp (aBin .eql [6] a0 (.int .i64 0)) fun v7 =>
  mc v7
    (bnd (load none a2) fun v8 =>
    lp (aIdxS 1 v8 (.int .i64 0)) fun v9 =>
    bnd (load none v9) fun v10 =>
    energy_expects_c2_j0 call n a0 v10 a2)
    (energy_expects_c2_j0 call n a0 a1 a2)
theorem energy_expects_c2_eq {ext : Ext} (h : ext fn_energy_expects_c2 = none) (n : Nat) (a0 a1 a2 : AV) : fcall Tryz.prog ext (n + 1) fn_energy_expects_c2 [a0, a1, a2] = energy_expects_c2 (fcall Tryz.prog ext n) n a0 a1 a2 := by
  unfold fcall; rw [h]; kernel_rfl

/-! splicer/energy.expects$1 -/
noncomputable def energy_expects_c1 (call : Nat → List AV → M AV) (n : Nat) (a0 a1 : AV) : M AV :=
  lp (aBin .eql [6] a0 (.int .i64 0)) fun v6 =>
  mc v6
    (ret (.int .i64 8))
    (ret a1)
theorem energy_expects_c1_eq {ext : Ext} (h : ext fn_energy_expects_c1 = none) (n : Nat) (a0 a1 : AV) : fcall Tryz.prog ext (n + 1) fn_energy_expects_c1 [a0, a1] = energy_expects_c1 (fcall Tryz.prog ext n) n a0 a1 := by
  unfold fcall; rw [h]; kernel_rfl

/-! splicer/num.Abs -/
noncomputable def num_Abs (call : Nat → List AV → M AV) (n : Nat) (a0 : AV) : M AV :=
  lp (aFill (fun i => some (i * 1, 1)) [.int .i64 0] [(0, a0)]) fun cs =>
  bnd (allocS T_int 1 1 cs) fun v5 =>
  bnd (call fn_num_within [(.int .i64 4611686018427387904), v5]) fun v6 =>
  lp (aUn .not v6) fun v7 =>
  mc v7
    (ret (.int .i64 0))
    (lp (aBin .lss [] a0 (.int .i64 0)) fun v10 =>
    mc v10
      (lp (aUn .neg a0) fun v12 =>
      ret v12)
      (ret a0))
theorem num_Abs_eq {ext : Ext} (h : ext fn_num_Abs = none) (n : Nat) (a0 : AV) : fcall Tryz.prog ext (n + 1) fn_num_Abs [a0] = num_Abs (fcall Tryz.prog ext n) n a0 := by
  unfold fcall; rw [h]; kernel_rfl

/-! splicer/pvq.made -/
noncomputable def pvq_made_l1 (call : Nat → List AV → M AV) (n : Nat) (rec : List AV → M AV) (rec_1 : List AV → M AV) (x1_1 x2 x10_1 x19 : AV) : M AV :=
  lp (aBin .lss [] x19 (.int .i64 24)) fun v20 =>
  mc v20
    (lp (aBin .add [] x2 (.int .i64 1)) fun v24 =>
  lp (aBin .add [] x19 (.int .i64 1)) fun v26 =>
  lp (aBin .add [] x19 (.int .i64 1)) fun v30 =>
  lp (aNil x1_1) fun v31 =>
  lp (aIdxA 9 25 v31 x2) fun v32 =>
  lp (aIdxA 25 1 v32 v30) fun v33 =>
  bnd (load none v33) fun v34 =>
  lp (aBin .add [] x2 (.int .i64 1)) fun v37 =>
  lp (aNil x1_1) fun v39 =>
  lp (aIdxA 9 25 v39 v37) fun v40 =>
  lp (aIdxA 25 1 v40 x19) fun v41 =>
  bnd (load none v41) fun v42 =>
  lp (aBin .add [] v34 v42) fun v43 =>
  lp (aNil x1_1) fun v47 =>
  lp (aIdxA 9 25 v47 x2) fun v48 =>
  lp (aIdxA 25 1 v48 x19) fun v49 =>
  bnd (load none v49) fun v50 =>
  lp (aBin .add [] v43 v50) fun v51 =>
  lp (aNil x1_1) fun v52 =>
  lp (aIdxA 9 25 v52 v24) fun v53 =>
  lp (aIdxA 25 1 v53 v26) fun v54 =>
  snap fun _ =>
  bnd (store none v54 v51) fun u_2 =>
  snap fun _ =>
  lp (aBin .add [] x19 (.int .i64 1)) fun v55 =>
  rec_1 [x1_1, x2, x10_1, v55])
    (lp (aBin .add [] x10_1 (.int .i64 1)) fun v56 =>
rec [x1_1, v56])
noncomputable def pvq_made_l0 (call : Nat → List AV → M AV) (n : Nat) (rec : List AV → M AV) (x1 x10 : AV) : M AV :=
  lp (aBin .lss [] x10 (.int .i64 8)) fun v11 =>
  mc v11
    (lp (aBin .add [] x10 (.int .i64 1)) fun v15 =>
  lp (aNil x1) fun v16 =>
  lp (aIdxA 9 25 v16 v15) fun v17 =>
  lp (aIdxA 25 1 v17 (.int .i64 0)) fun v18 =>
  bnd (store none v18 (.int .i64 1)) fun u_1 =>
  loopN (fun r l => pvq_made_l1 call n rec r (l.getD 0 .undef) (l.getD 1 .undef) (l.getD 2 .undef) (l.getD 3 .undef)) n [x1, x10, x10, (.int .i64 0)])
    (ret x1)
noncomputable def pvq_made (call : Nat → List AV → M AV) (n : Nat) : M AV :=
  lp ((aFill (fun i => some (i * 25, 25)) [.int .i64 0, .int .i64 0, .int .i64 0, .int .i64 0, .int .i64 0, .int .i64 0, .int .i64 0, .int .i64 0, .int .i64 0, .int .i64 0, .int .i64 0, .int .i64 0, .int .i64 0, .int .i64 0, .int .i64 0, .int .i64 0, .int .i64 0, .int .i64 0, .int .i64 0, .int .i64 0, .int .i64 0, .int .i64 0, .int .i64 0, .int .i64 0, .int .i64 0, .int .i64 0, .int .i64 0, .int .i64 0, .int .i64 0, .int .i64 0, .int .i64 0, .int .i64 0, .int .i64 0, .int .i64 0, .int .i64 0, .int .i64 0, .int .i64 0, .int .i64 0, .int .i64 0, .int .i64 0, .int .i64 0, .int .i64 0, .int .i64 0, .int .i64 0, .int .i64 0, .int .i64 0, .int .i64 0, .int .i64 0, .int .i64 0, .int .i64 0, .int .i64 0, .int .i64 0, .int .i64 0, .int .i64 0, .int .i64 0, .int .i64 0, .int .i64 0, .int .i64 0, .int .i64 0, .int .i64 0, .int .i64 0, .int .i64 0, .int .i64 0, .int .i64 0, .int .i64 0, .int .i64 0, .int .i64 0, .int .i64 0, .int .i64 0, .int .i64 0, .int .i64 0, .int .i64 0, .int .i64 0, .int .i64 0, .int .i64 0, .int .i64 0, .int .i64 0, .int .i64 0, .int .i64 0, .int .i64 0, .int .i64 0, .int .i64 0, .int .i64 0, .int .i64 0, .int .i64 0, .int .i64 0, .int .i64 0, .int .i64 0, .int .i64 0, .int .i64 0, .int .i64 0, .int .i64 0, .int .i64 0, .int .i64 0, .int .i64 0, .int .i64 0, .int .i64 0, .int .i64 0, .int .i64 0, .int .i64 0, .int .i64 0, .int .i64 0, .int .i64 0, .int .i64 0, .int .i64 0, .int .i64 0, .int .i64 0, .int .i64 0, .int .i64 0, .int .i64 0, .int .i64 0, .int .i64 0, .int .i64 0, .int .i64 0, .int .i64 0, .int .i64 0, .int .i64 0, .int .i64 0, .int .i64 0, .int .i64 0, .int .i64 0, .int .i64 0, .int .i64 0, .int .i64 0, .int .i64 0, .int .i64 0, .int .i64 0, .int .i64 0, .int .i64 0, .int .i64 0, .int .i64 0, .int .i64 0, .int .i64 0, .int .i64 0, .int .i64 0, .int .i64 0, .int .i64 0, .int .i64 0, .int .i64 0, .int .i64 0, .int .i64 0, .int .i64 0, .int .i64 0, .int .i64 0, .int .i64 0, .int .i64 0, .int .i64 0, .int .i64 0, .int .i64 0, .int .i64 0, .int .i64 0, .int .i64 0, .int .i64 0, .int .i64 0, .int .i64 0, .int .i64 0, .int .i64 0, .int .i64 0, .int .i64 0, .int .i64 0, .int .i64 0, .int .i64 0, .int .i64 0, .int .i64 0, .int .i64 0, .int .i64 0, .int .i64 0, .int .i64 0, .int .i64 0, .int .i64 0, .int .i64 0, .int .i64 0, .int .i64 0, .int .i64 0, .int .i64 0, .int .i64 0, .int .i64 0, .int .i64 0, .int .i64 0, .int .i64 0, .int .i64 0, .int .i64 0, .int .i64 0, .int .i64 0, .int .i64 0, .int .i64 0, .int .i64 0, .int .i64 0, .int .i64 0, .int .i64 0, .int .i64 0, .int .i64 0, .int .i64 0, .int .i64 0, .int .i64 0, .int .i64 0, .int .i64 0, .int .i64 0, .int .i64 0, .int .i64 0, .int .i64 0, .int .i64 0, .int .i64 0, .int .i64 0, .int .i64 0, .int .i64 0, .int .i64 0, .int .i64 0, .int .i64 0, .int .i64 0, .int .i64 0, .int .i64 0, .int .i64 0, .int .i64 0, .int .i64 0, .int .i64 0, .int .i64 0, .int .i64 0, .int .i64 0, .int .i64 0, .int .i64 0, .int .i64 0, .int .i64 0, .int .i64 0, .int .i64 0] []).map .agg) fun v4 =>
  bnd (box T_pvq_table v4) fun v5 =>
  lp (aNil v5) fun v7 =>
  lp (aIdxA 9 25 v7 (.int .i64 0)) fun v8 =>
  lp (aIdxA 25 1 v8 (.int .i64 0)) fun v9 =>
  bnd (store none v9 (.int .i64 1)) fun u =>
  loopN (fun r l => pvq_made_l0 call n r (l.getD 0 .undef) (l.getD 1 .undef)) n [v5, (.int .i64 0)]
theorem pvq_made_eq {ext : Ext} (h : ext fn_pvq_made = none) (n : Nat) : fcall Tryz.prog ext (n + 1) fn_pvq_made [] = pvq_made (fcall Tryz.prog ext n) n := by
  unfold fcall; rw [h]; kernel_rfl

/-! splicer/alloc.times -/
noncomputable def alloc_times (call : Nat → List AV → M AV) (n : Nat) (a0 : AV) : M AV :=
  lp (aBin .eql [6] a0 (.int .i64 2)) fun v5 =>
  mc v5
    (ret (.int .i64 1))
    (lp (aBin .eql [6] a0 (.int .i64 4)) fun v7 =>
    mc v7
      (ret (.int .i64 2))
      (lp (aBin .eql [6] a0 (.int .i64 8)) fun v9 =>
      mc v9
        (ret (.int .i64 3))
        (ret (.int .i64 0))))
theorem alloc_times_eq {ext : Ext} (h : ext fn_alloc_times = none) (n : Nat) (a0 : AV) : fcall Tryz.prog ext (n + 1) fn_alloc_times [a0] = alloc_times (fcall Tryz.prog ext n) n a0 := by
  unfold fcall; rw [h]; kernel_rfl

/-! splicer/alloc.held[int] -/
noncomputable def alloc_held_int (call : Nat → List AV → M AV) (n : Nat) (a0 a1 a2 : AV) : M AV :=
  lp (aFold aMin2 a2 [a0]) fun v10 =>
  lp (aFold aMax2 a1 [v10]) fun v11 =>
  ret v11
theorem alloc_held_int_eq {ext : Ext} (h : ext fn_alloc_held_int = none) (n : Nat) (a0 a1 a2 : AV) : fcall Tryz.prog ext (n + 1) fn_alloc_held_int [a0, a1, a2] = alloc_held_int (fcall Tryz.prog ext n) n a0 a1 a2 := by
  unfold fcall; rw [h]; kernel_rfl

/-! splicer/alloc.good -/
noncomputable def alloc_good (call : Nat → List AV → M AV) (n : Nat) (a0 : AV) : M AV :=
  bnd (call fn_alloc_held_int [a0, (.int .i64 0), (.int .i64 10)]) fun v4 =>
  lp (aBin .eql [6] v4 a0) fun v6 =>
  ret v6
theorem alloc_good_eq {ext : Ext} (h : ext fn_alloc_good = none) (n : Nat) (a0 : AV) : fcall Tryz.prog ext (n + 1) fn_alloc_good [a0] = alloc_good (fcall Tryz.prog ext n) n a0 := by
  unfold fcall; rw [h]; kernel_rfl

/-! splicer/layout.widths -/
noncomputable def layout_widths (call : Nat → List AV → M AV) (n : Nat) : M AV :=
  bnd (alloc T_13_int [.int .i64 0, .int .i64 0, .int .i64 0, .int .i64 0, .int .i64 0, .int .i64 0, .int .i64 0, .int .i64 0, .int .i64 0, .int .i64 0, .int .i64 0, .int .i64 0, .int .i64 0]) fun v0 =>
  lp ((aFill (fun i => some (i * 1, 1)) [.int .i64 0, .int .i64 0, .int .i64 0, .int .i64 0, .int .i64 0, .int .i64 0, .int .i64 0, .int .i64 0, .int .i64 0, .int .i64 0, .int .i64 0, .int .i64 0, .int .i64 0] [(0, (.int .i64 2)), (1, (.int .i64 2)), (2, (.int .i64 2)), (3, (.int .i64 2)), (4, (.int .i64 4)), (5, (.int .i64 4)), (6, (.int .i64 4)), (7, (.int .i64 4)), (8, (.int .i64 8)), (9, (.int .i64 8)), (10, (.int .i64 8)), (11, (.int .i64 8)), (12, (.int .i64 8))]).map .agg) fun v1 =>
  bnd (store (some 13) v0 v1) fun u =>
  bnd (load (some 13) v0) fun r =>
  ret r
theorem layout_widths_eq {ext : Ext} (h : ext fn_layout_widths = none) (n : Nat) : fcall Tryz.prog ext (n + 1) fn_layout_widths [] = layout_widths (fcall Tryz.prog ext n) n := by
  unfold fcall; rw [h]; kernel_rfl

/-! splicer/sym.begins -/
noncomputable def sym_begins (call : Nat → List AV → M AV) (n : Nat) (a0 a1 : AV) : M AV :=
  bnd (box T_8_int a0) fun v2 =>
  lp (aBin .eql [6] a1 (.int .i64 0)) fun v6 =>
  mc v6
    (ret (.int .i64 0))
    (lp (aBin .sub [] a1 (.int .i64 1)) fun v8 =>
  lp (aIdxA 8 1 v2 v8) fun v9 =>
  bnd (load none v9) fun v10 =>
  ret v10)
theorem sym_begins_eq {ext : Ext} (h : ext fn_sym_begins = none) (n : Nat) (a0 a1 : AV) : fcall Tryz.prog ext (n + 1) fn_sym_begins [a0, a1] = sym_begins (fcall Tryz.prog ext n) n a0 a1 := by
  unfold fcall; rw [h]; kernel_rfl

/-! splicer/sym.rank -/
noncomputable def sym_rank_j0 (call : Nat → List AV → M AV) (n : Nat) (x0 x3 : AV) : M AV :=
  mc x3
    (ret (.int .i64 7))
    (lp (aBin .gtr [] x0 (.int .i64 0)) fun v12 =>
    mc v12
      (lp (aBin .mul [] (.int .i64 2) x0) fun v14 =>
      ret v14)
      (lp (aBin .lss [] x0 (.int .i64 0)) fun v17 =>
      mc v17
        (lp (aBin .mul [] (.int .i64 (-2)) x0) fun v19 =>
        lp (aBin .sub [] v19 (.int .i64 1)) fun v20 =>
        ret v20)
        (ret (.int .i64 0))))
noncomputable def sym_rank (call : Nat → List AV → M AV) (n : Nat) (a0 : AV) : M AV :=
  lp (aBin .lss [] a0 (.int .i64 (-3))) fun v5 =>
  mc v5
    (sym_rank_j0 call n a0 (.bool true))
    (lp (aBin .gtr [] a0 (.int .i64 3)) fun v8 =>
    sym_rank_j0 call n a0 v8)
theorem sym_rank_eq {ext : Ext} (h : ext fn_sym_rank = none) (n : Nat) (a0 : AV) : fcall Tryz.prog ext (n + 1) fn_sym_rank [a0] = sym_rank (fcall Tryz.prog ext n) n a0 := by
  unfold fcall; rw [h]; kernel_rfl

/-! splicer/sym.ends -/
noncomputable def sym_ends (call : Nat → List AV → M AV) (n : Nat) : M AV :=
  bnd (alloc T_8_int [.int .i64 0, .int .i64 0, .int .i64 0, .int .i64 0, .int .i64 0, .int .i64 0, .int .i64 0, .int .i64 0]) fun v0 =>
  lp ((aFill (fun i => some (i * 1, 1)) [.int .i64 0, .int .i64 0, .int .i64 0, .int .i64 0, .int .i64 0, .int .i64 0, .int .i64 0, .int .i64 0] [(0, (.int .i64 24)), (1, (.int .i64 32)), (2, (.int .i64 40)), (3, (.int .i64 45)), (4, (.int .i64 50)), (5, (.int .i64 53)), (6, (.int .i64 56)), (7, (.int .i64 64))]).map .agg) fun v1 =>
  bnd (store (some 8) v0 v1) fun u =>
  bnd (load (some 8) v0) fun r =>
  ret r
theorem sym_ends_eq {ext : Ext} (h : ext fn_sym_ends = none) (n : Nat) : fcall Tryz.prog ext (n + 1) fn_sym_ends [] = sym_ends (fcall Tryz.prog ext n) n := by
  unfold fcall; rw [h]; kernel_rfl

/-! splicer/frame.Rows$1$1 -/
noncomputable def frame_Rows_c1_c1 (call : Nat → List AV → M AV) (n : Nat) (a0 : AV) : M AV :=
  bnd (box T_api_Band a0) fun v1 =>
  lp (aOff 0 v1) fun v3 =>
  bnd (load none v3) fun v4 =>
  ret v4
theorem frame_Rows_c1_c1_eq {ext : Ext} (h : ext fn_frame_Rows_c1_c1 = none) (n : Nat) (a0 : AV) : fcall Tryz.prog ext (n + 1) fn_frame_Rows_c1_c1 [a0] = frame_Rows_c1_c1 (fcall Tryz.prog ext n) n a0 := by
  unfold fcall; rw [h]; kernel_rfl

/-! splicer/frame.mapped[splicer/api.Band,int] -/
noncomputable def frame_mapped_api_Band_int_l0 (call : Nat → List AV → M AV) (n : Nat) (rec : List AV → M AV) (x1 x5 x11 x12 x13 : AV) : M AV :=
  lp (aBin .lss [] x13 x12) fun v14 =>
  mc v14
    (lp (aIdxS 3 x11 x13) fun v16 =>
  bnd (load (some 3) v16) fun v17 =>
  bnd (alloc T_api_Band [.int .i64 0, .int .i64 0, .nilslice]) fun v7 =>
  bnd (store (some 3) v7 v17) fun u =>
  bnd (load (some 3) v7) fun v21 =>
  callee call x1 [v21] fun v22 =>
  lp (aIdxS 1 x5 x13) fun v23 =>
  bnd (store none v23 v22) fun u_1 =>
  lp (aBin .add [] x13 (.int .i64 1)) fun v24 =>
  rec [x1, x5, x11, x12, v24])
    (ret x5)
noncomputable def frame_mapped_api_Band_int (call : Nat → List AV → M AV) (n : Nat) (a0 a1 : AV) : M AV :=
  lp (aLenS a0) fun v9 =>
  bnd (mkSlice T_int 1 8 [.int .i64 0] v9 v9) fun v10 =>
  lp (aLenS a0) fun v12 =>
  loopN (fun r l => frame_mapped_api_Band_int_l0 call n r (l.getD 0 .undef) (l.getD 1 .undef) (l.getD 2 .undef) (l.getD 3 .undef) (l.getD 4 .undef)) n [a1, v10, a0, v12, (.int .i64 0)]
theorem frame_mapped_api_Band_int_eq {ext : Ext} (h : ext fn_frame_mapped_api_Band_int = none) (n : Nat) (a0 a1 : AV) : fcall Tryz.prog ext (n + 1) fn_frame_mapped_api_Band_int [a0, a1] = frame_mapped_api_Band_int (fcall Tryz.prog ext n) n a0 a1 := by
  unfold fcall; rw [h]; kernel_rfl

/-! (*splicer/rc.Coder).Code -/
noncomputable def rc_Coder_Code_l0 (call : Nat → List AV → M AV) (n : Nat) (rec : List AV → M AV) (x0_2 : AV) : M AV :=
  lp (aNil x0_2) fun v46 =>
  lp (aOff 0 v46) fun v47 =>
  bnd (call fn_rc_narrowed_small [v47]) fun v48 =>
  mc v48
    (lp (aNil x0_2) fun v51 =>
  lp (aOff 4 v51) fun v52 =>
  bnd (load none v52) fun v53 =>
  lp (aBin .shr [] v53 (.int .u64 24)) fun v54 =>
  lp (aInt .i64 v54) fun v55 =>
  bnd (call fn_rc_Coder_tell [x0_2, v55]) fun v56 =>
  lp (aNil x0_2) fun v59 =>
  lp (aOff 4 v59) fun v60 =>
  bnd (load none v60) fun v61 =>
  lp (aBin .shl [] v61 (.int .u64 8)) fun v62 =>
  lp (aBin .and [] v62 (.int .u64 4294967295)) fun v63 =>
  lp (aNil x0_2) fun v64 =>
  lp (aOff 4 v64) fun v65 =>
  bnd (store none v65 v63) fun u_2 =>
  rec [x0_2])
    (ret (.tup []))
noncomputable def rc_Coder_Code_j1 (call : Nat → List AV → M AV) (n : Nat) (x0_1 : AV) : M AV :=
  loopN (fun r l => rc_Coder_Code_l0 call n r (l.getD 0 .undef)) n [x0_1]
noncomputable def rc_Coder_Code_j0 (call : Nat → List AV → M AV) (n : Nat) (x0 x1 x2 x3 x16 : AV) : M AV :=
  mc x16
    (ret (.tup []))
    (lp (aNil x0) fun v18 =>
lp (aOff 4 v18) fun v19 =>
bnd (load none v19) fun v20 =>
lp (aNil x0) fun v22 =>
lp (aOff 0 v22) fun v23 =>
snap fun _ =>
bnd (call fn_rc_narrowed_narrow [v23, x1, x2, x3]) fun v27 =>
snap fun m_1 =>
same none v19 v20 m_1 <|
lp (aBin .add [] v20 v27) fun v28 =>
lp (aNil x0) fun v29 =>
lp (aOff 4 v29) fun v30 =>
snap fun _ =>
bnd (store none v30 v28) fun u =>
snap fun _ =>
lp (aNil x0) fun v32 =>
lp (aOff 4 v32) fun v33 =>
bnd (load none v33) fun v34 =>
lp (aBin .gtr [] v34 (.int .u64 4294967295)) fun v35 =>
mc v35
  (lp (aNil x0) fun v37 =>
  lp (aOff 4 v37) fun v38 =>
  bnd (load none v38) fun v39 =>
  lp (aBin .sub [] v39 (.int .u64 4294967296)) fun v40 =>
  lp (aNil x0) fun v41 =>
  lp (aOff 4 v41) fun v42 =>
  bnd (store none v42 v40) fun u_1 =>
  bnd (call fn_rc_Coder_carry [x0]) fun v44 =>
  rc_Coder_Code_j1 call n x0)
  (rc_Coder_Code_j1 call n x0))
noncomputable def rc_Coder_Code (call : Nat → List AV → M AV) (n : Nat) (a0 a1 a2 a3 : AV) : M AV :=
  lp (aBin .eql [3] a0 .nilptr) fun v9 =>
  mc v9
    (rc_Coder_Code_j0 call n a0 a1 a2 a3 (.bool true))
    (bnd (call fn_rc_right [a1, a2, a3]) fun v14 =>
    lp (aUn .not v14) fun v15 =>
    rc_Coder_Code_j0 call n a0 a1 a2 a3 v15)
theorem rc_Coder_Code_eq {ext : Ext} (h : ext fn_rc_Coder_Code = none) (n : Nat) (a0 a1 a2 a3 : AV) : fcall Tryz.prog ext (n + 1) fn_rc_Coder_Code [a0, a1, a2, a3] = rc_Coder_Code (fcall Tryz.prog ext n) n a0 a1 a2 a3 := by
  unfold fcall; rw [h]; kernel_rfl

/-! splicer/pvq.Size -/
noncomputable def pvq_Size_j1 (call : Nat → List AV → M AV) (n : Nat) (rec : List AV → M AV) (x4_1 x6 x15_1 x16_1 x17_1 x24_1 x25_1 x26 : AV) : M AV :=
  mc x26
    (ret (.tup [(.int .i64 0), (.bool false)]))
    (bnd (call fn_num_Abs [x6]) fun v29 =>
lp (aBin .add [] x4_1 v29) fun v30 =>
lp (aBin .add [] x17_1 (.int .i64 1)) fun v31 =>
rec [v30, x15_1, x16_1, v31, x24_1, x25_1])
noncomputable def pvq_Size_l0 (call : Nat → List AV → M AV) (n : Nat) (rec : List AV → M AV) (x4 x15 x16 x17 x24 x25 : AV) : M AV :=
  lp (aBin .lss [] x17 x16) fun v18 =>
  mc v18
    (lp (aIdxS 1 x15 x17) fun v19 =>
  bnd (load none v19) fun v20 =>
  lp (aBin .lss [] v20 (.int .i64 (-24))) fun v22 =>
  mc v22
    (pvq_Size_j1 call n rec x4 v20 x15 x16 x17 (.tup []) (.tup []) (.bool true))
    (lp (aBin .gtr [] v20 (.int .i64 24)) fun v25 =>
    pvq_Size_j1 call n rec x4 v20 x15 x16 x17 v20 v25 v25))
    (lp (aBin .gtr [] x4 (.int .i64 24)) fun v33 =>
mc v33
  (ret (.tup [(.int .i64 0), (.bool false)]))
  (ret (.tup [x4, (.bool true)])))
noncomputable def pvq_Size_j0 (call : Nat → List AV → M AV) (n : Nat) (x0 x14 : AV) : M AV :=
  mc x14
    (ret (.tup [(.int .i64 0), (.bool false)]))
    (lp (aLenS x0) fun v16 =>
loopN (fun r l => pvq_Size_l0 call n r (l.getD 0 .undef) (l.getD 1 .undef) (l.getD 2 .undef) (l.getD 3 .undef) (l.getD 4 .undef) (l.getD 5 .undef)) n [(.int .i64 0), x0, v16, (.int .i64 0), .undef, .undef])
noncomputable def pvq_Size (call : Nat → List AV → M AV) (n : Nat) (a0 : AV) : M AV :=
  lp (aLenS a0) fun v8 =>
  lp (aBin .eql [6] v8 (.int .i64 0)) fun v9 =>
  mc v9
    (pvq_Size_j0 call n a0 (.bool true))
    (lp (aLenS a0) fun v12 =>
    lp (aBin .gtr [] v12 (.int .i64 8)) fun v13 =>
    pvq_Size_j0 call n a0 v13)
theorem pvq_Size_eq {ext : Ext} (h : ext fn_pvq_Size = none) (n : Nat) (a0 : AV) : fcall Tryz.prog ext (n + 1) fn_pvq_Size [a0] = pvq_Size (fcall Tryz.prog ext n) n a0 := by
  unfold fcall; rw [h]; kernel_rfl

/-! splicer/splicerref01.Same -/
noncomputable def ref01_Same_l0 (call : Nat → List AV → M AV) (n : Nat) (rec : List AV → M AV) (x0 x1 x5 : AV) : M AV :=
  lp (aLenS x0) fun v13 =>
  lp (aBin .lss [] x5 v13) fun v14 =>
  mc v14
    (lp (aIdxS 1 x0 x5) fun v19 =>
  bnd (load none v19) fun v20 =>
  lp (aIdxS 1 x1 x5) fun v23 =>
  bnd (load none v23) fun v24 =>
  lp (aBin .neq [6] v20 v24) fun v25 =>
  mc v25
    (ret (.bool false))
    (lp (aBin .add [] x5 (.int .i64 1)) fun v16 =>
  rec [x0, x1, v16]))
    (ret (.bool true))
noncomputable def ref01_Same (call : Nat → List AV → M AV) (n : Nat) (a0 a1 : AV) : M AV :=
  lp (aLenS a0) fun v7 =>
  lp (aLenS a1) fun v9 =>
  lp (aBin .neq [6] v7 v9) fun v10 =>
  mc v10
    (ret (.bool false))
    (loopN (fun r l => ref01_Same_l0 call n r (l.getD 0 .undef) (l.getD 1 .undef) (l.getD 2 .undef)) n [a0, a1, (.int .i64 0)])
theorem ref01_Same_eq {ext : Ext} (h : ext fn_ref01_Same = none) (n : Nat) (a0 a1 : AV) : fcall Tryz.prog ext (n + 1) fn_ref01_Same [a0, a1] = ref01_Same (fcall Tryz.prog ext n) n a0 a1 := by
  unfold fcall; rw [h]; kernel_rfl

/-! splicer/splicerref16.Vector -/
noncomputable def ref16_Vector_l1 (call : Nat → List AV → M AV) (n : Nat) (rec : List AV → M AV) (rec_1 : List AV → M AV) (x1_2 x2_2 x8_1 x9_1 x10_1 x11 : AV) : M AV :=
  lp (aIdxS 1 x8_1 x10_1) fun v36 =>
  bnd (load none v36) fun v37 =>
  snap fun _ =>
  bnd (call fn_ref16_far [x11]) fun v40 =>
  snap fun m_1 =>
  same none v36 v37 m_1 <|
  lp (aBin .sub [] x1_2 v40) fun v41 =>
  lp (aIdxS 1 v37 v41) fun v42 =>
  bnd (load none v42) fun v43 =>
  lp (aBin .geq [] x2_2 v43) fun v44 =>
  mc v44
    (lp (aIdxS 1 x8_1 x10_1) fun v48 =>
  bnd (load none v48) fun v49 =>
  snap fun _ =>
  bnd (call fn_ref16_far [x11]) fun v52 =>
  snap fun m_3 =>
  same none v48 v49 m_3 <|
  lp (aBin .sub [] x1_2 v52) fun v53 =>
  lp (aIdxS 1 v49 v53) fun v54 =>
  bnd (load none v54) fun v55 =>
  lp (aBin .sub [] x2_2 v55) fun v56 =>
  lp (aBin .gtr [] x11 (.int .i64 0)) fun v58 =>
  mc v58
    (lp (aUn .neg x11) fun v60 =>
    rec_1 [x1_2, v56, x8_1, x9_1, x10_1, v60])
    (lp (aBin .sub [] (.int .i64 1) x11) fun v62 =>
    rec_1 [x1_2, v56, x8_1, x9_1, x10_1, v62]))
    (lp (aFill (fun i => some (i * 1, 1)) [.int .i64 0] [(0, x11)]) fun cs =>
bnd (allocS T_int 1 1 cs) fun v65 =>
bnd (append T_int 1 8 x9_1 v65) fun v66 =>
bnd (call fn_ref16_far [x11]) fun v69 =>
lp (aBin .sub [] x1_2 v69) fun v70 =>
lp (aBin .sub [] x10_1 (.int .i64 1)) fun v32 =>
rec [v70, x2_2, x8_1, v66, v32])
noncomputable def ref16_Vector_l0 (call : Nat → List AV → M AV) (n : Nat) (rec : List AV → M AV) (x1_1 x2_1 x8 x9 x10 : AV) : M AV :=
  lp (aBin .geq [] x10 (.int .i64 0)) fun v30 =>
  mc v30
    (loopN (fun r l => ref16_Vector_l1 call n rec r (l.getD 0 .undef) (l.getD 1 .undef) (l.getD 2 .undef) (l.getD 3 .undef) (l.getD 4 .undef) (l.getD 5 .undef)) n [x1_1, x2_1, x8, x9, x10, (.int .i64 0)])
    (ret (.tup [x9, (.bool true)]))
noncomputable def ref16_Vector_j0 (call : Nat → List AV → M AV) (n : Nat) (x0 x1 x2 x24 : AV) : M AV :=
  mc x24
    (ret (.tup [.nilslice, (.bool false)]))
    (bnd (call fn_ref16_rows [x0]) fun v26 =>
lp (aBin .sub [] x0 (.int .i64 1)) fun v28 =>
loopN (fun r l => ref16_Vector_l0 call n r (l.getD 0 .undef) (l.getD 1 .undef) (l.getD 2 .undef) (l.getD 3 .undef) (l.getD 4 .undef)) n [x1, x2, v26, .nilslice, v28])
noncomputable def ref16_Vector (call : Nat → List AV → M AV) (n : Nat) (a0 a1 a2 : AV) : M AV :=
  lp (aBin .lss [] a0 (.int .i64 1)) fun v13 =>
  mc v13
    (ref16_Vector_j0 call n a0 a1 a2 (.bool true))
    (lp (aBin .lss [] a2 (.int .i64 0)) fun v16 =>
    mc v16
      (ref16_Vector_j0 call n a0 a1 a2 (.bool true))
      (bnd (call fn_ref16_Count [a0, a1]) fun v22 =>
      lp (aBin .geq [] a2 v22) fun v23 =>
      ref16_Vector_j0 call n a0 a1 a2 v23))
theorem ref16_Vector_eq {ext : Ext} (h : ext fn_ref16_Vector = none) (n : Nat) (a0 a1 a2 : AV) : fcall Tryz.prog ext (n + 1) fn_ref16_Vector [a0, a1, a2] = ref16_Vector (fcall Tryz.prog ext n) n a0 a1 a2 := by
  unfold fcall; rw [h]; kernel_rfl

/-! splicer/splicerref14.Row -/
noncomputable def ref14_Row_j1 (call : Nat → List AV → M AV) (n : Nat) (rec : List AV → M AV) (x0_2 x1_2 x2_2 x8_1 x9_1 x10 x45_1 x46_1 x47 : AV) : M AV :=
  mc x47
    (ret (.tup [.nilslice, (.bool false)]))
    (lp (aFill (fun i => some (i * 1, 1)) [.int .i64 0] [(0, x10)]) fun cs =>
bnd (allocS T_int 1 1 cs) fun v50 =>
bnd (append T_int 1 8 x8_1 v50) fun v51 =>
lp (aBin .add [] x9_1 (.int .i64 1)) fun v31 =>
rec [x0_2, x1_2, x2_2, v51, v31, x45_1, x46_1])
noncomputable def ref14_Row_l0 (call : Nat → List AV → M AV) (n : Nat) (rec : List AV → M AV) (x0_1 x1_1 x2_1 x8 x9 x45 x46 : AV) : M AV :=
  lp (aBin .lss [] x9 (.int .i64 13)) fun v29 =>
  mc v29
    (snap fun m =>
  bnd (call fn_ref14_expected [x0_1, x1_1, x8, x9]) fun v36 =>
  snap fun _ =>
  lp (aIdxS 1 x2_1 x9) fun v39 =>
  bnd (load none v39) fun v40 =>
  same none v39 v40 m <|
  lp (aBin .add [] v36 v40) fun v41 =>
  lp (aBin .lss [] v41 (.int .i64 0)) fun v43 =>
  mc v43
    (ref14_Row_j1 call n rec x0_1 x1_1 x2_1 x8 x9 v41 (.tup []) (.tup []) (.bool true))
    (lp (aBin .gtr [] v41 (.int .i64 23)) fun v46 =>
    ref14_Row_j1 call n rec x0_1 x1_1 x2_1 x8 x9 v41 v41 v46 v46))
    (ret (.tup [x8, (.bool true)]))
noncomputable def ref14_Row_j0 (call : Nat → List AV → M AV) (n : Nat) (x0 x1 x2 x27 : AV) : M AV :=
  mc x27
    (ret (.tup [.nilslice, (.bool false)]))
    (loopN (fun r l => ref14_Row_l0 call n r (l.getD 0 .undef) (l.getD 1 .undef) (l.getD 2 .undef) (l.getD 3 .undef) (l.getD 4 .undef) (l.getD 5 .undef) (l.getD 6 .undef)) n [x0, x1, x2, .nilslice, (.int .i64 0), .undef, .undef])
noncomputable def ref14_Row (call : Nat → List AV → M AV) (n : Nat) (a0 a1 a2 : AV) : M AV :=
  lp (aLenS a2) fun v12 =>
  lp (aBin .neq [6] v12 (.int .i64 13)) fun v13 =>
  mc v13
    (ref14_Row_j0 call n a0 a1 a2 (.bool true))
    (bnd (call fn_ref01_Within [a2, (.int .i64 (-67)), (.int .i64 67)]) fun v16 =>
    lp (aUn .not v16) fun v17 =>
    mc v17
      (ref14_Row_j0 call n a0 a1 a2 (.bool true))
      (lp (aUn .not a0) fun v21 =>
      mc v21
        (bnd (call fn_ref14_Right [a1]) fun v24 =>
        lp (aUn .not v24) fun v25 =>
        ref14_Row_j0 call n a0 a1 a2 v25)
        (ref14_Row_j0 call n a0 a1 a2 (.bool false))))
theorem ref14_Row_eq {ext : Ext} (h : ext fn_ref14_Row = none) (n : Nat) (a0 a1 a2 : AV) : fcall Tryz.prog ext (n + 1) fn_ref14_Row [a0, a1, a2] = ref14_Row (fcall Tryz.prog ext n) n a0 a1 a2 := by
  unfold fcall; rw [h]; kernel_rfl

/-! splicer/splicerref05.GetDelta -/
noncomputable def ref05_GetDelta_j0 (call : Nat → List AV → M AV) (n : Nat) (rec : List AV → M AV) (x0_1 x3_1 x4_1 x5 x6 x25_1 x26_1 x27_1 x28 : AV) : M AV :=
  mc x28
    (bnd (call fn_ref04_Decoder_Take [x0_1, x5, x6, (.int .i64 64)]) fun v32 =>
    ret x4_1)
    (lp (aBin .add [] x4_1 (.int .i64 1)) fun v15 =>
rec [x0_1, x3_1, v15, x25_1, x26_1, x27_1])
noncomputable def ref05_GetDelta_l0 (call : Nat → List AV → M AV) (n : Nat) (rec : List AV → M AV) (x0 x3 x4 x25 x26 x27 : AV) : M AV :=
  lp (aBin .leq [] x4 (.int .i64 3)) fun v13 =>
  mc v13
    (bnd (call fn_ref05_small [x4]) fun v18 =>
  lp (aExt 0 v18) fun v19 =>
  lp (aExt 1 v18) fun v20 =>
  lp (aBin .geq [] x3 v19) fun v23 =>
  mc v23
    (lp (aBin .lss [] x3 v20) fun v27 =>
    ref05_GetDelta_j0 call n rec x0 x3 x4 v19 v20 x3 v20 v27 v27)
    (ref05_GetDelta_j0 call n rec x0 x3 x4 v19 v20 (.tup []) (.tup []) (.tup []) (.bool false)))
    (bnd (call fn_ref04_Decoder_Take [x0, (.int .i64 56), (.int .i64 64), (.int .i64 64)]) fun v35 =>
bnd (call fn_ref05_GetBits [x0, (.int .i64 1)]) fun v37 =>
bnd (call fn_ref05_GetBelow [x0, (.int .i64 64)]) fun v40 =>
lp (aExt 0 v40) fun v41 =>
lp (aExt 1 v40) fun v42 =>
lp (aBin .eql [6] v37 (.int .i64 1)) fun v44 =>
mc v44
  (lp (aBin .add [] v41 (.int .i64 4)) fun v46 =>
  ret v46)
  (lp (aUn .neg v41) fun v48 =>
lp (aBin .sub [] v48 (.int .i64 4)) fun v49 =>
ret v49))
noncomputable def ref05_GetDelta (call : Nat → List AV → M AV) (n : Nat) (a0 : AV) : M AV :=
  bnd (call fn_ref04_Decoder_Place [a0, (.int .i64 64)]) fun v11 =>
  loopN (fun r l => ref05_GetDelta_l0 call n r (l.getD 0 .undef) (l.getD 1 .undef) (l.getD 2 .undef) (l.getD 3 .undef) (l.getD 4 .undef) (l.getD 5 .undef)) n [a0, v11, (.int .i64 (-3)), .undef, .undef, .undef]
theorem ref05_GetDelta_eq {ext : Ext} (h : ext fn_ref05_GetDelta = none) (n : Nat) (a0 : AV) : fcall Tryz.prog ext (n + 1) fn_ref05_GetDelta [a0] = ref05_GetDelta (fcall Tryz.prog ext n) n a0 := by
  unfold fcall; rw [h]; kernel_rfl

/-! (*splicer/splicerref04.Decoder).Take -/
noncomputable def ref04_Decoder_Take_l0 (call : Nat → List AV → M AV) (n : Nat) (rec : List AV → M AV) (x0_2 : AV) : M AV :=
  lp (aNil x0_2) fun v66 =>
  lp (aOff 3 v66) fun v67 =>
  bnd (load none v67) fun v68 =>
  lp (aBin .lss [] v68 (.int .i64 16777216)) fun v69 =>
  mc v69
    (lp (aNil x0_2) fun v72 =>
  lp (aOff 2 v72) fun v73 =>
  bnd (load none v73) fun v74 =>
  lp (aBin .mul [] v74 (.int .i64 256)) fun v75 =>
  snap fun _ =>
  bnd (call fn_ref04_Decoder_next [x0_2]) fun v77 =>
  snap fun m_3 =>
  same none v73 v74 m_3 <|
  lp (aBin .add [] v75 v77) fun v78 =>
  lp (aNil x0_2) fun v79 =>
  lp (aOff 2 v79) fun v80 =>
  snap fun _ =>
  bnd (store none v80 v78) fun u_4 =>
  snap fun _ =>
  lp (aNil x0_2) fun v83 =>
  lp (aOff 3 v83) fun v84 =>
  bnd (load none v84) fun v85 =>
  lp (aBin .mul [] v85 (.int .i64 256)) fun v86 =>
  lp (aNil x0_2) fun v87 =>
  lp (aOff 3 v87) fun v88 =>
  bnd (store none v88 v86) fun u_5 =>
  rec [x0_2])
    (ret (.tup []))
noncomputable def ref04_Decoder_Take_j1 (call : Nat → List AV → M AV) (n : Nat) (x0_1 : AV) : M AV :=
  loopN (fun r l => ref04_Decoder_Take_l0 call n r (l.getD 0 .undef)) n [x0_1]
noncomputable def ref04_Decoder_Take_j0 (call : Nat → List AV → M AV) (n : Nat) (x0 : AV) : M AV :=
  lp (aNil x0) fun v58 =>
  lp (aOff 2 v58) fun v59 =>
  bnd (load none v59) fun v60 =>
  lp (aBin .lss [] v60 (.int .i64 0)) fun v61 =>
  mc v61
    (lp (aNil x0) fun v63 =>
    lp (aOff 2 v63) fun v64 =>
    bnd (store none v64 (.int .i64 0)) fun u_3 =>
    ref04_Decoder_Take_j1 call n x0)
    (ref04_Decoder_Take_j1 call n x0)
noncomputable def ref04_Decoder_Take (call : Nat → List AV → M AV) (n : Nat) (a0 a1 a2 a3 : AV) : M AV :=
  bnd (call fn_ref04_Right [a1, a2, a3]) fun v11 =>
  lp (aUn .not v11) fun v12 =>
  mc v12
    (ret (.tup []))
    (lp (aNil a0) fun v15 =>
  lp (aOff 2 v15) fun v16 =>
  bnd (load none v16) fun v17 =>
  lp (aNil a0) fun v19 =>
  lp (aOff 3 v19) fun v20 =>
  bnd (load none v20) fun v21 =>
  lp (aBin .quo [] v21 a3) fun v23 =>
  lp (aBin .mul [] v23 a1) fun v25 =>
  lp (aBin .sub [] v17 v25) fun v26 =>
  lp (aNil a0) fun v27 =>
  lp (aOff 2 v27) fun v28 =>
  snap fun _ =>
  bnd (store none v28 v26) fun u =>
  snap fun _ =>
  lp (aNil a0) fun v31 =>
  lp (aOff 3 v31) fun v32 =>
  bnd (load none v32) fun v33 =>
  bnd (call fn_ref04_narrow [v33, a1, a2, a3]) fun v37 =>
  lp (aNil a0) fun v38 =>
  lp (aOff 3 v38) fun v39 =>
  bnd (store none v39 v37) fun u_1 =>
  lp (aNil a0) fun v41 =>
  lp (aOff 2 v41) fun v42 =>
  bnd (load none v42) fun v43 =>
  lp (aNil a0) fun v45 =>
  lp (aOff 3 v45) fun v46 =>
  bnd (load none v46) fun v47 =>
  lp (aBin .geq [] v43 v47) fun v48 =>
  mc v48
    (lp (aNil a0) fun v51 =>
    lp (aOff 3 v51) fun v52 =>
    bnd (load none v52) fun v53 =>
    lp (aBin .sub [] v53 (.int .i64 1)) fun v54 =>
    lp (aNil a0) fun v55 =>
    lp (aOff 2 v55) fun v56 =>
    bnd (store none v56 v54) fun u_2 =>
    ref04_Decoder_Take_j0 call n a0)
    (ref04_Decoder_Take_j0 call n a0))
theorem ref04_Decoder_Take_eq {ext : Ext} (h : ext fn_ref04_Decoder_Take = none) (n : Nat) (a0 a1 a2 a3 : AV) : fcall Tryz.prog ext (n + 1) fn_ref04_Decoder_Take [a0, a1, a2, a3] = ref04_Decoder_Take (fcall Tryz.prog ext n) n a0 a1 a2 a3 := by
  unfold fcall; rw [h]; kernel_rfl

/-! (*splicer/splicerref04.Decoder).Place -/
noncomputable def ref04_Decoder_Place_j0 (call : Nat → List AV → M AV) (n : Nat) (x0 x1 x10 : AV) : M AV :=
  mc x10
    (ret (.int .i64 0))
    (lp (aBin .sub [] x1 (.int .i64 1)) fun v12 =>
lp (aNil x0) fun v14 =>
lp (aOff 2 v14) fun v15 =>
bnd (load none v15) fun v16 =>
lp (aNil x0) fun v18 =>
lp (aOff 3 v18) fun v19 =>
bnd (load none v19) fun v20 =>
lp (aBin .quo [] v20 x1) fun v22 =>
lp (aBin .quo [] v16 v22) fun v23 =>
lp (aFold aMin2 v12 [v23]) fun v24 =>
ret v24)
noncomputable def ref04_Decoder_Place (call : Nat → List AV → M AV) (n : Nat) (a0 a1 : AV) : M AV :=
  lp (aBin .lss [] a1 (.int .i64 1)) fun v6 =>
  mc v6
    (ref04_Decoder_Place_j0 call n a0 a1 (.bool true))
    (lp (aBin .gtr [] a1 (.int .i64 65536)) fun v9 =>
    ref04_Decoder_Place_j0 call n a0 a1 v9)
theorem ref04_Decoder_Place_eq {ext : Ext} (h : ext fn_ref04_Decoder_Place = none) (n : Nat) (a0 a1 : AV) : fcall Tryz.prog ext (n + 1) fn_ref04_Decoder_Place [a0, a1] = ref04_Decoder_Place (fcall Tryz.prog ext n) n a0 a1 := by
  unfold fcall; rw [h]; kernel_rfl

/-! (*splicer/splicerref04.Decoder).next -/
noncomputable def ref04_Decoder_next (call : Nat → List AV → M AV) (n : Nat) (a0 : AV) : M AV :=
  lp (aNil a0) fun v5 =>
  lp (aOff 1 v5) fun v6 =>
  bnd (load none v6) fun v7 =>
  lp (aBin .add [] v7 (.int .i64 1)) fun v8 =>
  lp (aNil a0) fun v9 =>
  lp (aOff 1 v9) fun v10 =>
  bnd (store none v10 v8) fun u =>
  lp (aNil a0) fun v12 =>
  lp (aOff 1 v12) fun v13 =>
  bnd (load none v13) fun v14 =>
  lp (aNil a0) fun v16 =>
  lp (aOff 0 v16) fun v17 =>
  bnd (load none v17) fun v18 =>
  lp (aLenStr v18) fun v19 =>
  lp (aBin .gtr [] v14 v19) fun v20 =>
  mc v20
    (ret (.int .i64 0))
    (lp (aNil a0) fun v22 =>
  lp (aOff 0 v22) fun v23 =>
  bnd (load none v23) fun v24 =>
  lp (aNil a0) fun v26 =>
  lp (aOff 1 v26) fun v27 =>
  bnd (load none v27) fun v28 =>
  lp (aBin .sub [] v28 (.int .i64 1)) fun v29 =>
  lp (aIdxStr v24 v29) fun v30 =>
  lp (aInt .i64 v30) fun v31 =>
  ret v31)
theorem ref04_Decoder_next_eq {ext : Ext} (h : ext fn_ref04_Decoder_next = none) (n : Nat) (a0 : AV) : fcall Tryz.prog ext (n + 1) fn_ref04_Decoder_next [a0] = ref04_Decoder_next (fcall Tryz.prog ext n) n a0 := by
  unfold fcall; rw [h]; kernel_rfl

/-! (*splicer/code.reader).row -/
noncomputable def code_reader_row_j0 (call : Nat → List AV → M AV) (n : Nat) (x9 : AV) : M AV :=
  ret x9
noncomputable def code_reader_row_l0 (call : Nat → List AV → M AV) (n : Nat) (rec : List AV → M AV) (x0 x1 x2 x7 x13 x14 x39 x40 : AV) : M AV :=
  lp (aBin .lss [] x14 x13) fun v15 =>
  mc v15
    (lp (aNil x0) fun v20 =>
  lp (aOff 0 v20) fun v21 =>
  bnd (load none v21) fun v22 =>
  bnd (call fn_sym_GetDelta [v22]) fun v23 =>
  lp (aIdxS 1 x7 x14) fun v24 =>
  bnd (store none v24 v23) fun u =>
  lp (aBin .add [] x14 (.int .i64 1)) fun v25 =>
  rec [x0, x1, x2, x7, x13, v25, x39, x40])
    (bnd (call fn_energy_Row [x1, x2, x7]) fun v30 =>
lp (aExt 0 v30) fun v31 =>
lp (aExt 1 v30) fun v32 =>
lp (aNil x0) fun v35 =>
lp (aOff 2 v35) fun v36 =>
bnd (load none v36) fun v37 =>
mc v37
  (lp (aNil x0) fun v42 =>
  lp (aOff 2 v42) fun v43 =>
  bnd (store none v43 (.bool true)) fun u_1 =>
  code_reader_row_j0 call n v31)
  (lp (aUn .not v32) fun v40 =>
  lp (aNil x0) fun v42_1 =>
  lp (aOff 2 v42_1) fun v43_1 =>
  bnd (store none v43_1 v40) fun u_2 =>
  code_reader_row_j0 call n v31))
noncomputable def code_reader_row (call : Nat → List AV → M AV) (n : Nat) (a0 a1 a2 : AV) : M AV :=
  bnd (mkSlice T_int 1 8 [.int .i64 0] (.int .i64 13) (.int .i64 13)) fun v11 =>
  lp (aLenS v11) fun v13 =>
  loopN (fun r l => code_reader_row_l0 call n r (l.getD 0 .undef) (l.getD 1 .undef) (l.getD 2 .undef) (l.getD 3 .undef) (l.getD 4 .undef) (l.getD 5 .undef) (l.getD 6 .undef) (l.getD 7 .undef)) n [a0, a1, a2, v11, v13, (.int .i64 0), .undef, .undef]
theorem code_reader_row_eq {ext : Ext} (h : ext fn_code_reader_row = none) (n : Nat) (a0 a1 a2 : AV) : fcall Tryz.prog ext (n + 1) fn_code_reader_row [a0, a1, a2] = code_reader_row (fcall Tryz.prog ext n) n a0 a1 a2 := by
  unfold fcall; rw [h]; kernel_rfl

/-! (*splicer/code.reader).channel -/
noncomputable def code_reader_channel_j1 (call : Nat → List AV → M AV) (n : Nat) (rec_1 : List AV → M AV) (x0_3 x4_3 x5_3 x8 x10 x11 x12 x43_1 x44_1 x45_1 : AV) : M AV :=
  lp (aOff 0 x5_3) fun v67 =>
  bnd (load none v67) fun v68 =>
  snap fun _ =>
  bnd (call fn_pvq_Vector [x10, x12, x11]) fun v73 =>
  snap fun m_5 =>
  same none v67 v68 m_5 <|
  lp (aExt 0 v73) fun v74 =>
  lp (aExt 1 v73) fun v75 =>
  lp (aIdxS 3 v68 x8) fun v76 =>
  lp (aOff 2 v76) fun v77 =>
  snap fun _ =>
  bnd (store none v77 v74) fun u_3 =>
  snap fun _ =>
  lp (aBin .add [] x45_1 (.int .i64 1)) fun v78 =>
rec_1 [x0_3, x4_3, x5_3, x43_1, x44_1, v78]
noncomputable def code_reader_channel_l1 (call : Nat → List AV → M AV) (n : Nat) (rec_1 : List AV → M AV) (x0_2 x4_2 x5_2 x43 x44 x45 : AV) : M AV :=
  lp (aBin .lss [] x45 x44) fun v46 =>
  mc v46
    (lp (aIdxS 1 x43 x45) fun v48 =>
  bnd (load none v48) fun v49 =>
  bnd (call fn_layout_Width [x45]) fun v51 =>
  lp (aNil x0_2) fun v53 =>
  lp (aOff 1 v53) fun v54 =>
  bnd (load none v54) fun v55 =>
  bnd (call fn_alloc_Band [v55, v49, v51]) fun v58 =>
  lp (aBin .gtr [] v58 (.int .i64 0)) fun v60 =>
  mc v60
    (bnd (call fn_pvq_Count [v51, v58]) fun v64 =>
    bnd (call fn_code_reader_below [x0_2, v64]) fun v65 =>
    code_reader_channel_j1 call n rec_1 x0_2 x4_2 x5_2 x45 v51 v65 v58 x43 x44 x45)
    (code_reader_channel_j1 call n rec_1 x0_2 x4_2 x5_2 x45 v51 (.int .i64 0) v58 x43 x44 x45))
    (bnd (load (some 1) x5_2) fun v79 =>
bnd (store (some 1) x4_2 v79) fun u_4 =>
bnd (load (some 1) x4_2) fun r =>
ret r)
noncomputable def code_reader_channel_j0 (call : Nat → List AV → M AV) (n : Nat) (rec : List AV → M AV) (x0_1 x1_1 x4_1 x5_1 x17_1 x18_1 x19_1 : AV) : M AV :=
  lp (aBin .add [] x19_1 (.int .i64 1)) fun v42 =>
  rec [x0_1, x1_1, x4_1, x5_1, x17_1, x18_1, v42]
noncomputable def code_reader_channel_l0 (call : Nat → List AV → M AV) (n : Nat) (rec : List AV → M AV) (x0 x1 x4 x5 x17 x18 x19 : AV) : M AV :=
  lp (aBin .lss [] x19 x18) fun v20 =>
  mc v20
    (lp (aIdxS 1 x17 x19) fun v22 =>
  bnd (load none v22) fun v23 =>
  lp (aOff 0 x5) fun v24 =>
  bnd (load none v24) fun v25 =>
  lp (aIdxS 3 v25 x19) fun v28 =>
  lp (aOff 0 v28) fun v29 =>
  bnd (store none v29 v23) fun u_1 =>
  lp (aBin .gtr [] v23 (.int .i64 0)) fun v31 =>
  mc v31
    (lp (aOff 0 x5) fun v32 =>
    bnd (load none v32) fun v33 =>
    lp (aNil x0) fun v36 =>
    lp (aOff 0 v36) fun v37 =>
    bnd (load none v37) fun v38 =>
    snap fun _ =>
    bnd (call fn_sym_GetBits [v38, (.int .i64 2)]) fun v39 =>
    snap fun m_1 =>
    same none v32 v33 m_1 <|
    lp (aIdxS 3 v33 x19) fun v40 =>
    lp (aOff 1 v40) fun v41 =>
    snap fun _ =>
    bnd (store none v41 v39) fun u_2 =>
    snap fun _ =>
    code_reader_channel_j0 call n rec x0 x1 x4 x5 x17 x18 x19)
    (code_reader_channel_j0 call n rec x0 x1 x4 x5 x17 x18 x19))
    (lp (aLenS x1) fun v44 =>
loopN (fun r l => code_reader_channel_l1 call n r (l.getD 0 .undef) (l.getD 1 .undef) (l.getD 2 .undef) (l.getD 3 .undef) (l.getD 4 .undef) (l.getD 5 .undef)) n [x0, x4, x5, x1, v44, (.int .i64 0)])
noncomputable def code_reader_channel (call : Nat → List AV → M AV) (n : Nat) (a0 a1 : AV) : M AV :=
  bnd (alloc T_api_Chan [.nilslice]) fun v4 =>
  lp (aLenS a1) fun v14 =>
  bnd (mkSlice T_api_Band 3 40 [.int .i64 0, .int .i64 0, .nilslice] v14 v14) fun v15 =>
  lp ((aFill (fun i => [(0, 1)][i]?) [.nilslice] [(0, v15)]).map .agg) fun v16 =>
  bnd (alloc T_api_Chan [.nilslice]) fun v5 =>
  bnd (store (some 1) v5 v16) fun u =>
  lp (aLenS a1) fun v18 =>
  loopN (fun r l => code_reader_channel_l0 call n r (l.getD 0 .undef) (l.getD 1 .undef) (l.getD 2 .undef) (l.getD 3 .undef) (l.getD 4 .undef) (l.getD 5 .undef) (l.getD 6 .undef)) n [a0, a1, v4, v5, a1, v18, (.int .i64 0)]
theorem code_reader_channel_eq {ext : Ext} (h : ext fn_code_reader_channel = none) (n : Nat) (a0 a1 : AV) : fcall Tryz.prog ext (n + 1) fn_code_reader_channel [a0, a1] = code_reader_channel (fcall Tryz.prog ext n) n a0 a1 := by
  unfold fcall; rw [h]; kernel_rfl

/-! (*splicer/code.reader).below -/
noncomputable def code_reader_below_j0 (call : Nat → List AV → M AV) (n : Nat) (x5 : AV) : M AV :=
  ret x5
noncomputable def code_reader_below (call : Nat → List AV → M AV) (n : Nat) (a0 a1 : AV) : M AV :=
  lp (aNil a0) fun v9 =>
  lp (aOff 0 v9) fun v10 =>
  bnd (load none v10) fun v11 =>
  bnd (call fn_sym_GetBelow [v11, a1]) fun v13 =>
  lp (aExt 0 v13) fun v14 =>
  lp (aExt 1 v13) fun v15 =>
  lp (aNil a0) fun v18 =>
  lp (aOff 2 v18) fun v19 =>
  bnd (load none v19) fun v20 =>
  mc v20
    (lp (aNil a0) fun v25 =>
    lp (aOff 2 v25) fun v26 =>
    bnd (store none v26 (.bool true)) fun u =>
    code_reader_below_j0 call n v14)
    (lp (aUn .not v15) fun v23 =>
    lp (aNil a0) fun v25_1 =>
    lp (aOff 2 v25_1) fun v26_1 =>
    bnd (store none v26_1 v23) fun u_1 =>
    code_reader_below_j0 call n v14)
theorem code_reader_below_eq {ext : Ext} (h : ext fn_code_reader_below = none) (n : Nat) (a0 a1 : AV) : fcall Tryz.prog ext (n + 1) fn_code_reader_below [a0, a1] = code_reader_below (fcall Tryz.prog ext n) n a0 a1 := by
  unfold fcall; rw [h]; kernel_rfl

/-! (*splicer/code.reader).flag -/
noncomputable def code_reader_flag (call : Nat → List AV → M AV) (n : Nat) (a0 : AV) : M AV :=
  lp (aNil a0) fun v4 =>
  lp (aOff 0 v4) fun v5 =>
  bnd (load none v5) fun v6 =>
  bnd (call fn_sym_GetBits [v6, (.int .i64 1)]) fun v7 =>
  lp (aBin .eql [6] v7 (.int .i64 1)) fun v8 =>
  ret v8
theorem code_reader_flag_eq {ext : Ext} (h : ext fn_code_reader_flag = none) (n : Nat) (a0 : AV) : fcall Tryz.prog ext (n + 1) fn_code_reader_flag [a0] = code_reader_flag (fcall Tryz.prog ext n) n a0 := by
  unfold fcall; rw [h]; kernel_rfl

/-! (*splicer/rc.Decoder).next -/
noncomputable def rc_Decoder_next (call : Nat → List AV → M AV) (n : Nat) (a0 : AV) : M AV :=
  lp (aNil a0) fun v5 =>
  lp (aOff 2 v5) fun v6 =>
  bnd (load none v6) fun v7 =>
  lp (aBin .eql [7] v7 (.str .empty)) fun v8 =>
  mc v8
    (ret (.int .u64 0))
    (lp (aNil a0) fun v10 =>
  lp (aOff 2 v10) fun v11 =>
  bnd (load none v11) fun v12 =>
  lp (aIdxStr v12 (.int .i64 0)) fun v13 =>
  lp (aNil a0) fun v16 =>
  lp (aOff 2 v16) fun v17 =>
  bnd (load none v17) fun v18 =>
  lp (aSliceStr v18 (some (.int .i64 1)) none) fun v19 =>
  lp (aNil a0) fun v20 =>
  lp (aOff 2 v20) fun v21 =>
  bnd (store none v21 v19) fun u =>
  lp (aInt .u64 v13) fun v23 =>
  ret v23)
theorem rc_Decoder_next_eq {ext : Ext} (h : ext fn_rc_Decoder_next = none) (n : Nat) (a0 : AV) : fcall Tryz.prog ext (n + 1) fn_rc_Decoder_next [a0] = rc_Decoder_next (fcall Tryz.prog ext n) n a0 := by
  unfold fcall; rw [h]; kernel_rfl

/-! splicer/splicerref16.Count -/
noncomputable def ref16_Count_j0 (call : Nat → List AV → M AV) (n : Nat) (x0 x1 x18 : AV) : M AV :=
  mc x18
    (ret (.int .i64 0))
    (bnd (call fn_ref16_rows [x0]) fun v20 =>
lp (aIdxS 1 v20 x0) fun v22 =>
bnd (load none v22) fun v23 =>
lp (aIdxS 1 v23 x1) fun v25 =>
bnd (load none v25) fun v26 =>
ret v26)
noncomputable def ref16_Count (call : Nat → List AV → M AV) (n : Nat) (a0 a1 : AV) : M AV :=
  lp (aBin .lss [] a0 (.int .i64 0)) fun v6 =>
  mc v6
    (ref16_Count_j0 call n a0 a1 (.bool true))
    (lp (aBin .gtr [] a0 (.int .i64 8)) fun v9 =>
    mc v9
      (ref16_Count_j0 call n a0 a1 (.bool true))
      (lp (aBin .lss [] a1 (.int .i64 0)) fun v13 =>
      mc v13
        (ref16_Count_j0 call n a0 a1 (.bool true))
        (lp (aBin .gtr [] a1 (.int .i64 24)) fun v17 =>
        ref16_Count_j0 call n a0 a1 v17)))
theorem ref16_Count_eq {ext : Ext} (h : ext fn_ref16_Count = none) (n : Nat) (a0 a1 : AV) : fcall Tryz.prog ext (n + 1) fn_ref16_Count [a0, a1] = ref16_Count (fcall Tryz.prog ext n) n a0 a1 := by
  unfold fcall; rw [h]; kernel_rfl

/-! splicer/splicerref16.Index -/
noncomputable def ref16_Index_j1 (call : Nat → List AV → M AV) (n : Nat) (rec : List AV → M AV) (x0_3 x4_3 x6_3 x7_3 x8_3 x10_2 : AV) : M AV :=
  lp (aBin .sub [] x4_3 x10_2) fun v79 =>
  lp (aBin .add [] x8_3 (.int .i64 1)) fun v27 =>
rec [x0_3, v79, x6_3, x7_3, v27]
noncomputable def ref16_Index_j0 (call : Nat → List AV → M AV) (n : Nat) (rec : List AV → M AV) (rec_1 : List AV → M AV) (x0_2 x4_2 x6_2 x7_2 x8_2 x9_1 x10_1 x11_1 : AV) : M AV :=
  lp (aBin .add [] x11_1 (.int .i64 1)) fun v45 =>
  rec_1 [x0_2, x4_2, x6_2, x7_2, x8_2, x9_1, x10_1, v45]
noncomputable def ref16_Index_l1 (call : Nat → List AV → M AV) (n : Nat) (rec : List AV → M AV) (rec_1 : List AV → M AV) (x0_1 x4_1 x6_1 x7_1 x8_1 x9 x10 x11 : AV) : M AV :=
  lp (aBin .lss [] x11 x10) fun v43 =>
  mc v43
    (lp (aBin .sub [] x4_1 x11) fun v50 =>
  lp (aIdxS 1 x9 v50) fun v51 =>
  bnd (load none v51) fun v52 =>
  lp (aBin .add [] x6_1 v52) fun v53 =>
  lp (aBin .gtr [] x11 (.int .i64 0)) fun v55 =>
  mc v55
    (lp (aBin .sub [] x4_1 x11) fun v60 =>
    lp (aIdxS 1 x9 v60) fun v61 =>
    bnd (load none v61) fun v62 =>
    lp (aBin .add [] v53 v62) fun v63 =>
    ref16_Index_j0 call n rec rec_1 x0_1 x4_1 v63 x7_1 x8_1 x9 x10 x11)
    (ref16_Index_j0 call n rec rec_1 x0_1 x4_1 v53 x7_1 x8_1 x9 x10 x11))
    (lp (aIdxS 1 x0_1 x8_1) fun v66 =>
bnd (load none v66) fun v67 =>
lp (aBin .lss [] v67 (.int .i64 0)) fun v68 =>
mc v68
  (lp (aBin .sub [] x4_1 x10) fun v73 =>
  lp (aIdxS 1 x9 v73) fun v74 =>
  bnd (load none v74) fun v75 =>
  lp (aBin .add [] x6_1 v75) fun v76 =>
  ref16_Index_j1 call n rec x0_1 x4_1 v76 x7_1 x8_1 x10)
  (ref16_Index_j1 call n rec x0_1 x4_1 x6_1 x7_1 x8_1 x10))
noncomputable def ref16_Index_l0 (call : Nat → List AV → M AV) (n : Nat) (rec : List AV → M AV) (x0 x4 x6 x7 x8 : AV) : M AV :=
  lp (aLenS x0) fun v24 =>
  lp (aBin .lss [] x8 v24) fun v25 =>
  mc v25
    (lp (aLenS x0) fun v30 =>
  lp (aBin .sub [] v30 (.int .i64 1)) fun v31 =>
  lp (aBin .sub [] v31 x8) fun v33 =>
  lp (aIdxS 1 x7 v33) fun v34 =>
  bnd (load none v34) fun v35 =>
  lp (aIdxS 1 x0 x8) fun v38 =>
  bnd (load none v38) fun v39 =>
  bnd (call fn_ref16_far [v39]) fun v40 =>
  loopN (fun r l => ref16_Index_l1 call n rec r (l.getD 0 .undef) (l.getD 1 .undef) (l.getD 2 .undef) (l.getD 3 .undef) (l.getD 4 .undef) (l.getD 5 .undef) (l.getD 6 .undef) (l.getD 7 .undef)) n [x0, x4, x6, x7, x8, v35, v40, (.int .i64 0)])
    (ret (.tup [x6, (.bool true)]))
noncomputable def ref16_Index (call : Nat → List AV → M AV) (n : Nat) (a0 : AV) : M AV :=
  bnd (call fn_ref16_Size [a0]) fun v14 =>
  lp (aExt 0 v14) fun v15 =>
  lp (aExt 1 v14) fun v16 =>
  lp (aUn .not v16) fun v18 =>
  mc v18
    (ret (.tup [(.int .i64 0), (.bool false)]))
    (lp (aLenS a0) fun v20 =>
  bnd (call fn_ref16_rows [v20]) fun v21 =>
  loopN (fun r l => ref16_Index_l0 call n r (l.getD 0 .undef) (l.getD 1 .undef) (l.getD 2 .undef) (l.getD 3 .undef) (l.getD 4 .undef)) n [a0, v15, (.int .i64 0), v21, (.int .i64 0)])
theorem ref16_Index_eq {ext : Ext} (h : ext fn_ref16_Index = none) (n : Nat) (a0 : AV) : fcall Tryz.prog ext (n + 1) fn_ref16_Index [a0] = ref16_Index (fcall Tryz.prog ext n) n a0 := by
  unfold fcall; rw [h]; kernel_rfl

/-! splicer/splicerref15.Band -/
noncomputable def ref15_Band_j0 (call : Nat → List AV → M AV) (n : Nat) (x0 x1 x2 x21 : AV) : M AV :=
  mc x21
    (ret (.int .i64 0))
    (lp (aBin .add [] x1 x0) fun v24 =>
lp (aBin .sub [] v24 (.int .i64 8)) fun v25 =>
lp (aFold aMin2 (.int .i64 8) [v25]) fun v26 =>
lp (aFold aMax2 (.int .i64 0) [v26]) fun v27 =>
lp (aBin .eql [6] x2 (.int .i64 2)) fun v30 =>
mc v30
  (ret v27)
  (lp (aBin .eql [6] x2 (.int .i64 4)) fun v33 =>
  mc v33
    (lp (aBin .mul [] (.int .i64 2) v27) fun v35 =>
    ret v35)
    (lp (aBin .eql [6] x2 (.int .i64 8)) fun v37 =>
    mc v37
      (lp (aBin .mul [] (.int .i64 3) v27) fun v39 =>
      ret v39)
      (ret (.int .i64 0)))))
noncomputable def ref15_Band (call : Nat → List AV → M AV) (n : Nat) (a0 a1 a2 : AV) : M AV :=
  lp (aBin .lss [] a0 (.int .i64 0)) fun v9 =>
  mc v9
    (ref15_Band_j0 call n a0 a1 a2 (.bool true))
    (lp (aBin .gtr [] a0 (.int .i64 10)) fun v12 =>
    mc v12
      (ref15_Band_j0 call n a0 a1 a2 (.bool true))
      (lp (aBin .lss [] a1 (.int .i64 1)) fun v16 =>
      mc v16
        (ref15_Band_j0 call n a0 a1 a2 (.bool true))
        (lp (aBin .gtr [] a1 (.int .i64 23)) fun v20 =>
        ref15_Band_j0 call n a0 a1 a2 v20)))
theorem ref15_Band_eq {ext : Ext} (h : ext fn_ref15_Band = none) (n : Nat) (a0 a1 a2 : AV) : fcall Tryz.prog ext (n + 1) fn_ref15_Band [a0, a1, a2] = ref15_Band (fcall Tryz.prog ext n) n a0 a1 a2 := by
  unfold fcall; rw [h]; kernel_rfl

/-! splicer/splicerref05.PutDelta -/
noncomputable def ref05_PutDelta_j2 (call : Nat → List AV → M AV) (n : Nat) (x4_1 : AV) : M AV :=
  ret x4_1
noncomputable def ref05_PutDelta_j1 (call : Nat → List AV → M AV) (n : Nat) (x4 : AV) : M AV :=
  ret x4
noncomputable def ref05_PutDelta_j0 (call : Nat → List AV → M AV) (n : Nat) (x0 x1 x12 : AV) : M AV :=
  mc x12
    (ret (.bool false))
    (bnd (call fn_ref05_small [x1]) fun v15 =>
lp (aExt 0 v15) fun v16 =>
lp (aExt 1 v15) fun v17 =>
bnd (call fn_ref04_Coder_Code [x0, v16, v17, (.int .i64 64)]) fun v21 =>
lp (aBin .lss [] v16 (.int .i64 56)) fun v23 =>
mc v23
  (ret (.bool true))
  (lp (aBin .gtr [] x1 (.int .i64 0)) fun v25 =>
mc v25
  (bnd (call fn_ref05_PutBits [x0, (.int .i64 1), (.int .i64 1)]) fun v27 =>
  mc v27
    (lp (aBin .sub [] x1 (.int .i64 4)) fun v31 =>
    bnd (call fn_ref05_PutBelow [x0, v31, (.int .i64 64)]) fun v32 =>
    ref05_PutDelta_j1 call n v32)
    (ref05_PutDelta_j1 call n (.bool false)))
  (bnd (call fn_ref05_PutBits [x0, (.int .i64 0), (.int .i64 1)]) fun v35 =>
mc v35
  (lp (aUn .neg x1) fun v39 =>
  lp (aBin .sub [] v39 (.int .i64 4)) fun v40 =>
  bnd (call fn_ref05_PutBelow [x0, v40, (.int .i64 64)]) fun v41 =>
  ref05_PutDelta_j2 call n v41)
  (ref05_PutDelta_j2 call n (.bool false)))))
noncomputable def ref05_PutDelta (call : Nat → List AV → M AV) (n : Nat) (a0 a1 : AV) : M AV :=
  lp (aBin .lss [] a1 (.int .i64 (-67))) fun v8 =>
  mc v8
    (ref05_PutDelta_j0 call n a0 a1 (.bool true))
    (lp (aBin .gtr [] a1 (.int .i64 67)) fun v11 =>
    ref05_PutDelta_j0 call n a0 a1 v11)
theorem ref05_PutDelta_eq {ext : Ext} (h : ext fn_ref05_PutDelta = none) (n : Nat) (a0 a1 : AV) : fcall Tryz.prog ext (n + 1) fn_ref05_PutDelta [a0, a1] = ref05_PutDelta (fcall Tryz.prog ext n) n a0 a1 := by
  unfold fcall; rw [h]; kernel_rfl

/-! splicer/splicerref14.Deltas -/
noncomputable def ref14_Deltas_l0 (call : Nat → List AV → M AV) (n : Nat) (rec : List AV → M AV) (x0_1 x1_1 x2_1 x7 x8 : AV) : M AV :=
  lp (aBin .lss [] x8 (.int .i64 13)) fun v22 =>
  mc v22
    (lp (aIdxS 1 x2_1 x8) fun v28 =>
  bnd (load none v28) fun v29 =>
  snap fun _ =>
  bnd (call fn_ref14_expected [x0_1, x1_1, x2_1, x8]) fun v34 =>
  snap fun m_1 =>
  same none v28 v29 m_1 <|
  lp (aBin .sub [] v29 v34) fun v35 =>
  snap fun _ =>
  lp (aFill (fun i => some (i * 1, 1)) [.int .i64 0] [(0, v35)]) fun cs =>
  bnd (allocS T_int 1 1 cs) fun v36 =>
  snap fun _ =>
  snap fun _ =>
  bnd (append T_int 1 8 x7 v36) fun v37 =>
  snap fun _ =>
  lp (aBin .add [] x8 (.int .i64 1)) fun v24 =>
  rec [x0_1, x1_1, x2_1, v37, v24])
    (ret x7)
noncomputable def ref14_Deltas_j0 (call : Nat → List AV → M AV) (n : Nat) (x0 x1 x2 x20 : AV) : M AV :=
  mc x20
    (ret .nilslice)
    (loopN (fun r l => ref14_Deltas_l0 call n r (l.getD 0 .undef) (l.getD 1 .undef) (l.getD 2 .undef) (l.getD 3 .undef) (l.getD 4 .undef)) n [x0, x1, x2, .nilslice, (.int .i64 0)])
noncomputable def ref14_Deltas (call : Nat → List AV → M AV) (n : Nat) (a0 a1 a2 : AV) : M AV :=
  bnd (call fn_ref14_Right [a2]) fun v10 =>
  lp (aUn .not v10) fun v11 =>
  mc v11
    (ref14_Deltas_j0 call n a0 a1 a2 (.bool true))
    (lp (aUn .not a0) fun v14 =>
    mc v14
      (bnd (call fn_ref14_Right [a1]) fun v17 =>
      lp (aUn .not v17) fun v18 =>
      ref14_Deltas_j0 call n a0 a1 a2 v18)
      (ref14_Deltas_j0 call n a0 a1 a2 (.bool false)))
theorem ref14_Deltas_eq {ext : Ext} (h : ext fn_ref14_Deltas = none) (n : Nat) (a0 a1 a2 : AV) : fcall Tryz.prog ext (n + 1) fn_ref14_Deltas [a0, a1, a2] = ref14_Deltas (fcall Tryz.prog ext n) n a0 a1 a2 := by
  unfold fcall; rw [h]; kernel_rfl

/-! splicer/splicerref05.shift -/
noncomputable def ref05_shift_l0 (call : Nat → List AV → M AV) (n : Nat) (rec : List AV → M AV) (x0 x3 : AV) : M AV :=
  lp (aBin .sub [] x0 (.int .i64 1)) fun v5 =>
  lp (aBin .shr [] v5 x3) fun v7 =>
  lp (aBin .geq [] v7 (.int .i64 4096)) fun v8 =>
  mc v8
    (lp (aBin .add [] x3 (.int .i64 8)) fun v10 =>
  rec [x0, v10])
    (ret x3)
noncomputable def ref05_shift (call : Nat → List AV → M AV) (n : Nat) (a0 : AV) : M AV :=
  loopN (fun r l => ref05_shift_l0 call n r (l.getD 0 .undef) (l.getD 1 .undef)) n [a0, (.int .i64 0)]
theorem ref05_shift_eq {ext : Ext} (h : ext fn_ref05_shift = none) (n : Nat) (a0 : AV) : fcall Tryz.prog ext (n + 1) fn_ref05_shift [a0] = ref05_shift (fcall Tryz.prog ext n) n a0 := by
  unfold fcall; rw [h]; kernel_rfl

/-! (*splicer/splicerref04.Coder).Code -/
noncomputable def ref04_Coder_Code_l0 (call : Nat → List AV → M AV) (n : Nat) (rec : List AV → M AV) (x0_1 x8_1 : AV) : M AV :=
  lp (aBin .lss [] x8_1 (.int .i64 16777216)) fun v59 =>
  mc v59
    (lp (aNil x0_1) fun v62 =>
  lp (aOff 0 v62) fun v63 =>
  bnd (load none v63) fun v64 =>
  lp (aNil x0_1) fun v66 =>
  lp (aOff 1 v66) fun v67 =>
  bnd (load none v67) fun v68 =>
  lp (aBin .quo [] v68 (.int .i64 16777216)) fun v69 =>
  snap fun _ =>
  lp (aFill (fun i => some (i * 1, 1)) [.int .i64 0] [(0, v69)]) fun cs =>
  bnd (allocS T_int 1 1 cs) fun v70 =>
  snap fun m_3 =>
  same none v63 v64 m_3 <|
  snap fun _ =>
  bnd (append T_int 1 8 v64 v70) fun v71 =>
  snap fun _ =>
  lp (aNil x0_1) fun v72 =>
  lp (aOff 0 v72) fun v73 =>
  snap fun _ =>
  bnd (store none v73 v71) fun u_3 =>
  snap fun _ =>
  lp (aNil x0_1) fun v76 =>
  lp (aOff 1 v76) fun v77 =>
  bnd (load none v77) fun v78 =>
  lp (aBin .rem [] v78 (.int .i64 16777216)) fun v79 =>
  lp (aBin .mul [] v79 (.int .i64 256)) fun v80 =>
  lp (aNil x0_1) fun v81 =>
  lp (aOff 1 v81) fun v82 =>
  bnd (store none v82 v80) fun u_4 =>
  lp (aBin .mul [] x8_1 (.int .i64 256)) fun v84 =>
  rec [x0_1, v84])
    (lp (aBin .sub [] (.int .i64 4294967295) x8_1) fun v87 =>
lp (aNil x0_1) fun v88 =>
lp (aOff 2 v88) fun v89 =>
bnd (store none v89 v87) fun u_5 =>
ret (.tup []))
noncomputable def ref04_Coder_Code_j0 (call : Nat → List AV → M AV) (n : Nat) (x0 x8 : AV) : M AV :=
  loopN (fun r l => ref04_Coder_Code_l0 call n r (l.getD 0 .undef) (l.getD 1 .undef)) n [x0, x8]
noncomputable def ref04_Coder_Code (call : Nat → List AV → M AV) (n : Nat) (a0 a1 a2 a3 : AV) : M AV :=
  bnd (call fn_ref04_Right [a1, a2, a3]) fun v12 =>
  lp (aUn .not v12) fun v13 =>
  mc v13
    (ret (.tup []))
    (lp (aNil a0) fun v15 =>
  lp (aOff 2 v15) fun v16 =>
  bnd (load none v16) fun v17 =>
  lp (aBin .sub [] (.int .i64 4294967295) v17) fun v18 =>
  lp (aNil a0) fun v21 =>
  lp (aOff 1 v21) fun v22 =>
  bnd (load none v22) fun v23 =>
  lp (aBin .quo [] v18 a3) fun v26 =>
  lp (aBin .mul [] v26 a1) fun v28 =>
  lp (aBin .add [] v23 v28) fun v29 =>
  lp (aNil a0) fun v30 =>
  lp (aOff 1 v30) fun v31 =>
  snap fun _ =>
  bnd (store none v31 v29) fun u =>
  snap fun _ =>
  bnd (call fn_ref04_narrow [v18, a1, a2, a3]) fun v36 =>
  lp (aNil a0) fun v38 =>
  lp (aOff 1 v38) fun v39 =>
  bnd (load none v39) fun v40 =>
  lp (aBin .geq [] v40 (.int .i64 4294967296)) fun v41 =>
  mc v41
    (lp (aNil a0) fun v44 =>
    lp (aOff 1 v44) fun v45 =>
    bnd (load none v45) fun v46 =>
    lp (aBin .sub [] v46 (.int .i64 4294967296)) fun v47 =>
    lp (aNil a0) fun v48 =>
    lp (aOff 1 v48) fun v49 =>
    bnd (store none v49 v47) fun u_1 =>
    lp (aNil a0) fun v52 =>
    lp (aOff 0 v52) fun v53 =>
    bnd (load none v53) fun v54 =>
    bnd (call fn_ref04_carried [v54]) fun v55 =>
    lp (aNil a0) fun v56 =>
    lp (aOff 0 v56) fun v57 =>
    bnd (store none v57 v55) fun u_2 =>
    ref04_Coder_Code_j0 call n a0 v36)
    (ref04_Coder_Code_j0 call n a0 v36))
theorem ref04_Coder_Code_eq {ext : Ext} (h : ext fn_ref04_Coder_Code = none) (n : Nat) (a0 a1 a2 a3 : AV) : fcall Tryz.prog ext (n + 1) fn_ref04_Coder_Code [a0, a1, a2, a3] = ref04_Coder_Code (fcall Tryz.prog ext n) n a0 a1 a2 a3 := by
  unfold fcall; rw [h]; kernel_rfl

/-! splicer/splicerref14.Right -/
noncomputable def ref14_Right_j0 (call : Nat → List AV → M AV) (n : Nat) (x2 : AV) : M AV :=
  ret x2
noncomputable def ref14_Right (call : Nat → List AV → M AV) (n : Nat) (a0 : AV) : M AV :=
  lp (aLenS a0) fun v4 =>
  lp (aBin .eql [6] v4 (.int .i64 13)) fun v5 =>
  mc v5
    (bnd (call fn_ref01_Within [a0, (.int .i64 0), (.int .i64 23)]) fun v8 =>
    ref14_Right_j0 call n v8)
    (ref14_Right_j0 call n (.bool false))
theorem ref14_Right_eq {ext : Ext} (h : ext fn_ref14_Right = none) (n : Nat) (a0 : AV) : fcall Tryz.prog ext (n + 1) fn_ref14_Right [a0] = ref14_Right (fcall Tryz.prog ext n) n a0 := by
  unfold fcall; rw [h]; kernel_rfl

/-! splicer/splicerref20.Band -/
noncomputable def ref20_Band_j0 (call : Nat → List AV → M AV) (n : Nat) (x6 : AV) : M AV :=
  ret x6
noncomputable def ref20_Band (call : Nat → List AV → M AV) (n : Nat) (a0 a1 a2 : AV) : M AV :=
  bnd (box T_api_Band a0) fun v3 =>
  lp (aOff 2 v3) fun v10 =>
  bnd (load none v10) fun v11 =>
  bnd (call fn_ref16_Size [v11]) fun v12 =>
  lp (aExt 0 v12) fun v13 =>
  lp (aExt 1 v12) fun v14 =>
  lp (aOff 0 v3) fun v15 =>
  bnd (load none v15) fun v16 =>
  lp (aBin .geq [] v16 (.int .i64 0)) fun v17 =>
  mc v17
    (lp (aOff 0 v3) fun v19 =>
    bnd (load none v19) fun v20 =>
    lp (aBin .leq [] v20 (.int .i64 23)) fun v21 =>
    mc v21
      (lp (aOff 1 v3) fun v24 =>
      bnd (load none v24) fun v25 =>
      lp (aBin .geq [] v25 (.int .i64 0)) fun v26 =>
      mc v26
        (lp (aOff 1 v3) fun v29 =>
        bnd (load none v29) fun v30 =>
        lp (aBin .leq [] v30 (.int .i64 3)) fun v31 =>
        mc v31
          (lp (aOff 0 v3) fun v34 =>
          bnd (load none v34) fun v35 =>
          lp (aBin .gtr [] v35 (.int .i64 0)) fun v36 =>
          mc v36
            (lp (aOff 2 v3) fun v44 =>
            bnd (load none v44) fun v45 =>
            lp (aLenS v45) fun v46 =>
            lp (aBin .eql [6] v46 a2) fun v48 =>
            mc v48
              (mc v14
                (lp (aOff 0 v3) fun v56 =>
                bnd (load none v56) fun v57 =>
                bnd (call fn_ref15_Band [a1, v57, a2]) fun v59 =>
                lp (aBin .eql [6] v13 v59) fun v60 =>
                ref20_Band_j0 call n v60)
                (ref20_Band_j0 call n (.bool false)))
              (ref20_Band_j0 call n (.bool false)))
            (lp (aOff 1 v3) fun v38 =>
            bnd (load none v38) fun v39 =>
            lp (aBin .eql [6] v39 (.int .i64 0)) fun v40 =>
            mc v40
              (lp (aOff 2 v3) fun v44_1 =>
              bnd (load none v44_1) fun v45_1 =>
              lp (aLenS v45_1) fun v46_1 =>
              lp (aBin .eql [6] v46_1 a2) fun v48_1 =>
              mc v48_1
                (mc v14
                  (lp (aOff 0 v3) fun v56_1 =>
                  bnd (load none v56_1) fun v57_1 =>
                  bnd (call fn_ref15_Band [a1, v57_1, a2]) fun v59_1 =>
                  lp (aBin .eql [6] v13 v59_1) fun v60_1 =>
                  ref20_Band_j0 call n v60_1)
                  (ref20_Band_j0 call n (.bool false)))
                (ref20_Band_j0 call n (.bool false)))
              (ref20_Band_j0 call n (.bool false))))
          (ref20_Band_j0 call n (.bool false)))
        (ref20_Band_j0 call n (.bool false)))
      (ref20_Band_j0 call n (.bool false)))
    (ref20_Band_j0 call n (.bool false))
theorem ref20_Band_eq {ext : Ext} (h : ext fn_ref20_Band = none) (n : Nat) (a0 a1 a2 : AV) : fcall Tryz.prog ext (n + 1) fn_ref20_Band [a0, a1, a2] = ref20_Band (fcall Tryz.prog ext n) n a0 a1 a2 := by
  unfold fcall; rw [h]; kernel_rfl

/-! strings.TrimRight -/
noncomputable def strings_TrimRight_j1 (call : Nat → List AV → M AV) (n : Nat) (x0_1 x1_1 x21 : AV) : M AV :=
  mc x21
    (lp (aIdxStr x1_1 (.int .i64 0)) fun v24 =>
    bnd (call fn_strings_trimRightByte [x0_1, v24]) fun v25 =>
    ret v25)
    (bnd (call fn_strings_makeASCIISet [x1_1]) fun v28 =>
lp (aExt 0 v28) fun v29 =>
lp (aExt 1 v28) fun v30 =>
bnd (alloc T_strings_asciiSet [.bool false, .bool false, .bool false, .bool false, .bool false, .bool false, .bool false, .bool false, .bool false, .bool false, .bool false, .bool false, .bool false, .bool false, .bool false, .bool false, .bool false, .bool false, .bool false, .bool false, .bool false, .bool false, .bool false, .bool false, .bool false, .bool false, .bool false, .bool false, .bool false, .bool false, .bool false, .bool false, .bool false, .bool false, .bool false, .bool false, .bool false, .bool false, .bool false, .bool false, .bool false, .bool false, .bool false, .bool false, .bool false, .bool false, .bool false, .bool false, .bool false, .bool false, .bool false, .bool false, .bool false, .bool false, .bool false, .bool false, .bool false, .bool false, .bool false, .bool false, .bool false, .bool false, .bool false, .bool false, .bool false, .bool false, .bool false, .bool false, .bool false, .bool false, .bool false, .bool false, .bool false, .bool false, .bool false, .bool false, .bool false, .bool false, .bool false, .bool false, .bool false, .bool false, .bool false, .bool false, .bool false, .bool false, .bool false, .bool false, .bool false, .bool false, .bool false, .bool false, .bool false, .bool false, .bool false, .bool false, .bool false, .bool false, .bool false, .bool false, .bool false, .bool false, .bool false, .bool false, .bool false, .bool false, .bool false, .bool false, .bool false, .bool false, .bool false, .bool false, .bool false, .bool false, .bool false, .bool false, .bool false, .bool false, .bool false, .bool false, .bool false, .bool false, .bool false, .bool false, .bool false, .bool false, .bool false, .bool false, .bool false, .bool false, .bool false, .bool false, .bool false, .bool false, .bool false, .bool false, .bool false, .bool false, .bool false, .bool false, .bool false, .bool false, .bool false, .bool false, .bool false, .bool false, .bool false, .bool false, .bool false, .bool false, .bool false, .bool false, .bool false, .bool false, .bool false, .bool false, .bool false, .bool false, .bool false, .bool false, .bool false, .bool false, .bool false, .bool false, .bool false, .bool false, .bool false, .bool false, .bool false, .bool false, .bool false, .bool false, .bool false, .bool false, .bool false, .bool false, .bool false, .bool false, .bool false, .bool false, .bool false, .bool false, .bool false, .bool false, .bool false, .bool false, .bool false, .bool false, .bool false, .bool false, .bool false, .bool false, .bool false, .bool false, .bool false, .bool false, .bool false, .bool false, .bool false, .bool false, .bool false, .bool false, .bool false, .bool false, .bool false, .bool false, .bool false, .bool false, .bool false, .bool false, .bool false, .bool false, .bool false, .bool false, .bool false, .bool false, .bool false, .bool false, .bool false, .bool false, .bool false, .bool false, .bool false, .bool false, .bool false, .bool false, .bool false, .bool false, .bool false, .bool false, .bool false, .bool false, .bool false, .bool false, .bool false, .bool false, .bool false, .bool false, .bool false, .bool false, .bool false, .bool false, .bool false, .bool false, .bool false, .bool false, .bool false, .bool false, .bool false, .bool false, .bool false, .bool false, .bool false, .bool false, .bool false, .bool false]) fun v5 =>
bnd (store (some 256) v5 v29) fun u =>
mc v30
  (bnd (call fn_strings_trimRightASCII [x0_1, v5]) fun v33 =>
  ret v33)
  (bnd (call fn_strings_trimRightUnicode [x0_1, x1_1]) fun v36 =>
ret v36))
noncomputable def strings_TrimRight_j0 (call : Nat → List AV → M AV) (n : Nat) (x0 x1 x12 : AV) : M AV :=
  mc x12
    (ret x0)
    (lp (aLenStr x1) fun v15 =>
lp (aBin .eql [6] v15 (.int .i64 1)) fun v16 =>
mc v16
  (lp (aIdxStr x1 (.int .i64 0)) fun v19 =>
  lp (aBin .lss [] v19 (.int .u8 128)) fun v20 =>
  strings_TrimRight_j1 call n x0 x1 v20)
  (strings_TrimRight_j1 call n x0 x1 (.bool false)))
noncomputable def strings_TrimRight (call : Nat → List AV → M AV) (n : Nat) (a0 a1 : AV) : M AV :=
  lp (aBin .eql [7] a0 (.str .empty)) fun v8 =>
  mc v8
    (strings_TrimRight_j0 call n a0 a1 (.bool true))
    (lp (aBin .eql [7] a1 (.str .empty)) fun v11 =>
    strings_TrimRight_j0 call n a0 a1 v11)
theorem strings_TrimRight_eq {ext : Ext} (h : ext fn_strings_TrimRight = none) (n : Nat) (a0 a1 : AV) : fcall Tryz.prog ext (n + 1) fn_strings_TrimRight [a0, a1] = strings_TrimRight (fcall Tryz.prog ext n) n a0 a1 := by
  unfold fcall; rw [h]; kernel_rfl

/-! (*strings.Builder).WriteByte -/
noncomputable def strings_Builder_WriteByte (call : Nat → List AV → M AV) (n : Nat) (a0 a1 : AV) : M AV :=
  bnd (call fn_strings_Builder_copyCheck [a0]) fun v6 =>
  lp (aNil a0) fun v9 =>
  lp (aOff 1 v9) fun v10 =>
  bnd (load none v10) fun v11 =>
  lp (aFill (fun i => some (i * 1, 1)) [.int .u8 0] [(0, a1)]) fun cs =>
  bnd (allocS T_uint8 1 1 cs) fun v13 =>
  bnd (append T_uint8 1 1 v11 v13) fun v14 =>
  lp (aNil a0) fun v15 =>
  lp (aOff 1 v15) fun v16 =>
  bnd (store none v16 v14) fun u =>
  ret .nilface
theorem strings_Builder_WriteByte_eq {ext : Ext} (h : ext fn_strings_Builder_WriteByte = none) (n : Nat) (a0 a1 : AV) : fcall Tryz.prog ext (n + 1) fn_strings_Builder_WriteByte [a0, a1] = strings_Builder_WriteByte (fcall Tryz.prog ext n) n a0 a1 := by
  unfold fcall; rw [h]; kernel_rfl

/-! (*strings.Builder).String -/
noncomputable def strings_Builder_String (call : Nat → List AV → M AV) (n : Nat) (a0 : AV) : M AV :=
  lp (aNil a0) fun v4 =>
  lp (aOff 1 v4) fun v5 =>
  bnd (load none v5) fun v6 =>
  snap fun m =>
  bnd (sliceData v6) fun v7 =>
  snap fun _ =>
  lp (aNil a0) fun v9 =>
  lp (aOff 1 v9) fun v10 =>
  bnd (load none v10) fun v11 =>
  same none v10 v11 m <|
  lp (aLenS v11) fun v12 =>
  snap fun _ =>
  bnd (unsafeStr T_uint8 v7 v12) fun v13 =>
  snap fun _ =>
  ret v13
theorem strings_Builder_String_eq {ext : Ext} (h : ext fn_strings_Builder_String = none) (n : Nat) (a0 : AV) : fcall Tryz.prog ext (n + 1) fn_strings_Builder_String [a0] = strings_Builder_String (fcall Tryz.prog ext n) n a0 := by
  unfold fcall; rw [h]; kernel_rfl

/-! (*strings.Builder).WriteString -/
noncomputable def strings_Builder_WriteString (call : Nat → List AV → M AV) (n : Nat) (a0 a1 : AV) : M AV :=
  bnd (call fn_strings_Builder_copyCheck [a0]) fun v7 =>
  lp (aNil a0) fun v10 =>
  lp (aOff 1 v10) fun v11 =>
  bnd (load none v11) fun v12 =>
  bnd (append T_uint8 1 1 v12 a1) fun v14 =>
  lp (aNil a0) fun v15 =>
  lp (aOff 1 v15) fun v16 =>
  bnd (store none v16 v14) fun u =>
  lp (aLenStr a1) fun v18 =>
  ret (.tup [v18, .nilface])
theorem strings_Builder_WriteString_eq {ext : Ext} (h : ext fn_strings_Builder_WriteString = none) (n : Nat) (a0 a1 : AV) : fcall Tryz.prog ext (n + 1) fn_strings_Builder_WriteString [a0, a1] = strings_Builder_WriteString (fcall Tryz.prog ext n) n a0 a1 := by
  unfold fcall; rw [h]; kernel_rfl

/-! splicer/energy.expects -/
noncomputable def energy_expects (call : Nat → List AV → M AV) (n : Nat) (a0 a1 : AV) : M AV :=
  bnd (box T_sl_int a1) fun v3 =>
  mc a0
    (ret (.func (.func fn_energy_expects_c1) [] []))
    (ret (.func (.func fn_energy_expects_c2) [] [v3]))
theorem energy_expects_eq {ext : Ext} (h : ext fn_energy_expects = none) (n : Nat) (a0 a1 : AV) : fcall Tryz.prog ext (n + 1) fn_energy_expects [a0, a1] = energy_expects (fcall Tryz.prog ext n) n a0 a1 := by
  unfold fcall; rw [h]; kernel_rfl

/-! splicer/pvq.Count -/
noncomputable def pvq_Count_j0 (call : Nat → List AV → M AV) (n : Nat) (x0 x1 x18 : AV) : M AV :=
  mc x18
    (ret (.int .i64 0))
    (bnd (call fn_pvq_made []) fun v19 =>
lp (aNil v19) fun v22 =>
lp (aIdxA 9 25 v22 x0) fun v23 =>
lp (aIdxA 25 1 v23 x1) fun v24 =>
bnd (load none v24) fun v25 =>
ret v25)
noncomputable def pvq_Count (call : Nat → List AV → M AV) (n : Nat) (a0 a1 : AV) : M AV :=
  lp (aBin .lss [] a0 (.int .i64 0)) fun v6 =>
  mc v6
    (pvq_Count_j0 call n a0 a1 (.bool true))
    (lp (aBin .gtr [] a0 (.int .i64 8)) fun v9 =>
    mc v9
      (pvq_Count_j0 call n a0 a1 (.bool true))
      (lp (aBin .lss [] a1 (.int .i64 0)) fun v13 =>
      mc v13
        (pvq_Count_j0 call n a0 a1 (.bool true))
        (lp (aBin .gtr [] a1 (.int .i64 24)) fun v17 =>
        pvq_Count_j0 call n a0 a1 v17)))
theorem pvq_Count_eq {ext : Ext} (h : ext fn_pvq_Count = none) (n : Nat) (a0 a1 : AV) : fcall Tryz.prog ext (n + 1) fn_pvq_Count [a0, a1] = pvq_Count (fcall Tryz.prog ext n) n a0 a1 := by
  unfold fcall; rw [h]; kernel_rfl

/-! splicer/pvq.Index -/
noncomputable def pvq_Index_j1 (call : Nat → List AV → M AV) (n : Nat) (rec : List AV → M AV) (x0_3 x4_3 x6_3 x7_3 x21_3 x22_3 x23_3 : AV) : M AV :=
  lp (aBin .add [] x23_3 (.int .i64 1)) fun v74 =>
  rec [x0_3, x4_3, x6_3, x7_3, x21_3, x22_3, v74]
noncomputable def pvq_Index_l1 (call : Nat → List AV → M AV) (n : Nat) (rec : List AV → M AV) (rec_1 : List AV → M AV) (x0_2 x4_2 x6_2 x7_2 x9_1 x10_1 x11_1 x12 x21_2 x22_2 x23_2 : AV) : M AV :=
  lp (aBin .lss [] x12 x11_1) fun v49 =>
  mc v49
    (lp (aBin .sub [] x4_2 x12) fun v56 =>
  lp (aNil x10_1) fun v57 =>
  lp (aIdxA 25 1 v57 v56) fun v58 =>
  bnd (load none v58) fun v59 =>
  lp (aBin .mul [] (.int .i64 2) v59) fun v60 =>
  lp (aBin .add [] x7_2 v60) fun v61 =>
  lp (aBin .add [] x12 (.int .i64 1)) fun v51 =>
  rec_1 [x0_2, x4_2, x6_2, v61, x9_1, x10_1, x11_1, v51, x21_2, x22_2, x23_2])
    (lp (aBin .sub [] x4_2 x11_1) fun v64 =>
lp (aBin .lss [] x9_1 (.int .i64 0)) fun v66 =>
mc v66
  (lp (aNil x10_1) fun v70 =>
  lp (aIdxA 25 1 v70 v64) fun v71 =>
  bnd (load none v71) fun v72 =>
  lp (aBin .add [] x7_2 v72) fun v73 =>
  pvq_Index_j1 call n rec x0_2 v64 x6_2 v73 x21_2 x22_2 x23_2)
  (pvq_Index_j1 call n rec x0_2 v64 x6_2 x7_2 x21_2 x22_2 x23_2))
noncomputable def pvq_Index_j0 (call : Nat → List AV → M AV) (n : Nat) (rec : List AV → M AV) (x0_1 x4_1 x6_1 x7_1 x9 x10 x11 x21_1 x22_1 x23_1 : AV) : M AV :=
  loopN (fun r l => pvq_Index_l1 call n rec r (l.getD 0 .undef) (l.getD 1 .undef) (l.getD 2 .undef) (l.getD 3 .undef) (l.getD 4 .undef) (l.getD 5 .undef) (l.getD 6 .undef) (l.getD 7 .undef) (l.getD 8 .undef) (l.getD 9 .undef) (l.getD 10 .undef)) n [x0_1, x4_1, x6_1, x7_1, x9, x10, x11, (.int .i64 1), x21_1, x22_1, x23_1]
noncomputable def pvq_Index_l0 (call : Nat → List AV → M AV) (n : Nat) (rec : List AV → M AV) (x0 x4 x6 x7 x21 x22 x23 : AV) : M AV :=
  lp (aBin .lss [] x23 x22) fun v24 =>
  mc v24
    (lp (aIdxS 1 x21 x23) fun v26 =>
  bnd (load none v26) fun v27 =>
  lp (aLenS x0) fun v30 =>
  lp (aBin .sub [] v30 (.int .i64 1)) fun v31 =>
  lp (aBin .sub [] v31 x23) fun v33 =>
  lp (aNil x6) fun v34 =>
  lp (aIdxA 9 25 v34 v33) fun v35 =>
  bnd (call fn_num_Abs [v27]) fun v37 =>
  lp (aBin .gtr [] v37 (.int .i64 0)) fun v39 =>
  mc v39
    (lp (aNil v35) fun v43 =>
    lp (aIdxA 25 1 v43 x4) fun v44 =>
    bnd (load none v44) fun v45 =>
    lp (aBin .add [] x7 v45) fun v46 =>
    pvq_Index_j0 call n rec x0 x4 x6 v46 v27 v35 v37 x21 x22 x23)
    (pvq_Index_j0 call n rec x0 x4 x6 x7 v27 v35 v37 x21 x22 x23))
    (ret (.tup [x7, (.bool true)]))
noncomputable def pvq_Index (call : Nat → List AV → M AV) (n : Nat) (a0 : AV) : M AV :=
  bnd (call fn_pvq_Size [a0]) fun v15 =>
  lp (aExt 0 v15) fun v16 =>
  lp (aExt 1 v15) fun v17 =>
  lp (aUn .not v17) fun v19 =>
  mc v19
    (ret (.tup [(.int .i64 0), (.bool false)]))
    (bnd (call fn_pvq_made []) fun v20 =>
  lp (aLenS a0) fun v22 =>
  loopN (fun r l => pvq_Index_l0 call n r (l.getD 0 .undef) (l.getD 1 .undef) (l.getD 2 .undef) (l.getD 3 .undef) (l.getD 4 .undef) (l.getD 5 .undef) (l.getD 6 .undef)) n [a0, v16, v20, (.int .i64 0), a0, v22, (.int .i64 0)])
theorem pvq_Index_eq {ext : Ext} (h : ext fn_pvq_Index = none) (n : Nat) (a0 : AV) : fcall Tryz.prog ext (n + 1) fn_pvq_Index [a0] = pvq_Index (fcall Tryz.prog ext n) n a0 := by
  unfold fcall; rw [h]; kernel_rfl

/-! splicer/alloc.Band -/
noncomputable def alloc_Band_j0 (call : Nat → List AV → M AV) (n : Nat) (x0 x1 x2 x15 : AV) : M AV :=
  mc x15
    (ret (.int .i64 0))
    (bnd (call fn_alloc_times [x2]) fun v17 =>
lp (aBin .add [] x1 x0) fun v20 =>
lp (aBin .sub [] v20 (.int .i64 8)) fun v21 =>
bnd (call fn_alloc_held_int [v21, (.int .i64 0), (.int .i64 8)]) fun v22 =>
lp (aBin .mul [] v17 v22) fun v23 =>
ret v23)
noncomputable def alloc_Band (call : Nat → List AV → M AV) (n : Nat) (a0 a1 a2 : AV) : M AV :=
  bnd (call fn_alloc_good [a0]) fun v8 =>
  lp (aUn .not v8) fun v9 =>
  mc v9
    (alloc_Band_j0 call n a0 a1 a2 (.bool true))
    (bnd (call fn_alloc_held_int [a1, (.int .i64 1), (.int .i64 23)]) fun v12 =>
    lp (aBin .neq [6] v12 a1) fun v14 =>
    alloc_Band_j0 call n a0 a1 a2 v14)
theorem alloc_Band_eq {ext : Ext} (h : ext fn_alloc_Band = none) (n : Nat) (a0 a1 a2 : AV) : fcall Tryz.prog ext (n + 1) fn_alloc_Band [a0, a1, a2] = alloc_Band (fcall Tryz.prog ext n) n a0 a1 a2 := by
  unfold fcall; rw [h]; kernel_rfl

/-! splicer/layout.Width -/
noncomputable def layout_Width_j0 (call : Nat → List AV → M AV) (n : Nat) (x0 x9 : AV) : M AV :=
  mc x9
    (ret (.int .i64 0))
    (bnd (call fn_layout_widths []) fun v10 =>
bnd (alloc T_13_int [.int .i64 0, .int .i64 0, .int .i64 0, .int .i64 0, .int .i64 0, .int .i64 0, .int .i64 0, .int .i64 0, .int .i64 0, .int .i64 0, .int .i64 0, .int .i64 0, .int .i64 0]) fun v3 =>
bnd (store (some 13) v3 v10) fun u =>
lp (aIdxA 13 1 v3 x0) fun v12 =>
bnd (load none v12) fun v13 =>
ret v13)
noncomputable def layout_Width (call : Nat → List AV → M AV) (n : Nat) (a0 : AV) : M AV :=
  lp (aBin .lss [] a0 (.int .i64 0)) fun v5 =>
  mc v5
    (layout_Width_j0 call n a0 (.bool true))
    (lp (aBin .geq [] a0 (.int .i64 13)) fun v8 =>
    layout_Width_j0 call n a0 v8)
theorem layout_Width_eq {ext : Ext} (h : ext fn_layout_Width = none) (n : Nat) (a0 : AV) : fcall Tryz.prog ext (n + 1) fn_layout_Width [a0] = layout_Width (fcall Tryz.prog ext n) n a0 := by
  unfold fcall; rw [h]; kernel_rfl

/-! splicer/sym.PutDelta -/
noncomputable def sym_PutDelta_j2 (call : Nat → List AV → M AV) (n : Nat) (x4_1 : AV) : M AV :=
  ret x4_1
noncomputable def sym_PutDelta_j1 (call : Nat → List AV → M AV) (n : Nat) (x4 : AV) : M AV :=
  ret x4
noncomputable def sym_PutDelta_j0 (call : Nat → List AV → M AV) (n : Nat) (x0 x1 x12 : AV) : M AV :=
  mc x12
    (ret (.bool false))
    (bnd (call fn_sym_ends []) fun v13 =>
bnd (call fn_sym_rank [x1]) fun v15 =>
bnd (alloc T_8_int [.int .i64 0, .int .i64 0, .int .i64 0, .int .i64 0, .int .i64 0, .int .i64 0, .int .i64 0, .int .i64 0]) fun v5 =>
bnd (store (some 8) v5 v13) fun u =>
bnd (load (some 8) v5) fun v17 =>
snap fun m =>
bnd (call fn_sym_begins [v17, v15]) fun v19 =>
snap fun _ =>
lp (aIdxA 8 1 v5 v15) fun v21 =>
bnd (load none v21) fun v22 =>
same none v21 v22 m <|
snap fun _ =>
bnd (call fn_rc_Coder_Code [x0, v19, v22, (.int .i64 64)]) fun v23 =>
snap fun _ =>
lp (aBin .leq [] v15 (.int .i64 6)) fun v26 =>
mc v26
  (ret (.bool true))
  (lp (aBin .gtr [] x1 (.int .i64 0)) fun v29 =>
  mc v29
    (bnd (call fn_sym_PutBits [x0, (.int .i64 1), (.int .i64 1)]) fun v31 =>
    mc v31
      (lp (aBin .sub [] x1 (.int .i64 3)) fun v35 =>
      lp (aBin .sub [] v35 (.int .i64 1)) fun v36 =>
      bnd (call fn_sym_PutBelow [x0, v36, (.int .i64 64)]) fun v37 =>
      sym_PutDelta_j1 call n v37)
      (sym_PutDelta_j1 call n (.bool false)))
    (bnd (call fn_sym_PutBits [x0, (.int .i64 0), (.int .i64 1)]) fun v40 =>
mc v40
  (lp (aUn .neg x1) fun v44 =>
  lp (aBin .sub [] v44 (.int .i64 3)) fun v45 =>
  lp (aBin .sub [] v45 (.int .i64 1)) fun v46 =>
  bnd (call fn_sym_PutBelow [x0, v46, (.int .i64 64)]) fun v47 =>
  sym_PutDelta_j2 call n v47)
  (sym_PutDelta_j2 call n (.bool false)))))
noncomputable def sym_PutDelta (call : Nat → List AV → M AV) (n : Nat) (a0 a1 : AV) : M AV :=
  lp (aBin .leq [] a1 (.int .i64 (-68))) fun v8 =>
  mc v8
    (sym_PutDelta_j0 call n a0 a1 (.bool true))
    (lp (aBin .geq [] a1 (.int .i64 68)) fun v11 =>
    sym_PutDelta_j0 call n a0 a1 v11)
theorem sym_PutDelta_eq {ext : Ext} (h : ext fn_sym_PutDelta = none) (n : Nat) (a0 a1 : AV) : fcall Tryz.prog ext (n + 1) fn_sym_PutDelta [a0, a1] = sym_PutDelta (fcall Tryz.prog ext n) n a0 a1 := by
  unfold fcall; rw [h]; kernel_rfl

/-! splicer/frame.Rows$1 -/
noncomputable def frame_Rows_c1 (call : Nat → List AV → M AV) (n : Nat) (a0 : AV) : M AV :=
  bnd (box T_api_Chan a0) fun v1 =>
  lp (aOff 0 v1) fun v3 =>
  bnd (load none v3) fun v4 =>
  bnd (call fn_frame_mapped_api_Band_int [v4, (.func (.func fn_frame_Rows_c1_c1) [] [])]) fun v5 =>
  ret v5
theorem frame_Rows_c1_eq {ext : Ext} (h : ext fn_frame_Rows_c1 = none) (n : Nat) (a0 : AV) : fcall Tryz.prog ext (n + 1) fn_frame_Rows_c1 [a0] = frame_Rows_c1 (fcall Tryz.prog ext n) n a0 := by
  unfold fcall; rw [h]; kernel_rfl

/-! splicer/frame.mapped[splicer/api.Chan,[]int] -/
noncomputable def frame_mapped_api_Chan_sl_int_l0 (call : Nat → List AV → M AV) (n : Nat) (rec : List AV → M AV) (x1 x5 x11 x12 x13 : AV) : M AV :=
  lp (aBin .lss [] x13 x12) fun v14 =>
  mc v14
    (lp (aIdxS 1 x11 x13) fun v16 =>
  bnd (load (some 1) v16) fun v17 =>
  bnd (alloc T_api_Chan [.nilslice]) fun v7 =>
  bnd (store (some 1) v7 v17) fun u =>
  bnd (load (some 1) v7) fun v21 =>
  callee call x1 [v21] fun v22 =>
  lp (aIdxS 1 x5 x13) fun v23 =>
  bnd (store none v23 v22) fun u_1 =>
  lp (aBin .add [] x13 (.int .i64 1)) fun v24 =>
  rec [x1, x5, x11, x12, v24])
    (ret x5)
noncomputable def frame_mapped_api_Chan_sl_int (call : Nat → List AV → M AV) (n : Nat) (a0 a1 : AV) : M AV :=
  lp (aLenS a0) fun v9 =>
  bnd (mkSlice T_sl_int 1 24 [.nilslice] v9 v9) fun v10 =>
  lp (aLenS a0) fun v12 =>
  loopN (fun r l => frame_mapped_api_Chan_sl_int_l0 call n r (l.getD 0 .undef) (l.getD 1 .undef) (l.getD 2 .undef) (l.getD 3 .undef) (l.getD 4 .undef)) n [a1, v10, a0, v12, (.int .i64 0)]
theorem frame_mapped_api_Chan_sl_int_eq {ext : Ext} (h : ext fn_frame_mapped_api_Chan_sl_int = none) (n : Nat) (a0 a1 : AV) : fcall Tryz.prog ext (n + 1) fn_frame_mapped_api_Chan_sl_int [a0, a1] = frame_mapped_api_Chan_sl_int (fcall Tryz.prog ext n) n a0 a1 := by
  unfold fcall; rw [h]; kernel_rfl

/-! splicer/sym.put -/
noncomputable def sym_put (call : Nat → List AV → M AV) (n : Nat) (a0 a1 a2 : AV) : M AV :=
  lp (aBin .add [] a1 (.int .i64 1)) fun v9 =>
  bnd (call fn_rc_Coder_Code [a0, a1, v9, a2]) fun v11 =>
  ret (.tup [])
theorem sym_put_eq {ext : Ext} (h : ext fn_sym_put = none) (n : Nat) (a0 a1 a2 : AV) : fcall Tryz.prog ext (n + 1) fn_sym_put [a0, a1, a2] = sym_put (fcall Tryz.prog ext n) n a0 a1 a2 := by
  unfold fcall; rw [h]; kernel_rfl

/-! splicer/sym.parted -/
noncomputable def sym_parted_l0 (call : Nat → List AV → M AV) (n : Nat) (rec : List AV → M AV) (x0 x4 : AV) : M AV :=
  lp (aBin .sub [] x0 (.int .i64 1)) fun v6 =>
  lp (aBin .shr [] v6 x4) fun v8 =>
  lp (aBin .geq [] v8 (.int .i64 4096)) fun v9 =>
  mc v9
    (lp (aBin .add [] x4 (.int .i64 8)) fun v11 =>
  rec [x0, v11])
    (lp (aBin .sub [] x0 (.int .i64 1)) fun v14 =>
lp (aBin .shr [] v14 x4) fun v16 =>
lp (aBin .add [] v16 (.int .i64 1)) fun v17 =>
ret (.tup [x4, v17]))
noncomputable def sym_parted (call : Nat → List AV → M AV) (n : Nat) (a0 : AV) : M AV :=
  loopN (fun r l => sym_parted_l0 call n r (l.getD 0 .undef) (l.getD 1 .undef)) n [a0, (.int .i64 0)]
theorem sym_parted_eq {ext : Ext} (h : ext fn_sym_parted = none) (n : Nat) (a0 : AV) : fcall Tryz.prog ext (n + 1) fn_sym_parted [a0] = sym_parted (fcall Tryz.prog ext n) n a0 := by
  unfold fcall; rw [h]; kernel_rfl

/-! splicer/sym.PutBits -/
noncomputable def sym_PutBits_j1 (call : Nat → List AV → M AV) (n : Nat) : M AV :=
  ret (.bool true)
noncomputable def sym_PutBits_l0 (call : Nat → List AV → M AV) (n : Nat) (rec : List AV → M AV) (x0_1 x1_1 x2_1 : AV) : M AV :=
  lp (aBin .gtr [] x2_1 (.int .i64 8)) fun v24 =>
  mc v24
    (lp (aBin .sub [] x2_1 (.int .i64 8)) fun v30 =>
  lp (aBin .shr [] x1_1 v30) fun v31 =>
  lp (aBin .and [] v31 (.int .i64 255)) fun v32 =>
  bnd (call fn_sym_put [x0_1, v32, (.int .i64 256)]) fun v33 =>
  lp (aBin .sub [] x2_1 (.int .i64 8)) fun v26 =>
  rec [x0_1, x1_1, v26])
    (lp (aBin .gtr [] x2_1 (.int .i64 0)) fun v35 =>
mc v35
  (lp (aBin .shl [] (.int .i64 1) x2_1) fun v39 =>
  lp (aBin .sub [] v39 (.int .i64 1)) fun v40 =>
  lp (aBin .and [] x1_1 v40) fun v41 =>
  lp (aBin .shl [] (.int .i64 1) x2_1) fun v43 =>
  snap fun _ =>
  bnd (call fn_sym_put [x0_1, v41, v43]) fun v44 =>
  snap fun _ =>
  sym_PutBits_j1 call n)
  (sym_PutBits_j1 call n))
noncomputable def sym_PutBits_j0 (call : Nat → List AV → M AV) (n : Nat) (x0 x1 x2 x22 : AV) : M AV :=
  mc x22
    (ret (.bool false))
    (loopN (fun r l => sym_PutBits_l0 call n r (l.getD 0 .undef) (l.getD 1 .undef) (l.getD 2 .undef)) n [x0, x1, x2])
noncomputable def sym_PutBits (call : Nat → List AV → M AV) (n : Nat) (a0 a1 a2 : AV) : M AV :=
  lp (aBin .lss [] a2 (.int .i64 0)) fun v8 =>
  mc v8
    (sym_PutBits_j0 call n a0 a1 a2 (.bool true))
    (lp (aBin .gtr [] a2 (.int .i64 31)) fun v11 =>
    mc v11
      (sym_PutBits_j0 call n a0 a1 a2 (.bool true))
      (lp (aBin .lss [] a1 (.int .i64 0)) fun v15 =>
      mc v15
        (sym_PutBits_j0 call n a0 a1 a2 (.bool true))
        (lp (aBin .shr [] a1 a2) fun v20 =>
        lp (aBin .gtr [] v20 (.int .i64 0)) fun v21 =>
        sym_PutBits_j0 call n a0 a1 a2 v21)))
theorem sym_PutBits_eq {ext : Ext} (h : ext fn_sym_PutBits = none) (n : Nat) (a0 a1 a2 : AV) : fcall Tryz.prog ext (n + 1) fn_sym_PutBits [a0, a1, a2] = sym_PutBits (fcall Tryz.prog ext n) n a0 a1 a2 := by
  unfold fcall; rw [h]; kernel_rfl

/-! splicer/frame.fits -/
noncomputable def frame_fits_j1 (call : Nat → List AV → M AV) (n : Nat) (x6 : AV) : M AV :=
  ret x6
noncomputable def frame_fits_j0 (call : Nat → List AV → M AV) (n : Nat) (x3 x35 : AV) : M AV :=
  mc x35
    (ret (.bool false))
    (lp (aOff 0 x3) fun v36 =>
bnd (load none v36) fun v37 =>
lp (aBin .eql [6] v37 (.int .i64 0)) fun v38 =>
mc v38
  (lp (aOff 1 x3) fun v39 =>
  bnd (load none v39) fun v40 =>
  lp (aBin .eql [6] v40 (.int .i64 0)) fun v41 =>
  ret v41)
  (lp (aOff 0 x3) fun v42 =>
bnd (load none v42) fun v43 =>
lp (aBin .lss [] (.int .i64 0) v43) fun v44 =>
mc v44
  (lp (aOff 0 x3) fun v46 =>
  bnd (load none v46) fun v47 =>
  lp (aBin .leq [] v47 (.int .i64 23)) fun v48 =>
  mc v48
    (lp (aOff 1 x3) fun v51 =>
    bnd (load none v51) fun v52 =>
    lp (aBin .leq [] (.int .i64 0) v52) fun v53 =>
    mc v53
      (lp (aOff 1 x3) fun v56 =>
      bnd (load none v56) fun v57 =>
      lp (aBin .leq [] v57 (.int .i64 3)) fun v58 =>
      frame_fits_j1 call n v58)
      (frame_fits_j1 call n (.bool false)))
    (frame_fits_j1 call n (.bool false)))
  (frame_fits_j1 call n (.bool false))))
noncomputable def frame_fits (call : Nat → List AV → M AV) (n : Nat) (a0 a1 a2 : AV) : M AV :=
  bnd (box T_api_Band a0) fun v3 =>
  bnd (call fn_layout_Width [a2]) fun v11 =>
  lp (aOff 2 v3) fun v13 =>
  bnd (load none v13) fun v14 =>
  bnd (call fn_pvq_Size [v14]) fun v15 =>
  lp (aExt 0 v15) fun v16 =>
  lp (aExt 1 v15) fun v17 =>
  lp (aUn .not v17) fun v19 =>
  mc v19
    (frame_fits_j0 call n v3 (.bool true))
    (lp (aOff 2 v3) fun v21 =>
    bnd (load none v21) fun v22 =>
    lp (aLenS v22) fun v23 =>
    lp (aBin .neq [6] v23 v11) fun v25 =>
    mc v25
      (frame_fits_j0 call n v3 (.bool true))
      (lp (aOff 0 v3) fun v30 =>
      bnd (load none v30) fun v31 =>
      bnd (call fn_alloc_Band [a1, v31, v11]) fun v33 =>
      lp (aBin .neq [6] v16 v33) fun v34 =>
      frame_fits_j0 call n v3 v34))
theorem frame_fits_eq {ext : Ext} (h : ext fn_frame_fits = none) (n : Nat) (a0 a1 a2 : AV) : fcall Tryz.prog ext (n + 1) fn_frame_fits [a0, a1, a2] = frame_fits (fcall Tryz.prog ext n) n a0 a1 a2 := by
  unfold fcall; rw [h]; kernel_rfl

/-! splicer/energy.Right -/
noncomputable def energy_Right_j0 (call : Nat → List AV → M AV) (n : Nat) (rec : List AV → M AV) (x0_1 x5_1 x6_1 x7_1 x14_1 x15_1 x16 : AV) : M AV :=
  mc x16
    (ret (.bool false))
    (lp (aBin .add [] x7_1 (.int .i64 1)) fun v17 =>
rec [x0_1, x5_1, x6_1, v17, x14_1, x15_1])
noncomputable def energy_Right_l0 (call : Nat → List AV → M AV) (n : Nat) (rec : List AV → M AV) (x0 x5 x6 x7 x14 x15 : AV) : M AV :=
  lp (aBin .lss [] x7 x6) fun v8 =>
  mc v8
    (lp (aIdxS 1 x5 x7) fun v9 =>
  bnd (load none v9) fun v10 =>
  lp (aBin .lss [] v10 (.int .i64 0)) fun v12 =>
  mc v12
    (energy_Right_j0 call n rec x0 x5 x6 x7 (.tup []) (.tup []) (.bool true))
    (lp (aBin .gtr [] v10 (.int .i64 23)) fun v15 =>
    energy_Right_j0 call n rec x0 x5 x6 x7 v10 v15 v15))
    (lp (aLenS x0) fun v19 =>
lp (aBin .eql [6] v19 (.int .i64 13)) fun v20 =>
ret v20)
noncomputable def energy_Right (call : Nat → List AV → M AV) (n : Nat) (a0 : AV) : M AV :=
  lp (aLenS a0) fun v6 =>
  loopN (fun r l => energy_Right_l0 call n r (l.getD 0 .undef) (l.getD 1 .undef) (l.getD 2 .undef) (l.getD 3 .undef) (l.getD 4 .undef) (l.getD 5 .undef)) n [a0, a0, v6, (.int .i64 0), .undef, .undef]
theorem energy_Right_eq {ext : Ext} (h : ext fn_energy_Right = none) (n : Nat) (a0 : AV) : fcall Tryz.prog ext (n + 1) fn_energy_Right [a0] = energy_Right (fcall Tryz.prog ext n) n a0 := by
  unfold fcall; rw [h]; kernel_rfl

/-! splicer/splicerref13.Width -/
noncomputable def ref13_Width_j0 (call : Nat → List AV → M AV) (n : Nat) (x0 x3 : AV) : M AV :=
  mc x3
    (ret (.int .i64 0))
    (lp (aBin .lss [] x0 (.int .i64 4)) fun v12 =>
    mc v12
      (ret (.int .i64 2))
      (lp (aBin .lss [] x0 (.int .i64 8)) fun v15 =>
      mc v15
        (ret (.int .i64 4))
        (ret (.int .i64 8))))
noncomputable def ref13_Width (call : Nat → List AV → M AV) (n : Nat) (a0 : AV) : M AV :=
  lp (aBin .lss [] a0 (.int .i64 0)) fun v5 =>
  mc v5
    (ref13_Width_j0 call n a0 (.bool true))
    (lp (aBin .gtr [] a0 (.int .i64 12)) fun v8 =>
    ref13_Width_j0 call n a0 v8)
theorem ref13_Width_eq {ext : Ext} (h : ext fn_ref13_Width = none) (n : Nat) (a0 : AV) : fcall Tryz.prog ext (n + 1) fn_ref13_Width [a0] = ref13_Width (fcall Tryz.prog ext n) n a0 := by
  unfold fcall; rw [h]; kernel_rfl

/-! splicer/splicerref20.Alike -/
noncomputable def ref20_Alike_j1 (call : Nat → List AV → M AV) (n : Nat) (rec : List AV → M AV) (rec_1 : List AV → M AV) (x2_3 x3_3 x5_2 x6_1 x7_1 x8_1 x72_2 x73_2 x74_2 x75_2 x76_2 x77_2 x78_2 x79_2 x80_2 x81_2 x82_2 x85_2 x86_2 x87_2 x88_2 x89_2 x90_2 x91_2 x92_2 x93_2 x94_2 x95_2 x96_2 x97 : AV) : M AV :=
  mc x97
    (ret (.bool false))
    (lp (aBin .add [] x8_1 (.int .i64 1)) fun v59 =>
rec_1 [x2_3, x3_3, x5_2, x6_1, x7_1, v59, x72_2, x73_2, x74_2, x75_2, x76_2, x77_2, x78_2, x79_2, x80_2, x81_2, x82_2, x85_2, x86_2, x87_2, x88_2, x89_2, x90_2, x91_2, x92_2, x93_2, x94_2, x95_2, x96_2])
noncomputable def ref20_Alike_l1 (call : Nat → List AV → M AV) (n : Nat) (rec : List AV → M AV) (rec_1 : List AV → M AV) (x2_2 x3_2 x5_1 x6 x7 x8 x72_1 x73_1 x74_1 x75_1 x76_1 x77_1 x78_1 x79_1 x80_1 x81_1 x82_1 x85_1 x86_1 x87_1 x88_1 x89_1 x90_1 x91_1 x92_1 x93_1 x94_1 x95_1 x96_1 : AV) : M AV :=
  lp (aLenS x6) fun v56 =>
  lp (aBin .lss [] x8 v56) fun v57 =>
  mc v57
    (lp (aIdxS 3 x6 x8) fun v62 =>
  lp (aOff 0 v62) fun v63 =>
  bnd (load none v63) fun v64 =>
  lp (aIdxS 3 x7 x8) fun v67 =>
  lp (aOff 0 v67) fun v68 =>
  bnd (load none v68) fun v69 =>
  lp (aBin .neq [6] v64 v69) fun v70 =>
  mc v70
    (ref20_Alike_j1 call n rec rec_1 x2_2 x3_2 x5_1 x6 x7 x8 (.tup []) (.tup []) (.tup []) (.tup []) (.tup []) (.tup []) (.tup []) (.tup []) (.tup []) (.tup []) (.tup []) (.tup []) (.tup []) (.tup []) (.tup []) (.tup []) (.tup []) (.tup []) (.tup []) (.tup []) (.tup []) (.tup []) (.tup []) (.bool true))
    (lp (aIdxS 3 x6 x8) fun v74 =>
    lp (aOff 1 v74) fun v75 =>
    bnd (load none v75) fun v76 =>
    lp (aIdxS 3 x7 x8) fun v79 =>
    lp (aOff 1 v79) fun v80 =>
    bnd (load none v80) fun v81 =>
    lp (aBin .neq [6] v76 v81) fun v82 =>
    mc v82
      (ref20_Alike_j1 call n rec rec_1 x2_2 x3_2 x5_1 x6 x7 x8 x6 x8 v74 v75 v76 x7 x8 v79 v80 v81 v82 (.tup []) (.tup []) (.tup []) (.tup []) (.tup []) (.tup []) (.tup []) (.tup []) (.tup []) (.tup []) (.tup []) (.tup []) (.bool true))
      (lp (aIdxS 3 x6 x8) fun v87 =>
      lp (aOff 2 v87) fun v88 =>
      bnd (load none v88) fun v89 =>
      lp (aIdxS 3 x7 x8) fun v92 =>
      lp (aOff 2 v92) fun v93 =>
      bnd (load none v93) fun v94 =>
      snap fun _ =>
      bnd (call fn_ref01_Same [v89, v94]) fun v95 =>
      snap fun _ =>
      lp (aUn .not v95) fun v96 =>
      ref20_Alike_j1 call n rec rec_1 x2_2 x3_2 x5_1 x6 x7 x8 x6 x8 v74 v75 v76 x7 x8 v79 v80 v81 v82 x6 x8 v87 v88 v89 x7 x8 v92 v93 v94 v95 v96 v96)))
    (lp (aBin .add [] x5_1 (.int .i64 1)) fun v36 =>
rec [x2_2, x3_2, v36, x72_1, x73_1, x74_1, x75_1, x76_1, x77_1, x78_1, x79_1, x80_1, x81_1, x82_1, x85_1, x86_1, x87_1, x88_1, x89_1, x90_1, x91_1, x92_1, x93_1, x94_1, x95_1, x96_1])
noncomputable def ref20_Alike_l0 (call : Nat → List AV → M AV) (n : Nat) (rec : List AV → M AV) (x2_1 x3_1 x5 x72 x73 x74 x75 x76 x77 x78 x79 x80 x81 x82 x85 x86 x87 x88 x89 x90 x91 x92 x93 x94 x95 x96 : AV) : M AV :=
  lp (aOff 4 x2_1) fun v31 =>
  bnd (load none v31) fun v32 =>
  lp (aLenS v32) fun v33 =>
  lp (aBin .lss [] x5 v33) fun v34 =>
  mc v34
    (lp (aOff 4 x2_1) fun v37 =>
  bnd (load none v37) fun v38 =>
  lp (aIdxS 1 v38 x5) fun v40 =>
  lp (aOff 0 v40) fun v41 =>
  bnd (load none v41) fun v42 =>
  lp (aOff 4 x3_1) fun v43 =>
  bnd (load none v43) fun v44 =>
  lp (aIdxS 1 v44 x5) fun v46 =>
  lp (aOff 0 v46) fun v47 =>
  bnd (load none v47) fun v48 =>
  lp (aLenS v42) fun v50 =>
  lp (aLenS v48) fun v52 =>
  lp (aBin .neq [6] v50 v52) fun v53 =>
  mc v53
    (ret (.bool false))
    (loopN (fun r l => ref20_Alike_l1 call n rec r (l.getD 0 .undef) (l.getD 1 .undef) (l.getD 2 .undef) (l.getD 3 .undef) (l.getD 4 .undef) (l.getD 5 .undef) (l.getD 6 .undef) (l.getD 7 .undef) (l.getD 8 .undef) (l.getD 9 .undef) (l.getD 10 .undef) (l.getD 11 .undef) (l.getD 12 .undef) (l.getD 13 .undef) (l.getD 14 .undef) (l.getD 15 .undef) (l.getD 16 .undef) (l.getD 17 .undef) (l.getD 18 .undef) (l.getD 19 .undef) (l.getD 20 .undef) (l.getD 21 .undef) (l.getD 22 .undef) (l.getD 23 .undef) (l.getD 24 .undef) (l.getD 25 .undef) (l.getD 26 .undef) (l.getD 27 .undef) (l.getD 28 .undef)) n [x2_1, x3_1, x5, v42, v48, (.int .i64 0), x72, x73, x74, x75, x76, x77, x78, x79, x80, x81, x82, x85, x86, x87, x88, x89, x90, x91, x92, x93, x94, x95, x96]))
    (ret (.bool true))
noncomputable def ref20_Alike_j0 (call : Nat → List AV → M AV) (n : Nat) (x2 x3 x29 : AV) : M AV :=
  mc x29
    (ret (.bool false))
    (loopN (fun r l => ref20_Alike_l0 call n r (l.getD 0 .undef) (l.getD 1 .undef) (l.getD 2 .undef) (l.getD 3 .undef) (l.getD 4 .undef) (l.getD 5 .undef) (l.getD 6 .undef) (l.getD 7 .undef) (l.getD 8 .undef) (l.getD 9 .undef) (l.getD 10 .undef) (l.getD 11 .undef) (l.getD 12 .undef) (l.getD 13 .undef) (l.getD 14 .undef) (l.getD 15 .undef) (l.getD 16 .undef) (l.getD 17 .undef) (l.getD 18 .undef) (l.getD 19 .undef) (l.getD 20 .undef) (l.getD 21 .undef) (l.getD 22 .undef) (l.getD 23 .undef) (l.getD 24 .undef) (l.getD 25 .undef)) n [x2, x3, (.int .i64 0), .undef, .undef, .undef, .undef, .undef, .undef, .undef, .undef, .undef, .undef, .undef, .undef, .undef, .undef, .undef, .undef, .undef, .undef, .undef, .undef, .undef, .undef, .undef])
noncomputable def ref20_Alike (call : Nat → List AV → M AV) (n : Nat) (a0 a1 : AV) : M AV :=
  bnd (box T_api_Frame a0) fun v2 =>
  bnd (box T_api_Frame a1) fun v3 =>
  lp (aOff 0 v2) fun v9 =>
  bnd (load none v9) fun v10 =>
  lp (aOff 0 v3) fun v11 =>
  bnd (load none v11) fun v12 =>
  lp (aBin .neq [1] v10 v12) fun v13 =>
  mc v13
    (ref20_Alike_j0 call n v2 v3 (.bool true))
    (lp (aOff 1 v2) fun v15 =>
    bnd (load none v15) fun v16 =>
    lp (aOff 1 v3) fun v17 =>
    bnd (load none v17) fun v18 =>
    lp (aBin .neq [1] v16 v18) fun v19 =>
    mc v19
      (ref20_Alike_j0 call n v2 v3 (.bool true))
      (lp (aOff 4 v2) fun v22 =>
      bnd (load none v22) fun v23 =>
      lp (aLenS v23) fun v24 =>
      lp (aOff 4 v3) fun v25 =>
      bnd (load none v25) fun v26 =>
      lp (aLenS v26) fun v27 =>
      lp (aBin .neq [6] v24 v27) fun v28 =>
      ref20_Alike_j0 call n v2 v3 v28))
theorem ref20_Alike_eq {ext : Ext} (h : ext fn_ref20_Alike = none) (n : Nat) (a0 a1 : AV) : fcall Tryz.prog ext (n + 1) fn_ref20_Alike [a0, a1] = ref20_Alike (fcall Tryz.prog ext n) n a0 a1 := by
  unfold fcall; rw [h]; kernel_rfl

/-! splicer/splicerref22.taken -/
noncomputable def ref22_taken_j1 (call : Nat → List AV → M AV) (n : Nat) (rec_2 : List AV → M AV) (x0_4 x3_4 x8_4 x12_3 x14_3 x17_1 x18 x19 x20 : AV) : M AV :=
  bnd (call fn_ref16_Vector [x18, x19, x20]) fun v99 =>
  lp (aExt 0 v99) fun v100 =>
  lp (aExt 1 v99) fun v101 =>
  lp (aOff 0 x14_3) fun v102 =>
  bnd (load none v102) fun v103 =>
  lp (aIdxS 3 v103 x17_1) fun v106 =>
  lp (aOff 2 v106) fun v107 =>
  bnd (store none v107 v100) fun u_6 =>
  lp (aBin .add [] x17_1 (.int .i64 1)) fun v71 =>
rec_2 [x0_4, x3_4, x8_4, x12_3, x14_3, v71]
noncomputable def ref22_taken_l2 (call : Nat → List AV → M AV) (n : Nat) (rec_2 : List AV → M AV) (x0_3 x3_3 x8_3 x12_2 x14_2 x17 : AV) : M AV :=
  lp (aBin .lss [] x17 (.int .i64 13)) fun v69 =>
  mc v69
    (bnd (call fn_ref13_Width [x17]) fun v73 =>
  lp (aIdxS 1 x12_2 x17) fun v77 =>
  bnd (load none v77) fun v78 =>
  bnd (call fn_ref15_Band [x3_3, v78, v73]) fun v80 =>
  lp (aBin .gtr [] v80 (.int .i64 0)) fun v82 =>
  mc v82
    (bnd (call fn_ref16_Count [v73, v80]) fun v87 =>
    bnd (call fn_ref05_GetBelow [x0_3, v87]) fun v88 =>
    lp (aExt 0 v88) fun v89 =>
    lp (aExt 1 v88) fun v90 =>
    lp (aUn .not v90) fun v92 =>
    mc v92
      (lp ((aFill (fun i => [(0, 1)][i]?) [.nilslice] []).map .agg) fun v93 =>
      bnd (store (some 1) x8_3 v93) fun u_5 =>
      bnd (load (some 1) x8_3) fun r_1 =>
      ret (.tup [r_1, (.bool false)]))
      (ref22_taken_j1 call n rec_2 x0_3 x3_3 x8_3 x12_2 x14_2 x17 v73 v80 v89))
    (ref22_taken_j1 call n rec_2 x0_3 x3_3 x8_3 x12_2 x14_2 x17 v73 v80 (.int .i64 0)))
    (bnd (load (some 1) x14_2) fun v108 =>
bnd (store (some 1) x8_3 v108) fun u_7 =>
bnd (load (some 1) x8_3) fun r_2 =>
ret (.tup [r_2, (.bool true)]))
noncomputable def ref22_taken_j0 (call : Nat → List AV → M AV) (n : Nat) (rec_1 : List AV → M AV) (x0_2 x3_2 x8_2 x12_1 x14_1 x15_1 x16 : AV) : M AV :=
  lp (aOff 0 x14_1) fun v62 =>
  bnd (load none v62) fun v63 =>
  bnd (load (some 3) x16) fun v64 =>
  lp (aFill (fun i => some (i * 3, 3)) [.int .i64 0, .int .i64 0, .nilslice] [(0, v64)]) fun cs_1 =>
  bnd (allocS T_api_Band 3 1 cs_1) fun v65 =>
  bnd (append T_api_Band 3 40 v63 v65) fun v66 =>
  lp (aOff 0 x14_1) fun v67 =>
  bnd (store none v67 v66) fun u_4 =>
  lp (aBin .add [] x15_1 (.int .i64 1)) fun v48 =>
rec_1 [x0_2, x3_2, x8_2, x12_1, x14_1, v48]
noncomputable def ref22_taken_l1 (call : Nat → List AV → M AV) (n : Nat) (rec_1 : List AV → M AV) (x0_1 x3_1 x8_1 x12 x14 x15 : AV) : M AV :=
  lp (aBin .lss [] x15 (.int .i64 13)) fun v46 =>
  mc v46
    (lp (aIdxS 1 x12 x15) fun v51 =>
  bnd (load none v51) fun v52 =>
  lp ((aFill (fun i => [(0, 1), (1, 1), (2, 1)][i]?) [.int .i64 0, .int .i64 0, .nilslice] [(0, v52)]).map .agg) fun v53 =>
  bnd (alloc T_api_Band [.int .i64 0, .int .i64 0, .nilslice]) fun v16 =>
  bnd (store (some 3) v16 v53) fun u_2 =>
  lp (aIdxS 1 x12 x15) fun v56 =>
  bnd (load none v56) fun v57 =>
  lp (aBin .gtr [] v57 (.int .i64 0)) fun v58 =>
  mc v58
    (bnd (call fn_ref05_GetBits [x0_1, (.int .i64 2)]) fun v60 =>
    lp (aOff 1 v16) fun v61 =>
    bnd (store none v61 v60) fun u_3 =>
    ref22_taken_j0 call n rec_1 x0_1 x3_1 x8_1 x12 x14 x15 v16)
    (ref22_taken_j0 call n rec_1 x0_1 x3_1 x8_1 x12 x14 x15 v16))
    (loopN (fun r l => ref22_taken_l2 call n r (l.getD 0 .undef) (l.getD 1 .undef) (l.getD 2 .undef) (l.getD 3 .undef) (l.getD 4 .undef) (l.getD 5 .undef)) n [x0_1, x3_1, x8_1, x12, x14, (.int .i64 0)])
noncomputable def ref22_taken_l0 (call : Nat → List AV → M AV) (n : Nat) (rec : List AV → M AV) (x0 x1 x2 x3 x8 x10 x11 : AV) : M AV :=
  lp (aBin .lss [] x11 (.int .i64 13)) fun v26 =>
  mc v26
    (bnd (call fn_ref05_GetDelta [x0]) fun v31 =>
  lp (aFill (fun i => some (i * 1, 1)) [.int .i64 0] [(0, v31)]) fun cs =>
  bnd (allocS T_int 1 1 cs) fun v32 =>
  bnd (append T_int 1 8 x10 v32) fun v33 =>
  lp (aBin .add [] x11 (.int .i64 1)) fun v28 =>
  rec [x0, x1, x2, x3, x8, v33, v28])
    (bnd (call fn_ref14_Row [x1, x2, x10]) fun v38 =>
lp (aExt 0 v38) fun v39 =>
lp (aExt 1 v38) fun v40 =>
lp (aUn .not v40) fun v42 =>
mc v42
  (lp ((aFill (fun i => [(0, 1)][i]?) [.nilslice] []).map .agg) fun v43 =>
  bnd (store (some 1) x8 v43) fun u =>
  bnd (load (some 1) x8) fun r =>
  ret (.tup [r, (.bool false)]))
  (lp ((aFill (fun i => [(0, 1)][i]?) [.nilslice] []).map .agg) fun v44 =>
bnd (alloc T_api_Chan [.nilslice]) fun v14 =>
bnd (store (some 1) v14 v44) fun u_1 =>
loopN (fun r l => ref22_taken_l1 call n r (l.getD 0 .undef) (l.getD 1 .undef) (l.getD 2 .undef) (l.getD 3 .undef) (l.getD 4 .undef) (l.getD 5 .undef)) n [x0, x3, x8, v39, v14, (.int .i64 0)]))
noncomputable def ref22_taken (call : Nat → List AV → M AV) (n : Nat) (a0 a1 a2 a3 : AV) : M AV :=
  bnd (alloc T_api_Chan [.nilslice]) fun v8 =>
  loopN (fun r l => ref22_taken_l0 call n r (l.getD 0 .undef) (l.getD 1 .undef) (l.getD 2 .undef) (l.getD 3 .undef) (l.getD 4 .undef) (l.getD 5 .undef) (l.getD 6 .undef)) n [a0, a1, a2, a3, v8, .nilslice, (.int .i64 0)]
theorem ref22_taken_eq {ext : Ext} (h : ext fn_ref22_taken = none) (n : Nat) (a0 a1 a2 a3 : AV) : fcall Tryz.prog ext (n + 1) fn_ref22_taken [a0, a1, a2, a3] = ref22_taken (fcall Tryz.prog ext n) n a0 a1 a2 a3 := by
  unfold fcall; rw [h]; kernel_rfl

/-! splicer/splicerref05.GetBelow -/
noncomputable def ref05_GetBelow_j0 (call : Nat → List AV → M AV) (n : Nat) (x0 x1 x15 : AV) : M AV :=
  mc x15
    (ret (.tup [(.int .i64 0), (.bool false)]))
    (bnd (call fn_ref05_shift [x1]) fun v17 =>
lp (aBin .sub [] x1 (.int .i64 1)) fun v19 =>
lp (aBin .shr [] v19 v17) fun v21 =>
lp (aBin .add [] v21 (.int .i64 1)) fun v22 =>
bnd (call fn_ref04_Decoder_Place [x0, v22]) fun v25 =>
lp (aBin .add [] v25 (.int .i64 1)) fun v29 =>
bnd (call fn_ref04_Decoder_Take [x0, v25, v29, v22]) fun v31 =>
lp (aBin .shl [] v25 v17) fun v34 =>
snap fun _ =>
bnd (call fn_ref05_GetBits [x0, v17]) fun v37 =>
snap fun _ =>
lp (aBin .or [] v34 v37) fun v38 =>
lp (aBin .geq [] v38 x1) fun v41 =>
mc v41
  (ret (.tup [(.int .i64 0), (.bool false)]))
  (ret (.tup [v38, (.bool true)])))
noncomputable def ref05_GetBelow (call : Nat → List AV → M AV) (n : Nat) (a0 a1 : AV) : M AV :=
  lp (aBin .lss [] a1 (.int .i64 1)) fun v11 =>
  mc v11
    (ref05_GetBelow_j0 call n a0 a1 (.bool true))
    (lp (aBin .gtr [] a1 (.int .i64 2147483648)) fun v14 =>
    ref05_GetBelow_j0 call n a0 a1 v14)
theorem ref05_GetBelow_eq {ext : Ext} (h : ext fn_ref05_GetBelow = none) (n : Nat) (a0 a1 : AV) : fcall Tryz.prog ext (n + 1) fn_ref05_GetBelow [a0, a1] = ref05_GetBelow (fcall Tryz.prog ext n) n a0 a1 := by
  unfold fcall; rw [h]; kernel_rfl

/-! splicer/splicerref05.GetBits -/
noncomputable def ref05_GetBits_l0 (call : Nat → List AV → M AV) (n : Nat) (rec : List AV → M AV) (x0_1 x5 x6 : AV) : M AV :=
  lp (aBin .gtr [] x6 (.int .i64 0)) fun v17 =>
  mc v17
    (lp (aFold aMin2 x6 [(.int .i64 8)]) fun v19 =>
  lp (aBin .shl [] (.int .i64 1) v19) fun v22 =>
  bnd (call fn_ref04_Decoder_Place [x0_1, v22]) fun v23 =>
  lp (aBin .add [] v23 (.int .i64 1)) fun v27 =>
  lp (aBin .shl [] (.int .i64 1) v19) fun v29 =>
  bnd (call fn_ref04_Decoder_Take [x0_1, v23, v27, v29]) fun v30 =>
  lp (aBin .shl [] x5 v19) fun v33 =>
  lp (aBin .or [] v33 v23) fun v35 =>
  lp (aBin .sub [] x6 v19) fun v38 =>
  rec [x0_1, v35, v38])
    (ret x5)
noncomputable def ref05_GetBits_j0 (call : Nat → List AV → M AV) (n : Nat) (x0 x1 x14 : AV) : M AV :=
  mc x14
    (ret (.int .i64 0))
    (loopN (fun r l => ref05_GetBits_l0 call n r (l.getD 0 .undef) (l.getD 1 .undef) (l.getD 2 .undef)) n [x0, (.int .i64 0), x1])
noncomputable def ref05_GetBits (call : Nat → List AV → M AV) (n : Nat) (a0 a1 : AV) : M AV :=
  lp (aBin .lss [] a1 (.int .i64 0)) fun v10 =>
  mc v10
    (ref05_GetBits_j0 call n a0 a1 (.bool true))
    (lp (aBin .gtr [] a1 (.int .i64 31)) fun v13 =>
    ref05_GetBits_j0 call n a0 a1 v13)
theorem ref05_GetBits_eq {ext : Ext} (h : ext fn_ref05_GetBits = none) (n : Nat) (a0 a1 : AV) : fcall Tryz.prog ext (n + 1) fn_ref05_GetBits [a0, a1] = ref05_GetBits (fcall Tryz.prog ext n) n a0 a1 := by
  unfold fcall; rw [h]; kernel_rfl

/-! splicer/splicerref04.New -/
noncomputable def ref04_New_l0 (call : Nat → List AV → M AV) (n : Nat) (rec : List AV → M AV) (x3 x4 : AV) : M AV :=
  lp (aBin .lss [] x4 (.int .i64 4)) fun v9 =>
  mc v9
    (lp (aNil x3) fun v14 =>
  lp (aOff 2 v14) fun v15 =>
  bnd (load none v15) fun v16 =>
  lp (aBin .mul [] v16 (.int .i64 256)) fun v17 =>
  snap fun _ =>
  bnd (call fn_ref04_Decoder_next [x3]) fun v19 =>
  snap fun m_1 =>
  same none v15 v16 m_1 <|
  lp (aBin .add [] v17 v19) fun v20 =>
  lp (aNil x3) fun v21 =>
  lp (aOff 2 v21) fun v22 =>
  snap fun _ =>
  bnd (store none v22 v20) fun u =>
  snap fun _ =>
  lp (aBin .add [] x4 (.int .i64 1)) fun v11 =>
  rec [x3, v11])
    (ret x3)
noncomputable def ref04_New (call : Nat → List AV → M AV) (n : Nat) (a0 : AV) : M AV :=
  lp ((aFill (fun i => [(0, 1), (1, 1), (2, 1), (3, 1)][i]?) [.str .empty, .int .i64 0, .int .i64 0, .int .i64 0] [(0, a0), (3, (.int .i64 4294967295))]).map .agg) fun v6 =>
  bnd (box T_ref04_Decoder v6) fun v7 =>
  loopN (fun r l => ref04_New_l0 call n r (l.getD 0 .undef) (l.getD 1 .undef)) n [v7, (.int .i64 0)]
theorem ref04_New_eq {ext : Ext} (h : ext fn_ref04_New = none) (n : Nat) (a0 : AV) : fcall Tryz.prog ext (n + 1) fn_ref04_New [a0] = ref04_New (fcall Tryz.prog ext n) n a0 := by
  unfold fcall; rw [h]; kernel_rfl

/-! (*splicer/code.reader).frame -/
noncomputable def code_reader_frame_j3 (call : Nat → List AV → M AV) (n : Nat) (rec : List AV → M AV) (x0_4 x1_4 x2_4 x6_4 x7_4 x8_2 x9 x45_2 x46_2 x47_2 x48_2 x49_2 : AV) : M AV :=
  lp (aOff 4 x7_4) fun v60 =>
  bnd (load none v60) fun v61 =>
  lp (aOff 2 x7_4) fun v64 =>
  bnd (load none v64) fun v65 =>
  snap fun _ =>
  bnd (call fn_code_reader_row [x0_4, v65, x9]) fun v67 =>
  snap fun m_1 =>
  same none v60 v61 m_1 <|
  snap fun _ =>
  bnd (call fn_code_reader_channel [x0_4, v67]) fun v68 =>
  snap fun m_3 =>
  same none v60 v61 m_3 <|
  snap fun _ =>
  lp (aFill (fun i => some (i * 1, 1)) [.nilslice] [(0, v68)]) fun cs =>
  bnd (allocS T_api_Chan 1 1 cs) fun v69 =>
  snap fun m_5 =>
  same none v60 v61 m_5 <|
  snap fun _ =>
  bnd (append T_api_Chan 1 24 v61 v69) fun v70 =>
  snap fun _ =>
  lp (aOff 4 x7_4) fun v71 =>
  snap fun _ =>
  bnd (store none v71 v70) fun u_7 =>
  snap fun _ =>
  lp (aBin .add [] x8_2 (.int .i64 1)) fun v52 =>
rec [x0_4, x1_4, x2_4, x6_4, x7_4, v52, x45_2, x46_2, x47_2, x48_2, x49_2]
noncomputable def code_reader_frame_j2 (call : Nat → List AV → M AV) (n : Nat) (rec : List AV → M AV) (x0_3 x1_3 x2_3 x6_3 x7_3 x8_1 x45_1 x46_1 x47_1 x48_1 x49_1 x50 : AV) : M AV :=
  mc x50
    (lp (aOff 2 x7_3) fun v53 =>
bnd (load none v53) fun v54 =>
lp (aUn .not v54) fun v55 =>
mc v55
  (lp (aIdxS 1 x2_3 x8_1) fun v58 =>
  bnd (load none v58) fun v59 =>
  code_reader_frame_j3 call n rec x0_3 x1_3 x2_3 x6_3 x7_3 x8_1 v59 x45_1 x46_1 x47_1 x48_1 x49_1)
  (code_reader_frame_j3 call n rec x0_3 x1_3 x2_3 x6_3 x7_3 x8_1 .nilslice x45_1 x46_1 x47_1 x48_1 x49_1))
    (bnd (load (some 5) x7_3) fun v72 =>
bnd (store (some 5) x6_3 v72) fun u_8 =>
bnd (load (some 5) x6_3) fun r =>
ret r)
noncomputable def code_reader_frame_l0 (call : Nat → List AV → M AV) (n : Nat) (rec : List AV → M AV) (x0_2 x1_2 x2_2 x6_2 x7_2 x8 x45 x46 x47 x48 x49 : AV) : M AV :=
  lp (aBin .lss [] x8 x1_2) fun v43 =>
  mc v43
    (lp (aNil x0_2) fun v46 =>
    lp (aOff 2 v46) fun v47 =>
    bnd (load none v47) fun v48 =>
    lp (aUn .not v48) fun v49 =>
    code_reader_frame_j2 call n rec x0_2 x1_2 x2_2 x6_2 x7_2 x8 x0_2 v46 v47 v48 v49 v49)
    (code_reader_frame_j2 call n rec x0_2 x1_2 x2_2 x6_2 x7_2 x8 (.tup []) (.tup []) (.tup []) (.tup []) (.tup []) (.bool false))
noncomputable def code_reader_frame_j1 (call : Nat → List AV → M AV) (n : Nat) (x0_1 x1_1 x2_1 x6_1 x7_1 : AV) : M AV :=
  loopN (fun r l => code_reader_frame_l0 call n r (l.getD 0 .undef) (l.getD 1 .undef) (l.getD 2 .undef) (l.getD 3 .undef) (l.getD 4 .undef) (l.getD 5 .undef) (l.getD 6 .undef) (l.getD 7 .undef) (l.getD 8 .undef) (l.getD 9 .undef) (l.getD 10 .undef)) n [x0_1, x1_1, x2_1, x6_1, x7_1, (.int .i64 0), .undef, .undef, .undef, .undef, .undef]
noncomputable def code_reader_frame_j0 (call : Nat → List AV → M AV) (n : Nat) (x0 x1 x2 x6 x7 : AV) : M AV :=
  bnd (call fn_code_reader_flag [x0]) fun v19 =>
  lp (aOff 2 x7) fun v20 =>
  bnd (store none v20 v19) fun u_2 =>
  bnd (call fn_code_reader_below [x0, (.int .i64 97)]) fun v22 =>
  lp (aBin .add [] v22 (.int .i64 (-64))) fun v23 =>
  lp (aOff 3 x7) fun v24 =>
  bnd (store none v24 v23) fun u_3 =>
  lp (aNil x0) fun v27 =>
  lp (aOff 2 v27) fun v28 =>
  bnd (load none v28) fun v29 =>
  mc v29
    (lp (aNil x0) fun v39 =>
    lp (aOff 2 v39) fun v40 =>
    bnd (store none v40 (.bool true)) fun u_4 =>
    code_reader_frame_j1 call n x0 x1 x2 x6 x7)
    (lp (aOff 2 x7) fun v31 =>
    bnd (load none v31) fun v32 =>
    lp (aUn .not v32) fun v33 =>
    mc v33
      (lp (aBin .eql [4] x2 .nilslice) fun v36 =>
      lp (aNil x0) fun v39_1 =>
      lp (aOff 2 v39_1) fun v40_1 =>
      bnd (store none v40_1 v36) fun u_5 =>
      code_reader_frame_j1 call n x0 x1 x2 x6 x7)
      (lp (aNil x0) fun v39_2 =>
      lp (aOff 2 v39_2) fun v40_2 =>
      bnd (store none v40_2 (.bool false)) fun u_6 =>
      code_reader_frame_j1 call n x0 x1 x2 x6 x7))
noncomputable def code_reader_frame (call : Nat → List AV → M AV) (n : Nat) (a0 a1 a2 : AV) : M AV :=
  bnd (alloc T_api_Frame [.bool false, .bool false, .bool false, .int .i64 0, .nilslice]) fun v6 =>
  bnd (alloc T_api_Frame [.bool false, .bool false, .bool false, .int .i64 0, .nilslice]) fun v7 =>
  bnd (call fn_code_reader_flag [a0]) fun v11 =>
  lp (aOff 0 v7) fun v12 =>
  bnd (store none v12 v11) fun u =>
  lp (aBin .eql [6] a1 (.int .i64 2)) fun v14 =>
  mc v14
    (bnd (call fn_code_reader_flag [a0]) fun v16 =>
    lp (aOff 1 v7) fun v17 =>
    bnd (store none v17 v16) fun u_1 =>
    code_reader_frame_j0 call n a0 a1 a2 v6 v7)
    (code_reader_frame_j0 call n a0 a1 a2 v6 v7)
theorem code_reader_frame_eq {ext : Ext} (h : ext fn_code_reader_frame = none) (n : Nat) (a0 a1 a2 : AV) : fcall Tryz.prog ext (n + 1) fn_code_reader_frame [a0, a1, a2] = code_reader_frame (fcall Tryz.prog ext n) n a0 a1 a2 := by
  unfold fcall; rw [h]; kernel_rfl

/-! splicer/rc.New -/
noncomputable def rc_New_l0 (call : Nat → List AV → M AV) (n : Nat) (rec : List AV → M AV) (x3 x7 : AV) : M AV :=
  lp (aBin .lss [] x7 (.int .i64 4)) fun v8 =>
  mc v8
    (lp (aNil x3) fun v11 =>
  lp (aOff 3 v11) fun v12 =>
  bnd (load none v12) fun v13 =>
  lp (aBin .shl [] v13 (.int .u64 8)) fun v14 =>
  snap fun _ =>
  bnd (call fn_rc_Decoder_next [x3]) fun v16 =>
  snap fun m_1 =>
  same none v12 v13 m_1 <|
  lp (aBin .or [] v14 v16) fun v17 =>
  lp (aNil x3) fun v18 =>
  lp (aOff 3 v18) fun v19 =>
  snap fun _ =>
  bnd (store none v19 v17) fun u =>
  snap fun _ =>
  lp (aBin .add [] x7 (.int .i64 1)) fun v20 =>
  rec [x3, v20])
    (ret x3)
noncomputable def rc_New (call : Nat → List AV → M AV) (n : Nat) (a0 : AV) : M AV :=
  lp ((aFill (fun i => [(0, 2), (2, 1), (3, 1), (4, 1)][i]?) [.bool false, .int .u64 0, .str .empty, .int .u64 0, .bool false] [(1, a0), (3, (.bool true))]).map .agg) fun v5 =>
  bnd (box T_rc_Decoder v5) fun v6 =>
  loopN (fun r l => rc_New_l0 call n r (l.getD 0 .undef) (l.getD 1 .undef)) n [v6, (.int .i64 0)]
theorem rc_New_eq {ext : Ext} (h : ext fn_rc_New = none) (n : Nat) (a0 : AV) : fcall Tryz.prog ext (n + 1) fn_rc_New [a0] = rc_New (fcall Tryz.prog ext n) n a0 := by
  unfold fcall; rw [h]; kernel_rfl

/-! (*splicer/splicerref04.Coder).End -/
noncomputable def ref04_Coder_End_j0 (call : Nat → List AV → M AV) (n : Nat) (rec_2 : List AV → M AV) (x3_3 x47_3 x48_3 x49_3 x50_3 x51_3 x52_3 x53 : AV) : M AV :=
  mc x53
    (lp (aLenStr x3_3) fun v56 =>
lp (aBin .sub [] v56 (.int .i64 1)) fun v57 =>
lp (aSliceStr x3_3 none (some v57)) fun v58 =>
rec_2 [v58, x47_3, x48_3, x49_3, x50_3, x51_3, x52_3])
    (ret x3_3)
noncomputable def ref04_Coder_End_l2 (call : Nat → List AV → M AV) (n : Nat) (rec_2 : List AV → M AV) (x3_2 x47_2 x48_2 x49_2 x50_2 x51_2 x52_2 : AV) : M AV :=
  lp (aLenStr x3_2) fun v44 =>
  lp (aBin .gtr [] v44 (.int .i64 0)) fun v45 =>
  mc v45
    (lp (aLenStr x3_2) fun v49 =>
    lp (aBin .sub [] v49 (.int .i64 1)) fun v50 =>
    lp (aIdxStr x3_2 v50) fun v51 =>
    lp (aBin .eql [6] v51 (.int .u8 0)) fun v52 =>
    ref04_Coder_End_j0 call n rec_2 x3_2 x3_2 x3_2 v49 v50 v51 v52 v52)
    (ref04_Coder_End_j0 call n rec_2 x3_2 (.tup []) (.tup []) (.tup []) (.tup []) (.tup []) (.tup []) (.bool false))
noncomputable def ref04_Coder_End_l1 (call : Nat → List AV → M AV) (n : Nat) (rec_1 : List AV → M AV) (x0_1 x3_1 x5 x47_1 x48_1 x49_1 x50_1 x51_1 x52_1 : AV) : M AV :=
  lp (aBin .geq [] x5 (.int .i64 0)) fun v28 =>
  mc v28
    (lp (aNil x0_1) fun v33 =>
  lp (aOff 1 v33) fun v34 =>
  bnd (load none v34) fun v35 =>
  lp (aBin .shr [] v35 x5) fun v37 =>
  lp (aBin .and [] v37 (.int .i64 255)) fun v38 =>
  lp (aInt .u8 v38) fun v39 =>
  lp (aFill (fun i => some (i * 1, 1)) [.int .u8 0] [(0, v39)]) fun cs_1 =>
  bnd (allocS T_uint8 1 1 cs_1) fun v40 =>
  bnd (ofBytes v40) fun v41 =>
  lp (aBin .add [] x3_1 v41) fun v42 =>
  lp (aBin .sub [] x5 (.int .i64 8)) fun v30 =>
  rec_1 [x0_1, v42, v30, x47_1, x48_1, x49_1, x50_1, x51_1, x52_1])
    (loopN (fun r l => ref04_Coder_End_l2 call n r (l.getD 0 .undef) (l.getD 1 .undef) (l.getD 2 .undef) (l.getD 3 .undef) (l.getD 4 .undef) (l.getD 5 .undef) (l.getD 6 .undef)) n [x3_1, x47_1, x48_1, x49_1, x50_1, x51_1, x52_1])
noncomputable def ref04_Coder_End_l0 (call : Nat → List AV → M AV) (n : Nat) (rec : List AV → M AV) (x0 x3 x4 x47 x48 x49 x50 x51 x52 : AV) : M AV :=
  lp (aNil x0) fun v8 =>
  lp (aOff 0 v8) fun v9 =>
  bnd (load none v9) fun v10 =>
  lp (aLenS v10) fun v11 =>
  lp (aBin .lss [] x4 v11) fun v12 =>
  mc v12
    (lp (aNil x0) fun v17 =>
  lp (aOff 0 v17) fun v18 =>
  bnd (load none v18) fun v19 =>
  lp (aIdxS 1 v19 x4) fun v21 =>
  bnd (load none v21) fun v22 =>
  lp (aInt .u8 v22) fun v23 =>
  lp (aFill (fun i => some (i * 1, 1)) [.int .u8 0] [(0, v23)]) fun cs =>
  bnd (allocS T_uint8 1 1 cs) fun v24 =>
  bnd (ofBytes v24) fun v25 =>
  lp (aBin .add [] x3 v25) fun v26 =>
  lp (aBin .add [] x4 (.int .i64 1)) fun v14 =>
  rec [x0, v26, v14, x47, x48, x49, x50, x51, x52])
    (loopN (fun r l => ref04_Coder_End_l1 call n r (l.getD 0 .undef) (l.getD 1 .undef) (l.getD 2 .undef) (l.getD 3 .undef) (l.getD 4 .undef) (l.getD 5 .undef) (l.getD 6 .undef) (l.getD 7 .undef) (l.getD 8 .undef)) n [x0, x3, (.int .i64 24), x47, x48, x49, x50, x51, x52])
noncomputable def ref04_Coder_End (call : Nat → List AV → M AV) (n : Nat) (a0 : AV) : M AV :=
  loopN (fun r l => ref04_Coder_End_l0 call n r (l.getD 0 .undef) (l.getD 1 .undef) (l.getD 2 .undef) (l.getD 3 .undef) (l.getD 4 .undef) (l.getD 5 .undef) (l.getD 6 .undef) (l.getD 7 .undef) (l.getD 8 .undef)) n [a0, (.str .empty), (.int .i64 0), .undef, .undef, .undef, .undef, .undef, .undef]
theorem ref04_Coder_End_eq {ext : Ext} (h : ext fn_ref04_Coder_End = none) (n : Nat) (a0 : AV) : fcall Tryz.prog ext (n + 1) fn_ref04_Coder_End [a0] = ref04_Coder_End (fcall Tryz.prog ext n) n a0 := by
  unfold fcall; rw [h]; kernel_rfl

/-! splicer/splicerref22.row -/
noncomputable def ref22_row (call : Nat → List AV → M AV) (n : Nat) (a0 a1 : AV) : M AV :=
  lp (aLenS a0) fun v7 =>
  lp (aBin .geq [] a1 v7) fun v8 =>
  mc v8
    (ret .nilslice)
    (lp (aIdxS 1 a0 a1) fun v11 =>
  bnd (load none v11) fun v12 =>
  ret v12)
theorem ref22_row_eq {ext : Ext} (h : ext fn_ref22_row = none) (n : Nat) (a0 a1 : AV) : fcall Tryz.prog ext (n + 1) fn_ref22_row [a0, a1] = ref22_row (fcall Tryz.prog ext n) n a0 a1 := by
  unfold fcall; rw [h]; kernel_rfl

/-! splicer/splicerref22.channel -/
noncomputable def ref22_channel_j1 (call : Nat → List AV → M AV) (n : Nat) (rec_3 : List AV → M AV) (x0_5 x4_5 x6_5 x10_5 x15_1 : AV) : M AV :=
  lp (aBin .add [] x15_1 (.int .i64 1)) fun v67 =>
  rec_3 [x0_5, x4_5, x6_5, x10_5, v67]
noncomputable def ref22_channel_l3 (call : Nat → List AV → M AV) (n : Nat) (rec_3 : List AV → M AV) (x0_4 x4_4 x6_4 x10_4 x15 : AV) : M AV :=
  lp (aBin .lss [] x15 (.int .i64 13)) fun v65 =>
  mc v65
    (bnd (call fn_ref13_Width [x15]) fun v69 =>
  lp (aIdxS 1 x10_4 x15) fun v73 =>
  bnd (load none v73) fun v74 =>
  bnd (call fn_ref15_Band [x4_4, v74, v69]) fun v76 =>
  lp (aBin .gtr [] v76 (.int .i64 0)) fun v78 =>
  mc v78
    (lp (aOff 0 x6_4) fun v80 =>
    bnd (load none v80) fun v81 =>
    lp (aIdxS 3 v81 x15) fun v83 =>
    lp (aOff 2 v83) fun v84 =>
    bnd (load none v84) fun v85 =>
    bnd (call fn_ref16_Index [v85]) fun v86 =>
    lp (aExt 0 v86) fun v87 =>
    lp (aExt 1 v86) fun v88 =>
    bnd (call fn_ref16_Count [v69, v76]) fun v93 =>
    bnd (call fn_ref05_PutBelow [x0_4, v87, v93]) fun v94 =>
    ref22_channel_j1 call n rec_3 x0_4 x4_4 x6_4 x10_4 x15)
    (ref22_channel_j1 call n rec_3 x0_4 x4_4 x6_4 x10_4 x15))
    (ret (.tup []))
noncomputable def ref22_channel_j0 (call : Nat → List AV → M AV) (n : Nat) (rec_2 : List AV → M AV) (x0_3 x4_3 x6_3 x10_3 x14_1 : AV) : M AV :=
  lp (aBin .add [] x14_1 (.int .i64 1)) fun v50 =>
  rec_2 [x0_3, x4_3, x6_3, x10_3, v50]
noncomputable def ref22_channel_l2 (call : Nat → List AV → M AV) (n : Nat) (rec_2 : List AV → M AV) (x0_2 x4_2 x6_2 x10_2 x14 : AV) : M AV :=
  lp (aBin .lss [] x14 (.int .i64 13)) fun v48 =>
  mc v48
    (lp (aIdxS 1 x10_2 x14) fun v53 =>
  bnd (load none v53) fun v54 =>
  lp (aBin .gtr [] v54 (.int .i64 0)) fun v55 =>
  mc v55
    (lp (aOff 0 x6_2) fun v57 =>
    bnd (load none v57) fun v58 =>
    lp (aIdxS 3 v58 x14) fun v60 =>
    lp (aOff 1 v60) fun v61 =>
    bnd (load none v61) fun v62 =>
    bnd (call fn_ref05_PutBits [x0_2, v62, (.int .i64 2)]) fun v63 =>
    ref22_channel_j0 call n rec_2 x0_2 x4_2 x6_2 x10_2 x14)
    (ref22_channel_j0 call n rec_2 x0_2 x4_2 x6_2 x10_2 x14))
    (loopN (fun r l => ref22_channel_l3 call n r (l.getD 0 .undef) (l.getD 1 .undef) (l.getD 2 .undef) (l.getD 3 .undef) (l.getD 4 .undef)) n [x0_2, x4_2, x6_2, x10_2, (.int .i64 0)])
noncomputable def ref22_channel_l1 (call : Nat → List AV → M AV) (n : Nat) (rec_1 : List AV → M AV) (x0_1 x4_1 x6_1 x10_1 x12 x13 : AV) : M AV :=
  lp (aBin .lss [] x13 (.int .i64 13)) fun v38 =>
  mc v38
    (lp (aIdxS 1 x12 x13) fun v44 =>
  bnd (load none v44) fun v45 =>
  bnd (call fn_ref05_PutDelta [x0_1, v45]) fun v46 =>
  lp (aBin .add [] x13 (.int .i64 1)) fun v40 =>
  rec_1 [x0_1, x4_1, x6_1, x10_1, x12, v40])
    (loopN (fun r l => ref22_channel_l2 call n r (l.getD 0 .undef) (l.getD 1 .undef) (l.getD 2 .undef) (l.getD 3 .undef) (l.getD 4 .undef)) n [x0_1, x4_1, x6_1, x10_1, (.int .i64 0)])
noncomputable def ref22_channel_l0 (call : Nat → List AV → M AV) (n : Nat) (rec : List AV → M AV) (x0 x2 x3 x4 x6 x10 x11 : AV) : M AV :=
  lp (aBin .lss [] x11 (.int .i64 13)) fun v21 =>
  mc v21
    (lp (aOff 0 x6) fun v25 =>
  bnd (load none v25) fun v26 =>
  lp (aIdxS 3 v26 x11) fun v28 =>
  lp (aOff 0 v28) fun v29 =>
  bnd (load none v29) fun v30 =>
  lp (aFill (fun i => some (i * 1, 1)) [.int .i64 0] [(0, v30)]) fun cs =>
  bnd (allocS T_int 1 1 cs) fun v31 =>
  bnd (append T_int 1 8 x10 v31) fun v32 =>
  lp (aBin .add [] x11 (.int .i64 1)) fun v23 =>
  rec [x0, x2, x3, x4, x6, v32, v23])
    (bnd (call fn_ref14_Deltas [x2, x3, x10]) fun v36 =>
loopN (fun r l => ref22_channel_l1 call n r (l.getD 0 .undef) (l.getD 1 .undef) (l.getD 2 .undef) (l.getD 3 .undef) (l.getD 4 .undef) (l.getD 5 .undef)) n [x0, x4, x6, x10, v36, (.int .i64 0)])
noncomputable def ref22_channel (call : Nat → List AV → M AV) (n : Nat) (a0 a1 a2 a3 a4 : AV) : M AV :=
  bnd (box T_api_Chan a1) fun v6 =>
  loopN (fun r l => ref22_channel_l0 call n r (l.getD 0 .undef) (l.getD 1 .undef) (l.getD 2 .undef) (l.getD 3 .undef) (l.getD 4 .undef) (l.getD 5 .undef) (l.getD 6 .undef)) n [a0, a2, a3, a4, v6, .nilslice, (.int .i64 0)]
theorem ref22_channel_eq {ext : Ext} (h : ext fn_ref22_channel = none) (n : Nat) (a0 a1 a2 a3 a4 : AV) : fcall Tryz.prog ext (n + 1) fn_ref22_channel [a0, a1, a2, a3, a4] = ref22_channel (fcall Tryz.prog ext n) n a0 a1 a2 a3 a4 := by
  unfold fcall; rw [h]; kernel_rfl

/-! splicer/splicerref05.PutBelow -/
noncomputable def ref05_PutBelow_j0 (call : Nat → List AV → M AV) (n : Nat) (x0 x1 x2 x22 : AV) : M AV :=
  mc x22
    (ret (.bool false))
    (bnd (call fn_ref05_shift [x2]) fun v24 =>
lp (aBin .shr [] x1 v24) fun v28 =>
lp (aBin .shr [] x1 v24) fun v31 =>
lp (aBin .add [] v31 (.int .i64 1)) fun v32 =>
lp (aBin .sub [] x2 (.int .i64 1)) fun v34 =>
lp (aBin .shr [] v34 v24) fun v36 =>
lp (aBin .add [] v36 (.int .i64 1)) fun v37 =>
snap fun _ =>
bnd (call fn_ref04_Coder_Code [x0, v28, v32, v37]) fun v38 =>
snap fun _ =>
lp (aBin .shl [] (.int .i64 1) v24) fun v42 =>
lp (aBin .rem [] x1 v42) fun v43 =>
bnd (call fn_ref05_PutBits [x0, v43, v24]) fun v45 =>
ret v45)
noncomputable def ref05_PutBelow (call : Nat → List AV → M AV) (n : Nat) (a0 a1 a2 : AV) : M AV :=
  lp (aBin .lss [] a2 (.int .i64 1)) fun v9 =>
  mc v9
    (ref05_PutBelow_j0 call n a0 a1 a2 (.bool true))
    (lp (aBin .gtr [] a2 (.int .i64 2147483648)) fun v12 =>
    mc v12
      (ref05_PutBelow_j0 call n a0 a1 a2 (.bool true))
      (lp (aBin .lss [] a1 (.int .i64 0)) fun v16 =>
      mc v16
        (ref05_PutBelow_j0 call n a0 a1 a2 (.bool true))
        (lp (aBin .geq [] a1 a2) fun v21 =>
        ref05_PutBelow_j0 call n a0 a1 a2 v21)))
theorem ref05_PutBelow_eq {ext : Ext} (h : ext fn_ref05_PutBelow = none) (n : Nat) (a0 a1 a2 : AV) : fcall Tryz.prog ext (n + 1) fn_ref05_PutBelow [a0, a1, a2] = ref05_PutBelow (fcall Tryz.prog ext n) n a0 a1 a2 := by
  unfold fcall; rw [h]; kernel_rfl

/-! splicer/splicerref22.bit -/
noncomputable def ref22_bit (call : Nat → List AV → M AV) (n : Nat) (a0 : AV) : M AV :=
  mc a0
    (ret (.int .i64 1))
    (ret (.int .i64 0))
theorem ref22_bit_eq {ext : Ext} (h : ext fn_ref22_bit = none) (n : Nat) (a0 : AV) : fcall Tryz.prog ext (n + 1) fn_ref22_bit [a0] = ref22_bit (fcall Tryz.prog ext n) n a0 := by
  unfold fcall; rw [h]; kernel_rfl

/-! splicer/splicerref05.PutBits -/
noncomputable def ref05_PutBits_j1 (call : Nat → List AV → M AV) (n : Nat) : M AV :=
  ret (.bool true)
noncomputable def ref05_PutBits_l0 (call : Nat → List AV → M AV) (n : Nat) (rec : List AV → M AV) (x0_1 x1_1 x7 : AV) : M AV :=
  lp (aBin .gtr [] x7 (.int .i64 8)) fun v28 =>
  mc v28
    (lp (aBin .sub [] x7 (.int .i64 8)) fun v30 =>
  lp (aBin .shr [] x1_1 v30) fun v33 =>
  lp (aBin .and [] v33 (.int .i64 255)) fun v34 =>
  lp (aBin .add [] v34 (.int .i64 1)) fun v38 =>
  bnd (call fn_ref04_Coder_Code [x0_1, v34, v38, (.int .i64 256)]) fun v39 =>
  rec [x0_1, x1_1, v30])
    (lp (aBin .gtr [] x7 (.int .i64 0)) fun v41 =>
mc v41
  (lp (aBin .shl [] (.int .i64 1) x7) fun v44 =>
  lp (aBin .rem [] x1_1 v44) fun v45 =>
  lp (aBin .add [] v45 (.int .i64 1)) fun v49 =>
  lp (aBin .shl [] (.int .i64 1) x7) fun v51 =>
  bnd (call fn_ref04_Coder_Code [x0_1, v45, v49, v51]) fun v52 =>
  ref05_PutBits_j1 call n)
  (ref05_PutBits_j1 call n))
noncomputable def ref05_PutBits_j0 (call : Nat → List AV → M AV) (n : Nat) (x0 x1 x2 x25 : AV) : M AV :=
  mc x25
    (ret (.bool false))
    (loopN (fun r l => ref05_PutBits_l0 call n r (l.getD 0 .undef) (l.getD 1 .undef) (l.getD 2 .undef)) n [x0, x1, x2])
noncomputable def ref05_PutBits (call : Nat → List AV → M AV) (n : Nat) (a0 a1 a2 : AV) : M AV :=
  lp (aBin .lss [] a2 (.int .i64 0)) fun v11 =>
  mc v11
    (ref05_PutBits_j0 call n a0 a1 a2 (.bool true))
    (lp (aBin .gtr [] a2 (.int .i64 31)) fun v14 =>
    mc v14
      (ref05_PutBits_j0 call n a0 a1 a2 (.bool true))
      (lp (aBin .lss [] a1 (.int .i64 0)) fun v18 =>
      mc v18
        (ref05_PutBits_j0 call n a0 a1 a2 (.bool true))
        (lp (aBin .shl [] (.int .i64 1) a2) fun v23 =>
        lp (aBin .geq [] a1 v23) fun v24 =>
        ref05_PutBits_j0 call n a0 a1 a2 v24)))
theorem ref05_PutBits_eq {ext : Ext} (h : ext fn_ref05_PutBits = none) (n : Nat) (a0 a1 a2 : AV) : fcall Tryz.prog ext (n + 1) fn_ref05_PutBits [a0, a1, a2] = ref05_PutBits (fcall Tryz.prog ext n) n a0 a1 a2 := by
  unfold fcall; rw [h]; kernel_rfl

/-! splicer/splicerref22.rows -/
noncomputable def ref22_rows_l0 (call : Nat → List AV → M AV) (n : Nat) (rec : List AV → M AV) (x0 x1 x5 : AV) : M AV :=
  lp (aBin .lss [] x5 x1) fun v12 =>
  mc v12
    (lp (aIdxS 1 x0 x5) fun v17 =>
  bnd (load none v17) fun v18 =>
  bnd (call fn_ref14_Right [v18]) fun v19 =>
  lp (aUn .not v19) fun v20 =>
  mc v20
    (ret (.bool false))
    (lp (aBin .add [] x5 (.int .i64 1)) fun v14 =>
  rec [x0, x1, v14]))
    (ret (.bool true))
noncomputable def ref22_rows (call : Nat → List AV → M AV) (n : Nat) (a0 a1 : AV) : M AV :=
  lp (aLenS a0) fun v7 =>
  lp (aBin .neq [6] v7 a1) fun v9 =>
  mc v9
    (ret (.bool false))
    (loopN (fun r l => ref22_rows_l0 call n r (l.getD 0 .undef) (l.getD 1 .undef) (l.getD 2 .undef)) n [a0, a1, (.int .i64 0)])
theorem ref22_rows_eq {ext : Ext} (h : ext fn_ref22_rows = none) (n : Nat) (a0 a1 : AV) : fcall Tryz.prog ext (n + 1) fn_ref22_rows [a0, a1] = ref22_rows (fcall Tryz.prog ext n) n a0 a1 := by
  unfold fcall; rw [h]; kernel_rfl

/-! splicer/splicerref20.Fit -/
noncomputable def ref20_Fit_l1 (call : Nat → List AV → M AV) (n : Nat) (rec : List AV → M AV) (rec_1 : List AV → M AV) (x1_2 x2_2 x3_2 x7_1 x8 : AV) : M AV :=
  lp (aBin .lss [] x8 (.int .i64 13)) fun v62 =>
  mc v62
    (lp (aOff 4 x3_2) fun v65 =>
  bnd (load none v65) fun v66 =>
  lp (aIdxS 1 v66 x7_1) fun v68 =>
  lp (aOff 0 v68) fun v69 =>
  bnd (load none v69) fun v70 =>
  lp (aIdxS 3 v70 x8) fun v72 =>
  bnd (load (some 3) v72) fun v73 =>
  snap fun _ =>
  bnd (call fn_ref13_Width [x8]) fun v76 =>
  snap fun m_1 =>
  same (some 3) v72 v73 m_1 <|
  same none v69 v70 m_1 <|
  same none v65 v66 m_1 <|
  snap fun _ =>
  bnd (call fn_ref20_Band [v73, x2_2, v76]) fun v77 =>
  snap fun _ =>
  lp (aUn .not v77) fun v78 =>
  mc v78
    (ret (.bool false))
    (lp (aBin .add [] x8 (.int .i64 1)) fun v64 =>
  rec_1 [x1_2, x2_2, x3_2, x7_1, v64]))
    (lp (aBin .add [] x7_1 (.int .i64 1)) fun v52 =>
rec [x1_2, x2_2, x3_2, v52])
noncomputable def ref20_Fit_l0 (call : Nat → List AV → M AV) (n : Nat) (rec : List AV → M AV) (x1_1 x2_1 x3_1 x7 : AV) : M AV :=
  lp (aBin .lss [] x7 x1_1) fun v50 =>
  mc v50
    (lp (aOff 4 x3_1) fun v53 =>
  bnd (load none v53) fun v54 =>
  lp (aIdxS 1 v54 x7) fun v56 =>
  lp (aOff 0 v56) fun v57 =>
  bnd (load none v57) fun v58 =>
  lp (aLenS v58) fun v59 =>
  lp (aBin .neq [6] v59 (.int .i64 13)) fun v60 =>
  mc v60
    (ret (.bool false))
    (loopN (fun r l => ref20_Fit_l1 call n rec r (l.getD 0 .undef) (l.getD 1 .undef) (l.getD 2 .undef) (l.getD 3 .undef) (l.getD 4 .undef)) n [x1_1, x2_1, x3_1, x7, (.int .i64 0)]))
    (ret (.bool true))
noncomputable def ref20_Fit_j0 (call : Nat → List AV → M AV) (n : Nat) (x1 x2 x3 x47 : AV) : M AV :=
  mc x47
    (ret (.bool false))
    (loopN (fun r l => ref20_Fit_l0 call n r (l.getD 0 .undef) (l.getD 1 .undef) (l.getD 2 .undef) (l.getD 3 .undef)) n [x1, x2, x3, (.int .i64 0)])
noncomputable def ref20_Fit (call : Nat → List AV → M AV) (n : Nat) (a0 a1 a2 : AV) : M AV :=
  bnd (box T_api_Frame a0) fun v3 =>
  lp (aBin .lss [] a1 (.int .i64 1)) fun v10 =>
  mc v10
    (ref20_Fit_j0 call n a1 a2 v3 (.bool true))
    (lp (aBin .gtr [] a1 (.int .i64 2)) fun v13 =>
    mc v13
      (ref20_Fit_j0 call n a1 a2 v3 (.bool true))
      (lp (aBin .lss [] a2 (.int .i64 0)) fun v17 =>
      mc v17
        (ref20_Fit_j0 call n a1 a2 v3 (.bool true))
        (lp (aBin .gtr [] a2 (.int .i64 10)) fun v21 =>
        mc v21
          (ref20_Fit_j0 call n a1 a2 v3 (.bool true))
          (lp (aOff 4 v3) fun v24 =>
          bnd (load none v24) fun v25 =>
          lp (aLenS v25) fun v26 =>
          lp (aBin .neq [6] v26 a1) fun v28 =>
          mc v28
            (ref20_Fit_j0 call n a1 a2 v3 (.bool true))
            (lp (aOff 3 v3) fun v31 =>
            bnd (load none v31) fun v32 =>
            lp (aBin .lss [] v32 (.int .i64 (-64))) fun v33 =>
            mc v33
              (ref20_Fit_j0 call n a1 a2 v3 (.bool true))
              (lp (aOff 3 v3) fun v36 =>
              bnd (load none v36) fun v37 =>
              lp (aBin .gtr [] v37 (.int .i64 32)) fun v38 =>
              mc v38
                (ref20_Fit_j0 call n a1 a2 v3 (.bool true))
                (lp (aOff 1 v3) fun v41 =>
                bnd (load none v41) fun v42 =>
                mc v42
                  (lp (aBin .eql [6] a1 (.int .i64 1)) fun v45 =>
                  ref20_Fit_j0 call n a1 a2 v3 v45)
                  (ref20_Fit_j0 call n a1 a2 v3 (.bool false)))))))))
theorem ref20_Fit_eq {ext : Ext} (h : ext fn_ref20_Fit = none) (n : Nat) (a0 a1 a2 : AV) : fcall Tryz.prog ext (n + 1) fn_ref20_Fit [a0, a1, a2] = ref20_Fit (fcall Tryz.prog ext n) n a0 a1 a2 := by
  unfold fcall; rw [h]; kernel_rfl

/-! (*splicer/rc.Coder).End -/
noncomputable def rc_Coder_End_l1 (call : Nat → List AV → M AV) (n : Nat) (rec_1 : List AV → M AV) (x0_2 x3_2 x4 : AV) : M AV :=
  lp (aBin .geq [] x4 (.int .i64 0)) fun v33 =>
  mc v33
    (lp (aNil x0_2) fun v37 =>
  lp (aOff 4 v37) fun v38 =>
  bnd (load none v38) fun v39 =>
  lp (aBin .shr [] v39 x4) fun v41 =>
  lp (aInt .u8 v41) fun v42 =>
  bnd (call fn_strings_Builder_WriteByte [x3_2, v42]) fun v43 =>
  lp (aBin .sub [] x4 (.int .i64 8)) fun v35 =>
  rec_1 [x0_2, x3_2, v35])
    (bnd (call fn_strings_Builder_String [x3_2]) fun v44 =>
bnd (call fn_strings_TrimRight [v44, (.str ⟨#[0]⟩)]) fun v45 =>
ret v45)
noncomputable def rc_Coder_End_l0 (call : Nat → List AV → M AV) (n : Nat) (rec : List AV → M AV) (x0_1 x3_1 x27 x28 : AV) : M AV :=
  lp (aBin .lss [] x28 x27) fun v29 =>
  mc v29
    (bnd (call fn_strings_Builder_WriteByte [x3_1, (.int .u8 255)]) fun v30 =>
  lp (aBin .add [] x28 (.int .i64 1)) fun v31 =>
  rec [x0_1, x3_1, x27, v31])
    (loopN (fun r l => rc_Coder_End_l1 call n r (l.getD 0 .undef) (l.getD 1 .undef) (l.getD 2 .undef)) n [x0_1, x3_1, (.int .i64 24)])
noncomputable def rc_Coder_End_j0 (call : Nat → List AV → M AV) (n : Nat) (x0 x3 : AV) : M AV :=
  lp (aNil x0) fun v25 =>
  lp (aOff 6 v25) fun v26 =>
  bnd (load none v26) fun v27 =>
  loopN (fun r l => rc_Coder_End_l0 call n r (l.getD 0 .undef) (l.getD 1 .undef) (l.getD 2 .undef) (l.getD 3 .undef)) n [x0, x3, v27, (.int .i64 0)]
noncomputable def rc_Coder_End (call : Nat → List AV → M AV) (n : Nat) (a0 : AV) : M AV :=
  lp (aBin .eql [3] a0 .nilptr) fun v6 =>
  mc v6
    (ret (.str .empty))
    (bnd (alloc T_strings_Builder [.nilptr, .nilslice]) fun v3 =>
  lp (aNil a0) fun v8 =>
  lp (aOff 2 v8) fun v9 =>
  bnd (call fn_strings_Builder_String [v9]) fun v10 =>
  bnd (call fn_strings_Builder_WriteString [v3, v10]) fun v11 =>
  lp (aNil a0) fun v13 =>
  lp (aOff 5 v13) fun v14 =>
  bnd (load none v14) fun v15 =>
  lp (aBin .gtr [] v15 (.int .i64 0)) fun v16 =>
  mc v16
    (lp (aNil a0) fun v18 =>
    lp (aOff 5 v18) fun v19 =>
    bnd (load none v19) fun v20 =>
    lp (aBin .sub [] v20 (.int .i64 1)) fun v21 =>
    lp (aInt .u8 v21) fun v22 =>
    bnd (call fn_strings_Builder_WriteByte [v3, v22]) fun v23 =>
    rc_Coder_End_j0 call n a0 v3)
    (rc_Coder_End_j0 call n a0 v3))
theorem rc_Coder_End_eq {ext : Ext} (h : ext fn_rc_Coder_End = none) (n : Nat) (a0 : AV) : fcall Tryz.prog ext (n + 1) fn_rc_Coder_End [a0] = rc_Coder_End (fcall Tryz.prog ext n) n a0 := by
  unfold fcall; rw [h]; kernel_rfl

/-! splicer/energy.Deltas -/
noncomputable def energy_Deltas_l0 (call : Nat → List AV → M AV) (n : Nat) (rec : List AV → M AV) (x7 x8 x9 x30 x31 x32 : AV) : M AV :=
  lp (aBin .lss [] x32 x31) fun v33 =>
  mc v33
    (lp (aIdxS 1 x30 x32) fun v35 =>
  bnd (load none v35) fun v36 =>
  callee call x7 [x32, x9] fun v43 =>
  lp (aBin .sub [] v36 v43) fun v44 =>
  lp (aIdxS 1 x8 x32) fun v45 =>
  bnd (store none v45 v44) fun u =>
  lp (aBin .add [] x32 (.int .i64 1)) fun v47 =>
  rec [x7, x8, v36, x30, x31, v47])
    (ret x8)
noncomputable def energy_Deltas_j0 (call : Nat → List AV → M AV) (n : Nat) (x0 x1 x2 x23 : AV) : M AV :=
  mc x23
    (ret .nilslice)
    (bnd (call fn_energy_expects [x0, x1]) fun v26 =>
lp (aLenS x2) fun v28 =>
bnd (mkSlice T_int 1 8 [.int .i64 0] v28 v28) fun v29 =>
lp (aLenS x2) fun v31 =>
loopN (fun r l => energy_Deltas_l0 call n r (l.getD 0 .undef) (l.getD 1 .undef) (l.getD 2 .undef) (l.getD 3 .undef) (l.getD 4 .undef) (l.getD 5 .undef)) n [v26, v29, (.int .i64 0), x2, v31, (.int .i64 0)])
noncomputable def energy_Deltas (call : Nat → List AV → M AV) (n : Nat) (a0 a1 a2 : AV) : M AV :=
  bnd (call fn_energy_Right [a2]) fun v13 =>
  lp (aUn .not v13) fun v14 =>
  mc v14
    (energy_Deltas_j0 call n a0 a1 a2 (.bool true))
    (lp (aUn .not a0) fun v17 =>
    mc v17
      (bnd (call fn_energy_Right [a1]) fun v20 =>
      lp (aUn .not v20) fun v21 =>
      energy_Deltas_j0 call n a0 a1 a2 v21)
      (energy_Deltas_j0 call n a0 a1 a2 (.bool false)))
theorem energy_Deltas_eq {ext : Ext} (h : ext fn_energy_Deltas = none) (n : Nat) (a0 a1 a2 : AV) : fcall Tryz.prog ext (n + 1) fn_energy_Deltas [a0, a1, a2] = energy_Deltas (fcall Tryz.prog ext n) n a0 a1 a2 := by
  unfold fcall; rw [h]; kernel_rfl

/-! (*splicer/code.writer).channel -/
noncomputable def code_writer_channel_j1 (call : Nat → List AV → M AV) (n : Nat) (rec_2 : List AV → M AV) (x0_4 x46_1 x47_1 x48_1 : AV) : M AV :=
  lp (aBin .add [] x48_1 (.int .i64 1)) fun v79 =>
  rec_2 [x0_4, x46_1, x47_1, v79]
noncomputable def code_writer_channel_l2 (call : Nat → List AV → M AV) (n : Nat) (rec_2 : List AV → M AV) (x0_3 x46 x47 x48 : AV) : M AV :=
  lp (aBin .lss [] x48 x47) fun v49 =>
  mc v49
    (lp (aIdxS 3 x46 x48) fun v51 =>
  bnd (load (some 3) v51) fun v52 =>
  bnd (alloc T_api_Band [.int .i64 0, .int .i64 0, .nilslice]) fun v11 =>
  bnd (store (some 3) v11 v52) fun u_1 =>
  bnd (call fn_layout_Width [x48]) fun v54 =>
  lp (aNil x0_3) fun v56 =>
  lp (aOff 7 v56) fun v57 =>
  bnd (load none v57) fun v58 =>
  lp (aOff 0 v11) fun v59 =>
  bnd (load none v59) fun v60 =>
  snap fun _ =>
  bnd (call fn_alloc_Band [v58, v60, v54]) fun v62 =>
  snap fun _ =>
  lp (aBin .gtr [] v62 (.int .i64 0)) fun v64 =>
  mc v64
    (lp (aOff 2 v11) fun v66 =>
    bnd (load none v66) fun v67 =>
    bnd (call fn_pvq_Index [v67]) fun v68 =>
    lp (aExt 0 v68) fun v69 =>
    lp (aExt 1 v68) fun v70 =>
    lp (aNil x0_3) fun v72 =>
    lp (aOff 0 v72) fun v73 =>
    snap fun _ =>
    bnd (call fn_pvq_Count [v54, v62]) fun v77 =>
    snap fun _ =>
    snap fun _ =>
    bnd (call fn_sym_PutBelow [v73, v69, v77]) fun v78 =>
    snap fun _ =>
    code_writer_channel_j1 call n rec_2 x0_3 x46 x47 x48)
    (code_writer_channel_j1 call n rec_2 x0_3 x46 x47 x48))
    (ret (.tup []))
noncomputable def code_writer_channel_j0 (call : Nat → List AV → M AV) (n : Nat) (rec_1 : List AV → M AV) (x0_2 x4_2 x29_1 x30_1 x31_1 : AV) : M AV :=
  lp (aBin .add [] x31_1 (.int .i64 1)) fun v44 =>
  rec_1 [x0_2, x4_2, x29_1, x30_1, v44]
noncomputable def code_writer_channel_l1 (call : Nat → List AV → M AV) (n : Nat) (rec_1 : List AV → M AV) (x0_1 x4_1 x29 x30 x31 : AV) : M AV :=
  lp (aBin .lss [] x31 x30) fun v32 =>
  mc v32
    (lp (aIdxS 3 x29 x31) fun v33 =>
  bnd (load (some 3) v33) fun v34 =>
  bnd (alloc T_api_Band [.int .i64 0, .int .i64 0, .nilslice]) fun v9 =>
  bnd (store (some 3) v9 v34) fun u =>
  lp (aOff 0 v9) fun v35 =>
  bnd (load none v35) fun v36 =>
  lp (aBin .gtr [] v36 (.int .i64 0)) fun v37 =>
  mc v37
    (lp (aNil x0_1) fun v39 =>
    lp (aOff 0 v39) fun v40 =>
    lp (aOff 1 v9) fun v41 =>
    bnd (load none v41) fun v42 =>
    snap fun _ =>
    bnd (call fn_sym_PutBits [v40, v42, (.int .i64 2)]) fun v43 =>
    snap fun _ =>
    code_writer_channel_j0 call n rec_1 x0_1 x4_1 x29 x30 x31)
    (code_writer_channel_j0 call n rec_1 x0_1 x4_1 x29 x30 x31))
    (lp (aOff 0 x4_1) fun v45 =>
bnd (load none v45) fun v46 =>
lp (aLenS v46) fun v47 =>
loopN (fun r l => code_writer_channel_l2 call n r (l.getD 0 .undef) (l.getD 1 .undef) (l.getD 2 .undef) (l.getD 3 .undef)) n [x0_1, v46, v47, (.int .i64 0)])
noncomputable def code_writer_channel_l0 (call : Nat → List AV → M AV) (n : Nat) (rec : List AV → M AV) (x0 x4 x16 x17 x18 : AV) : M AV :=
  lp (aBin .lss [] x18 x17) fun v19 =>
  mc v19
    (lp (aIdxS 1 x16 x18) fun v20 =>
  bnd (load none v20) fun v21 =>
  lp (aNil x0) fun v23 =>
  lp (aOff 0 v23) fun v24 =>
  bnd (call fn_sym_PutDelta [v24, v21]) fun v26 =>
  lp (aBin .add [] x18 (.int .i64 1)) fun v27 =>
  rec [x0, x4, x16, x17, v27])
    (lp (aOff 0 x4) fun v28 =>
bnd (load none v28) fun v29 =>
lp (aLenS v29) fun v30 =>
loopN (fun r l => code_writer_channel_l1 call n r (l.getD 0 .undef) (l.getD 1 .undef) (l.getD 2 .undef) (l.getD 3 .undef) (l.getD 4 .undef)) n [x0, x4, v29, v30, (.int .i64 0)])
noncomputable def code_writer_channel (call : Nat → List AV → M AV) (n : Nat) (a0 a1 a2 : AV) : M AV :=
  bnd (box T_api_Chan a1) fun v4 =>
  lp (aLenS a2) fun v17 =>
  loopN (fun r l => code_writer_channel_l0 call n r (l.getD 0 .undef) (l.getD 1 .undef) (l.getD 2 .undef) (l.getD 3 .undef) (l.getD 4 .undef)) n [a0, v4, a2, v17, (.int .i64 0)]
theorem code_writer_channel_eq {ext : Ext} (h : ext fn_code_writer_channel = none) (n : Nat) (a0 a1 a2 : AV) : fcall Tryz.prog ext (n + 1) fn_code_writer_channel [a0, a1, a2] = code_writer_channel (fcall Tryz.prog ext n) n a0 a1 a2 := by
  unfold fcall; rw [h]; kernel_rfl

/-! splicer/frame.Rows -/
noncomputable def frame_Rows (call : Nat → List AV → M AV) (n : Nat) (a0 : AV) : M AV :=
  bnd (box T_api_Frame a0) fun v1 =>
  lp (aOff 4 v1) fun v3 =>
  bnd (load none v3) fun v4 =>
  bnd (call fn_frame_mapped_api_Chan_sl_int [v4, (.func (.func fn_frame_Rows_c1) [] [])]) fun v5 =>
  ret v5
theorem frame_Rows_eq {ext : Ext} (h : ext fn_frame_Rows = none) (n : Nat) (a0 : AV) : fcall Tryz.prog ext (n + 1) fn_frame_Rows [a0] = frame_Rows (fcall Tryz.prog ext n) n a0 := by
  unfold fcall; rw [h]; kernel_rfl

/-! splicer/sym.PutBelow -/
noncomputable def sym_PutBelow_j0 (call : Nat → List AV → M AV) (n : Nat) (x0 x1 x2 x23 : AV) : M AV :=
  mc x23
    (ret (.bool false))
    (bnd (call fn_sym_parted [x2]) fun v26 =>
lp (aExt 0 v26) fun v27 =>
lp (aExt 1 v26) fun v28 =>
lp (aBin .shr [] x1 v27) fun v32 =>
bnd (call fn_sym_put [x0, v32, v28]) fun v34 =>
lp (aBin .shl [] (.int .i64 1) v27) fun v38 =>
lp (aBin .sub [] v38 (.int .i64 1)) fun v39 =>
lp (aBin .and [] x1 v39) fun v40 =>
bnd (call fn_sym_PutBits [x0, v40, v27]) fun v42 =>
ret v42)
noncomputable def sym_PutBelow (call : Nat → List AV → M AV) (n : Nat) (a0 a1 a2 : AV) : M AV :=
  lp (aBin .lss [] a2 (.int .i64 1)) fun v10 =>
  mc v10
    (sym_PutBelow_j0 call n a0 a1 a2 (.bool true))
    (lp (aBin .gtr [] a2 (.int .i64 2147483648)) fun v13 =>
    mc v13
      (sym_PutBelow_j0 call n a0 a1 a2 (.bool true))
      (lp (aBin .lss [] a1 (.int .i64 0)) fun v17 =>
      mc v17
        (sym_PutBelow_j0 call n a0 a1 a2 (.bool true))
        (lp (aBin .geq [] a1 a2) fun v22 =>
        sym_PutBelow_j0 call n a0 a1 a2 v22)))
theorem sym_PutBelow_eq {ext : Ext} (h : ext fn_sym_PutBelow = none) (n : Nat) (a0 a1 a2 : AV) : fcall Tryz.prog ext (n + 1) fn_sym_PutBelow [a0, a1, a2] = sym_PutBelow (fcall Tryz.prog ext n) n a0 a1 a2 := by
  unfold fcall; rw [h]; kernel_rfl

/-! (*splicer/code.writer).flag -/
noncomputable def code_writer_flag_j0 (call : Nat → List AV → M AV) (n : Nat) (x0 x4 : AV) : M AV :=
  lp (aNil x0) fun v7 =>
  lp (aOff 0 v7) fun v8 =>
  bnd (call fn_sym_PutBits [v8, x4, (.int .i64 1)]) fun v10 =>
  ret (.tup [])
noncomputable def code_writer_flag (call : Nat → List AV → M AV) (n : Nat) (a0 a1 : AV) : M AV :=
  mc a1
    (code_writer_flag_j0 call n a0 (.int .i64 1))
    (code_writer_flag_j0 call n a0 (.int .i64 0))
theorem code_writer_flag_eq {ext : Ext} (h : ext fn_code_writer_flag = none) (n : Nat) (a0 a1 : AV) : fcall Tryz.prog ext (n + 1) fn_code_writer_flag [a0, a1] = code_writer_flag (fcall Tryz.prog ext n) n a0 a1 := by
  unfold fcall; rw [h]; kernel_rfl

/-! splicer/frame.Fit -/
noncomputable def frame_Fit_l1 (call : Nat → List AV → M AV) (n : Nat) (rec : List AV → M AV) (rec_1 : List AV → M AV) (x2_3 x51_1 x52_1 x53_1 x62 x63 x64 : AV) : M AV :=
  lp (aBin .lss [] x64 x63) fun v65 =>
  mc v65
    (lp (aIdxS 3 x62 x64) fun v67 =>
  bnd (load (some 3) v67) fun v68 =>
  bnd (alloc T_api_Band [.int .i64 0, .int .i64 0, .nilslice]) fun v10 =>
  bnd (store (some 3) v10 v68) fun u_1 =>
  bnd (load (some 3) v10) fun v69 =>
  bnd (call fn_frame_fits [v69, x2_3, x64]) fun v72 =>
  lp (aUn .not v72) fun v73 =>
  mc v73
    (ret (.bool false))
    (lp (aBin .add [] x64 (.int .i64 1)) fun v74 =>
  rec_1 [x2_3, x51_1, x52_1, x53_1, x62, x63, v74]))
    (lp (aBin .add [] x53_1 (.int .i64 1)) fun v75 =>
rec [x2_3, x51_1, x52_1, v75])
noncomputable def frame_Fit_l0 (call : Nat → List AV → M AV) (n : Nat) (rec : List AV → M AV) (x2_2 x51 x52 x53 : AV) : M AV :=
  lp (aBin .lss [] x53 x52) fun v54 =>
  mc v54
    (lp (aIdxS 1 x51 x53) fun v55 =>
  bnd (load (some 1) v55) fun v56 =>
  bnd (alloc T_api_Chan [.nilslice]) fun v8 =>
  bnd (store (some 1) v8 v56) fun u =>
  lp (aOff 0 v8) fun v57 =>
  bnd (load none v57) fun v58 =>
  lp (aLenS v58) fun v59 =>
  lp (aBin .neq [6] v59 (.int .i64 13)) fun v60 =>
  mc v60
    (ret (.bool false))
    (lp (aOff 0 v8) fun v61 =>
  bnd (load none v61) fun v62 =>
  lp (aLenS v62) fun v63 =>
  loopN (fun r l => frame_Fit_l1 call n rec r (l.getD 0 .undef) (l.getD 1 .undef) (l.getD 2 .undef) (l.getD 3 .undef) (l.getD 4 .undef) (l.getD 5 .undef) (l.getD 6 .undef)) n [x2_2, x51, x52, x53, v62, v63, (.int .i64 0)]))
    (ret (.bool true))
noncomputable def frame_Fit_j1 (call : Nat → List AV → M AV) (n : Nat) (x2_1 x3_1 x33 : AV) : M AV :=
  mc x33
    (ret (.bool false))
    (lp (aOff 4 x3_1) fun v50 =>
bnd (load none v50) fun v51 =>
lp (aLenS v51) fun v52 =>
loopN (fun r l => frame_Fit_l0 call n r (l.getD 0 .undef) (l.getD 1 .undef) (l.getD 2 .undef) (l.getD 3 .undef)) n [x2_1, v51, v52, (.int .i64 0)])
noncomputable def frame_Fit_j0 (call : Nat → List AV → M AV) (n : Nat) (x2 x3 x11 : AV) : M AV :=
  mc x11
    (ret (.bool false))
    (lp (aBin .lss [] x2 (.int .i64 0)) fun v35 =>
    mc v35
      (frame_Fit_j1 call n x2 x3 (.bool true))
      (lp (aBin .gtr [] x2 (.int .i64 10)) fun v38 =>
      mc v38
        (frame_Fit_j1 call n x2 x3 (.bool true))
        (lp (aOff 3 x3) fun v41 =>
        bnd (load none v41) fun v42 =>
        lp (aBin .lss [] v42 (.int .i64 (-64))) fun v43 =>
        mc v43
          (frame_Fit_j1 call n x2 x3 (.bool true))
          (lp (aOff 3 x3) fun v46 =>
          bnd (load none v46) fun v47 =>
          lp (aBin .gtr [] v47 (.int .i64 32)) fun v48 =>
          frame_Fit_j1 call n x2 x3 v48))))
noncomputable def frame_Fit (call : Nat → List AV → M AV) (n : Nat) (a0 a1 a2 : AV) : M AV :=
  bnd (box T_api_Frame a0) fun v3 =>
  lp (aBin .lss [] a1 (.int .i64 1)) fun v13 =>
  mc v13
    (frame_Fit_j0 call n a2 v3 (.bool true))
    (lp (aBin .gtr [] a1 (.int .i64 2)) fun v16 =>
    mc v16
      (frame_Fit_j0 call n a2 v3 (.bool true))
      (lp (aOff 4 v3) fun v19 =>
      bnd (load none v19) fun v20 =>
      lp (aLenS v20) fun v21 =>
      lp (aBin .neq [6] v21 a1) fun v23 =>
      mc v23
        (frame_Fit_j0 call n a2 v3 (.bool true))
        (lp (aOff 1 v3) fun v26 =>
        bnd (load none v26) fun v27 =>
        mc v27
          (lp (aBin .eql [6] a1 (.int .i64 1)) fun v30 =>
          frame_Fit_j0 call n a2 v3 v30)
          (frame_Fit_j0 call n a2 v3 (.bool false)))))
theorem frame_Fit_eq {ext : Ext} (h : ext fn_frame_Fit = none) (n : Nat) (a0 a1 a2 : AV) : fcall Tryz.prog ext (n + 1) fn_frame_Fit [a0, a1, a2] = frame_Fit (fcall Tryz.prog ext n) n a0 a1 a2 := by
  unfold fcall; rw [h]; kernel_rfl

/-! splicer/code.ahead -/
noncomputable def code_ahead_l0 (call : Nat → List AV → M AV) (n : Nat) (rec : List AV → M AV) (x0 x11 x12 x13 : AV) : M AV :=
  lp (aBin .lss [] x13 x12) fun v14 =>
  mc v14
    (lp (aIdxS 1 x11 x13) fun v15 =>
  bnd (load none v15) fun v16 =>
  bnd (call fn_energy_Right [v16]) fun v18 =>
  lp (aUn .not v18) fun v19 =>
  mc v19
    (ret .nilslice)
    (lp (aBin .add [] x13 (.int .i64 1)) fun v20 =>
  rec [x0, x11, x12, v20]))
    (ret x0)
noncomputable def code_ahead (call : Nat → List AV → M AV) (n : Nat) (a0 a1 : AV) : M AV :=
  lp (aLenS a0) fun v8 =>
  lp (aBin .neq [6] v8 a1) fun v10 =>
  mc v10
    (ret .nilslice)
    (lp (aLenS a0) fun v12 =>
  loopN (fun r l => code_ahead_l0 call n r (l.getD 0 .undef) (l.getD 1 .undef) (l.getD 2 .undef) (l.getD 3 .undef)) n [a0, a0, v12, (.int .i64 0)])
theorem code_ahead_eq {ext : Ext} (h : ext fn_code_ahead = none) (n : Nat) (a0 a1 : AV) : fcall Tryz.prog ext (n + 1) fn_code_ahead [a0, a1] = code_ahead (fcall Tryz.prog ext n) n a0 a1 := by
  unfold fcall; rw [h]; kernel_rfl

/-! splicer/splicerref20.Silent -/
noncomputable def ref20_Silent_l1 (call : Nat → List AV → M AV) (n : Nat) (rec : List AV → M AV) (rec_1 : List AV → M AV) (x0_2 x2_2 x3_1 x4_1 x5 x6 : AV) : M AV :=
  lp (aBin .lss [] x6 (.int .i64 13)) fun v22 =>
  mc v22
    (lp (aOff 0 x5) fun v25 =>
  bnd (load none v25) fun v26 =>
  snap fun _ =>
  bnd (call fn_ref13_Width [x6]) fun v28 =>
  snap fun m_1 =>
  same none v25 v26 m_1 <|
  snap fun _ =>
  bnd (mkSlice T_int 1 8 [.int .i64 0] v28 v28) fun v29 =>
  snap fun m_3 =>
  same none v25 v26 m_3 <|
  lp ((aFill (fun i => [(0, 1), (1, 1), (2, 1)][i]?) [.int .i64 0, .int .i64 0, .nilslice] [(2, v29)]).map .agg) fun v30 =>
  snap fun _ =>
  lp (aFill (fun i => some (i * 3, 3)) [.int .i64 0, .int .i64 0, .nilslice] [(0, v30)]) fun cs =>
  bnd (allocS T_api_Band 3 1 cs) fun v31 =>
  snap fun m_5 =>
  same none v25 v26 m_5 <|
  snap fun _ =>
  bnd (append T_api_Band 3 40 v26 v31) fun v32 =>
  snap fun _ =>
  lp (aOff 0 x5) fun v33 =>
  snap fun _ =>
  bnd (store none v33 v32) fun u_3 =>
  snap fun _ =>
  lp (aBin .add [] x6 (.int .i64 1)) fun v24 =>
  rec_1 [x0_2, x2_2, x3_1, x4_1, x5, v24])
    (lp (aOff 4 x3_1) fun v34 =>
bnd (load none v34) fun v35 =>
bnd (load (some 1) x5) fun v36 =>
lp (aFill (fun i => some (i * 1, 1)) [.nilslice] [(0, v36)]) fun cs_1 =>
bnd (allocS T_api_Chan 1 1 cs_1) fun v37 =>
bnd (append T_api_Chan 1 24 v35 v37) fun v38 =>
lp (aOff 4 x3_1) fun v39 =>
bnd (store none v39 v38) fun u_4 =>
lp (aBin .add [] x4_1 (.int .i64 1)) fun v19 =>
rec [x0_2, x2_2, x3_1, v19])
noncomputable def ref20_Silent_l0 (call : Nat → List AV → M AV) (n : Nat) (rec : List AV → M AV) (x0_1 x2_1 x3 x4 : AV) : M AV :=
  lp (aBin .lss [] x4 x0_1) fun v17 =>
  mc v17
    (lp ((aFill (fun i => [(0, 1)][i]?) [.nilslice] []).map .agg) fun v20 =>
  bnd (alloc T_api_Chan [.nilslice]) fun v5 =>
  bnd (store (some 1) v5 v20) fun u_2 =>
  loopN (fun r l => ref20_Silent_l1 call n rec r (l.getD 0 .undef) (l.getD 1 .undef) (l.getD 2 .undef) (l.getD 3 .undef) (l.getD 4 .undef) (l.getD 5 .undef)) n [x0_1, x2_1, x3, x4, v5, (.int .i64 0)])
    (bnd (load (some 5) x3) fun v40 =>
bnd (store (some 5) x2_1 v40) fun u_5 =>
bnd (load (some 5) x2_1) fun r_1 =>
ret r_1)
noncomputable def ref20_Silent_j0 (call : Nat → List AV → M AV) (n : Nat) (x0 x2 x12 : AV) : M AV :=
  mc x12
    (lp ((aFill (fun i => [(0, 1), (1, 1), (2, 1), (3, 1), (4, 1)][i]?) [.bool false, .bool false, .bool false, .int .i64 0, .nilslice] []).map .agg) fun v13 =>
    bnd (store (some 5) x2 v13) fun u =>
    bnd (load (some 5) x2) fun r =>
    ret r)
    (lp ((aFill (fun i => [(0, 1), (1, 1), (2, 1), (3, 1), (4, 1)][i]?) [.bool false, .bool false, .bool false, .int .i64 0, .nilslice] [(2, (.bool true))]).map .agg) fun v14 =>
bnd (alloc T_api_Frame [.bool false, .bool false, .bool false, .int .i64 0, .nilslice]) fun v3 =>
bnd (store (some 5) v3 v14) fun u_1 =>
loopN (fun r l => ref20_Silent_l0 call n r (l.getD 0 .undef) (l.getD 1 .undef) (l.getD 2 .undef) (l.getD 3 .undef)) n [x0, x2, v3, (.int .i64 0)])
noncomputable def ref20_Silent (call : Nat → List AV → M AV) (n : Nat) (a0 : AV) : M AV :=
  bnd (alloc T_api_Frame [.bool false, .bool false, .bool false, .int .i64 0, .nilslice]) fun v2 =>
  lp (aBin .lss [] a0 (.int .i64 1)) fun v8 =>
  mc v8
    (ref20_Silent_j0 call n a0 v2 (.bool true))
    (lp (aBin .gtr [] a0 (.int .i64 2)) fun v11 =>
    ref20_Silent_j0 call n a0 v2 v11)
theorem ref20_Silent_eq {ext : Ext} (h : ext fn_ref20_Silent = none) (n : Nat) (a0 : AV) : fcall Tryz.prog ext (n + 1) fn_ref20_Silent [a0] = ref20_Silent (fcall Tryz.prog ext n) n a0 := by
  unfold fcall; rw [h]; kernel_rfl

/-! splicer/splicerref20.Same -/
noncomputable def ref20_Same_j0 (call : Nat → List AV → M AV) (n : Nat) (x4 : AV) : M AV :=
  ret x4
noncomputable def ref20_Same (call : Nat → List AV → M AV) (n : Nat) (a0 a1 : AV) : M AV :=
  bnd (box T_api_Frame a0) fun v2 =>
  bnd (box T_api_Frame a1) fun v3 =>
  lp (aOff 2 v2) fun v5 =>
  bnd (load none v5) fun v6 =>
  lp (aOff 2 v3) fun v7 =>
  bnd (load none v7) fun v8 =>
  lp (aBin .eql [1] v6 v8) fun v9 =>
  mc v9
    (lp (aOff 3 v2) fun v11 =>
    bnd (load none v11) fun v12 =>
    lp (aOff 3 v3) fun v13 =>
    bnd (load none v13) fun v14 =>
    lp (aBin .eql [6] v12 v14) fun v15 =>
    mc v15
      (bnd (load (some 5) v2) fun v18 =>
      bnd (load (some 5) v3) fun v19 =>
      bnd (call fn_ref20_Alike [v18, v19]) fun v20 =>
      ref20_Same_j0 call n v20)
      (ref20_Same_j0 call n (.bool false)))
    (ref20_Same_j0 call n (.bool false))
theorem ref20_Same_eq {ext : Ext} (h : ext fn_ref20_Same = none) (n : Nat) (a0 a1 : AV) : fcall Tryz.prog ext (n + 1) fn_ref20_Same [a0, a1] = ref20_Same (fcall Tryz.prog ext n) n a0 a1 := by
  unfold fcall; rw [h]; kernel_rfl

/-! splicer/splicerref22.Get -/
noncomputable def ref22_Get_j3 (call : Nat → List AV → M AV) (n : Nat) (x8_4 x11_3 x105 : AV) : M AV :=
  mc x105
    (lp ((aFill (fun i => [(0, 1), (1, 1), (2, 1), (3, 1), (4, 1)][i]?) [.bool false, .bool false, .bool false, .int .i64 0, .nilslice] []).map .agg) fun v106 =>
    bnd (store (some 5) x8_4 v106) fun u_9 =>
    bnd (load (some 5) x8_4) fun r_3 =>
    ret (.tup [r_3, (.int .i64 4)]))
    (bnd (load (some 5) x11_3) fun v107 =>
bnd (store (some 5) x8_4 v107) fun u_10 =>
bnd (load (some 5) x8_4) fun r_4 =>
ret (.tup [r_4, (.int .i64 0)]))
noncomputable def ref22_Get_j2 (call : Nat → List AV → M AV) (n : Nat) (rec : List AV → M AV) (x0_3 x1_3 x2_3 x3_3 x8_3 x10_2 x11_2 x13_1 x14_1 x66_1 x67 x102_1 x103_1 x104_1 : AV) : M AV :=
  mc x67
    (lp (aOff 2 x11_2) fun v72 =>
bnd (load none v72) fun v73 =>
snap fun _ =>
bnd (call fn_ref22_row [x3_3, x14_1]) fun v76 =>
snap fun m_1 =>
same none v72 v73 m_1 <|
snap fun _ =>
bnd (call fn_ref22_taken [x10_2, v73, v76, x2_3]) fun v78 =>
snap fun _ =>
lp (aExt 0 v78) fun v79 =>
lp (aExt 1 v78) fun v80 =>
snap fun _ =>
bnd (alloc T_api_Chan [.nilslice]) fun v15 =>
snap fun m_5 =>
same none v72 v73 m_5 <|
snap fun _ =>
bnd (store (some 1) v15 v79) fun u_6 =>
snap fun _ =>
lp (aOff 4 x11_2) fun v82 =>
bnd (load none v82) fun v83 =>
bnd (load (some 1) v15) fun v84 =>
lp (aFill (fun i => some (i * 1, 1)) [.nilslice] [(0, v84)]) fun cs =>
bnd (allocS T_api_Chan 1 1 cs) fun v85 =>
bnd (append T_api_Chan 1 24 v83 v85) fun v86 =>
lp (aOff 4 x11_2) fun v87 =>
bnd (store none v87 v86) fun u_7 =>
lp (aBin .add [] x14_1 (.int .i64 1)) fun v69 =>
rec [x0_3, x1_3, x2_3, x3_3, x8_3, x10_2, x11_2, v80, v69, x66_1, x102_1, x103_1, x104_1])
    (lp (aUn .not x13_1) fun v89 =>
mc v89
  (lp ((aFill (fun i => [(0, 1), (1, 1), (2, 1), (3, 1), (4, 1)][i]?) [.bool false, .bool false, .bool false, .int .i64 0, .nilslice] []).map .agg) fun v90 =>
  bnd (store (some 5) x8_3 v90) fun u_8 =>
  bnd (load (some 5) x8_3) fun r_2 =>
  ret (.tup [r_2, (.int .i64 4)]))
  (bnd (load (some 5) x11_2) fun v92 =>
bnd (call fn_ref22_Put [v92, x1_3, x2_3, x3_3]) fun v96 =>
lp (aExt 0 v96) fun v97 =>
lp (aExt 1 v96) fun v98 =>
lp (aBin .neq [6] v98 (.int .i64 0)) fun v100 =>
mc v100
  (ref22_Get_j3 call n x8_3 x11_2 (.bool true))
  (lp (aBin .neq [7] v97 x0_3) fun v104 =>
  ref22_Get_j3 call n x8_3 x11_2 v104)))
noncomputable def ref22_Get_l0 (call : Nat → List AV → M AV) (n : Nat) (rec : List AV → M AV) (x0_2 x1_2 x2_2 x3_2 x8_2 x10_1 x11_1 x13 x14 x66 x102 x103 x104 : AV) : M AV :=
  lp (aBin .lss [] x14 x1_2) fun v64 =>
  mc v64
    (ref22_Get_j2 call n rec x0_2 x1_2 x2_2 x3_2 x8_2 x10_1 x11_1 x13 x14 x13 x13 x102 x103 x104)
    (ref22_Get_j2 call n rec x0_2 x1_2 x2_2 x3_2 x8_2 x10_1 x11_1 x13 x14 (.tup []) (.bool false) x102 x103 x104)
noncomputable def ref22_Get_j1 (call : Nat → List AV → M AV) (n : Nat) (x0_1 x1_1 x2_1 x3_1 x8_1 x10 x11 : AV) : M AV :=
  bnd (call fn_ref05_GetBits [x10, (.int .i64 1)]) fun v51 =>
  lp (aBin .eql [6] v51 (.int .i64 1)) fun v52 =>
  lp (aOff 2 x11) fun v53 =>
  bnd (store none v53 v52) fun u_4 =>
  bnd (call fn_ref05_GetBelow [x10, (.int .i64 97)]) fun v56 =>
  lp (aExt 0 v56) fun v57 =>
  lp (aExt 1 v56) fun v58 =>
  lp (aBin .sub [] v57 (.int .i64 64)) fun v60 =>
  lp (aOff 3 x11) fun v61 =>
  bnd (store none v61 v60) fun u_5 =>
  loopN (fun r l => ref22_Get_l0 call n r (l.getD 0 .undef) (l.getD 1 .undef) (l.getD 2 .undef) (l.getD 3 .undef) (l.getD 4 .undef) (l.getD 5 .undef) (l.getD 6 .undef) (l.getD 7 .undef) (l.getD 8 .undef) (l.getD 9 .undef) (l.getD 10 .undef) (l.getD 11 .undef) (l.getD 12 .undef)) n [x0_1, x1_1, x2_1, x3_1, x8_1, x10, x11, v58, (.int .i64 0), .undef, .undef, .undef, .undef]
noncomputable def ref22_Get_j0 (call : Nat → List AV → M AV) (n : Nat) (x0 x1 x2 x3 x8 x32 : AV) : M AV :=
  mc x32
    (lp ((aFill (fun i => [(0, 1), (1, 1), (2, 1), (3, 1), (4, 1)][i]?) [.bool false, .bool false, .bool false, .int .i64 0, .nilslice] []).map .agg) fun v33 =>
    bnd (store (some 5) x8 v33) fun u =>
    bnd (load (some 5) x8) fun r =>
    ret (.tup [r, (.int .i64 1)]))
    (lp (aLenStr x0) fun v35 =>
lp (aBin .gtr [] v35 (.int .i64 1024)) fun v36 =>
mc v36
  (lp ((aFill (fun i => [(0, 1), (1, 1), (2, 1), (3, 1), (4, 1)][i]?) [.bool false, .bool false, .bool false, .int .i64 0, .nilslice] []).map .agg) fun v37 =>
  bnd (store (some 5) x8 v37) fun u_1 =>
  bnd (load (some 5) x8) fun r_1 =>
  ret (.tup [r_1, (.int .i64 3)]))
  (bnd (call fn_ref04_New [x0]) fun v39 =>
bnd (call fn_ref05_GetBits [v39, (.int .i64 1)]) fun v41 =>
lp (aBin .eql [6] v41 (.int .i64 1)) fun v42 =>
lp ((aFill (fun i => [(0, 1), (1, 1), (2, 1), (3, 1), (4, 1)][i]?) [.bool false, .bool false, .bool false, .int .i64 0, .nilslice] [(0, v42)]).map .agg) fun v43 =>
bnd (alloc T_api_Frame [.bool false, .bool false, .bool false, .int .i64 0, .nilslice]) fun v11 =>
bnd (store (some 5) v11 v43) fun u_2 =>
lp (aBin .eql [6] x1 (.int .i64 2)) fun v45 =>
mc v45
  (bnd (call fn_ref05_GetBits [v39, (.int .i64 1)]) fun v47 =>
  lp (aBin .eql [6] v47 (.int .i64 1)) fun v48 =>
  lp (aOff 1 v11) fun v49 =>
  bnd (store none v49 v48) fun u_3 =>
  ref22_Get_j1 call n x0 x1 x2 x3 x8 v39 v11)
  (ref22_Get_j1 call n x0 x1 x2 x3 x8 v39 v11)))
noncomputable def ref22_Get (call : Nat → List AV → M AV) (n : Nat) (a0 a1 a2 a3 : AV) : M AV :=
  bnd (alloc T_api_Frame [.bool false, .bool false, .bool false, .int .i64 0, .nilslice]) fun v8 =>
  lp (aBin .lss [] a1 (.int .i64 1)) fun v20 =>
  mc v20
    (ref22_Get_j0 call n a0 a1 a2 a3 v8 (.bool true))
    (lp (aBin .gtr [] a1 (.int .i64 2)) fun v23 =>
    mc v23
      (ref22_Get_j0 call n a0 a1 a2 a3 v8 (.bool true))
      (lp (aBin .lss [] a2 (.int .i64 0)) fun v27 =>
      mc v27
        (ref22_Get_j0 call n a0 a1 a2 a3 v8 (.bool true))
        (lp (aBin .gtr [] a2 (.int .i64 10)) fun v31 =>
        ref22_Get_j0 call n a0 a1 a2 a3 v8 v31)))
theorem ref22_Get_eq {ext : Ext} (h : ext fn_ref22_Get = none) (n : Nat) (a0 a1 a2 a3 : AV) : fcall Tryz.prog ext (n + 1) fn_ref22_Get [a0, a1, a2, a3] = ref22_Get (fcall Tryz.prog ext n) n a0 a1 a2 a3 := by
  unfold fcall; rw [h]; kernel_rfl

/-! splicer/code.Get -/
noncomputable def code_Get_j1 (call : Nat → List AV → M AV) (n : Nat) (x8_1 x11 x66 : AV) : M AV :=
  mc x66
    (lp ((aFill (fun i => [(0, 1), (1, 1), (2, 1), (3, 1), (4, 1)][i]?) [.bool false, .bool false, .bool false, .int .i64 0, .nilslice] []).map .agg) fun v67 =>
    bnd (store (some 5) x8_1 v67) fun u_4 =>
    bnd (load (some 5) x8_1) fun r_3 =>
    ret (.tup [r_3, (.int .i64 4)]))
    (bnd (load (some 5) x11) fun v68 =>
bnd (store (some 5) x8_1 v68) fun u_5 =>
bnd (load (some 5) x8_1) fun r_4 =>
ret (.tup [r_4, (.int .i64 0)]))
noncomputable def code_Get_j0 (call : Nat → List AV → M AV) (n : Nat) (x0 x1 x2 x3 x8 x14 : AV) : M AV :=
  mc x14
    (lp ((aFill (fun i => [(0, 1), (1, 1), (2, 1), (3, 1), (4, 1)][i]?) [.bool false, .bool false, .bool false, .int .i64 0, .nilslice] []).map .agg) fun v29 =>
    bnd (store (some 5) x8 v29) fun u =>
    bnd (load (some 5) x8) fun r =>
    ret (.tup [r, (.int .i64 1)]))
    (lp (aLenStr x0) fun v32 =>
    lp (aBin .gtr [] v32 (.int .i64 1024)) fun v33 =>
    mc v33
      (lp ((aFill (fun i => [(0, 1), (1, 1), (2, 1), (3, 1), (4, 1)][i]?) [.bool false, .bool false, .bool false, .int .i64 0, .nilslice] []).map .agg) fun v34 =>
      bnd (store (some 5) x8 v34) fun u_1 =>
      bnd (load (some 5) x8) fun r_1 =>
      ret (.tup [r_1, (.int .i64 3)]))
      (bnd (call fn_code_ahead [x3, x1]) fun v37 =>
bnd (call fn_rc_New [x0]) fun v39 =>
lp ((aFill (fun i => [(0, 1), (1, 1), (2, 1)][i]?) [.nilptr, .int .i64 0, .bool false] [(0, v39), (1, x2)]).map .agg) fun v41 =>
bnd (box T_code_reader v41) fun v42 =>
bnd (call fn_code_reader_frame [v42, x1, v37]) fun v46 =>
bnd (alloc T_api_Frame [.bool false, .bool false, .bool false, .int .i64 0, .nilslice]) fun v11 =>
bnd (store (some 5) v11 v46) fun u_2 =>
lp (aNil v42) fun v48 =>
lp (aOff 2 v48) fun v49 =>
bnd (load none v49) fun v50 =>
mc v50
  (lp ((aFill (fun i => [(0, 1), (1, 1), (2, 1), (3, 1), (4, 1)][i]?) [.bool false, .bool false, .bool false, .int .i64 0, .nilslice] []).map .agg) fun v51 =>
  bnd (store (some 5) x8 v51) fun u_3 =>
  bnd (load (some 5) x8) fun r_2 =>
  ret (.tup [r_2, (.int .i64 4)]))
  (bnd (load (some 5) v11) fun v53 =>
bnd (call fn_code_Put [v53, x1, x2, v37]) fun v57 =>
lp (aExt 0 v57) fun v58 =>
lp (aExt 1 v57) fun v59 =>
lp (aBin .neq [6] v59 (.int .i64 0)) fun v61 =>
mc v61
  (code_Get_j1 call n x8 v11 (.bool true))
  (lp (aBin .neq [7] v58 x0) fun v65 =>
  code_Get_j1 call n x8 v11 v65))))
noncomputable def code_Get (call : Nat → List AV → M AV) (n : Nat) (a0 a1 a2 a3 : AV) : M AV :=
  bnd (alloc T_api_Frame [.bool false, .bool false, .bool false, .int .i64 0, .nilslice]) fun v8 =>
  lp (aBin .lss [] a1 (.int .i64 1)) fun v16 =>
  mc v16
    (code_Get_j0 call n a0 a1 a2 a3 v8 (.bool true))
    (lp (aBin .gtr [] a1 (.int .i64 2)) fun v19 =>
    mc v19
      (code_Get_j0 call n a0 a1 a2 a3 v8 (.bool true))
      (lp (aBin .lss [] a2 (.int .i64 0)) fun v23 =>
      mc v23
        (code_Get_j0 call n a0 a1 a2 a3 v8 (.bool true))
        (lp (aBin .gtr [] a2 (.int .i64 10)) fun v27 =>
        code_Get_j0 call n a0 a1 a2 a3 v8 v27)))
theorem code_Get_eq {ext : Ext} (h : ext fn_code_Get = none) (n : Nat) (a0 a1 a2 a3 : AV) : fcall Tryz.prog ext (n + 1) fn_code_Get [a0, a1, a2, a3] = code_Get (fcall Tryz.prog ext n) n a0 a1 a2 a3 := by
  unfold fcall; rw [h]; kernel_rfl

/-! splicer/splicerref22.Put -/
noncomputable def ref22_Put_l0 (call : Nat → List AV → M AV) (n : Nat) (rec : List AV → M AV) (x1_2 x2_2 x3_2 x4_2 x10_1 x11 : AV) : M AV :=
  lp (aBin .lss [] x11 x1_2) fun v54 =>
  mc v54
    (lp (aOff 4 x4_2) fun v58 =>
  bnd (load none v58) fun v59 =>
  lp (aIdxS 1 v59 x11) fun v61 =>
  bnd (load (some 1) v61) fun v62 =>
  lp (aOff 2 x4_2) fun v63 =>
  bnd (load none v63) fun v64 =>
  snap fun _ =>
  bnd (call fn_ref22_row [x3_2, x11]) fun v67 =>
  snap fun m_1 =>
  same none v63 v64 m_1 <|
  same (some 1) v61 v62 m_1 <|
  same none v58 v59 m_1 <|
  snap fun _ =>
  bnd (call fn_ref22_channel [x10_1, v62, v64, v67, x2_2]) fun v69 =>
  snap fun _ =>
  lp (aBin .add [] x11 (.int .i64 1)) fun v56 =>
  rec [x1_2, x2_2, x3_2, x4_2, x10_1, v56])
    (bnd (call fn_ref04_Coder_End [x10_1]) fun v71 =>
ret (.tup [v71, (.int .i64 0)]))
noncomputable def ref22_Put_j1 (call : Nat → List AV → M AV) (n : Nat) (x1_1 x2_1 x3_1 x4_1 x10 : AV) : M AV :=
  lp (aOff 2 x4_1) fun v43 =>
  bnd (load none v43) fun v44 =>
  bnd (call fn_ref22_bit [v44]) fun v45 =>
  bnd (call fn_ref05_PutBits [x10, v45, (.int .i64 1)]) fun v46 =>
  lp (aOff 3 x4_1) fun v48 =>
  bnd (load none v48) fun v49 =>
  lp (aBin .add [] v49 (.int .i64 64)) fun v50 =>
  bnd (call fn_ref05_PutBelow [x10, v50, (.int .i64 97)]) fun v51 =>
  loopN (fun r l => ref22_Put_l0 call n r (l.getD 0 .undef) (l.getD 1 .undef) (l.getD 2 .undef) (l.getD 3 .undef) (l.getD 4 .undef) (l.getD 5 .undef)) n [x1_1, x2_1, x3_1, x4_1, x10, (.int .i64 0)]
noncomputable def ref22_Put_j0 (call : Nat → List AV → M AV) (n : Nat) (x1 x2 x3 x4 x27 : AV) : M AV :=
  mc x27
    (ret (.tup [(.str .empty), (.int .i64 1)]))
    (lp ((aFill (fun i => [(0, 1), (1, 1), (2, 1)][i]?) [.nilslice, .int .i64 0, .int .i64 0] []).map .agg) fun v28 =>
bnd (box T_ref04_Coder v28) fun v29 =>
lp (aOff 0 x4) fun v31 =>
bnd (load none v31) fun v32 =>
bnd (call fn_ref22_bit [v32]) fun v33 =>
bnd (call fn_ref05_PutBits [v29, v33, (.int .i64 1)]) fun v34 =>
lp (aBin .eql [6] x1 (.int .i64 2)) fun v36 =>
mc v36
  (lp (aOff 1 x4) fun v38 =>
  bnd (load none v38) fun v39 =>
  bnd (call fn_ref22_bit [v39]) fun v40 =>
  bnd (call fn_ref05_PutBits [v29, v40, (.int .i64 1)]) fun v41 =>
  ref22_Put_j1 call n x1 x2 x3 x4 v29)
  (ref22_Put_j1 call n x1 x2 x3 x4 v29))
noncomputable def ref22_Put (call : Nat → List AV → M AV) (n : Nat) (a0 a1 a2 a3 : AV) : M AV :=
  bnd (box T_api_Frame a0) fun v4 =>
  bnd (load (some 5) v4) fun v12 =>
  bnd (call fn_ref20_Fit [v12, a1, a2]) fun v15 =>
  lp (aUn .not v15) fun v16 =>
  mc v16
    (ref22_Put_j0 call n a1 a2 a3 v4 (.bool true))
    (lp (aOff 2 v4) fun v18 =>
    bnd (load none v18) fun v19 =>
    lp (aUn .not v19) fun v20 =>
    mc v20
      (bnd (call fn_ref22_rows [a3, a1]) fun v24 =>
      lp (aUn .not v24) fun v25 =>
      ref22_Put_j0 call n a1 a2 a3 v4 v25)
      (ref22_Put_j0 call n a1 a2 a3 v4 (.bool false)))
theorem ref22_Put_eq {ext : Ext} (h : ext fn_ref22_Put = none) (n : Nat) (a0 a1 a2 a3 : AV) : fcall Tryz.prog ext (n + 1) fn_ref22_Put [a0, a1, a2, a3] = ref22_Put (fcall Tryz.prog ext n) n a0 a1 a2 a3 := by
  unfold fcall; rw [h]; kernel_rfl

/-! splicer/code.Put -/
noncomputable def code_Put_j2 (call : Nat → List AV → M AV) (n : Nat) (rec : List AV → M AV) (x3_3 x4_3 x10_2 x11 x12 x13 x56_1 x57_1 x58_1 : AV) : M AV :=
  lp (aOff 4 x4_3) fun v71 =>
  bnd (load none v71) fun v72 =>
  lp (aIdxS 1 v72 x11) fun v74 =>
  bnd (load (some 1) v74) fun v75 =>
  lp (aOff 2 x4_3) fun v76 =>
  bnd (load none v76) fun v77 =>
  snap fun _ =>
  bnd (call fn_energy_Deltas [v77, x13, x12]) fun v80 =>
  snap fun m_3 =>
  same (some 1) v74 v75 m_3 <|
  same none v71 v72 m_3 <|
  snap fun _ =>
  bnd (call fn_code_writer_channel [x10_2, v75, v80]) fun v81 =>
  snap fun _ =>
  lp (aBin .add [] x58_1 (.int .i64 1)) fun v82 =>
rec [x3_3, x4_3, x10_2, x56_1, x57_1, v82]
noncomputable def code_Put_l0 (call : Nat → List AV → M AV) (n : Nat) (rec : List AV → M AV) (x3_2 x4_2 x10_1 x56 x57 x58 : AV) : M AV :=
  lp (aBin .lss [] x58 x57) fun v59 =>
  mc v59
    (lp (aIdxS 1 x56 x58) fun v61 =>
  bnd (load none v61) fun v62 =>
  lp (aOff 2 x4_2) fun v63 =>
  bnd (load none v63) fun v64 =>
  lp (aUn .not v64) fun v65 =>
  mc v65
    (lp (aIdxS 1 x3_2 x58) fun v68 =>
    bnd (load none v68) fun v69 =>
    code_Put_j2 call n rec x3_2 x4_2 x10_1 x58 v62 v69 x56 x57 x58)
    (code_Put_j2 call n rec x3_2 x4_2 x10_1 x58 v62 .nilslice x56 x57 x58))
    (lp (aNil x10_1) fun v84 =>
lp (aOff 0 v84) fun v85 =>
bnd (call fn_rc_Coder_End [v85]) fun v86 =>
ret (.tup [v86, (.int .i64 0)]))
noncomputable def code_Put_j1 (call : Nat → List AV → M AV) (n : Nat) (x3_1 x4_1 x10 : AV) : M AV :=
  lp (aOff 2 x4_1) fun v45 =>
  bnd (load none v45) fun v46 =>
  bnd (call fn_code_writer_flag [x10, v46]) fun v47 =>
  lp (aNil x10) fun v49 =>
  lp (aOff 0 v49) fun v50 =>
  lp (aOff 3 x4_1) fun v51 =>
  bnd (load none v51) fun v52 =>
  lp (aBin .sub [] v52 (.int .i64 (-64))) fun v53 =>
  snap fun _ =>
  bnd (call fn_sym_PutBelow [v50, v53, (.int .i64 97)]) fun v54 =>
  snap fun _ =>
  bnd (load (some 5) x4_1) fun v55 =>
  bnd (call fn_frame_Rows [v55]) fun v56 =>
  lp (aLenS v56) fun v57 =>
  loopN (fun r l => code_Put_l0 call n r (l.getD 0 .undef) (l.getD 1 .undef) (l.getD 2 .undef) (l.getD 3 .undef) (l.getD 4 .undef) (l.getD 5 .undef)) n [x3_1, x4_1, x10, v56, v57, (.int .i64 0)]
noncomputable def code_Put_j0 (call : Nat → List AV → M AV) (n : Nat) (x1 x2 x3 x4 x30 : AV) : M AV :=
  mc x30
    (ret (.tup [(.str .empty), (.int .i64 1)]))
    (lp ((aFill (fun i => [(0, 7), (7, 1)][i]?) [.bool false, .int .u64 0, .nilptr, .nilslice, .int .u64 0, .int .i64 0, .int .i64 0, .int .i64 0] [(1, x2)]).map .agg) fun v32 =>
bnd (box T_code_writer v32) fun v33 =>
lp (aOff 0 x4) fun v35 =>
bnd (load none v35) fun v36 =>
bnd (call fn_code_writer_flag [v33, v36]) fun v37 =>
lp (aBin .eql [6] x1 (.int .i64 2)) fun v39 =>
mc v39
  (lp (aOff 1 x4) fun v41 =>
  bnd (load none v41) fun v42 =>
  bnd (call fn_code_writer_flag [v33, v42]) fun v43 =>
  code_Put_j1 call n x3 x4 v33)
  (code_Put_j1 call n x3 x4 v33))
noncomputable def code_Put (call : Nat → List AV → M AV) (n : Nat) (a0 a1 a2 a3 : AV) : M AV :=
  bnd (box T_api_Frame a0) fun v4 =>
  bnd (call fn_code_ahead [a3, a1]) fun v16 =>
  bnd (load (some 5) v4) fun v17 =>
  bnd (call fn_frame_Fit [v17, a1, a2]) fun v20 =>
  lp (aUn .not v20) fun v21 =>
  mc v21
    (code_Put_j0 call n a1 a2 v16 v4 (.bool true))
    (lp (aOff 2 v4) fun v23 =>
    bnd (load none v23) fun v24 =>
    lp (aUn .not v24) fun v25 =>
    mc v25
      (lp (aBin .eql [4] v16 .nilslice) fun v28 =>
      code_Put_j0 call n a1 a2 v16 v4 v28)
      (code_Put_j0 call n a1 a2 v16 v4 (.bool false)))
theorem code_Put_eq {ext : Ext} (h : ext fn_code_Put = none) (n : Nat) (a0 a1 a2 a3 : AV) : fcall Tryz.prog ext (n + 1) fn_code_Put [a0, a1, a2, a3] = code_Put (fcall Tryz.prog ext n) n a0 a1 a2 a3 := by
  unfold fcall; rw [h]; kernel_rfl

/-! splicer/splicerlaw22.awake -/
noncomputable def law22_awake_j0 (call : Nat → List AV → M AV) (n : Nat) (x0 : AV) : M AV :=
  ret x0
noncomputable def law22_awake (call : Nat → List AV → M AV) (n : Nat) : M AV :=
  bnd (call fn_ref20_Silent [(.int .i64 2)]) fun v10 =>
  bnd (alloc T_api_Frame [.bool false, .bool false, .bool false, .int .i64 0, .nilslice]) fun v1 =>
  bnd (store (some 5) v1 v10) fun u =>
  bnd (load (some 5) v1) fun v12 =>
  bnd (call fn_code_Put [v12, (.int .i64 2), (.int .i64 5), .nilslice]) fun v13 =>
  lp (aExt 0 v13) fun v14 =>
  lp (aExt 1 v13) fun v15 =>
  bnd (call fn_code_Get [v14, (.int .i64 2), (.int .i64 5), .nilslice]) fun v18 =>
  lp (aExt 0 v18) fun v19 =>
  lp (aExt 1 v18) fun v20 =>
  bnd (alloc T_api_Frame [.bool false, .bool false, .bool false, .int .i64 0, .nilslice]) fun v4 =>
  bnd (store (some 5) v4 v19) fun u_1 =>
  lp (aOff 2 v1) fun v21 =>
  bnd (store none v21 (.bool false)) fun u_2 =>
  bnd (load (some 5) v1) fun v23 =>
  bnd (call fn_code_Put [v23, (.int .i64 2), (.int .i64 5), .nilslice]) fun v24 =>
  lp (aExt 0 v24) fun v25 =>
  lp (aExt 1 v24) fun v26 =>
  bnd (call fn_code_Get [(.str .empty), (.int .i64 3), (.int .i64 5), .nilslice]) fun v28 =>
  lp (aExt 0 v28) fun v29 =>
  lp (aExt 1 v28) fun v30 =>
  bnd (alloc T_api_Frame [.bool false, .bool false, .bool false, .int .i64 0, .nilslice]) fun v8 =>
  bnd (store (some 5) v8 v29) fun u_3 =>
  lp (aBin .eql [6] v15 (.int .i64 0)) fun v32 =>
  mc v32
    (lp (aBin .eql [6] v20 (.int .i64 0)) fun v35 =>
    mc v35
      (bnd (load (some 5) v4) fun v38 =>
      snap fun _ =>
      bnd (call fn_ref20_Silent [(.int .i64 2)]) fun v39 =>
      snap fun m_1 =>
      same (some 5) v4 v38 m_1 <|
      snap fun _ =>
      bnd (call fn_ref20_Same [v38, v39]) fun v40 =>
      snap fun _ =>
      mc v40
        (lp (aBin .eql [6] v26 (.int .i64 1)) fun v44 =>
        mc v44
          (lp (aBin .eql [6] v30 (.int .i64 1)) fun v48 =>
          law22_awake_j0 call n v48)
          (law22_awake_j0 call n (.bool false)))
        (law22_awake_j0 call n (.bool false)))
      (law22_awake_j0 call n (.bool false)))
    (law22_awake_j0 call n (.bool false))
theorem law22_awake_eq {ext : Ext} (h : ext fn_law22_awake = none) (n : Nat) : fcall Tryz.prog ext (n + 1) fn_law22_awake [] = law22_awake (fcall Tryz.prog ext n) n := by
  unfold fcall; rw [h]; kernel_rfl

/-! splicer/splicerlaw22.few -/
noncomputable def law22_few_l0 (call : Nat → List AV → M AV) (n : Nat) (rec : List AV → M AV) (x0 x3 : AV) : M AV :=
  lp (aLenS x0) fun v6 =>
  lp (aBin .lss [] x3 v6) fun v7 =>
  mc v7
    (lp (aIdxS 1 x0 x3) fun v12 =>
  bnd (load none v12) fun v13 =>
  lp (aLenS v13) fun v14 =>
  lp (aBin .gtr [] v14 (.int .i64 15)) fun v15 =>
  mc v15
    (ret (.bool false))
    (lp (aBin .add [] x3 (.int .i64 1)) fun v9 =>
  rec [x0, v9]))
    (lp (aLenS x0) fun v17 =>
lp (aBin .leq [] v17 (.int .i64 4)) fun v18 =>
ret v18)
noncomputable def law22_few (call : Nat → List AV → M AV) (n : Nat) (a0 : AV) : M AV :=
  loopN (fun r l => law22_few_l0 call n r (l.getD 0 .undef) (l.getD 1 .undef)) n [a0, (.int .i64 0)]
theorem law22_few_eq {ext : Ext} (h : ext fn_law22_few = none) (n : Nat) (a0 : AV) : fcall Tryz.prog ext (n + 1) fn_law22_few [a0] = law22_few (fcall Tryz.prog ext n) n a0 := by
  unfold fcall; rw [h]; kernel_rfl

/-! splicer/splicerref20.Few -/
noncomputable def ref20_Few_l1 (call : Nat → List AV → M AV) (n : Nat) (rec : List AV → M AV) (rec_1 : List AV → M AV) (x1_1 x3_1 x4 : AV) : M AV :=
  lp (aOff 4 x1_1) fun v25 =>
  bnd (load none v25) fun v26 =>
  lp (aIdxS 1 v26 x3_1) fun v28 =>
  lp (aOff 0 v28) fun v29 =>
  bnd (load none v29) fun v30 =>
  lp (aLenS v30) fun v31 =>
  lp (aBin .lss [] x4 v31) fun v32 =>
  mc v32
    (lp (aOff 4 x1_1) fun v35 =>
  bnd (load none v35) fun v36 =>
  lp (aIdxS 1 v36 x3_1) fun v38 =>
  lp (aOff 0 v38) fun v39 =>
  bnd (load none v39) fun v40 =>
  lp (aIdxS 3 v40 x4) fun v42 =>
  lp (aOff 2 v42) fun v43 =>
  bnd (load none v43) fun v44 =>
  lp (aLenS v44) fun v45 =>
  lp (aBin .gtr [] v45 (.int .i64 10)) fun v46 =>
  mc v46
    (ret (.bool false))
    (lp (aBin .add [] x4 (.int .i64 1)) fun v34 =>
  rec_1 [x1_1, x3_1, v34]))
    (lp (aBin .add [] x3_1 (.int .i64 1)) fun v15 =>
rec [x1_1, v15])
noncomputable def ref20_Few_l0 (call : Nat → List AV → M AV) (n : Nat) (rec : List AV → M AV) (x1 x3 : AV) : M AV :=
  lp (aOff 4 x1) fun v10 =>
  bnd (load none v10) fun v11 =>
  lp (aLenS v11) fun v12 =>
  lp (aBin .lss [] x3 v12) fun v13 =>
  mc v13
    (lp (aOff 4 x1) fun v16 =>
  bnd (load none v16) fun v17 =>
  lp (aIdxS 1 v17 x3) fun v19 =>
  lp (aOff 0 v19) fun v20 =>
  bnd (load none v20) fun v21 =>
  lp (aLenS v21) fun v22 =>
  lp (aBin .gtr [] v22 (.int .i64 15)) fun v23 =>
  mc v23
    (ret (.bool false))
    (loopN (fun r l => ref20_Few_l1 call n rec r (l.getD 0 .undef) (l.getD 1 .undef) (l.getD 2 .undef)) n [x1, x3, (.int .i64 0)]))
    (ret (.bool true))
noncomputable def ref20_Few (call : Nat → List AV → M AV) (n : Nat) (a0 : AV) : M AV :=
  bnd (box T_api_Frame a0) fun v1 =>
  lp (aOff 4 v1) fun v5 =>
  bnd (load none v5) fun v6 =>
  lp (aLenS v6) fun v7 =>
  lp (aBin .gtr [] v7 (.int .i64 4)) fun v8 =>
  mc v8
    (ret (.bool false))
    (loopN (fun r l => ref20_Few_l0 call n r (l.getD 0 .undef) (l.getD 1 .undef)) n [v1, (.int .i64 0)])
theorem ref20_Few_eq {ext : Ext} (h : ext fn_ref20_Few = none) (n : Nat) (a0 : AV) : fcall Tryz.prog ext (n + 1) fn_ref20_Few [a0] = ref20_Few (fcall Tryz.prog ext n) n a0 := by
  unfold fcall; rw [h]; kernel_rfl

/-! splicer/splicerlaw22.CodeGets -/
noncomputable def law22_CodeGets_j1 (call : Nat → List AV → M AV) (n : Nat) (x8 : AV) : M AV :=
  ret x8
noncomputable def law22_CodeGets_j0 (call : Nat → List AV → M AV) (n : Nat) (x0 x1 x2 x3 x20 : AV) : M AV :=
  mc x20
    (bnd (call fn_law22_awake []) fun v21 =>
    ret v21)
    (bnd (call fn_code_Get [x0, x1, x2, x3]) fun v27 =>
lp (aExt 0 v27) fun v28 =>
lp (aExt 1 v27) fun v29 =>
bnd (alloc T_api_Frame [.bool false, .bool false, .bool false, .int .i64 0, .nilslice]) fun v9 =>
bnd (store (some 5) v9 v28) fun u =>
bnd (call fn_ref22_Get [x0, x1, x2, x3]) fun v35 =>
lp (aExt 0 v35) fun v36 =>
lp (aExt 1 v35) fun v37 =>
bnd (alloc T_api_Frame [.bool false, .bool false, .bool false, .int .i64 0, .nilslice]) fun v11 =>
bnd (store (some 5) v11 v36) fun u_1 =>
bnd (load (some 5) v9) fun v38 =>
bnd (load (some 5) v11) fun v39 =>
bnd (call fn_ref20_Same [v38, v39]) fun v40 =>
mc v40
  (lp (aBin .eql [6] v29 v37) fun v44 =>
  mc v44
    (bnd (call fn_law22_awake []) fun v47 =>
    law22_CodeGets_j1 call n v47)
    (law22_CodeGets_j1 call n (.bool false)))
  (law22_CodeGets_j1 call n (.bool false)))
noncomputable def law22_CodeGets (call : Nat → List AV → M AV) (n : Nat) (a0 a1 a2 a3 : AV) : M AV :=
  lp (aLenStr a0) fun v14 =>
  lp (aBin .gtr [] v14 (.int .i64 1100)) fun v15 =>
  mc v15
    (law22_CodeGets_j0 call n a0 a1 a2 a3 (.bool true))
    (bnd (call fn_law22_few [a3]) fun v18 =>
    lp (aUn .not v18) fun v19 =>
    law22_CodeGets_j0 call n a0 a1 a2 a3 v19)
theorem law22_CodeGets_eq {ext : Ext} (h : ext fn_law22_CodeGets = none) (n : Nat) (a0 a1 a2 a3 : AV) : fcall Tryz.prog ext (n + 1) fn_law22_CodeGets [a0, a1, a2, a3] = law22_CodeGets (fcall Tryz.prog ext n) n a0 a1 a2 a3 := by
  unfold fcall; rw [h]; kernel_rfl

/-! splicer/splicerlaw22.CodePuts -/
noncomputable def law22_CodePuts_j1 (call : Nat → List AV → M AV) (n : Nat) (x8 : AV) : M AV :=
  ret x8
noncomputable def law22_CodePuts_j0 (call : Nat → List AV → M AV) (n : Nat) (x1 x2 x3 x4 x20 : AV) : M AV :=
  mc x20
    (bnd (call fn_law22_awake []) fun v21 =>
    ret v21)
    (bnd (load (some 5) x4) fun v23 =>
bnd (call fn_code_Put [v23, x1, x2, x3]) fun v27 =>
lp (aExt 0 v27) fun v28 =>
lp (aExt 1 v27) fun v29 =>
bnd (load (some 5) x4) fun v31 =>
bnd (call fn_ref22_Put [v31, x1, x2, x3]) fun v35 =>
lp (aExt 0 v35) fun v36 =>
lp (aExt 1 v35) fun v37 =>
lp (aBin .eql [7] v28 v36) fun v40 =>
mc v40
  (lp (aBin .eql [6] v29 v37) fun v44 =>
  mc v44
    (bnd (call fn_law22_awake []) fun v47 =>
    law22_CodePuts_j1 call n v47)
    (law22_CodePuts_j1 call n (.bool false)))
  (law22_CodePuts_j1 call n (.bool false)))
noncomputable def law22_CodePuts (call : Nat → List AV → M AV) (n : Nat) (a0 a1 a2 a3 : AV) : M AV :=
  bnd (box T_api_Frame a0) fun v4 =>
  bnd (load (some 5) v4) fun v13 =>
  bnd (call fn_ref20_Few [v13]) fun v14 =>
  lp (aUn .not v14) fun v15 =>
  mc v15
    (law22_CodePuts_j0 call n a1 a2 a3 v4 (.bool true))
    (bnd (call fn_law22_few [a3]) fun v18 =>
    lp (aUn .not v18) fun v19 =>
    law22_CodePuts_j0 call n a1 a2 a3 v4 v19)
theorem law22_CodePuts_eq {ext : Ext} (h : ext fn_law22_CodePuts = none) (n : Nat) (a0 a1 a2 a3 : AV) : fcall Tryz.prog ext (n + 1) fn_law22_CodePuts [a0, a1, a2, a3] = law22_CodePuts (fcall Tryz.prog ext n) n a0 a1 a2 a3 := by
  unfold fcall; rw [h]; kernel_rfl
/-! all functions -/
noncomputable def chunk0 (call : Nat → List AV → M AV) (n f : Nat) (args : List AV) (B : Option (M AV)) : Option (M AV) :=
  if f = fn_law22_CodePuts then arg4 (fun a b c d => law22_CodePuts call n a b c d) args else
  if f = fn_law22_CodeGets then arg4 (fun a b c d => law22_CodeGets call n a b c d) args else
  if f = fn_ref20_Few then arg1 (fun a => ref20_Few call n a) args else
  if f = fn_law22_few then arg1 (fun a => law22_few call n a) args else
  if f = fn_law22_awake then arg0 (law22_awake call n) args else
  if f = fn_code_Put then arg4 (fun a b c d => code_Put call n a b c d) args else
  if f = fn_ref22_Put then arg4 (fun a b c d => ref22_Put call n a b c d) args else
  if f = fn_code_Get then arg4 (fun a b c d => code_Get call n a b c d) args else
  B
theorem chunk0_ok {ext : Ext} {n f : Nat} {args : List AV} {B : Option (M AV)} {x : M AV} (he : ext f = none) (h : chunk0 (fcall Tryz.prog ext n) n f args B = some x) : fcall Tryz.prog ext (n + 1) f args = x ∨ B = some x := by
  unfold chunk0 at h
  rcases step_some h with ⟨rfl, h⟩ | h
  · obtain ⟨a, b, c, d, rfl, rfl⟩ := arg4_some h
    exact .inl (law22_CodePuts_eq he n a b c d)
  rcases step_some h with ⟨rfl, h⟩ | h
  · obtain ⟨a, b, c, d, rfl, rfl⟩ := arg4_some h
    exact .inl (law22_CodeGets_eq he n a b c d)
  rcases step_some h with ⟨rfl, h⟩ | h
  · obtain ⟨a, rfl, rfl⟩ := arg1_some h
    exact .inl (ref20_Few_eq he n a)
  rcases step_some h with ⟨rfl, h⟩ | h
  · obtain ⟨a, rfl, rfl⟩ := arg1_some h
    exact .inl (law22_few_eq he n a)
  rcases step_some h with ⟨rfl, h⟩ | h
  · obtain ⟨rfl, rfl⟩ := arg0_some h
    exact .inl (law22_awake_eq he n)
  rcases step_some h with ⟨rfl, h⟩ | h
  · obtain ⟨a, b, c, d, rfl, rfl⟩ := arg4_some h
    exact .inl (code_Put_eq he n a b c d)
  rcases step_some h with ⟨rfl, h⟩ | h
  · obtain ⟨a, b, c, d, rfl, rfl⟩ := arg4_some h
    exact .inl (ref22_Put_eq he n a b c d)
  rcases step_some h with ⟨rfl, h⟩ | h
  · obtain ⟨a, b, c, d, rfl, rfl⟩ := arg4_some h
    exact .inl (code_Get_eq he n a b c d)
  exact .inr h
noncomputable def chunk1 (call : Nat → List AV → M AV) (n f : Nat) (args : List AV) (B : Option (M AV)) : Option (M AV) :=
  if f = fn_ref22_Get then arg4 (fun a b c d => ref22_Get call n a b c d) args else
  if f = fn_ref20_Same then arg2 (fun a b => ref20_Same call n a b) args else
  if f = fn_ref20_Silent then arg1 (fun a => ref20_Silent call n a) args else
  if f = fn_code_ahead then arg2 (fun a b => code_ahead call n a b) args else
  if f = fn_frame_Fit then arg3 (fun a b c => frame_Fit call n a b c) args else
  if f = fn_code_writer_flag then arg2 (fun a b => code_writer_flag call n a b) args else
  if f = fn_sym_PutBelow then arg3 (fun a b c => sym_PutBelow call n a b c) args else
  if f = fn_frame_Rows then arg1 (fun a => frame_Rows call n a) args else
  B
theorem chunk1_ok {ext : Ext} {n f : Nat} {args : List AV} {B : Option (M AV)} {x : M AV} (he : ext f = none) (h : chunk1 (fcall Tryz.prog ext n) n f args B = some x) : fcall Tryz.prog ext (n + 1) f args = x ∨ B = some x := by
  unfold chunk1 at h
  rcases step_some h with ⟨rfl, h⟩ | h
  · obtain ⟨a, b, c, d, rfl, rfl⟩ := arg4_some h
    exact .inl (ref22_Get_eq he n a b c d)
  rcases step_some h with ⟨rfl, h⟩ | h
  · obtain ⟨a, b, rfl, rfl⟩ := arg2_some h
    exact .inl (ref20_Same_eq he n a b)
  rcases step_some h with ⟨rfl, h⟩ | h
  · obtain ⟨a, rfl, rfl⟩ := arg1_some h
    exact .inl (ref20_Silent_eq he n a)
  rcases step_some h with ⟨rfl, h⟩ | h
  · obtain ⟨a, b, rfl, rfl⟩ := arg2_some h
    exact .inl (code_ahead_eq he n a b)
  rcases step_some h with ⟨rfl, h⟩ | h
  · obtain ⟨a, b, c, rfl, rfl⟩ := arg3_some h
    exact .inl (frame_Fit_eq he n a b c)
  rcases step_some h with ⟨rfl, h⟩ | h
  · obtain ⟨a, b, rfl, rfl⟩ := arg2_some h
    exact .inl (code_writer_flag_eq he n a b)
  rcases step_some h with ⟨rfl, h⟩ | h
  · obtain ⟨a, b, c, rfl, rfl⟩ := arg3_some h
    exact .inl (sym_PutBelow_eq he n a b c)
  rcases step_some h with ⟨rfl, h⟩ | h
  · obtain ⟨a, rfl, rfl⟩ := arg1_some h
    exact .inl (frame_Rows_eq he n a)
  exact .inr h
noncomputable def chunk2 (call : Nat → List AV → M AV) (n f : Nat) (args : List AV) (B : Option (M AV)) : Option (M AV) :=
  if f = fn_code_writer_channel then arg3 (fun a b c => code_writer_channel call n a b c) args else
  if f = fn_energy_Deltas then arg3 (fun a b c => energy_Deltas call n a b c) args else
  if f = fn_rc_Coder_End then arg1 (fun a => rc_Coder_End call n a) args else
  if f = fn_ref20_Fit then arg3 (fun a b c => ref20_Fit call n a b c) args else
  if f = fn_ref22_rows then arg2 (fun a b => ref22_rows call n a b) args else
  if f = fn_ref05_PutBits then arg3 (fun a b c => ref05_PutBits call n a b c) args else
  if f = fn_ref22_bit then arg1 (fun a => ref22_bit call n a) args else
  if f = fn_ref05_PutBelow then arg3 (fun a b c => ref05_PutBelow call n a b c) args else
  B
theorem chunk2_ok {ext : Ext} {n f : Nat} {args : List AV} {B : Option (M AV)} {x : M AV} (he : ext f = none) (h : chunk2 (fcall Tryz.prog ext n) n f args B = some x) : fcall Tryz.prog ext (n + 1) f args = x ∨ B = some x := by
  unfold chunk2 at h
  rcases step_some h with ⟨rfl, h⟩ | h
  · obtain ⟨a, b, c, rfl, rfl⟩ := arg3_some h
    exact .inl (code_writer_channel_eq he n a b c)
  rcases step_some h with ⟨rfl, h⟩ | h
  · obtain ⟨a, b, c, rfl, rfl⟩ := arg3_some h
    exact .inl (energy_Deltas_eq he n a b c)
  rcases step_some h with ⟨rfl, h⟩ | h
  · obtain ⟨a, rfl, rfl⟩ := arg1_some h
    exact .inl (rc_Coder_End_eq he n a)
  rcases step_some h with ⟨rfl, h⟩ | h
  · obtain ⟨a, b, c, rfl, rfl⟩ := arg3_some h
    exact .inl (ref20_Fit_eq he n a b c)
  rcases step_some h with ⟨rfl, h⟩ | h
  · obtain ⟨a, b, rfl, rfl⟩ := arg2_some h
    exact .inl (ref22_rows_eq he n a b)
  rcases step_some h with ⟨rfl, h⟩ | h
  · obtain ⟨a, b, c, rfl, rfl⟩ := arg3_some h
    exact .inl (ref05_PutBits_eq he n a b c)
  rcases step_some h with ⟨rfl, h⟩ | h
  · obtain ⟨a, rfl, rfl⟩ := arg1_some h
    exact .inl (ref22_bit_eq he n a)
  rcases step_some h with ⟨rfl, h⟩ | h
  · obtain ⟨a, b, c, rfl, rfl⟩ := arg3_some h
    exact .inl (ref05_PutBelow_eq he n a b c)
  exact .inr h
noncomputable def chunk3 (call : Nat → List AV → M AV) (n f : Nat) (args : List AV) (B : Option (M AV)) : Option (M AV) :=
  if f = fn_ref22_channel then arg5 (fun a b c d e => ref22_channel call n a b c d e) args else
  if f = fn_ref22_row then arg2 (fun a b => ref22_row call n a b) args else
  if f = fn_ref04_Coder_End then arg1 (fun a => ref04_Coder_End call n a) args else
  if f = fn_rc_New then arg1 (fun a => rc_New call n a) args else
  if f = fn_code_reader_frame then arg3 (fun a b c => code_reader_frame call n a b c) args else
  if f = fn_ref04_New then arg1 (fun a => ref04_New call n a) args else
  if f = fn_ref05_GetBits then arg2 (fun a b => ref05_GetBits call n a b) args else
  if f = fn_ref05_GetBelow then arg2 (fun a b => ref05_GetBelow call n a b) args else
  B
theorem chunk3_ok {ext : Ext} {n f : Nat} {args : List AV} {B : Option (M AV)} {x : M AV} (he : ext f = none) (h : chunk3 (fcall Tryz.prog ext n) n f args B = some x) : fcall Tryz.prog ext (n + 1) f args = x ∨ B = some x := by
  unfold chunk3 at h
  rcases step_some h with ⟨rfl, h⟩ | h
  · obtain ⟨a, b, c, d, e, rfl, rfl⟩ := arg5_some h
    exact .inl (ref22_channel_eq he n a b c d e)
  rcases step_some h with ⟨rfl, h⟩ | h
  · obtain ⟨a, b, rfl, rfl⟩ := arg2_some h
    exact .inl (ref22_row_eq he n a b)
  rcases step_some h with ⟨rfl, h⟩ | h
  · obtain ⟨a, rfl, rfl⟩ := arg1_some h
    exact .inl (ref04_Coder_End_eq he n a)
  rcases step_some h with ⟨rfl, h⟩ | h
  · obtain ⟨a, rfl, rfl⟩ := arg1_some h
    exact .inl (rc_New_eq he n a)
  rcases step_some h with ⟨rfl, h⟩ | h
  · obtain ⟨a, b, c, rfl, rfl⟩ := arg3_some h
    exact .inl (code_reader_frame_eq he n a b c)
  rcases step_some h with ⟨rfl, h⟩ | h
  · obtain ⟨a, rfl, rfl⟩ := arg1_some h
    exact .inl (ref04_New_eq he n a)
  rcases step_some h with ⟨rfl, h⟩ | h
  · obtain ⟨a, b, rfl, rfl⟩ := arg2_some h
    exact .inl (ref05_GetBits_eq he n a b)
  rcases step_some h with ⟨rfl, h⟩ | h
  · obtain ⟨a, b, rfl, rfl⟩ := arg2_some h
    exact .inl (ref05_GetBelow_eq he n a b)
  exact .inr h
noncomputable def chunk4 (call : Nat → List AV → M AV) (n f : Nat) (args : List AV) (B : Option (M AV)) : Option (M AV) :=
  if f = fn_ref22_taken then arg4 (fun a b c d => ref22_taken call n a b c d) args else
  if f = fn_ref20_Alike then arg2 (fun a b => ref20_Alike call n a b) args else
  if f = fn_ref13_Width then arg1 (fun a => ref13_Width call n a) args else
  if f = fn_energy_Right then arg1 (fun a => energy_Right call n a) args else
  if f = fn_frame_fits then arg3 (fun a b c => frame_fits call n a b c) args else
  if f = fn_sym_PutBits then arg3 (fun a b c => sym_PutBits call n a b c) args else
  if f = fn_sym_parted then arg1 (fun a => sym_parted call n a) args else
  if f = fn_sym_put then arg3 (fun a b c => sym_put call n a b c) args else
  B
theorem chunk4_ok {ext : Ext} {n f : Nat} {args : List AV} {B : Option (M AV)} {x : M AV} (he : ext f = none) (h : chunk4 (fcall Tryz.prog ext n) n f args B = some x) : fcall Tryz.prog ext (n + 1) f args = x ∨ B = some x := by
  unfold chunk4 at h
  rcases step_some h with ⟨rfl, h⟩ | h
  · obtain ⟨a, b, c, d, rfl, rfl⟩ := arg4_some h
    exact .inl (ref22_taken_eq he n a b c d)
  rcases step_some h with ⟨rfl, h⟩ | h
  · obtain ⟨a, b, rfl, rfl⟩ := arg2_some h
    exact .inl (ref20_Alike_eq he n a b)
  rcases step_some h with ⟨rfl, h⟩ | h
  · obtain ⟨a, rfl, rfl⟩ := arg1_some h
    exact .inl (ref13_Width_eq he n a)
  rcases step_some h with ⟨rfl, h⟩ | h
  · obtain ⟨a, rfl, rfl⟩ := arg1_some h
    exact .inl (energy_Right_eq he n a)
  rcases step_some h with ⟨rfl, h⟩ | h
  · obtain ⟨a, b, c, rfl, rfl⟩ := arg3_some h
    exact .inl (frame_fits_eq he n a b c)
  rcases step_some h with ⟨rfl, h⟩ | h
  · obtain ⟨a, b, c, rfl, rfl⟩ := arg3_some h
    exact .inl (sym_PutBits_eq he n a b c)
  rcases step_some h with ⟨rfl, h⟩ | h
  · obtain ⟨a, rfl, rfl⟩ := arg1_some h
    exact .inl (sym_parted_eq he n a)
  rcases step_some h with ⟨rfl, h⟩ | h
  · obtain ⟨a, b, c, rfl, rfl⟩ := arg3_some h
    exact .inl (sym_put_eq he n a b c)
  exact .inr h
noncomputable def chunk5 (call : Nat → List AV → M AV) (n f : Nat) (args : List AV) (B : Option (M AV)) : Option (M AV) :=
  if f = fn_frame_mapped_api_Chan_sl_int then arg2 (fun a b => frame_mapped_api_Chan_sl_int call n a b) args else
  if f = fn_frame_Rows_c1 then arg1 (fun a => frame_Rows_c1 call n a) args else
  if f = fn_sym_PutDelta then arg2 (fun a b => sym_PutDelta call n a b) args else
  if f = fn_layout_Width then arg1 (fun a => layout_Width call n a) args else
  if f = fn_alloc_Band then arg3 (fun a b c => alloc_Band call n a b c) args else
  if f = fn_pvq_Index then arg1 (fun a => pvq_Index call n a) args else
  if f = fn_pvq_Count then arg2 (fun a b => pvq_Count call n a b) args else
  if f = fn_energy_expects then arg2 (fun a b => energy_expects call n a b) args else
  B
theorem chunk5_ok {ext : Ext} {n f : Nat} {args : List AV} {B : Option (M AV)} {x : M AV} (he : ext f = none) (h : chunk5 (fcall Tryz.prog ext n) n f args B = some x) : fcall Tryz.prog ext (n + 1) f args = x ∨ B = some x := by
  unfold chunk5 at h
  rcases step_some h with ⟨rfl, h⟩ | h
  · obtain ⟨a, b, rfl, rfl⟩ := arg2_some h
    exact .inl (frame_mapped_api_Chan_sl_int_eq he n a b)
  rcases step_some h with ⟨rfl, h⟩ | h
  · obtain ⟨a, rfl, rfl⟩ := arg1_some h
    exact .inl (frame_Rows_c1_eq he n a)
  rcases step_some h with ⟨rfl, h⟩ | h
  · obtain ⟨a, b, rfl, rfl⟩ := arg2_some h
    exact .inl (sym_PutDelta_eq he n a b)
  rcases step_some h with ⟨rfl, h⟩ | h
  · obtain ⟨a, rfl, rfl⟩ := arg1_some h
    exact .inl (layout_Width_eq he n a)
  rcases step_some h with ⟨rfl, h⟩ | h
  · obtain ⟨a, b, c, rfl, rfl⟩ := arg3_some h
    exact .inl (alloc_Band_eq he n a b c)
  rcases step_some h with ⟨rfl, h⟩ | h
  · obtain ⟨a, rfl, rfl⟩ := arg1_some h
    exact .inl (pvq_Index_eq he n a)
  rcases step_some h with ⟨rfl, h⟩ | h
  · obtain ⟨a, b, rfl, rfl⟩ := arg2_some h
    exact .inl (pvq_Count_eq he n a b)
  rcases step_some h with ⟨rfl, h⟩ | h
  · obtain ⟨a, b, rfl, rfl⟩ := arg2_some h
    exact .inl (energy_expects_eq he n a b)
  exact .inr h
noncomputable def chunk6 (call : Nat → List AV → M AV) (n f : Nat) (args : List AV) (B : Option (M AV)) : Option (M AV) :=
  if f = fn_strings_Builder_WriteString then arg2 (fun a b => strings_Builder_WriteString call n a b) args else
  if f = fn_strings_Builder_String then arg1 (fun a => strings_Builder_String call n a) args else
  if f = fn_strings_Builder_WriteByte then arg2 (fun a b => strings_Builder_WriteByte call n a b) args else
  if f = fn_strings_TrimRight then arg2 (fun a b => strings_TrimRight call n a b) args else
  if f = fn_ref20_Band then arg3 (fun a b c => ref20_Band call n a b c) args else
  if f = fn_ref14_Right then arg1 (fun a => ref14_Right call n a) args else
  if f = fn_ref04_Coder_Code then arg4 (fun a b c d => ref04_Coder_Code call n a b c d) args else
  if f = fn_ref05_shift then arg1 (fun a => ref05_shift call n a) args else
  B
theorem chunk6_ok {ext : Ext} {n f : Nat} {args : List AV} {B : Option (M AV)} {x : M AV} (he : ext f = none) (h : chunk6 (fcall Tryz.prog ext n) n f args B = some x) : fcall Tryz.prog ext (n + 1) f args = x ∨ B = some x := by
  unfold chunk6 at h
  rcases step_some h with ⟨rfl, h⟩ | h
  · obtain ⟨a, b, rfl, rfl⟩ := arg2_some h
    exact .inl (strings_Builder_WriteString_eq he n a b)
  rcases step_some h with ⟨rfl, h⟩ | h
  · obtain ⟨a, rfl, rfl⟩ := arg1_some h
    exact .inl (strings_Builder_String_eq he n a)
  rcases step_some h with ⟨rfl, h⟩ | h
  · obtain ⟨a, b, rfl, rfl⟩ := arg2_some h
    exact .inl (strings_Builder_WriteByte_eq he n a b)
  rcases step_some h with ⟨rfl, h⟩ | h
  · obtain ⟨a, b, rfl, rfl⟩ := arg2_some h
    exact .inl (strings_TrimRight_eq he n a b)
  rcases step_some h with ⟨rfl, h⟩ | h
  · obtain ⟨a, b, c, rfl, rfl⟩ := arg3_some h
    exact .inl (ref20_Band_eq he n a b c)
  rcases step_some h with ⟨rfl, h⟩ | h
  · obtain ⟨a, rfl, rfl⟩ := arg1_some h
    exact .inl (ref14_Right_eq he n a)
  rcases step_some h with ⟨rfl, h⟩ | h
  · obtain ⟨a, b, c, d, rfl, rfl⟩ := arg4_some h
    exact .inl (ref04_Coder_Code_eq he n a b c d)
  rcases step_some h with ⟨rfl, h⟩ | h
  · obtain ⟨a, rfl, rfl⟩ := arg1_some h
    exact .inl (ref05_shift_eq he n a)
  exact .inr h
noncomputable def chunk7 (call : Nat → List AV → M AV) (n f : Nat) (args : List AV) (B : Option (M AV)) : Option (M AV) :=
  if f = fn_ref14_Deltas then arg3 (fun a b c => ref14_Deltas call n a b c) args else
  if f = fn_ref05_PutDelta then arg2 (fun a b => ref05_PutDelta call n a b) args else
  if f = fn_ref15_Band then arg3 (fun a b c => ref15_Band call n a b c) args else
  if f = fn_ref16_Index then arg1 (fun a => ref16_Index call n a) args else
  if f = fn_ref16_Count then arg2 (fun a b => ref16_Count call n a b) args else
  if f = fn_rc_Decoder_next then arg1 (fun a => rc_Decoder_next call n a) args else
  if f = fn_code_reader_flag then arg1 (fun a => code_reader_flag call n a) args else
  if f = fn_code_reader_below then arg2 (fun a b => code_reader_below call n a b) args else
  B
theorem chunk7_ok {ext : Ext} {n f : Nat} {args : List AV} {B : Option (M AV)} {x : M AV} (he : ext f = none) (h : chunk7 (fcall Tryz.prog ext n) n f args B = some x) : fcall Tryz.prog ext (n + 1) f args = x ∨ B = some x := by
  unfold chunk7 at h
  rcases step_some h with ⟨rfl, h⟩ | h
  · obtain ⟨a, b, c, rfl, rfl⟩ := arg3_some h
    exact .inl (ref14_Deltas_eq he n a b c)
  rcases step_some h with ⟨rfl, h⟩ | h
  · obtain ⟨a, b, rfl, rfl⟩ := arg2_some h
    exact .inl (ref05_PutDelta_eq he n a b)
  rcases step_some h with ⟨rfl, h⟩ | h
  · obtain ⟨a, b, c, rfl, rfl⟩ := arg3_some h
    exact .inl (ref15_Band_eq he n a b c)
  rcases step_some h with ⟨rfl, h⟩ | h
  · obtain ⟨a, rfl, rfl⟩ := arg1_some h
    exact .inl (ref16_Index_eq he n a)
  rcases step_some h with ⟨rfl, h⟩ | h
  · obtain ⟨a, b, rfl, rfl⟩ := arg2_some h
    exact .inl (ref16_Count_eq he n a b)
  rcases step_some h with ⟨rfl, h⟩ | h
  · obtain ⟨a, rfl, rfl⟩ := arg1_some h
    exact .inl (rc_Decoder_next_eq he n a)
  rcases step_some h with ⟨rfl, h⟩ | h
  · obtain ⟨a, rfl, rfl⟩ := arg1_some h
    exact .inl (code_reader_flag_eq he n a)
  rcases step_some h with ⟨rfl, h⟩ | h
  · obtain ⟨a, b, rfl, rfl⟩ := arg2_some h
    exact .inl (code_reader_below_eq he n a b)
  exact .inr h
noncomputable def chunk8 (call : Nat → List AV → M AV) (n f : Nat) (args : List AV) (B : Option (M AV)) : Option (M AV) :=
  if f = fn_code_reader_channel then arg2 (fun a b => code_reader_channel call n a b) args else
  if f = fn_code_reader_row then arg3 (fun a b c => code_reader_row call n a b c) args else
  if f = fn_ref04_Decoder_next then arg1 (fun a => ref04_Decoder_next call n a) args else
  if f = fn_ref04_Decoder_Place then arg2 (fun a b => ref04_Decoder_Place call n a b) args else
  if f = fn_ref04_Decoder_Take then arg4 (fun a b c d => ref04_Decoder_Take call n a b c d) args else
  if f = fn_ref05_GetDelta then arg1 (fun a => ref05_GetDelta call n a) args else
  if f = fn_ref14_Row then arg3 (fun a b c => ref14_Row call n a b c) args else
  if f = fn_ref16_Vector then arg3 (fun a b c => ref16_Vector call n a b c) args else
  B
theorem chunk8_ok {ext : Ext} {n f : Nat} {args : List AV} {B : Option (M AV)} {x : M AV} (he : ext f = none) (h : chunk8 (fcall Tryz.prog ext n) n f args B = some x) : fcall Tryz.prog ext (n + 1) f args = x ∨ B = some x := by
  unfold chunk8 at h
  rcases step_some h with ⟨rfl, h⟩ | h
  · obtain ⟨a, b, rfl, rfl⟩ := arg2_some h
    exact .inl (code_reader_channel_eq he n a b)
  rcases step_some h with ⟨rfl, h⟩ | h
  · obtain ⟨a, b, c, rfl, rfl⟩ := arg3_some h
    exact .inl (code_reader_row_eq he n a b c)
  rcases step_some h with ⟨rfl, h⟩ | h
  · obtain ⟨a, rfl, rfl⟩ := arg1_some h
    exact .inl (ref04_Decoder_next_eq he n a)
  rcases step_some h with ⟨rfl, h⟩ | h
  · obtain ⟨a, b, rfl, rfl⟩ := arg2_some h
    exact .inl (ref04_Decoder_Place_eq he n a b)
  rcases step_some h with ⟨rfl, h⟩ | h
  · obtain ⟨a, b, c, d, rfl, rfl⟩ := arg4_some h
    exact .inl (ref04_Decoder_Take_eq he n a b c d)
  rcases step_some h with ⟨rfl, h⟩ | h
  · obtain ⟨a, rfl, rfl⟩ := arg1_some h
    exact .inl (ref05_GetDelta_eq he n a)
  rcases step_some h with ⟨rfl, h⟩ | h
  · obtain ⟨a, b, c, rfl, rfl⟩ := arg3_some h
    exact .inl (ref14_Row_eq he n a b c)
  rcases step_some h with ⟨rfl, h⟩ | h
  · obtain ⟨a, b, c, rfl, rfl⟩ := arg3_some h
    exact .inl (ref16_Vector_eq he n a b c)
  exact .inr h
noncomputable def chunk9 (call : Nat → List AV → M AV) (n f : Nat) (args : List AV) (B : Option (M AV)) : Option (M AV) :=
  if f = fn_ref01_Same then arg2 (fun a b => ref01_Same call n a b) args else
  if f = fn_pvq_Size then arg1 (fun a => pvq_Size call n a) args else
  if f = fn_rc_Coder_Code then arg4 (fun a b c d => rc_Coder_Code call n a b c d) args else
  if f = fn_frame_mapped_api_Band_int then arg2 (fun a b => frame_mapped_api_Band_int call n a b) args else
  if f = fn_frame_Rows_c1_c1 then arg1 (fun a => frame_Rows_c1_c1 call n a) args else
  if f = fn_sym_ends then arg0 (sym_ends call n) args else
  if f = fn_sym_rank then arg1 (fun a => sym_rank call n a) args else
  if f = fn_sym_begins then arg2 (fun a b => sym_begins call n a b) args else
  B
theorem chunk9_ok {ext : Ext} {n f : Nat} {args : List AV} {B : Option (M AV)} {x : M AV} (he : ext f = none) (h : chunk9 (fcall Tryz.prog ext n) n f args B = some x) : fcall Tryz.prog ext (n + 1) f args = x ∨ B = some x := by
  unfold chunk9 at h
  rcases step_some h with ⟨rfl, h⟩ | h
  · obtain ⟨a, b, rfl, rfl⟩ := arg2_some h
    exact .inl (ref01_Same_eq he n a b)
  rcases step_some h with ⟨rfl, h⟩ | h
  · obtain ⟨a, rfl, rfl⟩ := arg1_some h
    exact .inl (pvq_Size_eq he n a)
  rcases step_some h with ⟨rfl, h⟩ | h
  · obtain ⟨a, b, c, d, rfl, rfl⟩ := arg4_some h
    exact .inl (rc_Coder_Code_eq he n a b c d)
  rcases step_some h with ⟨rfl, h⟩ | h
  · obtain ⟨a, b, rfl, rfl⟩ := arg2_some h
    exact .inl (frame_mapped_api_Band_int_eq he n a b)
  rcases step_some h with ⟨rfl, h⟩ | h
  · obtain ⟨a, rfl, rfl⟩ := arg1_some h
    exact .inl (frame_Rows_c1_c1_eq he n a)
  rcases step_some h with ⟨rfl, h⟩ | h
  · obtain ⟨rfl, rfl⟩ := arg0_some h
    exact .inl (sym_ends_eq he n)
  rcases step_some h with ⟨rfl, h⟩ | h
  · obtain ⟨a, rfl, rfl⟩ := arg1_some h
    exact .inl (sym_rank_eq he n a)
  rcases step_some h with ⟨rfl, h⟩ | h
  · obtain ⟨a, b, rfl, rfl⟩ := arg2_some h
    exact .inl (sym_begins_eq he n a b)
  exact .inr h
noncomputable def chunk10 (call : Nat → List AV → M AV) (n f : Nat) (args : List AV) (B : Option (M AV)) : Option (M AV) :=
  if f = fn_layout_widths then arg0 (layout_widths call n) args else
  if f = fn_alloc_good then arg1 (fun a => alloc_good call n a) args else
  if f = fn_alloc_held_int then arg3 (fun a b c => alloc_held_int call n a b c) args else
  if f = fn_alloc_times then arg1 (fun a => alloc_times call n a) args else
  if f = fn_pvq_made then arg0 (pvq_made call n) args else
  if f = fn_num_Abs then arg1 (fun a => num_Abs call n a) args else
  if f = fn_energy_expects_c1 then arg2 (fun a b => energy_expects_c1 call n a b) args else
  if f = fn_energy_expects_c2 then arg3 (fun a b c => energy_expects_c2 call n a b c) args else
  B
theorem chunk10_ok {ext : Ext} {n f : Nat} {args : List AV} {B : Option (M AV)} {x : M AV} (he : ext f = none) (h : chunk10 (fcall Tryz.prog ext n) n f args B = some x) : fcall Tryz.prog ext (n + 1) f args = x ∨ B = some x := by
  unfold chunk10 at h
  rcases step_some h with ⟨rfl, h⟩ | h
  · obtain ⟨rfl, rfl⟩ := arg0_some h
    exact .inl (layout_widths_eq he n)
  rcases step_some h with ⟨rfl, h⟩ | h
  · obtain ⟨a, rfl, rfl⟩ := arg1_some h
    exact .inl (alloc_good_eq he n a)
  rcases step_some h with ⟨rfl, h⟩ | h
  · obtain ⟨a, b, c, rfl, rfl⟩ := arg3_some h
    exact .inl (alloc_held_int_eq he n a b c)
  rcases step_some h with ⟨rfl, h⟩ | h
  · obtain ⟨a, rfl, rfl⟩ := arg1_some h
    exact .inl (alloc_times_eq he n a)
  rcases step_some h with ⟨rfl, h⟩ | h
  · obtain ⟨rfl, rfl⟩ := arg0_some h
    exact .inl (pvq_made_eq he n)
  rcases step_some h with ⟨rfl, h⟩ | h
  · obtain ⟨a, rfl, rfl⟩ := arg1_some h
    exact .inl (num_Abs_eq he n a)
  rcases step_some h with ⟨rfl, h⟩ | h
  · obtain ⟨a, b, rfl, rfl⟩ := arg2_some h
    exact .inl (energy_expects_c1_eq he n a b)
  rcases step_some h with ⟨rfl, h⟩ | h
  · obtain ⟨a, b, c, rfl, rfl⟩ := arg3_some h
    exact .inl (energy_expects_c2_eq he n a b c)
  exact .inr h
noncomputable def chunk11 (call : Nat → List AV → M AV) (n f : Nat) (args : List AV) (B : Option (M AV)) : Option (M AV) :=
  if f = fn_strings_Builder_copyCheck then arg1 (fun a => strings_Builder_copyCheck call n a) args else
  if f = fn_strings_trimRightByte then arg2 (fun a b => strings_trimRightByte call n a b) args else
  if f = fn_ref16_Size then arg1 (fun a => ref16_Size call n a) args else
  if f = fn_ref01_Within then arg3 (fun a b c => ref01_Within call n a b c) args else
  if f = fn_ref04_Right then arg3 (fun a b c => ref04_Right call n a b c) args else
  if f = fn_ref04_narrow then arg4 (fun a b c d => ref04_narrow call n a b c d) args else
  if f = fn_ref04_carried then arg1 (fun a => ref04_carried call n a) args else
  if f = fn_ref14_expected then arg4 (fun a b c d => ref14_expected call n a b c d) args else
  B
theorem chunk11_ok {ext : Ext} {n f : Nat} {args : List AV} {B : Option (M AV)} {x : M AV} (he : ext f = none) (h : chunk11 (fcall Tryz.prog ext n) n f args B = some x) : fcall Tryz.prog ext (n + 1) f args = x ∨ B = some x := by
  unfold chunk11 at h
  rcases step_some h with ⟨rfl, h⟩ | h
  · obtain ⟨a, rfl, rfl⟩ := arg1_some h
    exact .inl (strings_Builder_copyCheck_eq he n a)
  rcases step_some h with ⟨rfl, h⟩ | h
  · obtain ⟨a, b, rfl, rfl⟩ := arg2_some h
    exact .inl (strings_trimRightByte_eq he n a b)
  rcases step_some h with ⟨rfl, h⟩ | h
  · obtain ⟨a, rfl, rfl⟩ := arg1_some h
    exact .inl (ref16_Size_eq he n a)
  rcases step_some h with ⟨rfl, h⟩ | h
  · obtain ⟨a, b, c, rfl, rfl⟩ := arg3_some h
    exact .inl (ref01_Within_eq he n a b c)
  rcases step_some h with ⟨rfl, h⟩ | h
  · obtain ⟨a, b, c, rfl, rfl⟩ := arg3_some h
    exact .inl (ref04_Right_eq he n a b c)
  rcases step_some h with ⟨rfl, h⟩ | h
  · obtain ⟨a, b, c, d, rfl, rfl⟩ := arg4_some h
    exact .inl (ref04_narrow_eq he n a b c d)
  rcases step_some h with ⟨rfl, h⟩ | h
  · obtain ⟨a, rfl, rfl⟩ := arg1_some h
    exact .inl (ref04_carried_eq he n a)
  rcases step_some h with ⟨rfl, h⟩ | h
  · obtain ⟨a, b, c, d, rfl, rfl⟩ := arg4_some h
    exact .inl (ref14_expected_eq he n a b c d)
  exact .inr h
noncomputable def chunk12 (call : Nat → List AV → M AV) (n f : Nat) (args : List AV) (B : Option (M AV)) : Option (M AV) :=
  if f = fn_ref05_small then arg1 (fun a => ref05_small call n a) args else
  if f = fn_ref16_rows then arg1 (fun a => ref16_rows call n a) args else
  if f = fn_ref16_far then arg1 (fun a => ref16_far call n a) args else
  if f = fn_sym_GetBits then arg2 (fun a b => sym_GetBits call n a b) args else
  if f = fn_sym_GetBelow then arg2 (fun a b => sym_GetBelow call n a b) args else
  if f = fn_pvq_Vector then arg3 (fun a b c => pvq_Vector call n a b c) args else
  if f = fn_sym_GetDelta then arg1 (fun a => sym_GetDelta call n a) args else
  if f = fn_energy_Row then arg3 (fun a b c => energy_Row call n a b c) args else
  B
theorem chunk12_ok {ext : Ext} {n f : Nat} {args : List AV} {B : Option (M AV)} {x : M AV} (he : ext f = none) (h : chunk12 (fcall Tryz.prog ext n) n f args B = some x) : fcall Tryz.prog ext (n + 1) f args = x ∨ B = some x := by
  unfold chunk12 at h
  rcases step_some h with ⟨rfl, h⟩ | h
  · obtain ⟨a, rfl, rfl⟩ := arg1_some h
    exact .inl (ref05_small_eq he n a)
  rcases step_some h with ⟨rfl, h⟩ | h
  · obtain ⟨a, rfl, rfl⟩ := arg1_some h
    exact .inl (ref16_rows_eq he n a)
  rcases step_some h with ⟨rfl, h⟩ | h
  · obtain ⟨a, rfl, rfl⟩ := arg1_some h
    exact .inl (ref16_far_eq he n a)
  rcases step_some h with ⟨rfl, h⟩ | h
  · obtain ⟨a, b, rfl, rfl⟩ := arg2_some h
    exact .inl (sym_GetBits_eq he n a b)
  rcases step_some h with ⟨rfl, h⟩ | h
  · obtain ⟨a, b, rfl, rfl⟩ := arg2_some h
    exact .inl (sym_GetBelow_eq he n a b)
  rcases step_some h with ⟨rfl, h⟩ | h
  · obtain ⟨a, b, c, rfl, rfl⟩ := arg3_some h
    exact .inl (pvq_Vector_eq he n a b c)
  rcases step_some h with ⟨rfl, h⟩ | h
  · obtain ⟨a, rfl, rfl⟩ := arg1_some h
    exact .inl (sym_GetDelta_eq he n a)
  rcases step_some h with ⟨rfl, h⟩ | h
  · obtain ⟨a, b, c, rfl, rfl⟩ := arg3_some h
    exact .inl (energy_Row_eq he n a b c)
  exact .inr h
noncomputable def chunk13 (call : Nat → List AV → M AV) (n f : Nat) (args : List AV) (B : Option (M AV)) : Option (M AV) :=
  if f = fn_rc_right then arg3 (fun a b c => rc_right call n a b c) args else
  if f = fn_rc_narrowed_narrow then arg4 (fun a b c d => rc_narrowed_narrow call n a b c d) args else
  if f = fn_rc_Coder_carry then arg1 (fun a => rc_Coder_carry call n a) args else
  if f = fn_rc_narrowed_small then arg1 (fun a => rc_narrowed_small call n a) args else
  if f = fn_rc_Coder_tell then arg2 (fun a b => rc_Coder_tell call n a b) args else
  if f = fn_num_within then arg2 (fun a b => num_within call n a b) args else
  if f = fn_sym_get then arg2 (fun a b => sym_get call n a b) args else
  if f = fn_pvq_first then arg3 (fun a b c => pvq_first call n a b c) args else
  B
theorem chunk13_ok {ext : Ext} {n f : Nat} {args : List AV} {B : Option (M AV)} {x : M AV} (he : ext f = none) (h : chunk13 (fcall Tryz.prog ext n) n f args B = some x) : fcall Tryz.prog ext (n + 1) f args = x ∨ B = some x := by
  unfold chunk13 at h
  rcases step_some h with ⟨rfl, h⟩ | h
  · obtain ⟨a, b, c, rfl, rfl⟩ := arg3_some h
    exact .inl (rc_right_eq he n a b c)
  rcases step_some h with ⟨rfl, h⟩ | h
  · obtain ⟨a, b, c, d, rfl, rfl⟩ := arg4_some h
    exact .inl (rc_narrowed_narrow_eq he n a b c d)
  rcases step_some h with ⟨rfl, h⟩ | h
  · obtain ⟨a, rfl, rfl⟩ := arg1_some h
    exact .inl (rc_Coder_carry_eq he n a)
  rcases step_some h with ⟨rfl, h⟩ | h
  · obtain ⟨a, rfl, rfl⟩ := arg1_some h
    exact .inl (rc_narrowed_small_eq he n a)
  rcases step_some h with ⟨rfl, h⟩ | h
  · obtain ⟨a, b, rfl, rfl⟩ := arg2_some h
    exact .inl (rc_Coder_tell_eq he n a b)
  rcases step_some h with ⟨rfl, h⟩ | h
  · obtain ⟨a, b, rfl, rfl⟩ := arg2_some h
    exact .inl (num_within_eq he n a b)
  rcases step_some h with ⟨rfl, h⟩ | h
  · obtain ⟨a, b, rfl, rfl⟩ := arg2_some h
    exact .inl (sym_get_eq he n a b)
  rcases step_some h with ⟨rfl, h⟩ | h
  · obtain ⟨a, b, c, rfl, rfl⟩ := arg3_some h
    exact .inl (pvq_first_eq he n a b c)
  exact .inr h
noncomputable def chunk14 (call : Nat → List AV → M AV) (n f : Nat) (args : List AV) (B : Option (M AV)) : Option (M AV) :=
  if f = fn_rc_Decoder_Place then arg2 (fun a b => rc_Decoder_Place call n a b) args else
  if f = fn_rc_Decoder_Take then arg4 (fun a b c d => rc_Decoder_Take call n a b c d) args else
  if f = fn_rc_narrowed_now then arg1 (fun a => rc_narrowed_now call n a) args else
  if f = fn_rc_Coder_settle then arg2 (fun a b => rc_Coder_settle call n a b) args else
  B
theorem chunk14_ok {ext : Ext} {n f : Nat} {args : List AV} {B : Option (M AV)} {x : M AV} (he : ext f = none) (h : chunk14 (fcall Tryz.prog ext n) n f args B = some x) : fcall Tryz.prog ext (n + 1) f args = x ∨ B = some x := by
  unfold chunk14 at h
  rcases step_some h with ⟨rfl, h⟩ | h
  · obtain ⟨a, b, rfl, rfl⟩ := arg2_some h
    exact .inl (rc_Decoder_Place_eq he n a b)
  rcases step_some h with ⟨rfl, h⟩ | h
  · obtain ⟨a, b, c, d, rfl, rfl⟩ := arg4_some h
    exact .inl (rc_Decoder_Take_eq he n a b c d)
  rcases step_some h with ⟨rfl, h⟩ | h
  · obtain ⟨a, rfl, rfl⟩ := arg1_some h
    exact .inl (rc_narrowed_now_eq he n a)
  rcases step_some h with ⟨rfl, h⟩ | h
  · obtain ⟨a, b, rfl, rfl⟩ := arg2_some h
    exact .inl (rc_Coder_settle_eq he n a b)
  exact .inr h
noncomputable def table : Table := fun call n f args => (chunk0 call n f args (chunk1 call n f args (chunk2 call n f args (chunk3 call n f args (chunk4 call n f args (chunk5 call n f args (chunk6 call n f args (chunk7 call n f args (chunk8 call n f args (chunk9 call n f args (chunk10 call n f args (chunk11 call n f args (chunk12 call n f args (chunk13 call n f args (chunk14 call n f args none)))))))))))))))
theorem table_ok {ext : Ext} {n f : Nat} {args : List AV} {x : M AV} (he : ext f = none) (h : table (fcall Tryz.prog ext n) n f args = some x) : fcall Tryz.prog ext (n + 1) f args = x := by
  unfold table at h
  rcases chunk0_ok he h with h | h
  · exact h
  rcases chunk1_ok he h with h | h
  · exact h
  rcases chunk2_ok he h with h | h
  · exact h
  rcases chunk3_ok he h with h | h
  · exact h
  rcases chunk4_ok he h with h | h
  · exact h
  rcases chunk5_ok he h with h | h
  · exact h
  rcases chunk6_ok he h with h | h
  · exact h
  rcases chunk7_ok he h with h | h
  · exact h
  rcases chunk8_ok he h with h | h
  · exact h
  rcases chunk9_ok he h with h | h
  · exact h
  rcases chunk10_ok he h with h | h
  · exact h
  rcases chunk11_ok he h with h | h
  · exact h
  rcases chunk12_ok he h with h | h
  · exact h
  rcases chunk13_ok he h with h | h
  · exact h
  rcases chunk14_ok he h with h | h
  · exact h
  cases h
theorem fast_is (ext : Ext) (n : Nat) : fast Tryz.prog table ext n = fcall Tryz.prog ext n := fast_eq (fun n f args x he h => table_ok he h) n
end SplA
