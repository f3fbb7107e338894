/-
  What is proved here: facts about the program's types and functions.
  Conditions: none.
-/
import Derived.Test.YtpfdeoapnpcbaaaVDec
import Derived.KernelRfl
import Derived.Test.YtpfdeoapnpcbaaaProg
set_option linter.unusedVariables false
set_option linter.unusedSimpArgs false
set_option linter.unusedSectionVars false
namespace Go.Proofs.Ytpfdeoapnpcbaaa
open Go.Vs

noncomputable abbrev PG : Program := Try.prog
theorem mixed : PG.follows .mixedOrders = true := by kernel_rfl
abbrev F__impl_Instr_word : FuncId := 224
abbrev F__impl_Node_isNode : FuncId := 196
abbrev F__impl_Node_of : FuncId := 232
abbrev F__impl_form_imm : FuncId := 143
abbrev F_impl_CountUnpruned : FuncId := 15
abbrev F_impl_CountUnpruned_1 : FuncId := 81
abbrev F_impl_IsChoice : FuncId := 50
abbrev F_impl_IsExpr : FuncId := 127
abbrev F_impl_ProgramReaches : FuncId := 38
abbrev F_impl_apply : FuncId := 256
abbrev F_impl_areDifferent_int : FuncId := 141
abbrev F_impl_areDifferent_string : FuncId := 140
abbrev F_impl_areProgram : FuncId := 128
abbrev F_impl_begun : FuncId := 85
abbrev F_impl_begun_1 : FuncId := 171
abbrev F_impl_begun_2 : FuncId := 172
abbrev F_impl_binary : FuncId := 209
abbrev F_impl_bit : FuncId := 282
abbrev F_impl_columnOf : FuncId := 131
abbrev F_impl_columnsOf : FuncId := 199
abbrev F_impl_eval : FuncId := 201
abbrev F_impl_formOf : FuncId := 142
abbrev F_impl_isColumn : FuncId := 167
abbrev F_impl_isProgram : FuncId := 149
abbrev F_impl_isReason : FuncId := 83
abbrev F_impl_isTurned : FuncId := 168
abbrev F_impl_isWord : FuncId := 111
abbrev F_impl_lastOf : FuncId := 130
abbrev F_impl_operands : FuncId := 244
abbrev F_impl_steps : FuncId := 82
abbrev F_impl_table : FuncId := 170
abbrev F_impl_tableOf : FuncId := 132
abbrev F_impl_tableOf_1 : FuncId := 200
abbrev F_impl_upTo : FuncId := 166
abbrev F_impl_uses : FuncId := 198
abbrev F_impl_values : FuncId := 246
abbrev F_impl_within : FuncId := 80
abbrev F_impl_wordAt : FuncId := 169
abbrev F_impl_writes : FuncId := 84
abbrev F_laws_FnExactCountUnpruned : FuncId := 3
abbrev F_laws_FnExactProgramReaches : FuncId := 6
abbrev F_laws_eqChoice : FuncId := 16
abbrev F_laws_eqInstr : FuncId := 96
abbrev F_laws_eqInstrS : FuncId := 22
abbrev F_laws_eqIntS : FuncId := 60
abbrev F_laws_eqNode : FuncId := 95
abbrev F_laws_eqNodeS : FuncId := 21
abbrev F_laws_eqStringS : FuncId := 86
abbrev F_laws_szChoice : FuncId := 12
abbrev F_laws_szInstr : FuncId := 87
abbrev F_laws_szInstrS : FuncId := 17
abbrev F_laws_szIntS : FuncId := 73
abbrev F_laws_szNode : FuncId := 122
abbrev F_laws_szNodeS : FuncId := 35
abbrev F_laws_szStringS : FuncId := 72
abbrev F_laws_toChoice : FuncId := 14
abbrev F_laws_toInstr : FuncId := 91
abbrev F_laws_toInstrS : FuncId := 19
abbrev F_laws_toIntS : FuncId := 58
abbrev F_laws_toNode : FuncId := 126
abbrev F_laws_toNodeS : FuncId := 37
abbrev F_laws_toStringS : FuncId := 79
abbrev F_slices_Contains_S_impl_Instr_impl_Instr : FuncId := 214
abbrev F_slices_Contains_S_int_int : FuncId := 197
abbrev F_slices_Contains_S_string_string : FuncId := 208
abbrev F_slices_Equal_impl_column_uint8 : FuncId := 129
abbrev F_slices_Index_S_impl_Instr_impl_Instr : FuncId := 147
abbrev F_slices_Index_S_int_int : FuncId := 245
abbrev F_slices_Index_S_string_string : FuncId := 250
abbrev F_spec_CountUnpruned : FuncId := 13
abbrev F_spec_ProgramReaches : FuncId := 36
abbrev F_spec_cdImm : FuncId := 163
abbrev F_spec_cdRun : FuncId := 120
abbrev F_spec_cdShape : FuncId := 161
abbrev F_spec_cdStart : FuncId := 121
abbrev F_spec_cdStep : FuncId := 190
abbrev F_spec_cdValue : FuncId := 239
abbrev F_spec_exApply : FuncId := 258
abbrev F_spec_exAt : FuncId := 194
abbrev F_spec_exGood : FuncId := 123
abbrev F_spec_exNode : FuncId := 191
abbrev F_spec_exOne : FuncId := 241
abbrev F_spec_exOps : FuncId := 265
abbrev F_spec_exParts : FuncId := 228
abbrev F_spec_exTwo : FuncId := 242
abbrev F_spec_exUses : FuncId := 192
abbrev F_spec_exValues : FuncId := 243
abbrev F_spec_exWord : FuncId := 240
abbrev F_spec_l1All : FuncId := 119
abbrev F_spec_l1Has : FuncId := 164
abbrev F_spec_l1HasS : FuncId := 162
abbrev F_spec_l1In : FuncId := 75
abbrev F_spec_l1Own : FuncId := 189
abbrev F_spec_seDifference : FuncId := 195
abbrev F_spec_suAlike : FuncId := 165
abbrev F_spec_suCount : FuncId := 76
abbrev F_spec_suGood : FuncId := 74
abbrev F_spec_suImms : FuncId := 207
abbrev F_spec_suIs : FuncId := 124
abbrev F_spec_suLast : FuncId := 193
abbrev F_spec_suPlace : FuncId := 148
abbrev F_spec_suPruned : FuncId := 77
abbrev F_spec_suReaches : FuncId := 125
abbrev F_spec_suRegs : FuncId := 206
abbrev F_spec_suSteps : FuncId := 139
abbrev F_spec_suWith : FuncId := 78
theorem ag_S_impl_Node : aggT PG 35 = some false := by kernel_rfl
theorem ag_S_int : aggT PG 23 = some false := by kernel_rfl
theorem ag_S_string : aggT PG 22 = some false := by kernel_rfl
theorem ag_bool : aggT PG 4 = some false := by kernel_rfl
theorem ag_func_int_S_impl_column_int : aggT PG 99 = some false := by kernel_rfl
theorem ag_impl_Choice : aggT PG 29 = some true := by kernel_rfl
theorem ag_impl_Instr : aggT PG 75 = some true := by kernel_rfl
theorem ag_impl_Node : aggT PG 113 = some true := by kernel_rfl
theorem ag_impl_column : aggT PG 103 = some false := by kernel_rfl
theorem ag_impl_form : aggT PG 155 = some true := by kernel_rfl
theorem ag_int : aggT PG 3 = some false := by kernel_rfl
theorem ag_laws_Choice : aggT PG 25 = some true := by kernel_rfl
theorem ag_laws_Instr : aggT PG 108 = some true := by kernel_rfl
theorem ag_laws_Node : aggT PG 141 = some true := by kernel_rfl
theorem ag_string : aggT PG 9 = some false := by kernel_rfl
theorem ag_uint8 : aggT PG 5 = some false := by kernel_rfl
theorem b3_impl_Instr : bytesOf PG 75 ≤ 64 ∧ 0 < 5 ∧ (PV.cells (.agg [(.v (.string ByteArray.empty)), (.v (.int .i64 0)), (.v (.int .i64 0)), (.v (.int .i64 0)), (.v (.int .i64 0))])).length = 5 := by
  have e : bytesOf PG 75 = 48 := by kernel_rfl
  rw [e]; exact ⟨by decide, by decide, rfl⟩
theorem b3_impl_Node : bytesOf PG 113 ≤ 64 ∧ 0 < 4 ∧ (PV.cells (.agg [(.v (.string ByteArray.empty)), (.v (.int .i64 0)), (.v (.int .i64 0)), (.v (.int .i64 0))])).length = 4 := by
  have e : bytesOf PG 113 = 40 := by kernel_rfl
  rw [e]; exact ⟨by decide, by decide, rfl⟩
theorem b3_int : bytesOf PG 3 ≤ 64 ∧ 0 < 1 ∧ (PV.cells (.v (.int .i64 0))).length = 1 := by
  have e : bytesOf PG 3 = 8 := by kernel_rfl
  rw [e]; exact ⟨by decide, by decide, rfl⟩
theorem b3_string : bytesOf PG 9 ≤ 64 ∧ 0 < 1 ∧ (PV.cells (.v (.string ByteArray.empty))).length = 1 := by
  have e : bytesOf PG 9 = 16 := by kernel_rfl
  rw [e]; exact ⟨by decide, by decide, rfl⟩
theorem b3_uint8 : bytesOf PG 5 ≤ 64 ∧ 0 < 1 ∧ (PV.cells (.v (.int .u8 0))).length = 1 := by
  have e : bytesOf PG 5 = 1 := by kernel_rfl
  rw [e]; exact ⟨by decide, by decide, rfl⟩
theorem bo_bool : isBool PG 4 = true := by kernel_rfl
theorem bt_impl_Instr : bytesOf PG 75 ≤ 64 ∧ 0 < 5 := by
  have e : bytesOf PG 75 = 48 := by kernel_rfl
  rw [e]; decide
theorem bt_impl_column : bytesOf PG 103 ≤ 64 ∧ 0 < 1 := by
  have e : bytesOf PG 103 = 24 := by kernel_rfl
  rw [e]; decide
theorem bt_int : bytesOf PG 3 ≤ 64 ∧ 0 < 1 := by
  have e : bytesOf PG 3 = 8 := by kernel_rfl
  rw [e]; decide
theorem el_S_S_int : slElem PG 50 = some 23 := by kernel_rfl
theorem el_S_impl_Instr : slElem PG 38 = some 75 := by kernel_rfl
theorem el_S_impl_Node : slElem PG 35 = some 113 := by kernel_rfl
theorem el_S_impl_column : slElem PG 100 = some 103 := by kernel_rfl
theorem el_S_int : slElem PG 23 = some 3 := by kernel_rfl
theorem el_S_laws_Instr : slElem PG 33 = some 108 := by kernel_rfl
theorem el_S_laws_Node : slElem PG 59 = some 141 := by kernel_rfl
theorem el_S_string : slElem PG 22 = some 9 := by kernel_rfl
theorem el_impl_column : slElem PG 103 = some 5 := by kernel_rfl
theorem fa_impl_Choice_0 : faOf PG 29 0 = some 0 := by kernel_rfl
theorem fa_impl_Choice_1 : faOf PG 29 1 = some 1 := by kernel_rfl
theorem fa_impl_Instr_0 : faOf PG 75 0 = some 0 := by kernel_rfl
theorem fa_impl_Instr_1 : faOf PG 75 1 = some 1 := by kernel_rfl
theorem fa_impl_Instr_2 : faOf PG 75 2 = some 2 := by kernel_rfl
theorem fa_impl_Instr_3 : faOf PG 75 3 = some 3 := by kernel_rfl
theorem fa_impl_Instr_4 : faOf PG 75 4 = some 4 := by kernel_rfl
theorem fa_impl_Node_0 : faOf PG 113 0 = some 0 := by kernel_rfl
theorem fa_impl_Node_1 : faOf PG 113 1 = some 1 := by kernel_rfl
theorem fa_impl_Node_2 : faOf PG 113 2 = some 2 := by kernel_rfl
theorem fa_impl_Node_3 : faOf PG 113 3 = some 3 := by kernel_rfl
theorem fa_impl_form_0 : faOf PG 155 0 = some 0 := by kernel_rfl
theorem fa_impl_form_1 : faOf PG 155 1 = some 1 := by kernel_rfl
theorem fa_impl_form_2 : faOf PG 155 2 = some 2 := by kernel_rfl
theorem fa_impl_form_3 : faOf PG 155 3 = some 3 := by kernel_rfl
theorem fa_impl_form_4 : faOf PG 155 4 = some 4 := by kernel_rfl
theorem fa_impl_form_5 : faOf PG 155 5 = some 5 := by kernel_rfl
theorem fa_laws_Choice_0 : faOf PG 25 0 = some 0 := by kernel_rfl
theorem fa_laws_Choice_1 : faOf PG 25 1 = some 1 := by kernel_rfl
theorem fa_laws_Instr_0 : faOf PG 108 0 = some 0 := by kernel_rfl
theorem fa_laws_Instr_1 : faOf PG 108 1 = some 1 := by kernel_rfl
theorem fa_laws_Instr_2 : faOf PG 108 2 = some 2 := by kernel_rfl
theorem fa_laws_Instr_3 : faOf PG 108 3 = some 3 := by kernel_rfl
theorem fa_laws_Instr_4 : faOf PG 108 4 = some 4 := by kernel_rfl
theorem fa_laws_Node_0 : faOf PG 141 0 = some 0 := by kernel_rfl
theorem fa_laws_Node_1 : faOf PG 141 1 = some 1 := by kernel_rfl
theorem fa_laws_Node_2 : faOf PG 141 2 = some 2 := by kernel_rfl
theorem fa_laws_Node_3 : faOf PG 141 3 = some 3 := by kernel_rfl
theorem fn__impl_Instr_word : PG.funcs[224]? = some Try.f224 := by kernel_rfl
theorem fn__impl_Node_isNode : PG.funcs[196]? = some Try.f196 := by kernel_rfl
theorem fn__impl_Node_of : PG.funcs[232]? = some Try.f232 := by kernel_rfl
theorem fn__impl_form_imm : PG.funcs[143]? = some Try.f143 := by kernel_rfl
theorem fn_impl_CountUnpruned : PG.funcs[15]? = some Try.f15 := by kernel_rfl
theorem fn_impl_CountUnpruned_1 : PG.funcs[81]? = some Try.f81 := by kernel_rfl
theorem fn_impl_IsChoice : PG.funcs[50]? = some Try.f50 := by kernel_rfl
theorem fn_impl_IsExpr : PG.funcs[127]? = some Try.f127 := by kernel_rfl
theorem fn_impl_ProgramReaches : PG.funcs[38]? = some Try.f38 := by kernel_rfl
theorem fn_impl_apply : PG.funcs[256]? = some Try.f256 := by kernel_rfl
theorem fn_impl_areDifferent_int : PG.funcs[141]? = some Try.f141 := by kernel_rfl
theorem fn_impl_areDifferent_string : PG.funcs[140]? = some Try.f140 := by kernel_rfl
theorem fn_impl_areProgram : PG.funcs[128]? = some Try.f128 := by kernel_rfl
theorem fn_impl_begun : PG.funcs[85]? = some Try.f85 := by kernel_rfl
theorem fn_impl_begun_1 : PG.funcs[171]? = some Try.f171 := by kernel_rfl
theorem fn_impl_begun_2 : PG.funcs[172]? = some Try.f172 := by kernel_rfl
theorem fn_impl_binary : PG.funcs[209]? = some Try.f209 := by kernel_rfl
theorem fn_impl_bit : PG.funcs[282]? = some Try.f282 := by kernel_rfl
theorem fn_impl_columnOf : PG.funcs[131]? = some Try.f131 := by kernel_rfl
theorem fn_impl_columnsOf : PG.funcs[199]? = some Try.f199 := by kernel_rfl
theorem fn_impl_eval : PG.funcs[201]? = some Try.f201 := by kernel_rfl
theorem fn_impl_formOf : PG.funcs[142]? = some Try.f142 := by kernel_rfl
theorem fn_impl_isColumn : PG.funcs[167]? = some Try.f167 := by kernel_rfl
theorem fn_impl_isProgram : PG.funcs[149]? = some Try.f149 := by kernel_rfl
theorem fn_impl_isReason : PG.funcs[83]? = some Try.f83 := by kernel_rfl
theorem fn_impl_isTurned : PG.funcs[168]? = some Try.f168 := by kernel_rfl
theorem fn_impl_isWord : PG.funcs[111]? = some Try.f111 := by kernel_rfl
theorem fn_impl_lastOf : PG.funcs[130]? = some Try.f130 := by kernel_rfl
theorem fn_impl_operands : PG.funcs[244]? = some Try.f244 := by kernel_rfl
theorem fn_impl_steps : PG.funcs[82]? = some Try.f82 := by kernel_rfl
theorem fn_impl_table : PG.funcs[170]? = some Try.f170 := by kernel_rfl
theorem fn_impl_tableOf : PG.funcs[132]? = some Try.f132 := by kernel_rfl
theorem fn_impl_tableOf_1 : PG.funcs[200]? = some Try.f200 := by kernel_rfl
theorem fn_impl_upTo : PG.funcs[166]? = some Try.f166 := by kernel_rfl
theorem fn_impl_uses : PG.funcs[198]? = some Try.f198 := by kernel_rfl
theorem fn_impl_values : PG.funcs[246]? = some Try.f246 := by kernel_rfl
theorem fn_impl_within : PG.funcs[80]? = some Try.f80 := by kernel_rfl
theorem fn_impl_wordAt : PG.funcs[169]? = some Try.f169 := by kernel_rfl
theorem fn_impl_writes : PG.funcs[84]? = some Try.f84 := by kernel_rfl
theorem fn_laws_FnExactCountUnpruned : PG.funcs[3]? = some Try.f3 := by kernel_rfl
theorem fn_laws_FnExactProgramReaches : PG.funcs[6]? = some Try.f6 := by kernel_rfl
theorem fn_laws_eqChoice : PG.funcs[16]? = some Try.f16 := by kernel_rfl
theorem fn_laws_eqInstr : PG.funcs[96]? = some Try.f96 := by kernel_rfl
theorem fn_laws_eqInstrS : PG.funcs[22]? = some Try.f22 := by kernel_rfl
theorem fn_laws_eqIntS : PG.funcs[60]? = some Try.f60 := by kernel_rfl
theorem fn_laws_eqNode : PG.funcs[95]? = some Try.f95 := by kernel_rfl
theorem fn_laws_eqNodeS : PG.funcs[21]? = some Try.f21 := by kernel_rfl
theorem fn_laws_eqStringS : PG.funcs[86]? = some Try.f86 := by kernel_rfl
theorem fn_laws_szChoice : PG.funcs[12]? = some Try.f12 := by kernel_rfl
theorem fn_laws_szInstr : PG.funcs[87]? = some Try.f87 := by kernel_rfl
theorem fn_laws_szInstrS : PG.funcs[17]? = some Try.f17 := by kernel_rfl
theorem fn_laws_szIntS : PG.funcs[73]? = some Try.f73 := by kernel_rfl
theorem fn_laws_szNode : PG.funcs[122]? = some Try.f122 := by kernel_rfl
theorem fn_laws_szNodeS : PG.funcs[35]? = some Try.f35 := by kernel_rfl
theorem fn_laws_szStringS : PG.funcs[72]? = some Try.f72 := by kernel_rfl
theorem fn_laws_toChoice : PG.funcs[14]? = some Try.f14 := by kernel_rfl
theorem fn_laws_toInstr : PG.funcs[91]? = some Try.f91 := by kernel_rfl
theorem fn_laws_toInstrS : PG.funcs[19]? = some Try.f19 := by kernel_rfl
theorem fn_laws_toIntS : PG.funcs[58]? = some Try.f58 := by kernel_rfl
theorem fn_laws_toNode : PG.funcs[126]? = some Try.f126 := by kernel_rfl
theorem fn_laws_toNodeS : PG.funcs[37]? = some Try.f37 := by kernel_rfl
theorem fn_laws_toStringS : PG.funcs[79]? = some Try.f79 := by kernel_rfl
theorem fn_slices_Contains_S_impl_Instr_impl_Instr : PG.funcs[214]? = some Try.f214 := by kernel_rfl
theorem fn_slices_Contains_S_int_int : PG.funcs[197]? = some Try.f197 := by kernel_rfl
theorem fn_slices_Contains_S_string_string : PG.funcs[208]? = some Try.f208 := by kernel_rfl
theorem fn_slices_Equal_impl_column_uint8 : PG.funcs[129]? = some Try.f129 := by kernel_rfl
theorem fn_slices_Index_S_impl_Instr_impl_Instr : PG.funcs[147]? = some Try.f147 := by kernel_rfl
theorem fn_slices_Index_S_int_int : PG.funcs[245]? = some Try.f245 := by kernel_rfl
theorem fn_slices_Index_S_string_string : PG.funcs[250]? = some Try.f250 := by kernel_rfl
theorem fn_spec_CountUnpruned : PG.funcs[13]? = some Try.f13 := by kernel_rfl
theorem fn_spec_ProgramReaches : PG.funcs[36]? = some Try.f36 := by kernel_rfl
theorem fn_spec_cdImm : PG.funcs[163]? = some Try.f163 := by kernel_rfl
theorem fn_spec_cdRun : PG.funcs[120]? = some Try.f120 := by kernel_rfl
theorem fn_spec_cdShape : PG.funcs[161]? = some Try.f161 := by kernel_rfl
theorem fn_spec_cdStart : PG.funcs[121]? = some Try.f121 := by kernel_rfl
theorem fn_spec_cdStep : PG.funcs[190]? = some Try.f190 := by kernel_rfl
theorem fn_spec_cdValue : PG.funcs[239]? = some Try.f239 := by kernel_rfl
theorem fn_spec_exApply : PG.funcs[258]? = some Try.f258 := by kernel_rfl
theorem fn_spec_exAt : PG.funcs[194]? = some Try.f194 := by kernel_rfl
theorem fn_spec_exGood : PG.funcs[123]? = some Try.f123 := by kernel_rfl
theorem fn_spec_exNode : PG.funcs[191]? = some Try.f191 := by kernel_rfl
theorem fn_spec_exOne : PG.funcs[241]? = some Try.f241 := by kernel_rfl
theorem fn_spec_exOps : PG.funcs[265]? = some Try.f265 := by kernel_rfl
theorem fn_spec_exParts : PG.funcs[228]? = some Try.f228 := by kernel_rfl
theorem fn_spec_exTwo : PG.funcs[242]? = some Try.f242 := by kernel_rfl
theorem fn_spec_exUses : PG.funcs[192]? = some Try.f192 := by kernel_rfl
theorem fn_spec_exValues : PG.funcs[243]? = some Try.f243 := by kernel_rfl
theorem fn_spec_exWord : PG.funcs[240]? = some Try.f240 := by kernel_rfl
theorem fn_spec_l1All : PG.funcs[119]? = some Try.f119 := by kernel_rfl
theorem fn_spec_l1Has : PG.funcs[164]? = some Try.f164 := by kernel_rfl
theorem fn_spec_l1HasS : PG.funcs[162]? = some Try.f162 := by kernel_rfl
theorem fn_spec_l1In : PG.funcs[75]? = some Try.f75 := by kernel_rfl
theorem fn_spec_l1Own : PG.funcs[189]? = some Try.f189 := by kernel_rfl
theorem fn_spec_seDifference : PG.funcs[195]? = some Try.f195 := by kernel_rfl
theorem fn_spec_suAlike : PG.funcs[165]? = some Try.f165 := by kernel_rfl
theorem fn_spec_suCount : PG.funcs[76]? = some Try.f76 := by kernel_rfl
theorem fn_spec_suGood : PG.funcs[74]? = some Try.f74 := by kernel_rfl
theorem fn_spec_suImms : PG.funcs[207]? = some Try.f207 := by kernel_rfl
theorem fn_spec_suIs : PG.funcs[124]? = some Try.f124 := by kernel_rfl
theorem fn_spec_suLast : PG.funcs[193]? = some Try.f193 := by kernel_rfl
theorem fn_spec_suPlace : PG.funcs[148]? = some Try.f148 := by kernel_rfl
theorem fn_spec_suPruned : PG.funcs[77]? = some Try.f77 := by kernel_rfl
theorem fn_spec_suReaches : PG.funcs[125]? = some Try.f125 := by kernel_rfl
theorem fn_spec_suRegs : PG.funcs[206]? = some Try.f206 := by kernel_rfl
theorem fn_spec_suSteps : PG.funcs[139]? = some Try.f139 := by kernel_rfl
theorem fn_spec_suWith : PG.funcs[78]? = some Try.f78 := by kernel_rfl
theorem it_int : intT PG 3 = some .i64 := by kernel_rfl
theorem it_uint8 : intT PG 5 = some .u8 := by kernel_rfl
theorem ks_impl_Instr : kindsOf PG 75 = [1, 0, 0, 0, 0] := by kernel_rfl
theorem os_S_impl_Instr : okSlT PG 38 = some 5 := by kernel_rfl
theorem os_S_impl_column : okSlT PG 100 = some 1 := by kernel_rfl
theorem os_S_int : okSlT PG 23 = some 1 := by kernel_rfl
theorem os_S_string : okSlT PG 22 = some 1 := by kernel_rfl
theorem pl_impl_Instr : placesOf PG 75 = some [(0, 1), (1, 1), (2, 1), (3, 1), (4, 1)] := by kernel_rfl
theorem pl_impl_form : placesOf PG 155 = some [(0, 1), (1, 1), (2, 1), (3, 1), (4, 1), (5, 1)] := by kernel_rfl
theorem ps_impl_Instr : plainStruct PG 75 = true := by kernel_rfl
theorem sl_S_S_int : (slElem PG 50).isSome = true := by kernel_rfl
theorem sl_S_impl_Instr : (slElem PG 38).isSome = true := by kernel_rfl
theorem sl_S_impl_Node : (slElem PG 35).isSome = true := by kernel_rfl
theorem sl_S_impl_column : (slElem PG 100).isSome = true := by kernel_rfl
theorem sl_S_int : (slElem PG 23).isSome = true := by kernel_rfl
theorem sl_S_laws_Instr : (slElem PG 33).isSome = true := by kernel_rfl
theorem sl_S_laws_Node : (slElem PG 59).isSome = true := by kernel_rfl
theorem sl_S_string : (slElem PG 22).isSome = true := by kernel_rfl
theorem sl_impl_column : (slElem PG 103).isSome = true := by kernel_rfl
theorem st_string : isStr PG 9 = true := by kernel_rfl
theorem sz_S_impl_Node : szOf PG 35 = some 1 := by kernel_rfl
theorem sz_S_int : szOf PG 23 = some 1 := by kernel_rfl
theorem sz_S_string : szOf PG 22 = some 1 := by kernel_rfl
theorem sz_bool : szOf PG 4 = some 1 := by kernel_rfl
theorem sz_func_int_S_impl_column_int : szOf PG 99 = some 1 := by kernel_rfl
theorem sz_impl_Choice : szOf PG 29 = some 2 := by kernel_rfl
theorem sz_impl_Instr : szOf PG 75 = some 5 := by kernel_rfl
theorem sz_impl_Node : szOf PG 113 = some 4 := by kernel_rfl
theorem sz_impl_column : szOf PG 103 = some 1 := by kernel_rfl
theorem sz_impl_form : szOf PG 155 = some 6 := by kernel_rfl
theorem sz_int : szOf PG 3 = some 1 := by kernel_rfl
theorem sz_laws_Choice : szOf PG 25 = some 2 := by kernel_rfl
theorem sz_laws_Instr : szOf PG 108 = some 5 := by kernel_rfl
theorem sz_laws_Node : szOf PG 141 = some 4 := by kernel_rfl
theorem sz_string : szOf PG 9 = some 1 := by kernel_rfl
theorem sz_uint8 : szOf PG 5 = some 1 := by kernel_rfl
theorem un_int : (PG.underlying 3).isSome = true := by kernel_rfl
theorem un_uint8 : (PG.underlying 5).isSome = true := by kernel_rfl
theorem zo_S_int : zeroOf PG 23 = some (.sl true []) := by kernel_rfl
theorem zo_func_int_S_impl_column_int : zeroOf PG 99 = some (.v .nilFunc) := by kernel_rfl
theorem zo_impl_Choice : zeroOf PG 29 = some (.agg [(.sl true []), (.sl true [])]) := by kernel_rfl
theorem zo_impl_Instr : zeroOf PG 75 = some (.agg [(.v (.string ByteArray.empty)), (.v (.int .i64 0)), (.v (.int .i64 0)), (.v (.int .i64 0)), (.v (.int .i64 0))]) := by kernel_rfl
theorem zo_impl_Node : zeroOf PG 113 = some (.agg [(.v (.string ByteArray.empty)), (.v (.int .i64 0)), (.v (.int .i64 0)), (.v (.int .i64 0))]) := by kernel_rfl
theorem zo_impl_column : zeroOf PG 103 = some (.sl true []) := by kernel_rfl
theorem zo_impl_form : zeroOf PG 155 = some (.agg [(.v (.bool false)), (.v (.bool false)), (.v (.int .i64 0)), (.v (.int .i64 0)), (.v (.int .i64 0)), (.v (.string ByteArray.empty))]) := by kernel_rfl
theorem zo_int : zeroOf PG 3 = some (.v (.int .i64 0)) := by kernel_rfl
theorem zo_string : zeroOf PG 9 = some (.v (.string ByteArray.empty)) := by kernel_rfl
theorem zo_uint8 : zeroOf PG 5 = some (.v (.int .u8 0)) := by kernel_rfl
theorem zs_impl_Instr : (zeroOf PG 75).isSome = true := by kernel_rfl
theorem zs_impl_column : (zeroOf PG 103).isSome = true := by kernel_rfl
theorem zs_int : (zeroOf PG 3).isSome = true := by kernel_rfl

end Go.Proofs.Ytpfdeoapnpcbaaa
